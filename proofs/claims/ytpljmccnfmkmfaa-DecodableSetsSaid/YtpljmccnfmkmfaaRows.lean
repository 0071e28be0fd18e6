/-
  No cell of these rows narrows 'for every input' (looked for: loops, veiled, ifaces, maps, wideKeys, modest, calm, conditions, laid).
  DERIVED. THE GIVEN ROWS OF THIS SEAT. 3 by the template 'for every input the law returns true; each argument reads behind the call as it read before'; 0 by the template 'total and deterministic' (their statements: YtpljmccnfmkmfaaTotals.lean).
  GIVEN WITH THE SEED: the statements are not yours to turn. If you find one false, say at which input.
  Laid BY PROGRAM, IN A SANDBOX (cutbox-rows.mjs): the forced cells as the released guide's own fill.sh prints them over the translation 992cac6c7b6d9d40… (all of the seat's roots in one cut). By AI agents, Wed Nov 11 2026. No macro, syntax, notation, axiom, sorry.
-/
import Derived.Test.YtpljmccnfmkmfaaChecked
import GoSem.Claim
import GoSem.ClaimJoined
import GoSem.ClaimMapViews
import Derived.JoinedTies
import Derived.KernelRfl
namespace Go.Proofs.Ytpljmccnfmkmfaa
/- THE CELL 'sum', in the pinned program and in every row, IS THE sha256 OF THE DUMP (.gsa) THAT YtpljmccnfmkmfaaProg.lean LOADS. Nothing in Lean hashes anything: it is a label: what it is worth is what the hold of that sum in a sandbox is worth. -/
noncomputable def Try.pinned : Pinned := { name := "ytpljmccnfmkmfaa", sum := "992cac6c7b6d9d40dd7b6c221dcc6d5699860e7cde23da0993c6ab66b662e581", checked := Try.checked }
namespace Rows
def none {H : Type} : Left H := { results := [], args := [] }

/-- 'groovelaw34.DecodableSets': WHATEVER THE INPUT: true; the input reads as it did. -/
def decodableSetsSpec : ChangeSpec := { name := "decodableSets", fn := fun _ => fun
  | [d1, d2] => { results := [.lit (.bool true)], args := [d1, d2] }
  | _ => none }
def decodableSetsRow : OpenClaim := { program := "ytpljmccnfmkmfaa", sum := "992cac6c7b6d9d40dd7b6c221dcc6d5699860e7cde23da0993c6ab66b662e581", func := "groove/groovelaw34.DecodableSets", spec := "decodableSets", inPlace := ["internal/bytealg.IndexByteString", "internal/bytealg.abigen_runtime_cmpstring"], unfollowed := true, recurses := true, apart := false }
def DecodableSetsSaid : Prop := decodableSetsRow.holds Try.pinned (OpenSpec.ofChange decodableSetsSpec)

/-- ITS FALSE NEIGHBOUR: 'it returns false'. Refute it at one input. -/
def decodableSetsWrong : ChangeSpec := { name := "decodableSets", fn := fun _ => fun
  | [d1, d2] => { results := [.lit (.bool false)], args := [d1, d2] }
  | _ => none }
def DecodableSetsWrongFalsely : Prop := decodableSetsRow.holds Try.pinned (OpenSpec.ofChange decodableSetsWrong)

/-- 'groovelaw34.DecodableVerdicts': WHATEVER THE INPUT: true; the input reads as it did. -/
def decodableVerdictsSpec : ChangeSpec := { name := "decodableVerdicts", fn := fun _ => fun
  | [d] => { results := [.lit (.bool true)], args := [d] }
  | _ => none }
def decodableVerdictsRow : OpenClaim := { program := "ytpljmccnfmkmfaa", sum := "992cac6c7b6d9d40dd7b6c221dcc6d5699860e7cde23da0993c6ab66b662e581", func := "groove/groovelaw34.DecodableVerdicts", spec := "decodableVerdicts", inPlace := ["internal/bytealg.IndexByteString", "internal/bytealg.abigen_runtime_cmpstring"], unfollowed := true, recurses := true, apart := false }
def DecodableVerdictsSaid : Prop := decodableVerdictsRow.holds Try.pinned (OpenSpec.ofChange decodableVerdictsSpec)

/-- ITS FALSE NEIGHBOUR: 'it returns false'. Refute it at one input. -/
def decodableVerdictsWrong : ChangeSpec := { name := "decodableVerdicts", fn := fun _ => fun
  | [d] => { results := [.lit (.bool false)], args := [d] }
  | _ => none }
def DecodableVerdictsWrongFalsely : Prop := decodableVerdictsRow.holds Try.pinned (OpenSpec.ofChange decodableVerdictsWrong)

/-- 'groovelaw34.DecodableLeast': WHATEVER THE INPUT: true; the input reads as it did. -/
def decodableLeastSpec : ChangeSpec := { name := "decodableLeast", fn := fun _ => fun
  | [d] => { results := [.lit (.bool true)], args := [d] }
  | _ => none }
def decodableLeastRow : OpenClaim := { program := "ytpljmccnfmkmfaa", sum := "992cac6c7b6d9d40dd7b6c221dcc6d5699860e7cde23da0993c6ab66b662e581", func := "groove/groovelaw34.DecodableLeast", spec := "decodableLeast", inPlace := ["internal/bytealg.IndexByteString", "internal/bytealg.abigen_runtime_cmpstring", "internal/abi.NoEscape"], unfollowed := true, recurses := true, apart := false }
def DecodableLeastSaid : Prop := decodableLeastRow.holds Try.pinned (OpenSpec.ofChange decodableLeastSpec)

/-- ITS FALSE NEIGHBOUR: 'it returns false'. Refute it at one input. -/
def decodableLeastWrong : ChangeSpec := { name := "decodableLeast", fn := fun _ => fun
  | [d] => { results := [.lit (.bool false)], args := [d] }
  | _ => none }
def DecodableLeastWrongFalsely : Prop := decodableLeastRow.holds Try.pinned (OpenSpec.ofChange decodableLeastWrong)

/- THE SECOND FORM. 'bulk': how many values and letters a reading holds, each counted each time it is reached (what is shared counts as often as it is met; a slice's spare places count too). A statement '..UptoSaid' is the law's where the arguments, and the package variables that the reading takes, are together of bulk at most 1048576: NARROWER than '..Said'. Prove '..Said' where nothing that the law and all that it calls make is longer than what came in: it says more and counts as full. Else prove '..UptoSaid'. A law counts once. -/
mutual
def uptoBulk {H : Type} : DataW H → Nat
  | .lit (.string bytes) => bytes.length + 1
  | .lit _ => 1
  | .nil => 1
  | .ptr d => uptoBulk d + 1
  | .slice elems spare => uptoBulkAll elems + uptoBulkAll spare + 1
  | .agg parts => uptoBulkAll parts + 1
  | .iface _ d => uptoBulk d + 1
  | .map entries => uptoBulkEntries entries + 1
  | .held _ => 1
def uptoBulkAll {H : Type} : List (DataW H) → Nat
  | [] => 0
  | d :: r => uptoBulk d + uptoBulkAll r
def uptoBulkEntries {H : Type} : List (Lit × DataW H) → Nat
  | [] => 0
  | x :: r => uptoBulkEntry x + uptoBulkEntries r
def uptoBulkEntry {H : Type} : Lit × DataW H → Nat
  | (.string bytes, d) => bytes.length + uptoBulk d + 1
  | (_, d) => uptoBulk d + 1
 end
def uptoSmall : (H : Type) → List (DataW H) → Bool := fun _ ds => decide (uptoBulkAll ds ≤ 1048576)
def OpenSpec.upto (s : _root_.Go.ChangeSpec) : _root_.Go.OpenSpec := { _root_.Go.OpenSpec.ofChange s with cond := some uptoSmall }

/-- 'groovelaw34.DecodableSets', WHERE WHAT IT READS IS OF BULK AT MOST 1048576: true; the input reads as it did. -/
def decodableSetsUptoRow : OpenClaim := { program := "ytpljmccnfmkmfaa", sum := "992cac6c7b6d9d40dd7b6c221dcc6d5699860e7cde23da0993c6ab66b662e581", func := "groove/groovelaw34.DecodableSets", spec := "decodableSets", inPlace := ["internal/bytealg.IndexByteString", "internal/bytealg.abigen_runtime_cmpstring"], unfollowed := true, recurses := true, apart := false, narrowed := true }
def DecodableSetsUptoSaid : Prop := decodableSetsUptoRow.holds Try.pinned (OpenSpec.upto decodableSetsSpec)

/-- 'groovelaw34.DecodableVerdicts', WHERE WHAT IT READS IS OF BULK AT MOST 1048576: true; the input reads as it did. -/
def decodableVerdictsUptoRow : OpenClaim := { program := "ytpljmccnfmkmfaa", sum := "992cac6c7b6d9d40dd7b6c221dcc6d5699860e7cde23da0993c6ab66b662e581", func := "groove/groovelaw34.DecodableVerdicts", spec := "decodableVerdicts", inPlace := ["internal/bytealg.IndexByteString", "internal/bytealg.abigen_runtime_cmpstring"], unfollowed := true, recurses := true, apart := false, narrowed := true }
def DecodableVerdictsUptoSaid : Prop := decodableVerdictsUptoRow.holds Try.pinned (OpenSpec.upto decodableVerdictsSpec)

/-- 'groovelaw34.DecodableLeast', WHERE WHAT IT READS IS OF BULK AT MOST 1048576: true; the input reads as it did. -/
def decodableLeastUptoRow : OpenClaim := { program := "ytpljmccnfmkmfaa", sum := "992cac6c7b6d9d40dd7b6c221dcc6d5699860e7cde23da0993c6ab66b662e581", func := "groove/groovelaw34.DecodableLeast", spec := "decodableLeast", inPlace := ["internal/bytealg.IndexByteString", "internal/bytealg.abigen_runtime_cmpstring", "internal/abi.NoEscape"], unfollowed := true, recurses := true, apart := false, narrowed := true }
def DecodableLeastUptoSaid : Prop := decodableLeastUptoRow.holds Try.pinned (OpenSpec.upto decodableLeastSpec)

end Rows
end Go.Proofs.Ytpljmccnfmkmfaa
