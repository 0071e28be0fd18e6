/-
  No cell of these rows narrows 'for every input' (looked for: loops, veiled, ifaces, maps, wideKeys, modest, calm, conditions, laid).
  DERIVED. THE GIVEN ROWS OF THIS SEAT. 3 by the template 'for every input the law returns true; each argument reads behind the call as it read before'; 0 by the template 'total and deterministic' (their statements: YtaphjgjhpmmkmaaGreatTotals.lean).
  GIVEN WITH THE SEED: the statements are not yours to turn. If you find one false, say at which input.
  Laid BY PROGRAM, IN A SANDBOX (cutbox-rows.mjs): the forced cells as the released guide's own fill.sh prints them over the translation 49b4dae8382dbee2… (all of the seat's roots in one cut). By AI agents, Wed Nov 11 2026. No macro, syntax, notation, axiom, sorry.
-/
import Derived.Test.YtaphjgjhpmmkmaaGreatChecked
import GoSem.Claim
import GoSem.ClaimJoined
import GoSem.ClaimMapViews
import Derived.JoinedTies
import Derived.KernelRfl
namespace Go.Proofs.YtaphjgjhpmmkmaaGreat
/- THE CELL 'sum', in the pinned program and in every row, IS THE sha256 OF THE DUMP (.gsa) THAT YtaphjgjhpmmkmaaGreatProg.lean LOADS. Nothing in Lean hashes anything: it is a label: what it is worth is what the hold of that sum in a sandbox is worth. -/
noncomputable def Tryz.pinned : Pinned := { name := "ytaphjgjhpmmkmaagreat", sum := "49b4dae8382dbee27605598e7171ba79b3f7c942ddb935d5113c2bf433869f8a", checked := Tryz.checked }
namespace Rows
def none {H : Type} : Left H := { results := [], args := [] }

/-- 'groovetop.TopMissing': WHATEVER THE INPUT: true; the input reads as it did. -/
def topMissingSpec : ChangeSpec := { name := "topMissing", fn := fun _ => fun
  | [d1, d2] => { results := [.lit (.bool true)], args := [d1, d2] }
  | _ => none }
def topMissingRow : OpenClaim := { program := "ytaphjgjhpmmkmaagreat", sum := "49b4dae8382dbee27605598e7171ba79b3f7c942ddb935d5113c2bf433869f8a", func := "groove/groovetop.TopMissing", spec := "topMissing", inPlace := ["internal/bytealg.IndexByteString", "internal/bytealg.abigen_runtime_cmpstring"], unfollowed := true, recurses := true, apart := false }
def TopMissingSaid : Prop := topMissingRow.holds Tryz.pinned (OpenSpec.ofChange topMissingSpec)

/-- ITS FALSE NEIGHBOUR: 'it returns false'. Refute it at one input. -/
def topMissingWrong : ChangeSpec := { name := "topMissing", fn := fun _ => fun
  | [d1, d2] => { results := [.lit (.bool false)], args := [d1, d2] }
  | _ => none }
def TopMissingWrongFalsely : Prop := topMissingRow.holds Tryz.pinned (OpenSpec.ofChange topMissingWrong)

/-- 'groovetop.TopCompleted': WHATEVER THE INPUT: true; the input reads as it did. -/
def topCompletedSpec : ChangeSpec := { name := "topCompleted", fn := fun _ => fun
  | [d1, d2] => { results := [.lit (.bool true)], args := [d1, d2] }
  | _ => none }
def topCompletedRow : OpenClaim := { program := "ytaphjgjhpmmkmaagreat", sum := "49b4dae8382dbee27605598e7171ba79b3f7c942ddb935d5113c2bf433869f8a", func := "groove/groovetop.TopCompleted", spec := "topCompleted", inPlace := ["internal/bytealg.IndexByteString", "internal/bytealg.abigen_runtime_cmpstring", "internal/abi.NoEscape"], unfollowed := true, recurses := true, apart := false }
def TopCompletedSaid : Prop := topCompletedRow.holds Tryz.pinned (OpenSpec.ofChange topCompletedSpec)

/-- ITS FALSE NEIGHBOUR: 'it returns false'. Refute it at one input. -/
def topCompletedWrong : ChangeSpec := { name := "topCompleted", fn := fun _ => fun
  | [d1, d2] => { results := [.lit (.bool false)], args := [d1, d2] }
  | _ => none }
def TopCompletedWrongFalsely : Prop := topCompletedRow.holds Tryz.pinned (OpenSpec.ofChange topCompletedWrong)

/-- 'groovetop.TopLengths': WHATEVER THE INPUT: true; the input reads as it did. -/
def topLengthsSpec : ChangeSpec := { name := "topLengths", fn := fun _ => fun
  | [d1, d2] => { results := [.lit (.bool true)], args := [d1, d2] }
  | _ => none }
def topLengthsRow : OpenClaim := { program := "ytaphjgjhpmmkmaagreat", sum := "49b4dae8382dbee27605598e7171ba79b3f7c942ddb935d5113c2bf433869f8a", func := "groove/groovetop.TopLengths", spec := "topLengths", inPlace := ["internal/bytealg.IndexByteString", "internal/bytealg.abigen_runtime_cmpstring"], unfollowed := true, recurses := true, apart := false }
def TopLengthsSaid : Prop := topLengthsRow.holds Tryz.pinned (OpenSpec.ofChange topLengthsSpec)

/-- ITS FALSE NEIGHBOUR: 'it returns false'. Refute it at one input. -/
def topLengthsWrong : ChangeSpec := { name := "topLengths", fn := fun _ => fun
  | [d1, d2] => { results := [.lit (.bool false)], args := [d1, d2] }
  | _ => none }
def TopLengthsWrongFalsely : Prop := topLengthsRow.holds Tryz.pinned (OpenSpec.ofChange topLengthsWrong)

/- THE SECOND FORM. 'bulk': how many values and letters a reading holds, each counted each time it is reached (what is shared counts as often as it is met; a slice's spare places count too). A statement '..UptoSaid' is the law's where the arguments, and the package variables that the reading takes, are together of bulk at most 1048576: NARROWER than '..Said'. Prove '..Said' where nothing that the law and all that it calls make is longer than what came in: it says more and counts as full. Else prove '..UptoSaid'. A law counts once. -/
mutual
def uptoBulk {H : Type} : DataW H → Nat
  | .lit (.string bytes) => bytes.length + 1
  | .lit _ => 1
  | .nil => 1
  | .ptr d => uptoBulk d + 1
  | .slice elems spare => uptoBulkAll elems + uptoBulkAll spare + 1
  | .agg parts => uptoBulkAll parts + 1
  | .iface _ d => uptoBulk d + 1
  | .map entries => uptoBulkEntries entries + 1
  | .held _ => 1
def uptoBulkAll {H : Type} : List (DataW H) → Nat
  | [] => 0
  | d :: r => uptoBulk d + uptoBulkAll r
def uptoBulkEntries {H : Type} : List (Lit × DataW H) → Nat
  | [] => 0
  | x :: r => uptoBulkEntry x + uptoBulkEntries r
def uptoBulkEntry {H : Type} : Lit × DataW H → Nat
  | (.string bytes, d) => bytes.length + uptoBulk d + 1
  | (_, d) => uptoBulk d + 1
 end
def uptoSmall : (H : Type) → List (DataW H) → Bool := fun _ ds => decide (uptoBulkAll ds ≤ 1048576)
def OpenSpec.upto (s : _root_.Go.ChangeSpec) : _root_.Go.OpenSpec := { _root_.Go.OpenSpec.ofChange s with cond := some uptoSmall }

/-- 'groovetop.TopMissing', WHERE WHAT IT READS IS OF BULK AT MOST 1048576: true; the input reads as it did. -/
def topMissingUptoRow : OpenClaim := { program := "ytaphjgjhpmmkmaagreat", sum := "49b4dae8382dbee27605598e7171ba79b3f7c942ddb935d5113c2bf433869f8a", func := "groove/groovetop.TopMissing", spec := "topMissing", inPlace := ["internal/bytealg.IndexByteString", "internal/bytealg.abigen_runtime_cmpstring"], unfollowed := true, recurses := true, apart := false, narrowed := true }
def TopMissingUptoSaid : Prop := topMissingUptoRow.holds Tryz.pinned (OpenSpec.upto topMissingSpec)

/-- 'groovetop.TopCompleted', WHERE WHAT IT READS IS OF BULK AT MOST 1048576: true; the input reads as it did. -/
def topCompletedUptoRow : OpenClaim := { program := "ytaphjgjhpmmkmaagreat", sum := "49b4dae8382dbee27605598e7171ba79b3f7c942ddb935d5113c2bf433869f8a", func := "groove/groovetop.TopCompleted", spec := "topCompleted", inPlace := ["internal/bytealg.IndexByteString", "internal/bytealg.abigen_runtime_cmpstring", "internal/abi.NoEscape"], unfollowed := true, recurses := true, apart := false, narrowed := true }
def TopCompletedUptoSaid : Prop := topCompletedUptoRow.holds Tryz.pinned (OpenSpec.upto topCompletedSpec)

/-- 'groovetop.TopLengths', WHERE WHAT IT READS IS OF BULK AT MOST 1048576: true; the input reads as it did. -/
def topLengthsUptoRow : OpenClaim := { program := "ytaphjgjhpmmkmaagreat", sum := "49b4dae8382dbee27605598e7171ba79b3f7c942ddb935d5113c2bf433869f8a", func := "groove/groovetop.TopLengths", spec := "topLengths", inPlace := ["internal/bytealg.IndexByteString", "internal/bytealg.abigen_runtime_cmpstring"], unfollowed := true, recurses := true, apart := false, narrowed := true }
def TopLengthsUptoSaid : Prop := topLengthsUptoRow.holds Tryz.pinned (OpenSpec.upto topLengthsSpec)

end Rows
end Go.Proofs.YtaphjgjhpmmkmaaGreat
