/-
  No cell of these rows narrows 'for every input' (looked for: loops, veiled, ifaces, maps, wideKeys, modest, calm, conditions, laid).
  DERIVED. THE GIVEN ROWS OF THIS SEAT. 9 by the template 'for every input the law returns true; each argument reads behind the call as it read before'; 0 by the template 'total and deterministic' (their statements: YtjjedaikbgfmmaaGreatTotals.lean).
  GIVEN WITH THE SEED: the statements are not yours to turn. If you find one false, say at which input.
  Laid BY PROGRAM, IN A SANDBOX (cutbox-rows.mjs): the forced cells as the released guide's own fill.sh prints them over the translation f41e23039a59bd4f… (all of the seat's roots in one cut). By AI agents, Wed Nov 11 2026. No macro, syntax, notation, axiom, sorry.
-/
import Derived.Test.YtjjedaikbgfmmaaGreatChecked
import GoSem.Claim
import GoSem.ClaimJoined
import GoSem.ClaimMapViews
import Derived.JoinedTies
import Derived.KernelRfl
namespace Go.Proofs.YtjjedaikbgfmmaaGreat
/- THE CELL 'sum', in the pinned program and in every row, IS THE sha256 OF THE DUMP (.gsa) THAT YtjjedaikbgfmmaaGreatProg.lean LOADS. Nothing in Lean hashes anything: it is a label: what it is worth is what the hold of that sum in a sandbox is worth. -/
noncomputable def Tryz.pinned : Pinned := { name := "ytjjedaikbgfmmaagreat", sum := "f41e23039a59bd4f05b86d2d01654dfa6bed6c94b0525b453204916016778c1c", checked := Tryz.checked }
namespace Rows
def none {H : Type} : Left H := { results := [], args := [] }

/-- 'groovelaw37.CompletionCanonical': WHATEVER THE INPUT: true; the input reads as it did. -/
def completionCanonicalSpec : ChangeSpec := { name := "completionCanonical", fn := fun _ => fun
  | [d1, d2] => { results := [.lit (.bool true)], args := [d1, d2] }
  | _ => none }
def completionCanonicalRow : OpenClaim := { program := "ytjjedaikbgfmmaagreat", sum := "f41e23039a59bd4f05b86d2d01654dfa6bed6c94b0525b453204916016778c1c", func := "groove/groovelaw37.CompletionCanonical", spec := "completionCanonical", inPlace := ["internal/bytealg.IndexByteString", "internal/bytealg.abigen_runtime_cmpstring"], unfollowed := true, recurses := true, apart := false }
def CompletionCanonicalSaid : Prop := completionCanonicalRow.holds Tryz.pinned (OpenSpec.ofChange completionCanonicalSpec)

/-- ITS FALSE NEIGHBOUR: 'it returns false'. Refute it at one input. -/
def completionCanonicalWrong : ChangeSpec := { name := "completionCanonical", fn := fun _ => fun
  | [d1, d2] => { results := [.lit (.bool false)], args := [d1, d2] }
  | _ => none }
def CompletionCanonicalWrongFalsely : Prop := completionCanonicalRow.holds Tryz.pinned (OpenSpec.ofChange completionCanonicalWrong)

/-- 'groovelaw37.CompletionWords': WHATEVER THE INPUT: true; the input reads as it did. -/
def completionWordsSpec : ChangeSpec := { name := "completionWords", fn := fun _ => fun
  | [d1, d2] => { results := [.lit (.bool true)], args := [d1, d2] }
  | _ => none }
def completionWordsRow : OpenClaim := { program := "ytjjedaikbgfmmaagreat", sum := "f41e23039a59bd4f05b86d2d01654dfa6bed6c94b0525b453204916016778c1c", func := "groove/groovelaw37.CompletionWords", spec := "completionWords", inPlace := ["internal/bytealg.IndexByteString", "internal/bytealg.abigen_runtime_cmpstring"], unfollowed := true, recurses := true, apart := false }
def CompletionWordsSaid : Prop := completionWordsRow.holds Tryz.pinned (OpenSpec.ofChange completionWordsSpec)

/-- ITS FALSE NEIGHBOUR: 'it returns false'. Refute it at one input. -/
def completionWordsWrong : ChangeSpec := { name := "completionWords", fn := fun _ => fun
  | [d1, d2] => { results := [.lit (.bool false)], args := [d1, d2] }
  | _ => none }
def CompletionWordsWrongFalsely : Prop := completionWordsRow.holds Tryz.pinned (OpenSpec.ofChange completionWordsWrong)

/-- 'groovelaw37.CompletionPrunes': WHATEVER THE INPUT: true; the input reads as it did. -/
def completionPrunesSpec : ChangeSpec := { name := "completionPrunes", fn := fun _ => fun
  | [d1, d2] => { results := [.lit (.bool true)], args := [d1, d2] }
  | _ => none }
def completionPrunesRow : OpenClaim := { program := "ytjjedaikbgfmmaagreat", sum := "f41e23039a59bd4f05b86d2d01654dfa6bed6c94b0525b453204916016778c1c", func := "groove/groovelaw37.CompletionPrunes", spec := "completionPrunes", inPlace := ["internal/bytealg.IndexByteString", "internal/bytealg.abigen_runtime_cmpstring"], unfollowed := true, recurses := true, apart := false }
def CompletionPrunesSaid : Prop := completionPrunesRow.holds Tryz.pinned (OpenSpec.ofChange completionPrunesSpec)

/-- ITS FALSE NEIGHBOUR: 'it returns false'. Refute it at one input. -/
def completionPrunesWrong : ChangeSpec := { name := "completionPrunes", fn := fun _ => fun
  | [d1, d2] => { results := [.lit (.bool false)], args := [d1, d2] }
  | _ => none }
def CompletionPrunesWrongFalsely : Prop := completionPrunesRow.holds Tryz.pinned (OpenSpec.ofChange completionPrunesWrong)

/-- 'groovelaw37.CompletionWhole': WHATEVER THE INPUT: true; the input reads as it did. -/
def completionWholeSpec : ChangeSpec := { name := "completionWhole", fn := fun _ => fun
  | [d] => { results := [.lit (.bool true)], args := [d] }
  | _ => none }
def completionWholeRow : OpenClaim := { program := "ytjjedaikbgfmmaagreat", sum := "f41e23039a59bd4f05b86d2d01654dfa6bed6c94b0525b453204916016778c1c", func := "groove/groovelaw37.CompletionWhole", spec := "completionWhole", inPlace := ["internal/bytealg.IndexByteString", "internal/bytealg.abigen_runtime_cmpstring"], unfollowed := true, recurses := true, apart := false }
def CompletionWholeSaid : Prop := completionWholeRow.holds Tryz.pinned (OpenSpec.ofChange completionWholeSpec)

/-- ITS FALSE NEIGHBOUR: 'it returns false'. Refute it at one input. -/
def completionWholeWrong : ChangeSpec := { name := "completionWhole", fn := fun _ => fun
  | [d] => { results := [.lit (.bool false)], args := [d] }
  | _ => none }
def CompletionWholeWrongFalsely : Prop := completionWholeRow.holds Tryz.pinned (OpenSpec.ofChange completionWholeWrong)

/-- 'groovelaw37.CompletionEmbeds': WHATEVER THE INPUT: true; the input reads as it did. -/
def completionEmbedsSpec : ChangeSpec := { name := "completionEmbeds", fn := fun _ => fun
  | [d1, d2] => { results := [.lit (.bool true)], args := [d1, d2] }
  | _ => none }
def completionEmbedsRow : OpenClaim := { program := "ytjjedaikbgfmmaagreat", sum := "f41e23039a59bd4f05b86d2d01654dfa6bed6c94b0525b453204916016778c1c", func := "groove/groovelaw37.CompletionEmbeds", spec := "completionEmbeds", inPlace := ["internal/bytealg.IndexByteString", "internal/bytealg.abigen_runtime_cmpstring"], unfollowed := true, recurses := true, apart := false }
def CompletionEmbedsSaid : Prop := completionEmbedsRow.holds Tryz.pinned (OpenSpec.ofChange completionEmbedsSpec)

/-- ITS FALSE NEIGHBOUR: 'it returns false'. Refute it at one input. -/
def completionEmbedsWrong : ChangeSpec := { name := "completionEmbeds", fn := fun _ => fun
  | [d1, d2] => { results := [.lit (.bool false)], args := [d1, d2] }
  | _ => none }
def CompletionEmbedsWrongFalsely : Prop := completionEmbedsRow.holds Tryz.pinned (OpenSpec.ofChange completionEmbedsWrong)

/-- 'groovelaw37.CompletionLengths': WHATEVER THE INPUT: true; the input reads as it did. -/
def completionLengthsSpec : ChangeSpec := { name := "completionLengths", fn := fun _ => fun
  | [d1, d2, d3] => { results := [.lit (.bool true)], args := [d1, d2, d3] }
  | _ => none }
def completionLengthsRow : OpenClaim := { program := "ytjjedaikbgfmmaagreat", sum := "f41e23039a59bd4f05b86d2d01654dfa6bed6c94b0525b453204916016778c1c", func := "groove/groovelaw37.CompletionLengths", spec := "completionLengths", inPlace := ["internal/bytealg.IndexByteString", "internal/bytealg.abigen_runtime_cmpstring"], unfollowed := true, recurses := true, apart := false }
def CompletionLengthsSaid : Prop := completionLengthsRow.holds Tryz.pinned (OpenSpec.ofChange completionLengthsSpec)

/-- ITS FALSE NEIGHBOUR: 'it returns false'. Refute it at one input. -/
def completionLengthsWrong : ChangeSpec := { name := "completionLengths", fn := fun _ => fun
  | [d1, d2, d3] => { results := [.lit (.bool false)], args := [d1, d2, d3] }
  | _ => none }
def CompletionLengthsWrongFalsely : Prop := completionLengthsRow.holds Tryz.pinned (OpenSpec.ofChange completionLengthsWrong)

/-- 'groovelaw37.CompletionParts': WHATEVER THE INPUT: true; the input reads as it did. -/
def completionPartsSpec : ChangeSpec := { name := "completionParts", fn := fun _ => fun
  | [d1, d2] => { results := [.lit (.bool true)], args := [d1, d2] }
  | _ => none }
def completionPartsRow : OpenClaim := { program := "ytjjedaikbgfmmaagreat", sum := "f41e23039a59bd4f05b86d2d01654dfa6bed6c94b0525b453204916016778c1c", func := "groove/groovelaw37.CompletionParts", spec := "completionParts", inPlace := ["internal/bytealg.IndexByteString", "internal/bytealg.abigen_runtime_cmpstring"], unfollowed := true, recurses := true, apart := false }
def CompletionPartsSaid : Prop := completionPartsRow.holds Tryz.pinned (OpenSpec.ofChange completionPartsSpec)

/-- ITS FALSE NEIGHBOUR: 'it returns false'. Refute it at one input. -/
def completionPartsWrong : ChangeSpec := { name := "completionParts", fn := fun _ => fun
  | [d1, d2] => { results := [.lit (.bool false)], args := [d1, d2] }
  | _ => none }
def CompletionPartsWrongFalsely : Prop := completionPartsRow.holds Tryz.pinned (OpenSpec.ofChange completionPartsWrong)

/-- 'groovelaw37.CompletionBifix': WHATEVER THE INPUT: true; the input reads as it did. -/
def completionBifixSpec : ChangeSpec := { name := "completionBifix", fn := fun _ => fun
  | [d] => { results := [.lit (.bool true)], args := [d] }
  | _ => none }
def completionBifixRow : OpenClaim := { program := "ytjjedaikbgfmmaagreat", sum := "f41e23039a59bd4f05b86d2d01654dfa6bed6c94b0525b453204916016778c1c", func := "groove/groovelaw37.CompletionBifix", spec := "completionBifix", inPlace := ["internal/bytealg.IndexByteString", "internal/bytealg.abigen_runtime_cmpstring"], unfollowed := true, recurses := true, apart := false }
def CompletionBifixSaid : Prop := completionBifixRow.holds Tryz.pinned (OpenSpec.ofChange completionBifixSpec)

/-- ITS FALSE NEIGHBOUR: 'it returns false'. Refute it at one input. -/
def completionBifixWrong : ChangeSpec := { name := "completionBifix", fn := fun _ => fun
  | [d] => { results := [.lit (.bool false)], args := [d] }
  | _ => none }
def CompletionBifixWrongFalsely : Prop := completionBifixRow.holds Tryz.pinned (OpenSpec.ofChange completionBifixWrong)

/-- 'groovelaw37.CompletionPrefixed': WHATEVER THE INPUT: true; the input reads as it did. -/
def completionPrefixedSpec : ChangeSpec := { name := "completionPrefixed", fn := fun _ => fun
  | [d] => { results := [.lit (.bool true)], args := [d] }
  | _ => none }
def completionPrefixedRow : OpenClaim := { program := "ytjjedaikbgfmmaagreat", sum := "f41e23039a59bd4f05b86d2d01654dfa6bed6c94b0525b453204916016778c1c", func := "groove/groovelaw37.CompletionPrefixed", spec := "completionPrefixed", inPlace := ["internal/bytealg.IndexByteString", "internal/bytealg.abigen_runtime_cmpstring"], unfollowed := true, recurses := true, apart := false }
def CompletionPrefixedSaid : Prop := completionPrefixedRow.holds Tryz.pinned (OpenSpec.ofChange completionPrefixedSpec)

/-- ITS FALSE NEIGHBOUR: 'it returns false'. Refute it at one input. -/
def completionPrefixedWrong : ChangeSpec := { name := "completionPrefixed", fn := fun _ => fun
  | [d] => { results := [.lit (.bool false)], args := [d] }
  | _ => none }
def CompletionPrefixedWrongFalsely : Prop := completionPrefixedRow.holds Tryz.pinned (OpenSpec.ofChange completionPrefixedWrong)

/- THE SECOND FORM. 'bulk': how many values and letters a reading holds, each counted each time it is reached (what is shared counts as often as it is met; a slice's spare places count too). A statement '..UptoSaid' is the law's where the arguments, and the package variables that the reading takes, are together of bulk at most 1048576: NARROWER than '..Said'. Prove '..Said' where nothing that the law and all that it calls make is longer than what came in: it says more and counts as full. Else prove '..UptoSaid'. A law counts once. -/
mutual
def uptoBulk {H : Type} : DataW H → Nat
  | .lit (.string bytes) => bytes.length + 1
  | .lit _ => 1
  | .nil => 1
  | .ptr d => uptoBulk d + 1
  | .slice elems spare => uptoBulkAll elems + uptoBulkAll spare + 1
  | .agg parts => uptoBulkAll parts + 1
  | .iface _ d => uptoBulk d + 1
  | .map entries => uptoBulkEntries entries + 1
  | .held _ => 1
def uptoBulkAll {H : Type} : List (DataW H) → Nat
  | [] => 0
  | d :: r => uptoBulk d + uptoBulkAll r
def uptoBulkEntries {H : Type} : List (Lit × DataW H) → Nat
  | [] => 0
  | x :: r => uptoBulkEntry x + uptoBulkEntries r
def uptoBulkEntry {H : Type} : Lit × DataW H → Nat
  | (.string bytes, d) => bytes.length + uptoBulk d + 1
  | (_, d) => uptoBulk d + 1
 end
def uptoSmall : (H : Type) → List (DataW H) → Bool := fun _ ds => decide (uptoBulkAll ds ≤ 1048576)
def OpenSpec.upto (s : _root_.Go.ChangeSpec) : _root_.Go.OpenSpec := { _root_.Go.OpenSpec.ofChange s with cond := some uptoSmall }

/-- 'groovelaw37.CompletionCanonical', WHERE WHAT IT READS IS OF BULK AT MOST 1048576: true; the input reads as it did. -/
def completionCanonicalUptoRow : OpenClaim := { program := "ytjjedaikbgfmmaagreat", sum := "f41e23039a59bd4f05b86d2d01654dfa6bed6c94b0525b453204916016778c1c", func := "groove/groovelaw37.CompletionCanonical", spec := "completionCanonical", inPlace := ["internal/bytealg.IndexByteString", "internal/bytealg.abigen_runtime_cmpstring"], unfollowed := true, recurses := true, apart := false, narrowed := true }
def CompletionCanonicalUptoSaid : Prop := completionCanonicalUptoRow.holds Tryz.pinned (OpenSpec.upto completionCanonicalSpec)

/-- 'groovelaw37.CompletionWords', WHERE WHAT IT READS IS OF BULK AT MOST 1048576: true; the input reads as it did. -/
def completionWordsUptoRow : OpenClaim := { program := "ytjjedaikbgfmmaagreat", sum := "f41e23039a59bd4f05b86d2d01654dfa6bed6c94b0525b453204916016778c1c", func := "groove/groovelaw37.CompletionWords", spec := "completionWords", inPlace := ["internal/bytealg.IndexByteString", "internal/bytealg.abigen_runtime_cmpstring"], unfollowed := true, recurses := true, apart := false, narrowed := true }
def CompletionWordsUptoSaid : Prop := completionWordsUptoRow.holds Tryz.pinned (OpenSpec.upto completionWordsSpec)

/-- 'groovelaw37.CompletionPrunes', WHERE WHAT IT READS IS OF BULK AT MOST 1048576: true; the input reads as it did. -/
def completionPrunesUptoRow : OpenClaim := { program := "ytjjedaikbgfmmaagreat", sum := "f41e23039a59bd4f05b86d2d01654dfa6bed6c94b0525b453204916016778c1c", func := "groove/groovelaw37.CompletionPrunes", spec := "completionPrunes", inPlace := ["internal/bytealg.IndexByteString", "internal/bytealg.abigen_runtime_cmpstring"], unfollowed := true, recurses := true, apart := false, narrowed := true }
def CompletionPrunesUptoSaid : Prop := completionPrunesUptoRow.holds Tryz.pinned (OpenSpec.upto completionPrunesSpec)

/-- 'groovelaw37.CompletionWhole', WHERE WHAT IT READS IS OF BULK AT MOST 1048576: true; the input reads as it did. -/
def completionWholeUptoRow : OpenClaim := { program := "ytjjedaikbgfmmaagreat", sum := "f41e23039a59bd4f05b86d2d01654dfa6bed6c94b0525b453204916016778c1c", func := "groove/groovelaw37.CompletionWhole", spec := "completionWhole", inPlace := ["internal/bytealg.IndexByteString", "internal/bytealg.abigen_runtime_cmpstring"], unfollowed := true, recurses := true, apart := false, narrowed := true }
def CompletionWholeUptoSaid : Prop := completionWholeUptoRow.holds Tryz.pinned (OpenSpec.upto completionWholeSpec)

/-- 'groovelaw37.CompletionEmbeds', WHERE WHAT IT READS IS OF BULK AT MOST 1048576: true; the input reads as it did. -/
def completionEmbedsUptoRow : OpenClaim := { program := "ytjjedaikbgfmmaagreat", sum := "f41e23039a59bd4f05b86d2d01654dfa6bed6c94b0525b453204916016778c1c", func := "groove/groovelaw37.CompletionEmbeds", spec := "completionEmbeds", inPlace := ["internal/bytealg.IndexByteString", "internal/bytealg.abigen_runtime_cmpstring"], unfollowed := true, recurses := true, apart := false, narrowed := true }
def CompletionEmbedsUptoSaid : Prop := completionEmbedsUptoRow.holds Tryz.pinned (OpenSpec.upto completionEmbedsSpec)

/-- 'groovelaw37.CompletionLengths', WHERE WHAT IT READS IS OF BULK AT MOST 1048576: true; the input reads as it did. -/
def completionLengthsUptoRow : OpenClaim := { program := "ytjjedaikbgfmmaagreat", sum := "f41e23039a59bd4f05b86d2d01654dfa6bed6c94b0525b453204916016778c1c", func := "groove/groovelaw37.CompletionLengths", spec := "completionLengths", inPlace := ["internal/bytealg.IndexByteString", "internal/bytealg.abigen_runtime_cmpstring"], unfollowed := true, recurses := true, apart := false, narrowed := true }
def CompletionLengthsUptoSaid : Prop := completionLengthsUptoRow.holds Tryz.pinned (OpenSpec.upto completionLengthsSpec)

/-- 'groovelaw37.CompletionParts', WHERE WHAT IT READS IS OF BULK AT MOST 1048576: true; the input reads as it did. -/
def completionPartsUptoRow : OpenClaim := { program := "ytjjedaikbgfmmaagreat", sum := "f41e23039a59bd4f05b86d2d01654dfa6bed6c94b0525b453204916016778c1c", func := "groove/groovelaw37.CompletionParts", spec := "completionParts", inPlace := ["internal/bytealg.IndexByteString", "internal/bytealg.abigen_runtime_cmpstring"], unfollowed := true, recurses := true, apart := false, narrowed := true }
def CompletionPartsUptoSaid : Prop := completionPartsUptoRow.holds Tryz.pinned (OpenSpec.upto completionPartsSpec)

/-- 'groovelaw37.CompletionBifix', WHERE WHAT IT READS IS OF BULK AT MOST 1048576: true; the input reads as it did. -/
def completionBifixUptoRow : OpenClaim := { program := "ytjjedaikbgfmmaagreat", sum := "f41e23039a59bd4f05b86d2d01654dfa6bed6c94b0525b453204916016778c1c", func := "groove/groovelaw37.CompletionBifix", spec := "completionBifix", inPlace := ["internal/bytealg.IndexByteString", "internal/bytealg.abigen_runtime_cmpstring"], unfollowed := true, recurses := true, apart := false, narrowed := true }
def CompletionBifixUptoSaid : Prop := completionBifixUptoRow.holds Tryz.pinned (OpenSpec.upto completionBifixSpec)

/-- 'groovelaw37.CompletionPrefixed', WHERE WHAT IT READS IS OF BULK AT MOST 1048576: true; the input reads as it did. -/
def completionPrefixedUptoRow : OpenClaim := { program := "ytjjedaikbgfmmaagreat", sum := "f41e23039a59bd4f05b86d2d01654dfa6bed6c94b0525b453204916016778c1c", func := "groove/groovelaw37.CompletionPrefixed", spec := "completionPrefixed", inPlace := ["internal/bytealg.IndexByteString", "internal/bytealg.abigen_runtime_cmpstring"], unfollowed := true, recurses := true, apart := false, narrowed := true }
def CompletionPrefixedUptoSaid : Prop := completionPrefixedUptoRow.holds Tryz.pinned (OpenSpec.upto completionPrefixedSpec)

end Rows
end Go.Proofs.YtjjedaikbgfmmaaGreat
