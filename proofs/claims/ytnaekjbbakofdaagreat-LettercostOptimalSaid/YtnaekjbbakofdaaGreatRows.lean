/-
  No cell of these rows narrows 'for every input' (looked for: loops, veiled, ifaces, maps, wideKeys, modest, calm, conditions, laid).
  DERIVED. THE GIVEN ROWS OF THIS SEAT. 8 by the template 'for every input the law returns true; each argument reads behind the call as it read before'; 0 by the template 'total and deterministic' (their statements: YtnaekjbbakofdaaGreatTotals.lean).
  GIVEN WITH THE SEED: the statements are not yours to turn. If you find one false, say at which input.
  Laid BY PROGRAM, IN A SANDBOX (cutbox-rows.mjs): the forced cells as the released guide's own fill.sh prints them over the translation a1ad4a3343686c59… (all of the seat's roots in one cut). By AI agents, Wed Nov 11 2026. No macro, syntax, notation, axiom, sorry.
-/
import Derived.Test.YtnaekjbbakofdaaGreatChecked
import GoSem.Claim
import GoSem.ClaimJoined
import GoSem.ClaimMapViews
import Derived.JoinedTies
import Derived.KernelRfl
namespace Go.Proofs.YtnaekjbbakofdaaGreat
/- THE CELL 'sum', in the pinned program and in every row, IS THE sha256 OF THE DUMP (.gsa) THAT YtnaekjbbakofdaaGreatProg.lean LOADS. Nothing in Lean hashes anything: it is a label: what it is worth is what the hold of that sum in a sandbox is worth. -/
noncomputable def Tryz.pinned : Pinned := { name := "ytnaekjbbakofdaagreat", sum := "a1ad4a3343686c5941e571d4f40c56bdda7a832d6d0bc2ab66d1ea89cf6e248f", checked := Tryz.checked }
namespace Rows
def none {H : Type} : Left H := { results := [], args := [] }

/-- 'groovelaw41.LettercostOptimal': WHATEVER THE INPUT: true; the input reads as it did. -/
def lettercostOptimalSpec : ChangeSpec := { name := "lettercostOptimal", fn := fun _ => fun
  | [d1, d2, d3] => { results := [.lit (.bool true)], args := [d1, d2, d3] }
  | _ => none }
def lettercostOptimalRow : OpenClaim := { program := "ytnaekjbbakofdaagreat", sum := "a1ad4a3343686c5941e571d4f40c56bdda7a832d6d0bc2ab66d1ea89cf6e248f", func := "groove/groovelaw41.LettercostOptimal", spec := "lettercostOptimal", inPlace := ["internal/bytealg.IndexByteString", "internal/bytealg.abigen_runtime_cmpstring", "slices.overlaps[int]"], unfollowed := true, recurses := true, apart := false }
def LettercostOptimalSaid : Prop := lettercostOptimalRow.holds Tryz.pinned (OpenSpec.ofChange lettercostOptimalSpec)

/-- ITS FALSE NEIGHBOUR: 'it returns false'. Refute it at one input. -/
def lettercostOptimalWrong : ChangeSpec := { name := "lettercostOptimal", fn := fun _ => fun
  | [d1, d2, d3] => { results := [.lit (.bool false)], args := [d1, d2, d3] }
  | _ => none }
def LettercostOptimalWrongFalsely : Prop := lettercostOptimalRow.holds Tryz.pinned (OpenSpec.ofChange lettercostOptimalWrong)

/-- 'groovelaw41.LettercostScales': WHATEVER THE INPUT: true; the input reads as it did. -/
def lettercostScalesSpec : ChangeSpec := { name := "lettercostScales", fn := fun _ => fun
  | [d1, d2] => { results := [.lit (.bool true)], args := [d1, d2] }
  | _ => none }
def lettercostScalesRow : OpenClaim := { program := "ytnaekjbbakofdaagreat", sum := "a1ad4a3343686c5941e571d4f40c56bdda7a832d6d0bc2ab66d1ea89cf6e248f", func := "groove/groovelaw41.LettercostScales", spec := "lettercostScales", inPlace := ["internal/bytealg.IndexByteString", "internal/bytealg.abigen_runtime_cmpstring", "slices.overlaps[int]"], unfollowed := true, recurses := true, apart := false }
def LettercostScalesSaid : Prop := lettercostScalesRow.holds Tryz.pinned (OpenSpec.ofChange lettercostScalesSpec)

/-- ITS FALSE NEIGHBOUR: 'it returns false'. Refute it at one input. -/
def lettercostScalesWrong : ChangeSpec := { name := "lettercostScales", fn := fun _ => fun
  | [d1, d2] => { results := [.lit (.bool false)], args := [d1, d2] }
  | _ => none }
def LettercostScalesWrongFalsely : Prop := lettercostScalesRow.holds Tryz.pinned (OpenSpec.ofChange lettercostScalesWrong)

/-- 'groovelaw41.LettercostMore': WHATEVER THE INPUT: true; the input reads as it did. -/
def lettercostMoreSpec : ChangeSpec := { name := "lettercostMore", fn := fun _ => fun
  | [d1, d2, d3] => { results := [.lit (.bool true)], args := [d1, d2, d3] }
  | _ => none }
def lettercostMoreRow : OpenClaim := { program := "ytnaekjbbakofdaagreat", sum := "a1ad4a3343686c5941e571d4f40c56bdda7a832d6d0bc2ab66d1ea89cf6e248f", func := "groove/groovelaw41.LettercostMore", spec := "lettercostMore", inPlace := ["internal/bytealg.IndexByteString", "internal/bytealg.abigen_runtime_cmpstring", "slices.overlaps[int]"], unfollowed := true, recurses := true, apart := false }
def LettercostMoreSaid : Prop := lettercostMoreRow.holds Tryz.pinned (OpenSpec.ofChange lettercostMoreSpec)

/-- ITS FALSE NEIGHBOUR: 'it returns false'. Refute it at one input. -/
def lettercostMoreWrong : ChangeSpec := { name := "lettercostMore", fn := fun _ => fun
  | [d1, d2, d3] => { results := [.lit (.bool false)], args := [d1, d2, d3] }
  | _ => none }
def LettercostMoreWrongFalsely : Prop := lettercostMoreRow.holds Tryz.pinned (OpenSpec.ofChange lettercostMoreWrong)

/-- 'groovelaw41.LettercostEqual': WHATEVER THE INPUT: true; the input reads as it did. -/
def lettercostEqualSpec : ChangeSpec := { name := "lettercostEqual", fn := fun _ => fun
  | [d1, d2, d3] => { results := [.lit (.bool true)], args := [d1, d2, d3] }
  | _ => none }
def lettercostEqualRow : OpenClaim := { program := "ytnaekjbbakofdaagreat", sum := "a1ad4a3343686c5941e571d4f40c56bdda7a832d6d0bc2ab66d1ea89cf6e248f", func := "groove/groovelaw41.LettercostEqual", spec := "lettercostEqual", inPlace := ["internal/bytealg.IndexByteString", "internal/bytealg.abigen_runtime_cmpstring", "slices.overlaps[int]"], unfollowed := true, recurses := true, apart := false }
def LettercostEqualSaid : Prop := lettercostEqualRow.holds Tryz.pinned (OpenSpec.ofChange lettercostEqualSpec)

/-- ITS FALSE NEIGHBOUR: 'it returns false'. Refute it at one input. -/
def lettercostEqualWrong : ChangeSpec := { name := "lettercostEqual", fn := fun _ => fun
  | [d1, d2, d3] => { results := [.lit (.bool false)], args := [d1, d2, d3] }
  | _ => none }
def LettercostEqualWrongFalsely : Prop := lettercostEqualRow.holds Tryz.pinned (OpenSpec.ofChange lettercostEqualWrong)

/-- 'groovelaw41.LettercostOrder': WHATEVER THE INPUT: true; the input reads as it did. -/
def lettercostOrderSpec : ChangeSpec := { name := "lettercostOrder", fn := fun _ => fun
  | [d] => { results := [.lit (.bool true)], args := [d] }
  | _ => none }
def lettercostOrderRow : OpenClaim := { program := "ytnaekjbbakofdaagreat", sum := "a1ad4a3343686c5941e571d4f40c56bdda7a832d6d0bc2ab66d1ea89cf6e248f", func := "groove/groovelaw41.LettercostOrder", spec := "lettercostOrder", inPlace := ["internal/bytealg.IndexByteString", "internal/bytealg.abigen_runtime_cmpstring", "slices.overlaps[int]"], unfollowed := true, recurses := true, apart := false }
def LettercostOrderSaid : Prop := lettercostOrderRow.holds Tryz.pinned (OpenSpec.ofChange lettercostOrderSpec)

/-- ITS FALSE NEIGHBOUR: 'it returns false'. Refute it at one input. -/
def lettercostOrderWrong : ChangeSpec := { name := "lettercostOrder", fn := fun _ => fun
  | [d] => { results := [.lit (.bool false)], args := [d] }
  | _ => none }
def LettercostOrderWrongFalsely : Prop := lettercostOrderRow.holds Tryz.pinned (OpenSpec.ofChange lettercostOrderWrong)

/-- 'groovelaw41.LettercostWords': WHATEVER THE INPUT: true; the input reads as it did. -/
def lettercostWordsSpec : ChangeSpec := { name := "lettercostWords", fn := fun _ => fun
  | [d1, d2, d3] => { results := [.lit (.bool true)], args := [d1, d2, d3] }
  | _ => none }
def lettercostWordsRow : OpenClaim := { program := "ytnaekjbbakofdaagreat", sum := "a1ad4a3343686c5941e571d4f40c56bdda7a832d6d0bc2ab66d1ea89cf6e248f", func := "groove/groovelaw41.LettercostWords", spec := "lettercostWords", inPlace := ["internal/bytealg.IndexByteString", "internal/bytealg.abigen_runtime_cmpstring", "slices.overlaps[int]"], unfollowed := true, recurses := true, apart := false }
def LettercostWordsSaid : Prop := lettercostWordsRow.holds Tryz.pinned (OpenSpec.ofChange lettercostWordsSpec)

/-- ITS FALSE NEIGHBOUR: 'it returns false'. Refute it at one input. -/
def lettercostWordsWrong : ChangeSpec := { name := "lettercostWords", fn := fun _ => fun
  | [d1, d2, d3] => { results := [.lit (.bool false)], args := [d1, d2, d3] }
  | _ => none }
def LettercostWordsWrongFalsely : Prop := lettercostWordsRow.holds Tryz.pinned (OpenSpec.ofChange lettercostWordsWrong)

/-- 'groovelaw41.LettercostBest': WHATEVER THE INPUT: true; the input reads as it did. -/
def lettercostBestSpec : ChangeSpec := { name := "lettercostBest", fn := fun _ => fun
  | [d1, d2] => { results := [.lit (.bool true)], args := [d1, d2] }
  | _ => none }
def lettercostBestRow : OpenClaim := { program := "ytnaekjbbakofdaagreat", sum := "a1ad4a3343686c5941e571d4f40c56bdda7a832d6d0bc2ab66d1ea89cf6e248f", func := "groove/groovelaw41.LettercostBest", spec := "lettercostBest", inPlace := ["internal/bytealg.IndexByteString", "internal/bytealg.abigen_runtime_cmpstring", "slices.overlaps[int]"], unfollowed := true, recurses := true, apart := false }
def LettercostBestSaid : Prop := lettercostBestRow.holds Tryz.pinned (OpenSpec.ofChange lettercostBestSpec)

/-- ITS FALSE NEIGHBOUR: 'it returns false'. Refute it at one input. -/
def lettercostBestWrong : ChangeSpec := { name := "lettercostBest", fn := fun _ => fun
  | [d1, d2] => { results := [.lit (.bool false)], args := [d1, d2] }
  | _ => none }
def LettercostBestWrongFalsely : Prop := lettercostBestRow.holds Tryz.pinned (OpenSpec.ofChange lettercostBestWrong)

/-- 'groovelaw41.LettercostChecks': WHATEVER THE INPUT: true; the input reads as it did. -/
def lettercostChecksSpec : ChangeSpec := { name := "lettercostChecks", fn := fun _ => fun
  | [d1, d2, d3, d4] => { results := [.lit (.bool true)], args := [d1, d2, d3, d4] }
  | _ => none }
def lettercostChecksRow : OpenClaim := { program := "ytnaekjbbakofdaagreat", sum := "a1ad4a3343686c5941e571d4f40c56bdda7a832d6d0bc2ab66d1ea89cf6e248f", func := "groove/groovelaw41.LettercostChecks", spec := "lettercostChecks", inPlace := ["internal/bytealg.IndexByteString", "internal/bytealg.abigen_runtime_cmpstring", "slices.overlaps[int]"], unfollowed := true, recurses := true, apart := false }
def LettercostChecksSaid : Prop := lettercostChecksRow.holds Tryz.pinned (OpenSpec.ofChange lettercostChecksSpec)

/-- ITS FALSE NEIGHBOUR: 'it returns false'. Refute it at one input. -/
def lettercostChecksWrong : ChangeSpec := { name := "lettercostChecks", fn := fun _ => fun
  | [d1, d2, d3, d4] => { results := [.lit (.bool false)], args := [d1, d2, d3, d4] }
  | _ => none }
def LettercostChecksWrongFalsely : Prop := lettercostChecksRow.holds Tryz.pinned (OpenSpec.ofChange lettercostChecksWrong)

/- THE SECOND FORM. 'bulk': how many values and letters a reading holds, each counted each time it is reached (what is shared counts as often as it is met; a slice's spare places count too). A statement '..UptoSaid' is the law's where the arguments, and the package variables that the reading takes, are together of bulk at most 1048576: NARROWER than '..Said'. Prove '..Said' where nothing that the law and all that it calls make is longer than what came in: it says more and counts as full. Else prove '..UptoSaid'. A law counts once. -/
mutual
def uptoBulk {H : Type} : DataW H → Nat
  | .lit (.string bytes) => bytes.length + 1
  | .lit _ => 1
  | .nil => 1
  | .ptr d => uptoBulk d + 1
  | .slice elems spare => uptoBulkAll elems + uptoBulkAll spare + 1
  | .agg parts => uptoBulkAll parts + 1
  | .iface _ d => uptoBulk d + 1
  | .map entries => uptoBulkEntries entries + 1
  | .held _ => 1
def uptoBulkAll {H : Type} : List (DataW H) → Nat
  | [] => 0
  | d :: r => uptoBulk d + uptoBulkAll r
def uptoBulkEntries {H : Type} : List (Lit × DataW H) → Nat
  | [] => 0
  | x :: r => uptoBulkEntry x + uptoBulkEntries r
def uptoBulkEntry {H : Type} : Lit × DataW H → Nat
  | (.string bytes, d) => bytes.length + uptoBulk d + 1
  | (_, d) => uptoBulk d + 1
 end
def uptoSmall : (H : Type) → List (DataW H) → Bool := fun _ ds => decide (uptoBulkAll ds ≤ 1048576)
def OpenSpec.upto (s : _root_.Go.ChangeSpec) : _root_.Go.OpenSpec := { _root_.Go.OpenSpec.ofChange s with cond := some uptoSmall }

/-- 'groovelaw41.LettercostOptimal', WHERE WHAT IT READS IS OF BULK AT MOST 1048576: true; the input reads as it did. -/
def lettercostOptimalUptoRow : OpenClaim := { program := "ytnaekjbbakofdaagreat", sum := "a1ad4a3343686c5941e571d4f40c56bdda7a832d6d0bc2ab66d1ea89cf6e248f", func := "groove/groovelaw41.LettercostOptimal", spec := "lettercostOptimal", inPlace := ["internal/bytealg.IndexByteString", "internal/bytealg.abigen_runtime_cmpstring", "slices.overlaps[int]"], unfollowed := true, recurses := true, apart := false, narrowed := true }
def LettercostOptimalUptoSaid : Prop := lettercostOptimalUptoRow.holds Tryz.pinned (OpenSpec.upto lettercostOptimalSpec)

/-- 'groovelaw41.LettercostScales', WHERE WHAT IT READS IS OF BULK AT MOST 1048576: true; the input reads as it did. -/
def lettercostScalesUptoRow : OpenClaim := { program := "ytnaekjbbakofdaagreat", sum := "a1ad4a3343686c5941e571d4f40c56bdda7a832d6d0bc2ab66d1ea89cf6e248f", func := "groove/groovelaw41.LettercostScales", spec := "lettercostScales", inPlace := ["internal/bytealg.IndexByteString", "internal/bytealg.abigen_runtime_cmpstring", "slices.overlaps[int]"], unfollowed := true, recurses := true, apart := false, narrowed := true }
def LettercostScalesUptoSaid : Prop := lettercostScalesUptoRow.holds Tryz.pinned (OpenSpec.upto lettercostScalesSpec)

/-- 'groovelaw41.LettercostMore', WHERE WHAT IT READS IS OF BULK AT MOST 1048576: true; the input reads as it did. -/
def lettercostMoreUptoRow : OpenClaim := { program := "ytnaekjbbakofdaagreat", sum := "a1ad4a3343686c5941e571d4f40c56bdda7a832d6d0bc2ab66d1ea89cf6e248f", func := "groove/groovelaw41.LettercostMore", spec := "lettercostMore", inPlace := ["internal/bytealg.IndexByteString", "internal/bytealg.abigen_runtime_cmpstring", "slices.overlaps[int]"], unfollowed := true, recurses := true, apart := false, narrowed := true }
def LettercostMoreUptoSaid : Prop := lettercostMoreUptoRow.holds Tryz.pinned (OpenSpec.upto lettercostMoreSpec)

/-- 'groovelaw41.LettercostEqual', WHERE WHAT IT READS IS OF BULK AT MOST 1048576: true; the input reads as it did. -/
def lettercostEqualUptoRow : OpenClaim := { program := "ytnaekjbbakofdaagreat", sum := "a1ad4a3343686c5941e571d4f40c56bdda7a832d6d0bc2ab66d1ea89cf6e248f", func := "groove/groovelaw41.LettercostEqual", spec := "lettercostEqual", inPlace := ["internal/bytealg.IndexByteString", "internal/bytealg.abigen_runtime_cmpstring", "slices.overlaps[int]"], unfollowed := true, recurses := true, apart := false, narrowed := true }
def LettercostEqualUptoSaid : Prop := lettercostEqualUptoRow.holds Tryz.pinned (OpenSpec.upto lettercostEqualSpec)

/-- 'groovelaw41.LettercostOrder', WHERE WHAT IT READS IS OF BULK AT MOST 1048576: true; the input reads as it did. -/
def lettercostOrderUptoRow : OpenClaim := { program := "ytnaekjbbakofdaagreat", sum := "a1ad4a3343686c5941e571d4f40c56bdda7a832d6d0bc2ab66d1ea89cf6e248f", func := "groove/groovelaw41.LettercostOrder", spec := "lettercostOrder", inPlace := ["internal/bytealg.IndexByteString", "internal/bytealg.abigen_runtime_cmpstring", "slices.overlaps[int]"], unfollowed := true, recurses := true, apart := false, narrowed := true }
def LettercostOrderUptoSaid : Prop := lettercostOrderUptoRow.holds Tryz.pinned (OpenSpec.upto lettercostOrderSpec)

/-- 'groovelaw41.LettercostWords', WHERE WHAT IT READS IS OF BULK AT MOST 1048576: true; the input reads as it did. -/
def lettercostWordsUptoRow : OpenClaim := { program := "ytnaekjbbakofdaagreat", sum := "a1ad4a3343686c5941e571d4f40c56bdda7a832d6d0bc2ab66d1ea89cf6e248f", func := "groove/groovelaw41.LettercostWords", spec := "lettercostWords", inPlace := ["internal/bytealg.IndexByteString", "internal/bytealg.abigen_runtime_cmpstring", "slices.overlaps[int]"], unfollowed := true, recurses := true, apart := false, narrowed := true }
def LettercostWordsUptoSaid : Prop := lettercostWordsUptoRow.holds Tryz.pinned (OpenSpec.upto lettercostWordsSpec)

/-- 'groovelaw41.LettercostBest', WHERE WHAT IT READS IS OF BULK AT MOST 1048576: true; the input reads as it did. -/
def lettercostBestUptoRow : OpenClaim := { program := "ytnaekjbbakofdaagreat", sum := "a1ad4a3343686c5941e571d4f40c56bdda7a832d6d0bc2ab66d1ea89cf6e248f", func := "groove/groovelaw41.LettercostBest", spec := "lettercostBest", inPlace := ["internal/bytealg.IndexByteString", "internal/bytealg.abigen_runtime_cmpstring", "slices.overlaps[int]"], unfollowed := true, recurses := true, apart := false, narrowed := true }
def LettercostBestUptoSaid : Prop := lettercostBestUptoRow.holds Tryz.pinned (OpenSpec.upto lettercostBestSpec)

/-- 'groovelaw41.LettercostChecks', WHERE WHAT IT READS IS OF BULK AT MOST 1048576: true; the input reads as it did. -/
def lettercostChecksUptoRow : OpenClaim := { program := "ytnaekjbbakofdaagreat", sum := "a1ad4a3343686c5941e571d4f40c56bdda7a832d6d0bc2ab66d1ea89cf6e248f", func := "groove/groovelaw41.LettercostChecks", spec := "lettercostChecks", inPlace := ["internal/bytealg.IndexByteString", "internal/bytealg.abigen_runtime_cmpstring", "slices.overlaps[int]"], unfollowed := true, recurses := true, apart := false, narrowed := true }
def LettercostChecksUptoSaid : Prop := lettercostChecksUptoRow.holds Tryz.pinned (OpenSpec.upto lettercostChecksSpec)

end Rows
end Go.Proofs.YtnaekjbbakofdaaGreat
