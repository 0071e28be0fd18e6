/-
  No cell of these rows narrows 'for every input' (looked for: loops, veiled, ifaces, maps, wideKeys, modest, calm, conditions, laid).
  DERIVED. THE GIVEN ROWS OF THIS SEAT. 6 by the template 'for every input the law returns true; each argument reads behind the call as it read before'; 0 by the template 'total and deterministic' (their statements: YtolopbodgkmenaaTotals.lean).
  GIVEN WITH THE SEED: the statements are not yours to turn. If you find one false, say at which input.
  Laid BY PROGRAM, IN A SANDBOX (cutbox-rows.mjs): the forced cells as the released guide's own fill.sh prints them over the translation 49121a7e128422aa… (all of the seat's roots in one cut). By AI agents, Wed Nov 11 2026. No macro, syntax, notation, axiom, sorry.
-/
import Derived.Test.YtolopbodgkmenaaChecked
import GoSem.Claim
import GoSem.ClaimJoined
import GoSem.ClaimMapViews
import Derived.JoinedTies
import Derived.KernelRfl
namespace Go.Proofs.Ytolopbodgkmenaa
/- THE CELL 'sum', in the pinned program and in every row, IS THE sha256 OF THE DUMP (.gsa) THAT YtolopbodgkmenaaProg.lean LOADS. Nothing in Lean hashes anything: it is a label: what it is worth is what the hold of that sum in a sandbox is worth. -/
noncomputable def Try.pinned : Pinned := { name := "ytolopbodgkmenaa", sum := "49121a7e128422aa4279133f2edf02cd49087d4c8c8c96732ba645970351f78e", checked := Try.checked }
namespace Rows
def none {H : Type} : Left H := { results := [], args := [] }

/-- 'groovelaw43.ParserBuilds': WHATEVER THE INPUT: true; the input reads as it did. -/
def parserBuildsSpec : ChangeSpec := { name := "parserBuilds", fn := fun _ => fun
  | [d1, d2] => { results := [.lit (.bool true)], args := [d1, d2] }
  | _ => none }
def parserBuildsRow : OpenClaim := { program := "ytolopbodgkmenaa", sum := "49121a7e128422aa4279133f2edf02cd49087d4c8c8c96732ba645970351f78e", func := "groove/groovelaw43.ParserBuilds", spec := "parserBuilds", inPlace := ["internal/bytealg.IndexByteString", "internal/bytealg.abigen_runtime_cmpstring"], unfollowed := true, recurses := true, apart := false }
def ParserBuildsSaid : Prop := parserBuildsRow.holds Try.pinned (OpenSpec.ofChange parserBuildsSpec)

/-- ITS FALSE NEIGHBOUR: 'it returns false'. Refute it at one input. -/
def parserBuildsWrong : ChangeSpec := { name := "parserBuilds", fn := fun _ => fun
  | [d1, d2] => { results := [.lit (.bool false)], args := [d1, d2] }
  | _ => none }
def ParserBuildsWrongFalsely : Prop := parserBuildsRow.holds Try.pinned (OpenSpec.ofChange parserBuildsWrong)

/-- 'groovelaw43.ParserStates': WHATEVER THE INPUT: true; the input reads as it did. -/
def parserStatesSpec : ChangeSpec := { name := "parserStates", fn := fun _ => fun
  | [d] => { results := [.lit (.bool true)], args := [d] }
  | _ => none }
def parserStatesRow : OpenClaim := { program := "ytolopbodgkmenaa", sum := "49121a7e128422aa4279133f2edf02cd49087d4c8c8c96732ba645970351f78e", func := "groove/groovelaw43.ParserStates", spec := "parserStates", inPlace := ["internal/bytealg.IndexByteString", "internal/bytealg.abigen_runtime_cmpstring"], unfollowed := true, recurses := true, apart := false }
def ParserStatesSaid : Prop := parserStatesRow.holds Try.pinned (OpenSpec.ofChange parserStatesSpec)

/-- ITS FALSE NEIGHBOUR: 'it returns false'. Refute it at one input. -/
def parserStatesWrong : ChangeSpec := { name := "parserStates", fn := fun _ => fun
  | [d] => { results := [.lit (.bool false)], args := [d] }
  | _ => none }
def ParserStatesWrongFalsely : Prop := parserStatesRow.holds Try.pinned (OpenSpec.ofChange parserStatesWrong)

/-- 'groovelaw43.ParserReads': WHATEVER THE INPUT: true; the input reads as it did. -/
def parserReadsSpec : ChangeSpec := { name := "parserReads", fn := fun _ => fun
  | [d1, d2, d3, d4, d5] => { results := [.lit (.bool true)], args := [d1, d2, d3, d4, d5] }
  | _ => none }
def parserReadsRow : OpenClaim := { program := "ytolopbodgkmenaa", sum := "49121a7e128422aa4279133f2edf02cd49087d4c8c8c96732ba645970351f78e", func := "groove/groovelaw43.ParserReads", spec := "parserReads", inPlace := ["internal/bytealg.IndexByteString", "internal/bytealg.abigen_runtime_cmpstring"], unfollowed := true, recurses := true, apart := false }
def ParserReadsSaid : Prop := parserReadsRow.holds Try.pinned (OpenSpec.ofChange parserReadsSpec)

/-- ITS FALSE NEIGHBOUR: 'it returns false'. Refute it at one input. -/
def parserReadsWrong : ChangeSpec := { name := "parserReads", fn := fun _ => fun
  | [d1, d2, d3, d4, d5] => { results := [.lit (.bool false)], args := [d1, d2, d3, d4, d5] }
  | _ => none }
def ParserReadsWrongFalsely : Prop := parserReadsRow.holds Try.pinned (OpenSpec.ofChange parserReadsWrong)

/-- 'groovelaw43.ParserMeaning': WHATEVER THE INPUT: true; the input reads as it did. -/
def parserMeaningSpec : ChangeSpec := { name := "parserMeaning", fn := fun _ => fun
  | [d1, d2] => { results := [.lit (.bool true)], args := [d1, d2] }
  | _ => none }
def parserMeaningRow : OpenClaim := { program := "ytolopbodgkmenaa", sum := "49121a7e128422aa4279133f2edf02cd49087d4c8c8c96732ba645970351f78e", func := "groove/groovelaw43.ParserMeaning", spec := "parserMeaning", inPlace := ["internal/bytealg.IndexByteString", "internal/bytealg.abigen_runtime_cmpstring", "internal/abi.NoEscape"], unfollowed := true, recurses := true, apart := false }
def ParserMeaningSaid : Prop := parserMeaningRow.holds Try.pinned (OpenSpec.ofChange parserMeaningSpec)

/-- ITS FALSE NEIGHBOUR: 'it returns false'. Refute it at one input. -/
def parserMeaningWrong : ChangeSpec := { name := "parserMeaning", fn := fun _ => fun
  | [d1, d2] => { results := [.lit (.bool false)], args := [d1, d2] }
  | _ => none }
def ParserMeaningWrongFalsely : Prop := parserMeaningRow.holds Try.pinned (OpenSpec.ofChange parserMeaningWrong)

/-- 'groovelaw43.ParserGreedy': WHATEVER THE INPUT: true; the input reads as it did. -/
def parserGreedySpec : ChangeSpec := { name := "parserGreedy", fn := fun _ => fun
  | [d1, d2, d3] => { results := [.lit (.bool true)], args := [d1, d2, d3] }
  | _ => none }
def parserGreedyRow : OpenClaim := { program := "ytolopbodgkmenaa", sum := "49121a7e128422aa4279133f2edf02cd49087d4c8c8c96732ba645970351f78e", func := "groove/groovelaw43.ParserGreedy", spec := "parserGreedy", inPlace := ["internal/bytealg.IndexByteString", "internal/bytealg.abigen_runtime_cmpstring", "internal/abi.NoEscape"], unfollowed := true, recurses := true, apart := false }
def ParserGreedySaid : Prop := parserGreedyRow.holds Try.pinned (OpenSpec.ofChange parserGreedySpec)

/-- ITS FALSE NEIGHBOUR: 'it returns false'. Refute it at one input. -/
def parserGreedyWrong : ChangeSpec := { name := "parserGreedy", fn := fun _ => fun
  | [d1, d2, d3] => { results := [.lit (.bool false)], args := [d1, d2, d3] }
  | _ => none }
def ParserGreedyWrongFalsely : Prop := parserGreedyRow.holds Try.pinned (OpenSpec.ofChange parserGreedyWrong)

/-- 'groovelaw43.ParserRuns': WHATEVER THE INPUT: true; the input reads as it did. -/
def parserRunsSpec : ChangeSpec := { name := "parserRuns", fn := fun _ => fun
  | [d1, d2, d3] => { results := [.lit (.bool true)], args := [d1, d2, d3] }
  | _ => none }
def parserRunsRow : OpenClaim := { program := "ytolopbodgkmenaa", sum := "49121a7e128422aa4279133f2edf02cd49087d4c8c8c96732ba645970351f78e", func := "groove/groovelaw43.ParserRuns", spec := "parserRuns", inPlace := ["internal/bytealg.IndexByteString", "internal/bytealg.abigen_runtime_cmpstring", "internal/abi.NoEscape"], unfollowed := true, recurses := true, apart := false }
def ParserRunsSaid : Prop := parserRunsRow.holds Try.pinned (OpenSpec.ofChange parserRunsSpec)

/-- ITS FALSE NEIGHBOUR: 'it returns false'. Refute it at one input. -/
def parserRunsWrong : ChangeSpec := { name := "parserRuns", fn := fun _ => fun
  | [d1, d2, d3] => { results := [.lit (.bool false)], args := [d1, d2, d3] }
  | _ => none }
def ParserRunsWrongFalsely : Prop := parserRunsRow.holds Try.pinned (OpenSpec.ofChange parserRunsWrong)

/- THE SECOND FORM. 'bulk': how many values and letters a reading holds, each counted each time it is reached (what is shared counts as often as it is met; a slice's spare places count too). A statement '..UptoSaid' is the law's where the arguments, and the package variables that the reading takes, are together of bulk at most 1048576: NARROWER than '..Said'. Prove '..Said' where nothing that the law and all that it calls make is longer than what came in: it says more and counts as full. Else prove '..UptoSaid'. A law counts once. -/
mutual
def uptoBulk {H : Type} : DataW H → Nat
  | .lit (.string bytes) => bytes.length + 1
  | .lit _ => 1
  | .nil => 1
  | .ptr d => uptoBulk d + 1
  | .slice elems spare => uptoBulkAll elems + uptoBulkAll spare + 1
  | .agg parts => uptoBulkAll parts + 1
  | .iface _ d => uptoBulk d + 1
  | .map entries => uptoBulkEntries entries + 1
  | .held _ => 1
def uptoBulkAll {H : Type} : List (DataW H) → Nat
  | [] => 0
  | d :: r => uptoBulk d + uptoBulkAll r
def uptoBulkEntries {H : Type} : List (Lit × DataW H) → Nat
  | [] => 0
  | x :: r => uptoBulkEntry x + uptoBulkEntries r
def uptoBulkEntry {H : Type} : Lit × DataW H → Nat
  | (.string bytes, d) => bytes.length + uptoBulk d + 1
  | (_, d) => uptoBulk d + 1
 end
def uptoSmall : (H : Type) → List (DataW H) → Bool := fun _ ds => decide (uptoBulkAll ds ≤ 1048576)
def OpenSpec.upto (s : _root_.Go.ChangeSpec) : _root_.Go.OpenSpec := { _root_.Go.OpenSpec.ofChange s with cond := some uptoSmall }

/-- 'groovelaw43.ParserBuilds', WHERE WHAT IT READS IS OF BULK AT MOST 1048576: true; the input reads as it did. -/
def parserBuildsUptoRow : OpenClaim := { program := "ytolopbodgkmenaa", sum := "49121a7e128422aa4279133f2edf02cd49087d4c8c8c96732ba645970351f78e", func := "groove/groovelaw43.ParserBuilds", spec := "parserBuilds", inPlace := ["internal/bytealg.IndexByteString", "internal/bytealg.abigen_runtime_cmpstring"], unfollowed := true, recurses := true, apart := false, narrowed := true }
def ParserBuildsUptoSaid : Prop := parserBuildsUptoRow.holds Try.pinned (OpenSpec.upto parserBuildsSpec)

/-- 'groovelaw43.ParserStates', WHERE WHAT IT READS IS OF BULK AT MOST 1048576: true; the input reads as it did. -/
def parserStatesUptoRow : OpenClaim := { program := "ytolopbodgkmenaa", sum := "49121a7e128422aa4279133f2edf02cd49087d4c8c8c96732ba645970351f78e", func := "groove/groovelaw43.ParserStates", spec := "parserStates", inPlace := ["internal/bytealg.IndexByteString", "internal/bytealg.abigen_runtime_cmpstring"], unfollowed := true, recurses := true, apart := false, narrowed := true }
def ParserStatesUptoSaid : Prop := parserStatesUptoRow.holds Try.pinned (OpenSpec.upto parserStatesSpec)

/-- 'groovelaw43.ParserReads', WHERE WHAT IT READS IS OF BULK AT MOST 1048576: true; the input reads as it did. -/
def parserReadsUptoRow : OpenClaim := { program := "ytolopbodgkmenaa", sum := "49121a7e128422aa4279133f2edf02cd49087d4c8c8c96732ba645970351f78e", func := "groove/groovelaw43.ParserReads", spec := "parserReads", inPlace := ["internal/bytealg.IndexByteString", "internal/bytealg.abigen_runtime_cmpstring"], unfollowed := true, recurses := true, apart := false, narrowed := true }
def ParserReadsUptoSaid : Prop := parserReadsUptoRow.holds Try.pinned (OpenSpec.upto parserReadsSpec)

/-- 'groovelaw43.ParserMeaning', WHERE WHAT IT READS IS OF BULK AT MOST 1048576: true; the input reads as it did. -/
def parserMeaningUptoRow : OpenClaim := { program := "ytolopbodgkmenaa", sum := "49121a7e128422aa4279133f2edf02cd49087d4c8c8c96732ba645970351f78e", func := "groove/groovelaw43.ParserMeaning", spec := "parserMeaning", inPlace := ["internal/bytealg.IndexByteString", "internal/bytealg.abigen_runtime_cmpstring", "internal/abi.NoEscape"], unfollowed := true, recurses := true, apart := false, narrowed := true }
def ParserMeaningUptoSaid : Prop := parserMeaningUptoRow.holds Try.pinned (OpenSpec.upto parserMeaningSpec)

/-- 'groovelaw43.ParserGreedy', WHERE WHAT IT READS IS OF BULK AT MOST 1048576: true; the input reads as it did. -/
def parserGreedyUptoRow : OpenClaim := { program := "ytolopbodgkmenaa", sum := "49121a7e128422aa4279133f2edf02cd49087d4c8c8c96732ba645970351f78e", func := "groove/groovelaw43.ParserGreedy", spec := "parserGreedy", inPlace := ["internal/bytealg.IndexByteString", "internal/bytealg.abigen_runtime_cmpstring", "internal/abi.NoEscape"], unfollowed := true, recurses := true, apart := false, narrowed := true }
def ParserGreedyUptoSaid : Prop := parserGreedyUptoRow.holds Try.pinned (OpenSpec.upto parserGreedySpec)

/-- 'groovelaw43.ParserRuns', WHERE WHAT IT READS IS OF BULK AT MOST 1048576: true; the input reads as it did. -/
def parserRunsUptoRow : OpenClaim := { program := "ytolopbodgkmenaa", sum := "49121a7e128422aa4279133f2edf02cd49087d4c8c8c96732ba645970351f78e", func := "groove/groovelaw43.ParserRuns", spec := "parserRuns", inPlace := ["internal/bytealg.IndexByteString", "internal/bytealg.abigen_runtime_cmpstring", "internal/abi.NoEscape"], unfollowed := true, recurses := true, apart := false, narrowed := true }
def ParserRunsUptoSaid : Prop := parserRunsUptoRow.holds Try.pinned (OpenSpec.upto parserRunsSpec)

end Rows
end Go.Proofs.Ytolopbodgkmenaa
