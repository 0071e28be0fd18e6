/-
  No cell of these rows narrows 'for every input' (looked for: loops, veiled, ifaces, maps, wideKeys, modest, calm, conditions, laid).
  DERIVED. THE GIVEN ROWS OF THIS SEAT. 8 by the template 'for every input the law returns true; each argument reads behind the call as it read before'; 0 by the template 'total and deterministic' (their statements: YtgkbafkmbokkaaaTotals.lean).
  GIVEN WITH THE SEED: the statements are not yours to turn. If you find one false, say at which input.
  Laid BY PROGRAM, IN A SANDBOX (cutbox-rows.mjs): the forced cells as the released guide's own fill.sh prints them over the translation 581053b745aefb40… (all of the seat's roots in one cut). By AI agents, Wed Nov 11 2026. No macro, syntax, notation, axiom, sorry.
-/
import Derived.Test.YtgkbafkmbokkaaaChecked
import GoSem.Claim
import GoSem.ClaimJoined
import GoSem.ClaimMapViews
import Derived.JoinedTies
import Derived.KernelRfl
namespace Go.Proofs.Ytgkbafkmbokkaaa
/- THE CELL 'sum', in the pinned program and in every row, IS THE sha256 OF THE DUMP (.gsa) THAT YtgkbafkmbokkaaaProg.lean LOADS. Nothing in Lean hashes anything: it is a label: what it is worth is what the hold of that sum in a sandbox is worth. -/
noncomputable def Try.pinned : Pinned := { name := "ytgkbafkmbokkaaa", sum := "581053b745aefb406500c90d33928c030e411ef89e908e188a8417aef7df2c3c", checked := Try.checked }
namespace Rows
def none {H : Type} : Left H := { results := [], args := [] }

/-- 'groovelaw33.CodeChecks': WHATEVER THE INPUT: true; the input reads as it did. -/
def codeChecksSpec : ChangeSpec := { name := "codeChecks", fn := fun _ => fun
  | [d1, d2, d3] => { results := [.lit (.bool true)], args := [d1, d2, d3] }
  | _ => none }
def codeChecksRow : OpenClaim := { program := "ytgkbafkmbokkaaa", sum := "581053b745aefb406500c90d33928c030e411ef89e908e188a8417aef7df2c3c", func := "groove/groovelaw33.CodeChecks", spec := "codeChecks", inPlace := ["internal/bytealg.abigen_runtime_cmpstring", "internal/bytealg.IndexByteString"], unfollowed := true, recurses := true, apart := false }
def CodeChecksSaid : Prop := codeChecksRow.holds Try.pinned (OpenSpec.ofChange codeChecksSpec)

/-- ITS FALSE NEIGHBOUR: 'it returns false'. Refute it at one input. -/
def codeChecksWrong : ChangeSpec := { name := "codeChecks", fn := fun _ => fun
  | [d1, d2, d3] => { results := [.lit (.bool false)], args := [d1, d2, d3] }
  | _ => none }
def CodeChecksWrongFalsely : Prop := codeChecksRow.holds Try.pinned (OpenSpec.ofChange codeChecksWrong)

/-- 'groovelaw33.CodeChanges': WHATEVER THE INPUT: true; the input reads as it did. -/
def codeChangesSpec : ChangeSpec := { name := "codeChanges", fn := fun _ => fun
  | [d1, d2] => { results := [.lit (.bool true)], args := [d1, d2] }
  | _ => none }
def codeChangesRow : OpenClaim := { program := "ytgkbafkmbokkaaa", sum := "581053b745aefb406500c90d33928c030e411ef89e908e188a8417aef7df2c3c", func := "groove/groovelaw33.CodeChanges", spec := "codeChanges", inPlace := ["internal/bytealg.abigen_runtime_cmpstring", "internal/bytealg.IndexByteString"], unfollowed := true, recurses := true, apart := false }
def CodeChangesSaid : Prop := codeChangesRow.holds Try.pinned (OpenSpec.ofChange codeChangesSpec)

/-- ITS FALSE NEIGHBOUR: 'it returns false'. Refute it at one input. -/
def codeChangesWrong : ChangeSpec := { name := "codeChanges", fn := fun _ => fun
  | [d1, d2] => { results := [.lit (.bool false)], args := [d1, d2] }
  | _ => none }
def CodeChangesWrongFalsely : Prop := codeChangesRow.holds Try.pinned (OpenSpec.ofChange codeChangesWrong)

/-- 'groovelaw33.CodeMakes': WHATEVER THE INPUT: true; the input reads as it did. -/
def codeMakesSpec : ChangeSpec := { name := "codeMakes", fn := fun _ => fun
  | [d1, d2] => { results := [.lit (.bool true)], args := [d1, d2] }
  | _ => none }
def codeMakesRow : OpenClaim := { program := "ytgkbafkmbokkaaa", sum := "581053b745aefb406500c90d33928c030e411ef89e908e188a8417aef7df2c3c", func := "groove/groovelaw33.CodeMakes", spec := "codeMakes", inPlace := ["internal/bytealg.abigen_runtime_cmpstring", "internal/bytealg.IndexByteString"], unfollowed := true, recurses := true, apart := false }
def CodeMakesSaid : Prop := codeMakesRow.holds Try.pinned (OpenSpec.ofChange codeMakesSpec)

/-- ITS FALSE NEIGHBOUR: 'it returns false'. Refute it at one input. -/
def codeMakesWrong : ChangeSpec := { name := "codeMakes", fn := fun _ => fun
  | [d1, d2] => { results := [.lit (.bool false)], args := [d1, d2] }
  | _ => none }
def CodeMakesWrongFalsely : Prop := codeMakesRow.holds Try.pinned (OpenSpec.ofChange codeMakesWrong)

/-- 'groovelaw33.CodePrefixes': WHATEVER THE INPUT: true; the input reads as it did. -/
def codePrefixesSpec : ChangeSpec := { name := "codePrefixes", fn := fun _ => fun
  | [d1, d2] => { results := [.lit (.bool true)], args := [d1, d2] }
  | _ => none }
def codePrefixesRow : OpenClaim := { program := "ytgkbafkmbokkaaa", sum := "581053b745aefb406500c90d33928c030e411ef89e908e188a8417aef7df2c3c", func := "groove/groovelaw33.CodePrefixes", spec := "codePrefixes", inPlace := ["internal/bytealg.abigen_runtime_cmpstring", "internal/bytealg.IndexByteString"], unfollowed := true, recurses := true, apart := false }
def CodePrefixesSaid : Prop := codePrefixesRow.holds Try.pinned (OpenSpec.ofChange codePrefixesSpec)

/-- ITS FALSE NEIGHBOUR: 'it returns false'. Refute it at one input. -/
def codePrefixesWrong : ChangeSpec := { name := "codePrefixes", fn := fun _ => fun
  | [d1, d2] => { results := [.lit (.bool false)], args := [d1, d2] }
  | _ => none }
def CodePrefixesWrongFalsely : Prop := codePrefixesRow.holds Try.pinned (OpenSpec.ofChange codePrefixesWrong)

/-- 'groovelaw33.CodeSums': WHATEVER THE INPUT: true; the input reads as it did. -/
def codeSumsSpec : ChangeSpec := { name := "codeSums", fn := fun _ => fun
  | [d1, d2, d3] => { results := [.lit (.bool true)], args := [d1, d2, d3] }
  | _ => none }
def codeSumsRow : OpenClaim := { program := "ytgkbafkmbokkaaa", sum := "581053b745aefb406500c90d33928c030e411ef89e908e188a8417aef7df2c3c", func := "groove/groovelaw33.CodeSums", spec := "codeSums", inPlace := ["internal/bytealg.abigen_runtime_cmpstring", "internal/bytealg.IndexByteString"], unfollowed := true, recurses := true, apart := false }
def CodeSumsSaid : Prop := codeSumsRow.holds Try.pinned (OpenSpec.ofChange codeSumsSpec)

/-- ITS FALSE NEIGHBOUR: 'it returns false'. Refute it at one input. -/
def codeSumsWrong : ChangeSpec := { name := "codeSums", fn := fun _ => fun
  | [d1, d2, d3] => { results := [.lit (.bool false)], args := [d1, d2, d3] }
  | _ => none }
def CodeSumsWrongFalsely : Prop := codeSumsRow.holds Try.pinned (OpenSpec.ofChange codeSumsWrong)

/-- 'groovelaw33.CodeReads': WHATEVER THE INPUT: true; the input reads as it did. -/
def codeReadsSpec : ChangeSpec := { name := "codeReads", fn := fun _ => fun
  | [d1, d2, d3] => { results := [.lit (.bool true)], args := [d1, d2, d3] }
  | _ => none }
def codeReadsRow : OpenClaim := { program := "ytgkbafkmbokkaaa", sum := "581053b745aefb406500c90d33928c030e411ef89e908e188a8417aef7df2c3c", func := "groove/groovelaw33.CodeReads", spec := "codeReads", inPlace := ["internal/bytealg.abigen_runtime_cmpstring", "internal/bytealg.IndexByteString", "internal/abi.NoEscape"], unfollowed := true, recurses := true, apart := false }
def CodeReadsSaid : Prop := codeReadsRow.holds Try.pinned (OpenSpec.ofChange codeReadsSpec)

/-- ITS FALSE NEIGHBOUR: 'it returns false'. Refute it at one input. -/
def codeReadsWrong : ChangeSpec := { name := "codeReads", fn := fun _ => fun
  | [d1, d2, d3] => { results := [.lit (.bool false)], args := [d1, d2, d3] }
  | _ => none }
def CodeReadsWrongFalsely : Prop := codeReadsRow.holds Try.pinned (OpenSpec.ofChange codeReadsWrong)

/-- 'groovelaw33.CodeComposes': WHATEVER THE INPUT: true; the input reads as it did. -/
def codeComposesSpec : ChangeSpec := { name := "codeComposes", fn := fun _ => fun
  | [d1, d2] => { results := [.lit (.bool true)], args := [d1, d2] }
  | _ => none }
def codeComposesRow : OpenClaim := { program := "ytgkbafkmbokkaaa", sum := "581053b745aefb406500c90d33928c030e411ef89e908e188a8417aef7df2c3c", func := "groove/groovelaw33.CodeComposes", spec := "codeComposes", inPlace := ["internal/bytealg.abigen_runtime_cmpstring", "internal/bytealg.IndexByteString", "internal/abi.NoEscape"], unfollowed := true, recurses := true, apart := false }
def CodeComposesSaid : Prop := codeComposesRow.holds Try.pinned (OpenSpec.ofChange codeComposesSpec)

/-- ITS FALSE NEIGHBOUR: 'it returns false'. Refute it at one input. -/
def codeComposesWrong : ChangeSpec := { name := "codeComposes", fn := fun _ => fun
  | [d1, d2] => { results := [.lit (.bool false)], args := [d1, d2] }
  | _ => none }
def CodeComposesWrongFalsely : Prop := codeComposesRow.holds Try.pinned (OpenSpec.ofChange codeComposesWrong)

/-- 'groovelaw33.CodeRounds': WHATEVER THE INPUT: true; the input reads as it did. -/
def codeRoundsSpec : ChangeSpec := { name := "codeRounds", fn := fun _ => fun
  | [d1, d2] => { results := [.lit (.bool true)], args := [d1, d2] }
  | _ => none }
def codeRoundsRow : OpenClaim := { program := "ytgkbafkmbokkaaa", sum := "581053b745aefb406500c90d33928c030e411ef89e908e188a8417aef7df2c3c", func := "groove/groovelaw33.CodeRounds", spec := "codeRounds", inPlace := ["internal/bytealg.abigen_runtime_cmpstring", "internal/bytealg.IndexByteString", "internal/abi.NoEscape"], unfollowed := true, recurses := true, apart := false }
def CodeRoundsSaid : Prop := codeRoundsRow.holds Try.pinned (OpenSpec.ofChange codeRoundsSpec)

/-- ITS FALSE NEIGHBOUR: 'it returns false'. Refute it at one input. -/
def codeRoundsWrong : ChangeSpec := { name := "codeRounds", fn := fun _ => fun
  | [d1, d2] => { results := [.lit (.bool false)], args := [d1, d2] }
  | _ => none }
def CodeRoundsWrongFalsely : Prop := codeRoundsRow.holds Try.pinned (OpenSpec.ofChange codeRoundsWrong)

/- THE SECOND FORM. 'bulk': how many values and letters a reading holds, each counted each time it is reached (what is shared counts as often as it is met; a slice's spare places count too). A statement '..UptoSaid' is the law's where the arguments, and the package variables that the reading takes, are together of bulk at most 1048576: NARROWER than '..Said'. Prove '..Said' where nothing that the law and all that it calls make is longer than what came in: it says more and counts as full. Else prove '..UptoSaid'. A law counts once. -/
mutual
def uptoBulk {H : Type} : DataW H → Nat
  | .lit (.string bytes) => bytes.length + 1
  | .lit _ => 1
  | .nil => 1
  | .ptr d => uptoBulk d + 1
  | .slice elems spare => uptoBulkAll elems + uptoBulkAll spare + 1
  | .agg parts => uptoBulkAll parts + 1
  | .iface _ d => uptoBulk d + 1
  | .map entries => uptoBulkEntries entries + 1
  | .held _ => 1
def uptoBulkAll {H : Type} : List (DataW H) → Nat
  | [] => 0
  | d :: r => uptoBulk d + uptoBulkAll r
def uptoBulkEntries {H : Type} : List (Lit × DataW H) → Nat
  | [] => 0
  | x :: r => uptoBulkEntry x + uptoBulkEntries r
def uptoBulkEntry {H : Type} : Lit × DataW H → Nat
  | (.string bytes, d) => bytes.length + uptoBulk d + 1
  | (_, d) => uptoBulk d + 1
 end
def uptoSmall : (H : Type) → List (DataW H) → Bool := fun _ ds => decide (uptoBulkAll ds ≤ 1048576)
def OpenSpec.upto (s : _root_.Go.ChangeSpec) : _root_.Go.OpenSpec := { _root_.Go.OpenSpec.ofChange s with cond := some uptoSmall }

/-- 'groovelaw33.CodeChecks', WHERE WHAT IT READS IS OF BULK AT MOST 1048576: true; the input reads as it did. -/
def codeChecksUptoRow : OpenClaim := { program := "ytgkbafkmbokkaaa", sum := "581053b745aefb406500c90d33928c030e411ef89e908e188a8417aef7df2c3c", func := "groove/groovelaw33.CodeChecks", spec := "codeChecks", inPlace := ["internal/bytealg.abigen_runtime_cmpstring", "internal/bytealg.IndexByteString"], unfollowed := true, recurses := true, apart := false, narrowed := true }
def CodeChecksUptoSaid : Prop := codeChecksUptoRow.holds Try.pinned (OpenSpec.upto codeChecksSpec)

/-- 'groovelaw33.CodeChanges', WHERE WHAT IT READS IS OF BULK AT MOST 1048576: true; the input reads as it did. -/
def codeChangesUptoRow : OpenClaim := { program := "ytgkbafkmbokkaaa", sum := "581053b745aefb406500c90d33928c030e411ef89e908e188a8417aef7df2c3c", func := "groove/groovelaw33.CodeChanges", spec := "codeChanges", inPlace := ["internal/bytealg.abigen_runtime_cmpstring", "internal/bytealg.IndexByteString"], unfollowed := true, recurses := true, apart := false, narrowed := true }
def CodeChangesUptoSaid : Prop := codeChangesUptoRow.holds Try.pinned (OpenSpec.upto codeChangesSpec)

/-- 'groovelaw33.CodeMakes', WHERE WHAT IT READS IS OF BULK AT MOST 1048576: true; the input reads as it did. -/
def codeMakesUptoRow : OpenClaim := { program := "ytgkbafkmbokkaaa", sum := "581053b745aefb406500c90d33928c030e411ef89e908e188a8417aef7df2c3c", func := "groove/groovelaw33.CodeMakes", spec := "codeMakes", inPlace := ["internal/bytealg.abigen_runtime_cmpstring", "internal/bytealg.IndexByteString"], unfollowed := true, recurses := true, apart := false, narrowed := true }
def CodeMakesUptoSaid : Prop := codeMakesUptoRow.holds Try.pinned (OpenSpec.upto codeMakesSpec)

/-- 'groovelaw33.CodePrefixes', WHERE WHAT IT READS IS OF BULK AT MOST 1048576: true; the input reads as it did. -/
def codePrefixesUptoRow : OpenClaim := { program := "ytgkbafkmbokkaaa", sum := "581053b745aefb406500c90d33928c030e411ef89e908e188a8417aef7df2c3c", func := "groove/groovelaw33.CodePrefixes", spec := "codePrefixes", inPlace := ["internal/bytealg.abigen_runtime_cmpstring", "internal/bytealg.IndexByteString"], unfollowed := true, recurses := true, apart := false, narrowed := true }
def CodePrefixesUptoSaid : Prop := codePrefixesUptoRow.holds Try.pinned (OpenSpec.upto codePrefixesSpec)

/-- 'groovelaw33.CodeSums', WHERE WHAT IT READS IS OF BULK AT MOST 1048576: true; the input reads as it did. -/
def codeSumsUptoRow : OpenClaim := { program := "ytgkbafkmbokkaaa", sum := "581053b745aefb406500c90d33928c030e411ef89e908e188a8417aef7df2c3c", func := "groove/groovelaw33.CodeSums", spec := "codeSums", inPlace := ["internal/bytealg.abigen_runtime_cmpstring", "internal/bytealg.IndexByteString"], unfollowed := true, recurses := true, apart := false, narrowed := true }
def CodeSumsUptoSaid : Prop := codeSumsUptoRow.holds Try.pinned (OpenSpec.upto codeSumsSpec)

/-- 'groovelaw33.CodeReads', WHERE WHAT IT READS IS OF BULK AT MOST 1048576: true; the input reads as it did. -/
def codeReadsUptoRow : OpenClaim := { program := "ytgkbafkmbokkaaa", sum := "581053b745aefb406500c90d33928c030e411ef89e908e188a8417aef7df2c3c", func := "groove/groovelaw33.CodeReads", spec := "codeReads", inPlace := ["internal/bytealg.abigen_runtime_cmpstring", "internal/bytealg.IndexByteString", "internal/abi.NoEscape"], unfollowed := true, recurses := true, apart := false, narrowed := true }
def CodeReadsUptoSaid : Prop := codeReadsUptoRow.holds Try.pinned (OpenSpec.upto codeReadsSpec)

/-- 'groovelaw33.CodeComposes', WHERE WHAT IT READS IS OF BULK AT MOST 1048576: true; the input reads as it did. -/
def codeComposesUptoRow : OpenClaim := { program := "ytgkbafkmbokkaaa", sum := "581053b745aefb406500c90d33928c030e411ef89e908e188a8417aef7df2c3c", func := "groove/groovelaw33.CodeComposes", spec := "codeComposes", inPlace := ["internal/bytealg.abigen_runtime_cmpstring", "internal/bytealg.IndexByteString", "internal/abi.NoEscape"], unfollowed := true, recurses := true, apart := false, narrowed := true }
def CodeComposesUptoSaid : Prop := codeComposesUptoRow.holds Try.pinned (OpenSpec.upto codeComposesSpec)

/-- 'groovelaw33.CodeRounds', WHERE WHAT IT READS IS OF BULK AT MOST 1048576: true; the input reads as it did. -/
def codeRoundsUptoRow : OpenClaim := { program := "ytgkbafkmbokkaaa", sum := "581053b745aefb406500c90d33928c030e411ef89e908e188a8417aef7df2c3c", func := "groove/groovelaw33.CodeRounds", spec := "codeRounds", inPlace := ["internal/bytealg.abigen_runtime_cmpstring", "internal/bytealg.IndexByteString", "internal/abi.NoEscape"], unfollowed := true, recurses := true, apart := false, narrowed := true }
def CodeRoundsUptoSaid : Prop := codeRoundsUptoRow.holds Try.pinned (OpenSpec.upto codeRoundsSpec)

end Rows
end Go.Proofs.Ytgkbafkmbokkaaa
