/-
  No cell of these rows narrows 'for every input' (looked for: loops, veiled, ifaces, maps, wideKeys, modest, calm, conditions, laid).
  DERIVED. THE GIVEN ROWS OF THIS SEAT. 9 by the template 'for every input the law returns true; each argument reads behind the call as it read before'; 0 by the template 'total and deterministic' (their statements: YtpljmccnfmkmfaaGreatTotals.lean).
  GIVEN WITH THE SEED: the statements are not yours to turn. If you find one false, say at which input.
  Laid BY PROGRAM, IN A SANDBOX (cutbox-rows.mjs): the forced cells as the released guide's own fill.sh prints them over the translation 2c5c1849193b6f2e… (all of the seat's roots in one cut). By AI agents, Wed Nov 11 2026. No macro, syntax, notation, axiom, sorry.
-/
import Derived.Test.YtpljmccnfmkmfaaGreatChecked
import GoSem.Claim
import GoSem.ClaimJoined
import GoSem.ClaimMapViews
import Derived.JoinedTies
import Derived.KernelRfl
namespace Go.Proofs.YtpljmccnfmkmfaaGreat
/- THE CELL 'sum', in the pinned program and in every row, IS THE sha256 OF THE DUMP (.gsa) THAT YtpljmccnfmkmfaaGreatProg.lean LOADS. Nothing in Lean hashes anything: it is a label: what it is worth is what the hold of that sum in a sandbox is worth. -/
noncomputable def Tryz.pinned : Pinned := { name := "ytpljmccnfmkmfaagreat", sum := "2c5c1849193b6f2e06e1a627428ef8e00313dd805aa67288dbbbb08a949f4ecc", checked := Tryz.checked }
namespace Rows
def none {H : Type} : Left H := { results := [], args := [] }

/-- 'groovelaw37.CompletionWords': WHATEVER THE INPUT: true; the input reads as it did. -/
def completionWordsSpec : ChangeSpec := { name := "completionWords", fn := fun _ => fun
  | [d1, d2] => { results := [.lit (.bool true)], args := [d1, d2] }
  | _ => none }
def completionWordsRow : OpenClaim := { program := "ytpljmccnfmkmfaagreat", sum := "2c5c1849193b6f2e06e1a627428ef8e00313dd805aa67288dbbbb08a949f4ecc", func := "groove/groovelaw37.CompletionWords", spec := "completionWords", inPlace := ["internal/bytealg.IndexByteString", "internal/bytealg.abigen_runtime_cmpstring"], unfollowed := true, recurses := true, apart := false }
def CompletionWordsSaid : Prop := completionWordsRow.holds Tryz.pinned (OpenSpec.ofChange completionWordsSpec)

/-- ITS FALSE NEIGHBOUR: 'it returns false'. Refute it at one input. -/
def completionWordsWrong : ChangeSpec := { name := "completionWords", fn := fun _ => fun
  | [d1, d2] => { results := [.lit (.bool false)], args := [d1, d2] }
  | _ => none }
def CompletionWordsWrongFalsely : Prop := completionWordsRow.holds Tryz.pinned (OpenSpec.ofChange completionWordsWrong)

/-- 'groovelaw37.CompletionLengths': WHATEVER THE INPUT: true; the input reads as it did. -/
def completionLengthsSpec : ChangeSpec := { name := "completionLengths", fn := fun _ => fun
  | [d1, d2, d3] => { results := [.lit (.bool true)], args := [d1, d2, d3] }
  | _ => none }
def completionLengthsRow : OpenClaim := { program := "ytpljmccnfmkmfaagreat", sum := "2c5c1849193b6f2e06e1a627428ef8e00313dd805aa67288dbbbb08a949f4ecc", func := "groove/groovelaw37.CompletionLengths", spec := "completionLengths", inPlace := ["internal/bytealg.IndexByteString", "internal/bytealg.abigen_runtime_cmpstring"], unfollowed := true, recurses := true, apart := false }
def CompletionLengthsSaid : Prop := completionLengthsRow.holds Tryz.pinned (OpenSpec.ofChange completionLengthsSpec)

/-- ITS FALSE NEIGHBOUR: 'it returns false'. Refute it at one input. -/
def completionLengthsWrong : ChangeSpec := { name := "completionLengths", fn := fun _ => fun
  | [d1, d2, d3] => { results := [.lit (.bool false)], args := [d1, d2, d3] }
  | _ => none }
def CompletionLengthsWrongFalsely : Prop := completionLengthsRow.holds Tryz.pinned (OpenSpec.ofChange completionLengthsWrong)

/-- 'groovelaw36.MeasureFactors': WHATEVER THE INPUT: true; the input reads as it did. -/
def measureFactorsSpec : ChangeSpec := { name := "measureFactors", fn := fun _ => fun
  | [d1, d2, d3] => { results := [.lit (.bool true)], args := [d1, d2, d3] }
  | _ => none }
def measureFactorsRow : OpenClaim := { program := "ytpljmccnfmkmfaagreat", sum := "2c5c1849193b6f2e06e1a627428ef8e00313dd805aa67288dbbbb08a949f4ecc", func := "groove/groovelaw36.MeasureFactors", spec := "measureFactors", inPlace := ["internal/bytealg.IndexByteString", "internal/bytealg.abigen_runtime_cmpstring", "internal/abi.NoEscape", "internal/bytealg.MakeNoZero"], unfollowed := true, recurses := true, apart := false }
def MeasureFactorsSaid : Prop := measureFactorsRow.holds Tryz.pinned (OpenSpec.ofChange measureFactorsSpec)

/-- ITS FALSE NEIGHBOUR: 'it returns false'. Refute it at one input. -/
def measureFactorsWrong : ChangeSpec := { name := "measureFactors", fn := fun _ => fun
  | [d1, d2, d3] => { results := [.lit (.bool false)], args := [d1, d2, d3] }
  | _ => none }
def MeasureFactorsWrongFalsely : Prop := measureFactorsRow.holds Tryz.pinned (OpenSpec.ofChange measureFactorsWrong)

/-- 'groovelaw36.MeasureUncompletable': WHATEVER THE INPUT: true; the input reads as it did. -/
def measureUncompletableSpec : ChangeSpec := { name := "measureUncompletable", fn := fun _ => fun
  | [d1, d2] => { results := [.lit (.bool true)], args := [d1, d2] }
  | _ => none }
def measureUncompletableRow : OpenClaim := { program := "ytpljmccnfmkmfaagreat", sum := "2c5c1849193b6f2e06e1a627428ef8e00313dd805aa67288dbbbb08a949f4ecc", func := "groove/groovelaw36.MeasureUncompletable", spec := "measureUncompletable", inPlace := ["internal/bytealg.IndexByteString", "internal/bytealg.abigen_runtime_cmpstring", "internal/abi.NoEscape", "internal/bytealg.MakeNoZero"], unfollowed := true, recurses := true, apart := false }
def MeasureUncompletableSaid : Prop := measureUncompletableRow.holds Tryz.pinned (OpenSpec.ofChange measureUncompletableSpec)

/-- ITS FALSE NEIGHBOUR: 'it returns false'. Refute it at one input. -/
def measureUncompletableWrong : ChangeSpec := { name := "measureUncompletable", fn := fun _ => fun
  | [d1, d2] => { results := [.lit (.bool false)], args := [d1, d2] }
  | _ => none }
def MeasureUncompletableWrongFalsely : Prop := measureUncompletableRow.holds Tryz.pinned (OpenSpec.ofChange measureUncompletableWrong)

/-- 'groovelaw36.MeasureAdded': WHATEVER THE INPUT: true; the input reads as it did. -/
def measureAddedSpec : ChangeSpec := { name := "measureAdded", fn := fun _ => fun
  | [d1, d2] => { results := [.lit (.bool true)], args := [d1, d2] }
  | _ => none }
def measureAddedRow : OpenClaim := { program := "ytpljmccnfmkmfaagreat", sum := "2c5c1849193b6f2e06e1a627428ef8e00313dd805aa67288dbbbb08a949f4ecc", func := "groove/groovelaw36.MeasureAdded", spec := "measureAdded", inPlace := ["internal/bytealg.IndexByteString", "internal/bytealg.abigen_runtime_cmpstring", "internal/abi.NoEscape", "internal/bytealg.MakeNoZero"], unfollowed := true, recurses := true, apart := false }
def MeasureAddedSaid : Prop := measureAddedRow.holds Tryz.pinned (OpenSpec.ofChange measureAddedSpec)

/-- ITS FALSE NEIGHBOUR: 'it returns false'. Refute it at one input. -/
def measureAddedWrong : ChangeSpec := { name := "measureAdded", fn := fun _ => fun
  | [d1, d2] => { results := [.lit (.bool false)], args := [d1, d2] }
  | _ => none }
def MeasureAddedWrongFalsely : Prop := measureAddedRow.holds Tryz.pinned (OpenSpec.ofChange measureAddedWrong)

/-- 'groovelaw36.MeasureSums': WHATEVER THE INPUT: true; the input reads as it did. -/
def measureSumsSpec : ChangeSpec := { name := "measureSums", fn := fun _ => fun
  | [d1, d2, d3, d4] => { results := [.lit (.bool true)], args := [d1, d2, d3, d4] }
  | _ => none }
def measureSumsRow : OpenClaim := { program := "ytpljmccnfmkmfaagreat", sum := "2c5c1849193b6f2e06e1a627428ef8e00313dd805aa67288dbbbb08a949f4ecc", func := "groove/groovelaw36.MeasureSums", spec := "measureSums", inPlace := ["internal/bytealg.IndexByteString", "internal/bytealg.abigen_runtime_cmpstring", "internal/abi.NoEscape", "internal/bytealg.MakeNoZero"], unfollowed := true, recurses := true, apart := false }
def MeasureSumsSaid : Prop := measureSumsRow.holds Tryz.pinned (OpenSpec.ofChange measureSumsSpec)

/-- ITS FALSE NEIGHBOUR: 'it returns false'. Refute it at one input. -/
def measureSumsWrong : ChangeSpec := { name := "measureSums", fn := fun _ => fun
  | [d1, d2, d3, d4] => { results := [.lit (.bool false)], args := [d1, d2, d3, d4] }
  | _ => none }
def MeasureSumsWrongFalsely : Prop := measureSumsRow.holds Tryz.pinned (OpenSpec.ofChange measureSumsWrong)

/-- 'groovelaw36.MeasureDecodable': WHATEVER THE INPUT: true; the input reads as it did. -/
def measureDecodableSpec : ChangeSpec := { name := "measureDecodable", fn := fun _ => fun
  | [d1, d2] => { results := [.lit (.bool true)], args := [d1, d2] }
  | _ => none }
def measureDecodableRow : OpenClaim := { program := "ytpljmccnfmkmfaagreat", sum := "2c5c1849193b6f2e06e1a627428ef8e00313dd805aa67288dbbbb08a949f4ecc", func := "groove/groovelaw36.MeasureDecodable", spec := "measureDecodable", inPlace := ["internal/bytealg.IndexByteString", "internal/bytealg.abigen_runtime_cmpstring", "internal/abi.NoEscape", "internal/bytealg.MakeNoZero"], unfollowed := true, recurses := true, apart := false }
def MeasureDecodableSaid : Prop := measureDecodableRow.holds Tryz.pinned (OpenSpec.ofChange measureDecodableSpec)

/-- ITS FALSE NEIGHBOUR: 'it returns false'. Refute it at one input. -/
def measureDecodableWrong : ChangeSpec := { name := "measureDecodable", fn := fun _ => fun
  | [d1, d2] => { results := [.lit (.bool false)], args := [d1, d2] }
  | _ => none }
def MeasureDecodableWrongFalsely : Prop := measureDecodableRow.holds Tryz.pinned (OpenSpec.ofChange measureDecodableWrong)

/-- 'groovelaw36.MeasureMaximal': WHATEVER THE INPUT: true; the input reads as it did. -/
def measureMaximalSpec : ChangeSpec := { name := "measureMaximal", fn := fun _ => fun
  | [d1, d2] => { results := [.lit (.bool true)], args := [d1, d2] }
  | _ => none }
def measureMaximalRow : OpenClaim := { program := "ytpljmccnfmkmfaagreat", sum := "2c5c1849193b6f2e06e1a627428ef8e00313dd805aa67288dbbbb08a949f4ecc", func := "groove/groovelaw36.MeasureMaximal", spec := "measureMaximal", inPlace := ["internal/bytealg.IndexByteString", "internal/bytealg.abigen_runtime_cmpstring", "internal/abi.NoEscape", "internal/bytealg.MakeNoZero"], unfollowed := true, recurses := true, apart := false }
def MeasureMaximalSaid : Prop := measureMaximalRow.holds Tryz.pinned (OpenSpec.ofChange measureMaximalSpec)

/-- ITS FALSE NEIGHBOUR: 'it returns false'. Refute it at one input. -/
def measureMaximalWrong : ChangeSpec := { name := "measureMaximal", fn := fun _ => fun
  | [d1, d2] => { results := [.lit (.bool false)], args := [d1, d2] }
  | _ => none }
def MeasureMaximalWrongFalsely : Prop := measureMaximalRow.holds Tryz.pinned (OpenSpec.ofChange measureMaximalWrong)

/-- 'groovelaw36.MeasureParts': WHATEVER THE INPUT: true; the input reads as it did. -/
def measurePartsSpec : ChangeSpec := { name := "measureParts", fn := fun _ => fun
  | [d1, d2, d3, d4, d5] => { results := [.lit (.bool true)], args := [d1, d2, d3, d4, d5] }
  | _ => none }
def measurePartsRow : OpenClaim := { program := "ytpljmccnfmkmfaagreat", sum := "2c5c1849193b6f2e06e1a627428ef8e00313dd805aa67288dbbbb08a949f4ecc", func := "groove/groovelaw36.MeasureParts", spec := "measureParts", inPlace := ["internal/bytealg.IndexByteString", "internal/bytealg.abigen_runtime_cmpstring", "internal/abi.NoEscape", "internal/bytealg.MakeNoZero"], unfollowed := true, recurses := true, apart := false }
def MeasurePartsSaid : Prop := measurePartsRow.holds Tryz.pinned (OpenSpec.ofChange measurePartsSpec)

/-- ITS FALSE NEIGHBOUR: 'it returns false'. Refute it at one input. -/
def measurePartsWrong : ChangeSpec := { name := "measureParts", fn := fun _ => fun
  | [d1, d2, d3, d4, d5] => { results := [.lit (.bool false)], args := [d1, d2, d3, d4, d5] }
  | _ => none }
def MeasurePartsWrongFalsely : Prop := measurePartsRow.holds Tryz.pinned (OpenSpec.ofChange measurePartsWrong)

/- THE SECOND FORM. 'bulk': how many values and letters a reading holds, each counted each time it is reached (what is shared counts as often as it is met; a slice's spare places count too). A statement '..UptoSaid' is the law's where the arguments, and the package variables that the reading takes, are together of bulk at most 1048576: NARROWER than '..Said'. Prove '..Said' where nothing that the law and all that it calls make is longer than what came in: it says more and counts as full. Else prove '..UptoSaid'. A law counts once. -/
mutual
def uptoBulk {H : Type} : DataW H → Nat
  | .lit (.string bytes) => bytes.length + 1
  | .lit _ => 1
  | .nil => 1
  | .ptr d => uptoBulk d + 1
  | .slice elems spare => uptoBulkAll elems + uptoBulkAll spare + 1
  | .agg parts => uptoBulkAll parts + 1
  | .iface _ d => uptoBulk d + 1
  | .map entries => uptoBulkEntries entries + 1
  | .held _ => 1
def uptoBulkAll {H : Type} : List (DataW H) → Nat
  | [] => 0
  | d :: r => uptoBulk d + uptoBulkAll r
def uptoBulkEntries {H : Type} : List (Lit × DataW H) → Nat
  | [] => 0
  | x :: r => uptoBulkEntry x + uptoBulkEntries r
def uptoBulkEntry {H : Type} : Lit × DataW H → Nat
  | (.string bytes, d) => bytes.length + uptoBulk d + 1
  | (_, d) => uptoBulk d + 1
 end
def uptoSmall : (H : Type) → List (DataW H) → Bool := fun _ ds => decide (uptoBulkAll ds ≤ 1048576)
def OpenSpec.upto (s : _root_.Go.ChangeSpec) : _root_.Go.OpenSpec := { _root_.Go.OpenSpec.ofChange s with cond := some uptoSmall }

/-- 'groovelaw37.CompletionWords', WHERE WHAT IT READS IS OF BULK AT MOST 1048576: true; the input reads as it did. -/
def completionWordsUptoRow : OpenClaim := { program := "ytpljmccnfmkmfaagreat", sum := "2c5c1849193b6f2e06e1a627428ef8e00313dd805aa67288dbbbb08a949f4ecc", func := "groove/groovelaw37.CompletionWords", spec := "completionWords", inPlace := ["internal/bytealg.IndexByteString", "internal/bytealg.abigen_runtime_cmpstring"], unfollowed := true, recurses := true, apart := false, narrowed := true }
def CompletionWordsUptoSaid : Prop := completionWordsUptoRow.holds Tryz.pinned (OpenSpec.upto completionWordsSpec)

/-- 'groovelaw37.CompletionLengths', WHERE WHAT IT READS IS OF BULK AT MOST 1048576: true; the input reads as it did. -/
def completionLengthsUptoRow : OpenClaim := { program := "ytpljmccnfmkmfaagreat", sum := "2c5c1849193b6f2e06e1a627428ef8e00313dd805aa67288dbbbb08a949f4ecc", func := "groove/groovelaw37.CompletionLengths", spec := "completionLengths", inPlace := ["internal/bytealg.IndexByteString", "internal/bytealg.abigen_runtime_cmpstring"], unfollowed := true, recurses := true, apart := false, narrowed := true }
def CompletionLengthsUptoSaid : Prop := completionLengthsUptoRow.holds Tryz.pinned (OpenSpec.upto completionLengthsSpec)

/-- 'groovelaw36.MeasureFactors', WHERE WHAT IT READS IS OF BULK AT MOST 1048576: true; the input reads as it did. -/
def measureFactorsUptoRow : OpenClaim := { program := "ytpljmccnfmkmfaagreat", sum := "2c5c1849193b6f2e06e1a627428ef8e00313dd805aa67288dbbbb08a949f4ecc", func := "groove/groovelaw36.MeasureFactors", spec := "measureFactors", inPlace := ["internal/bytealg.IndexByteString", "internal/bytealg.abigen_runtime_cmpstring", "internal/abi.NoEscape", "internal/bytealg.MakeNoZero"], unfollowed := true, recurses := true, apart := false, narrowed := true }
def MeasureFactorsUptoSaid : Prop := measureFactorsUptoRow.holds Tryz.pinned (OpenSpec.upto measureFactorsSpec)

/-- 'groovelaw36.MeasureUncompletable', WHERE WHAT IT READS IS OF BULK AT MOST 1048576: true; the input reads as it did. -/
def measureUncompletableUptoRow : OpenClaim := { program := "ytpljmccnfmkmfaagreat", sum := "2c5c1849193b6f2e06e1a627428ef8e00313dd805aa67288dbbbb08a949f4ecc", func := "groove/groovelaw36.MeasureUncompletable", spec := "measureUncompletable", inPlace := ["internal/bytealg.IndexByteString", "internal/bytealg.abigen_runtime_cmpstring", "internal/abi.NoEscape", "internal/bytealg.MakeNoZero"], unfollowed := true, recurses := true, apart := false, narrowed := true }
def MeasureUncompletableUptoSaid : Prop := measureUncompletableUptoRow.holds Tryz.pinned (OpenSpec.upto measureUncompletableSpec)

/-- 'groovelaw36.MeasureAdded', WHERE WHAT IT READS IS OF BULK AT MOST 1048576: true; the input reads as it did. -/
def measureAddedUptoRow : OpenClaim := { program := "ytpljmccnfmkmfaagreat", sum := "2c5c1849193b6f2e06e1a627428ef8e00313dd805aa67288dbbbb08a949f4ecc", func := "groove/groovelaw36.MeasureAdded", spec := "measureAdded", inPlace := ["internal/bytealg.IndexByteString", "internal/bytealg.abigen_runtime_cmpstring", "internal/abi.NoEscape", "internal/bytealg.MakeNoZero"], unfollowed := true, recurses := true, apart := false, narrowed := true }
def MeasureAddedUptoSaid : Prop := measureAddedUptoRow.holds Tryz.pinned (OpenSpec.upto measureAddedSpec)

/-- 'groovelaw36.MeasureSums', WHERE WHAT IT READS IS OF BULK AT MOST 1048576: true; the input reads as it did. -/
def measureSumsUptoRow : OpenClaim := { program := "ytpljmccnfmkmfaagreat", sum := "2c5c1849193b6f2e06e1a627428ef8e00313dd805aa67288dbbbb08a949f4ecc", func := "groove/groovelaw36.MeasureSums", spec := "measureSums", inPlace := ["internal/bytealg.IndexByteString", "internal/bytealg.abigen_runtime_cmpstring", "internal/abi.NoEscape", "internal/bytealg.MakeNoZero"], unfollowed := true, recurses := true, apart := false, narrowed := true }
def MeasureSumsUptoSaid : Prop := measureSumsUptoRow.holds Tryz.pinned (OpenSpec.upto measureSumsSpec)

/-- 'groovelaw36.MeasureDecodable', WHERE WHAT IT READS IS OF BULK AT MOST 1048576: true; the input reads as it did. -/
def measureDecodableUptoRow : OpenClaim := { program := "ytpljmccnfmkmfaagreat", sum := "2c5c1849193b6f2e06e1a627428ef8e00313dd805aa67288dbbbb08a949f4ecc", func := "groove/groovelaw36.MeasureDecodable", spec := "measureDecodable", inPlace := ["internal/bytealg.IndexByteString", "internal/bytealg.abigen_runtime_cmpstring", "internal/abi.NoEscape", "internal/bytealg.MakeNoZero"], unfollowed := true, recurses := true, apart := false, narrowed := true }
def MeasureDecodableUptoSaid : Prop := measureDecodableUptoRow.holds Tryz.pinned (OpenSpec.upto measureDecodableSpec)

/-- 'groovelaw36.MeasureMaximal', WHERE WHAT IT READS IS OF BULK AT MOST 1048576: true; the input reads as it did. -/
def measureMaximalUptoRow : OpenClaim := { program := "ytpljmccnfmkmfaagreat", sum := "2c5c1849193b6f2e06e1a627428ef8e00313dd805aa67288dbbbb08a949f4ecc", func := "groove/groovelaw36.MeasureMaximal", spec := "measureMaximal", inPlace := ["internal/bytealg.IndexByteString", "internal/bytealg.abigen_runtime_cmpstring", "internal/abi.NoEscape", "internal/bytealg.MakeNoZero"], unfollowed := true, recurses := true, apart := false, narrowed := true }
def MeasureMaximalUptoSaid : Prop := measureMaximalUptoRow.holds Tryz.pinned (OpenSpec.upto measureMaximalSpec)

/-- 'groovelaw36.MeasureParts', WHERE WHAT IT READS IS OF BULK AT MOST 1048576: true; the input reads as it did. -/
def measurePartsUptoRow : OpenClaim := { program := "ytpljmccnfmkmfaagreat", sum := "2c5c1849193b6f2e06e1a627428ef8e00313dd805aa67288dbbbb08a949f4ecc", func := "groove/groovelaw36.MeasureParts", spec := "measureParts", inPlace := ["internal/bytealg.IndexByteString", "internal/bytealg.abigen_runtime_cmpstring", "internal/abi.NoEscape", "internal/bytealg.MakeNoZero"], unfollowed := true, recurses := true, apart := false, narrowed := true }
def MeasurePartsUptoSaid : Prop := measurePartsUptoRow.holds Tryz.pinned (OpenSpec.upto measurePartsSpec)

end Rows
end Go.Proofs.YtpljmccnfmkmfaaGreat
