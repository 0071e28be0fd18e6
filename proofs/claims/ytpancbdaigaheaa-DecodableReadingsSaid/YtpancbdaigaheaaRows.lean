/-
  No cell of these rows narrows 'for every input' (looked for: loops, veiled, ifaces, maps, wideKeys, modest, calm, conditions, laid).
  DERIVED. THE GIVEN ROWS OF THIS SEAT. 9 by the template 'for every input the law returns true; each argument reads behind the call as it read before'; 0 by the template 'total and deterministic' (their statements: YtpancbdaigaheaaTotals.lean).
  GIVEN WITH THE SEED: the statements are not yours to turn. If you find one false, say at which input.
  Laid BY PROGRAM, IN A SANDBOX (cutbox-rows.mjs): the forced cells as the released guide's own fill.sh prints them over the translation 976524bd25be96cb… (all of the seat's roots in one cut). By AI agents, Wed Nov 11 2026. No macro, syntax, notation, axiom, sorry.
-/
import Derived.Test.YtpancbdaigaheaaChecked
import GoSem.Claim
import GoSem.ClaimJoined
import GoSem.ClaimMapViews
import Derived.JoinedTies
import Derived.KernelRfl
namespace Go.Proofs.Ytpancbdaigaheaa
/- THE CELL 'sum', in the pinned program and in every row, IS THE sha256 OF THE DUMP (.gsa) THAT YtpancbdaigaheaaProg.lean LOADS. Nothing in Lean hashes anything: it is a label: what it is worth is what the hold of that sum in a sandbox is worth. -/
noncomputable def Try.pinned : Pinned := { name := "ytpancbdaigaheaa", sum := "976524bd25be96cb8f87fa6cea3ad94004804ac0b0abcb6bf27bf4d4978ce99a", checked := Try.checked }
namespace Rows
def none {H : Type} : Left H := { results := [], args := [] }

/-- 'groovelaw34.DecodableSuffixes': WHATEVER THE INPUT: true; the input reads as it did. -/
def decodableSuffixesSpec : ChangeSpec := { name := "decodableSuffixes", fn := fun _ => fun
  | [d] => { results := [.lit (.bool true)], args := [d] }
  | _ => none }
def decodableSuffixesRow : OpenClaim := { program := "ytpancbdaigaheaa", sum := "976524bd25be96cb8f87fa6cea3ad94004804ac0b0abcb6bf27bf4d4978ce99a", func := "groove/groovelaw34.DecodableSuffixes", spec := "decodableSuffixes", inPlace := ["internal/bytealg.IndexByteString", "internal/bytealg.abigen_runtime_cmpstring"], unfollowed := true, recurses := true, apart := false }
def DecodableSuffixesSaid : Prop := decodableSuffixesRow.holds Try.pinned (OpenSpec.ofChange decodableSuffixesSpec)

/-- ITS FALSE NEIGHBOUR: 'it returns false'. Refute it at one input. -/
def decodableSuffixesWrong : ChangeSpec := { name := "decodableSuffixes", fn := fun _ => fun
  | [d] => { results := [.lit (.bool false)], args := [d] }
  | _ => none }
def DecodableSuffixesWrongFalsely : Prop := decodableSuffixesRow.holds Try.pinned (OpenSpec.ofChange decodableSuffixesWrong)

/-- 'groovelaw34.DecodableParts': WHATEVER THE INPUT: true; the input reads as it did. -/
def decodablePartsSpec : ChangeSpec := { name := "decodableParts", fn := fun _ => fun
  | [d1, d2] => { results := [.lit (.bool true)], args := [d1, d2] }
  | _ => none }
def decodablePartsRow : OpenClaim := { program := "ytpancbdaigaheaa", sum := "976524bd25be96cb8f87fa6cea3ad94004804ac0b0abcb6bf27bf4d4978ce99a", func := "groove/groovelaw34.DecodableParts", spec := "decodableParts", inPlace := ["internal/bytealg.IndexByteString", "internal/bytealg.abigen_runtime_cmpstring"], unfollowed := true, recurses := true, apart := false }
def DecodablePartsSaid : Prop := decodablePartsRow.holds Try.pinned (OpenSpec.ofChange decodablePartsSpec)

/-- ITS FALSE NEIGHBOUR: 'it returns false'. Refute it at one input. -/
def decodablePartsWrong : ChangeSpec := { name := "decodableParts", fn := fun _ => fun
  | [d1, d2] => { results := [.lit (.bool false)], args := [d1, d2] }
  | _ => none }
def DecodablePartsWrongFalsely : Prop := decodablePartsRow.holds Try.pinned (OpenSpec.ofChange decodablePartsWrong)

/-- 'groovelaw34.DecodableSets': WHATEVER THE INPUT: true; the input reads as it did. -/
def decodableSetsSpec : ChangeSpec := { name := "decodableSets", fn := fun _ => fun
  | [d1, d2] => { results := [.lit (.bool true)], args := [d1, d2] }
  | _ => none }
def decodableSetsRow : OpenClaim := { program := "ytpancbdaigaheaa", sum := "976524bd25be96cb8f87fa6cea3ad94004804ac0b0abcb6bf27bf4d4978ce99a", func := "groove/groovelaw34.DecodableSets", spec := "decodableSets", inPlace := ["internal/bytealg.IndexByteString", "internal/bytealg.abigen_runtime_cmpstring"], unfollowed := true, recurses := true, apart := false }
def DecodableSetsSaid : Prop := decodableSetsRow.holds Try.pinned (OpenSpec.ofChange decodableSetsSpec)

/-- ITS FALSE NEIGHBOUR: 'it returns false'. Refute it at one input. -/
def decodableSetsWrong : ChangeSpec := { name := "decodableSets", fn := fun _ => fun
  | [d1, d2] => { results := [.lit (.bool false)], args := [d1, d2] }
  | _ => none }
def DecodableSetsWrongFalsely : Prop := decodableSetsRow.holds Try.pinned (OpenSpec.ofChange decodableSetsWrong)

/-- 'groovelaw34.DecodableChecks': WHATEVER THE INPUT: true; the input reads as it did. -/
def decodableChecksSpec : ChangeSpec := { name := "decodableChecks", fn := fun _ => fun
  | [d1, d2, d3] => { results := [.lit (.bool true)], args := [d1, d2, d3] }
  | _ => none }
def decodableChecksRow : OpenClaim := { program := "ytpancbdaigaheaa", sum := "976524bd25be96cb8f87fa6cea3ad94004804ac0b0abcb6bf27bf4d4978ce99a", func := "groove/groovelaw34.DecodableChecks", spec := "decodableChecks", inPlace := ["internal/bytealg.IndexByteString", "internal/bytealg.abigen_runtime_cmpstring"], unfollowed := true, recurses := true, apart := false }
def DecodableChecksSaid : Prop := decodableChecksRow.holds Try.pinned (OpenSpec.ofChange decodableChecksSpec)

/-- ITS FALSE NEIGHBOUR: 'it returns false'. Refute it at one input. -/
def decodableChecksWrong : ChangeSpec := { name := "decodableChecks", fn := fun _ => fun
  | [d1, d2, d3] => { results := [.lit (.bool false)], args := [d1, d2, d3] }
  | _ => none }
def DecodableChecksWrongFalsely : Prop := decodableChecksRow.holds Try.pinned (OpenSpec.ofChange decodableChecksWrong)

/-- 'groovelaw34.DecodableVerdicts': WHATEVER THE INPUT: true; the input reads as it did. -/
def decodableVerdictsSpec : ChangeSpec := { name := "decodableVerdicts", fn := fun _ => fun
  | [d] => { results := [.lit (.bool true)], args := [d] }
  | _ => none }
def decodableVerdictsRow : OpenClaim := { program := "ytpancbdaigaheaa", sum := "976524bd25be96cb8f87fa6cea3ad94004804ac0b0abcb6bf27bf4d4978ce99a", func := "groove/groovelaw34.DecodableVerdicts", spec := "decodableVerdicts", inPlace := ["internal/bytealg.IndexByteString", "internal/bytealg.abigen_runtime_cmpstring"], unfollowed := true, recurses := true, apart := false }
def DecodableVerdictsSaid : Prop := decodableVerdictsRow.holds Try.pinned (OpenSpec.ofChange decodableVerdictsSpec)

/-- ITS FALSE NEIGHBOUR: 'it returns false'. Refute it at one input. -/
def decodableVerdictsWrong : ChangeSpec := { name := "decodableVerdicts", fn := fun _ => fun
  | [d] => { results := [.lit (.bool false)], args := [d] }
  | _ => none }
def DecodableVerdictsWrongFalsely : Prop := decodableVerdictsRow.holds Try.pinned (OpenSpec.ofChange decodableVerdictsWrong)

/-- 'groovelaw34.DecodableCertificates': WHATEVER THE INPUT: true; the input reads as it did. -/
def decodableCertificatesSpec : ChangeSpec := { name := "decodableCertificates", fn := fun _ => fun
  | [d1, d2, d3] => { results := [.lit (.bool true)], args := [d1, d2, d3] }
  | _ => none }
def decodableCertificatesRow : OpenClaim := { program := "ytpancbdaigaheaa", sum := "976524bd25be96cb8f87fa6cea3ad94004804ac0b0abcb6bf27bf4d4978ce99a", func := "groove/groovelaw34.DecodableCertificates", spec := "decodableCertificates", inPlace := ["internal/bytealg.IndexByteString", "internal/bytealg.abigen_runtime_cmpstring"], unfollowed := true, recurses := true, apart := false }
def DecodableCertificatesSaid : Prop := decodableCertificatesRow.holds Try.pinned (OpenSpec.ofChange decodableCertificatesSpec)

/-- ITS FALSE NEIGHBOUR: 'it returns false'. Refute it at one input. -/
def decodableCertificatesWrong : ChangeSpec := { name := "decodableCertificates", fn := fun _ => fun
  | [d1, d2, d3] => { results := [.lit (.bool false)], args := [d1, d2, d3] }
  | _ => none }
def DecodableCertificatesWrongFalsely : Prop := decodableCertificatesRow.holds Try.pinned (OpenSpec.ofChange decodableCertificatesWrong)

/-- 'groovelaw34.DecodablePrefixes': WHATEVER THE INPUT: true; the input reads as it did. -/
def decodablePrefixesSpec : ChangeSpec := { name := "decodablePrefixes", fn := fun _ => fun
  | [d] => { results := [.lit (.bool true)], args := [d] }
  | _ => none }
def decodablePrefixesRow : OpenClaim := { program := "ytpancbdaigaheaa", sum := "976524bd25be96cb8f87fa6cea3ad94004804ac0b0abcb6bf27bf4d4978ce99a", func := "groove/groovelaw34.DecodablePrefixes", spec := "decodablePrefixes", inPlace := ["internal/bytealg.IndexByteString", "internal/bytealg.abigen_runtime_cmpstring"], unfollowed := true, recurses := true, apart := false }
def DecodablePrefixesSaid : Prop := decodablePrefixesRow.holds Try.pinned (OpenSpec.ofChange decodablePrefixesSpec)

/-- ITS FALSE NEIGHBOUR: 'it returns false'. Refute it at one input. -/
def decodablePrefixesWrong : ChangeSpec := { name := "decodablePrefixes", fn := fun _ => fun
  | [d] => { results := [.lit (.bool false)], args := [d] }
  | _ => none }
def DecodablePrefixesWrongFalsely : Prop := decodablePrefixesRow.holds Try.pinned (OpenSpec.ofChange decodablePrefixesWrong)

/-- 'groovelaw34.DecodableLeast': WHATEVER THE INPUT: true; the input reads as it did. -/
def decodableLeastSpec : ChangeSpec := { name := "decodableLeast", fn := fun _ => fun
  | [d] => { results := [.lit (.bool true)], args := [d] }
  | _ => none }
def decodableLeastRow : OpenClaim := { program := "ytpancbdaigaheaa", sum := "976524bd25be96cb8f87fa6cea3ad94004804ac0b0abcb6bf27bf4d4978ce99a", func := "groove/groovelaw34.DecodableLeast", spec := "decodableLeast", inPlace := ["internal/bytealg.IndexByteString", "internal/bytealg.abigen_runtime_cmpstring", "internal/abi.NoEscape"], unfollowed := true, recurses := true, apart := false }
def DecodableLeastSaid : Prop := decodableLeastRow.holds Try.pinned (OpenSpec.ofChange decodableLeastSpec)

/-- ITS FALSE NEIGHBOUR: 'it returns false'. Refute it at one input. -/
def decodableLeastWrong : ChangeSpec := { name := "decodableLeast", fn := fun _ => fun
  | [d] => { results := [.lit (.bool false)], args := [d] }
  | _ => none }
def DecodableLeastWrongFalsely : Prop := decodableLeastRow.holds Try.pinned (OpenSpec.ofChange decodableLeastWrong)

/-- 'groovelaw34.DecodableReadings': WHATEVER THE INPUT: true; the input reads as it did. -/
def decodableReadingsSpec : ChangeSpec := { name := "decodableReadings", fn := fun _ => fun
  | [d1, d2] => { results := [.lit (.bool true)], args := [d1, d2] }
  | _ => none }
def decodableReadingsRow : OpenClaim := { program := "ytpancbdaigaheaa", sum := "976524bd25be96cb8f87fa6cea3ad94004804ac0b0abcb6bf27bf4d4978ce99a", func := "groove/groovelaw34.DecodableReadings", spec := "decodableReadings", inPlace := ["internal/bytealg.IndexByteString", "internal/bytealg.abigen_runtime_cmpstring"], unfollowed := true, recurses := true, apart := false }
def DecodableReadingsSaid : Prop := decodableReadingsRow.holds Try.pinned (OpenSpec.ofChange decodableReadingsSpec)

/-- ITS FALSE NEIGHBOUR: 'it returns false'. Refute it at one input. -/
def decodableReadingsWrong : ChangeSpec := { name := "decodableReadings", fn := fun _ => fun
  | [d1, d2] => { results := [.lit (.bool false)], args := [d1, d2] }
  | _ => none }
def DecodableReadingsWrongFalsely : Prop := decodableReadingsRow.holds Try.pinned (OpenSpec.ofChange decodableReadingsWrong)

/- THE SECOND FORM. 'bulk': how many values and letters a reading holds, each counted each time it is reached (what is shared counts as often as it is met; a slice's spare places count too). A statement '..UptoSaid' is the law's where the arguments, and the package variables that the reading takes, are together of bulk at most 1048576: NARROWER than '..Said'. Prove '..Said' where nothing that the law and all that it calls make is longer than what came in: it says more and counts as full. Else prove '..UptoSaid'. A law counts once. -/
mutual
def uptoBulk {H : Type} : DataW H → Nat
  | .lit (.string bytes) => bytes.length + 1
  | .lit _ => 1
  | .nil => 1
  | .ptr d => uptoBulk d + 1
  | .slice elems spare => uptoBulkAll elems + uptoBulkAll spare + 1
  | .agg parts => uptoBulkAll parts + 1
  | .iface _ d => uptoBulk d + 1
  | .map entries => uptoBulkEntries entries + 1
  | .held _ => 1
def uptoBulkAll {H : Type} : List (DataW H) → Nat
  | [] => 0
  | d :: r => uptoBulk d + uptoBulkAll r
def uptoBulkEntries {H : Type} : List (Lit × DataW H) → Nat
  | [] => 0
  | x :: r => uptoBulkEntry x + uptoBulkEntries r
def uptoBulkEntry {H : Type} : Lit × DataW H → Nat
  | (.string bytes, d) => bytes.length + uptoBulk d + 1
  | (_, d) => uptoBulk d + 1
 end
def uptoSmall : (H : Type) → List (DataW H) → Bool := fun _ ds => decide (uptoBulkAll ds ≤ 1048576)
def OpenSpec.upto (s : _root_.Go.ChangeSpec) : _root_.Go.OpenSpec := { _root_.Go.OpenSpec.ofChange s with cond := some uptoSmall }

/-- 'groovelaw34.DecodableSuffixes', WHERE WHAT IT READS IS OF BULK AT MOST 1048576: true; the input reads as it did. -/
def decodableSuffixesUptoRow : OpenClaim := { program := "ytpancbdaigaheaa", sum := "976524bd25be96cb8f87fa6cea3ad94004804ac0b0abcb6bf27bf4d4978ce99a", func := "groove/groovelaw34.DecodableSuffixes", spec := "decodableSuffixes", inPlace := ["internal/bytealg.IndexByteString", "internal/bytealg.abigen_runtime_cmpstring"], unfollowed := true, recurses := true, apart := false, narrowed := true }
def DecodableSuffixesUptoSaid : Prop := decodableSuffixesUptoRow.holds Try.pinned (OpenSpec.upto decodableSuffixesSpec)

/-- 'groovelaw34.DecodableParts', WHERE WHAT IT READS IS OF BULK AT MOST 1048576: true; the input reads as it did. -/
def decodablePartsUptoRow : OpenClaim := { program := "ytpancbdaigaheaa", sum := "976524bd25be96cb8f87fa6cea3ad94004804ac0b0abcb6bf27bf4d4978ce99a", func := "groove/groovelaw34.DecodableParts", spec := "decodableParts", inPlace := ["internal/bytealg.IndexByteString", "internal/bytealg.abigen_runtime_cmpstring"], unfollowed := true, recurses := true, apart := false, narrowed := true }
def DecodablePartsUptoSaid : Prop := decodablePartsUptoRow.holds Try.pinned (OpenSpec.upto decodablePartsSpec)

/-- 'groovelaw34.DecodableSets', WHERE WHAT IT READS IS OF BULK AT MOST 1048576: true; the input reads as it did. -/
def decodableSetsUptoRow : OpenClaim := { program := "ytpancbdaigaheaa", sum := "976524bd25be96cb8f87fa6cea3ad94004804ac0b0abcb6bf27bf4d4978ce99a", func := "groove/groovelaw34.DecodableSets", spec := "decodableSets", inPlace := ["internal/bytealg.IndexByteString", "internal/bytealg.abigen_runtime_cmpstring"], unfollowed := true, recurses := true, apart := false, narrowed := true }
def DecodableSetsUptoSaid : Prop := decodableSetsUptoRow.holds Try.pinned (OpenSpec.upto decodableSetsSpec)

/-- 'groovelaw34.DecodableChecks', WHERE WHAT IT READS IS OF BULK AT MOST 1048576: true; the input reads as it did. -/
def decodableChecksUptoRow : OpenClaim := { program := "ytpancbdaigaheaa", sum := "976524bd25be96cb8f87fa6cea3ad94004804ac0b0abcb6bf27bf4d4978ce99a", func := "groove/groovelaw34.DecodableChecks", spec := "decodableChecks", inPlace := ["internal/bytealg.IndexByteString", "internal/bytealg.abigen_runtime_cmpstring"], unfollowed := true, recurses := true, apart := false, narrowed := true }
def DecodableChecksUptoSaid : Prop := decodableChecksUptoRow.holds Try.pinned (OpenSpec.upto decodableChecksSpec)

/-- 'groovelaw34.DecodableVerdicts', WHERE WHAT IT READS IS OF BULK AT MOST 1048576: true; the input reads as it did. -/
def decodableVerdictsUptoRow : OpenClaim := { program := "ytpancbdaigaheaa", sum := "976524bd25be96cb8f87fa6cea3ad94004804ac0b0abcb6bf27bf4d4978ce99a", func := "groove/groovelaw34.DecodableVerdicts", spec := "decodableVerdicts", inPlace := ["internal/bytealg.IndexByteString", "internal/bytealg.abigen_runtime_cmpstring"], unfollowed := true, recurses := true, apart := false, narrowed := true }
def DecodableVerdictsUptoSaid : Prop := decodableVerdictsUptoRow.holds Try.pinned (OpenSpec.upto decodableVerdictsSpec)

/-- 'groovelaw34.DecodableCertificates', WHERE WHAT IT READS IS OF BULK AT MOST 1048576: true; the input reads as it did. -/
def decodableCertificatesUptoRow : OpenClaim := { program := "ytpancbdaigaheaa", sum := "976524bd25be96cb8f87fa6cea3ad94004804ac0b0abcb6bf27bf4d4978ce99a", func := "groove/groovelaw34.DecodableCertificates", spec := "decodableCertificates", inPlace := ["internal/bytealg.IndexByteString", "internal/bytealg.abigen_runtime_cmpstring"], unfollowed := true, recurses := true, apart := false, narrowed := true }
def DecodableCertificatesUptoSaid : Prop := decodableCertificatesUptoRow.holds Try.pinned (OpenSpec.upto decodableCertificatesSpec)

/-- 'groovelaw34.DecodablePrefixes', WHERE WHAT IT READS IS OF BULK AT MOST 1048576: true; the input reads as it did. -/
def decodablePrefixesUptoRow : OpenClaim := { program := "ytpancbdaigaheaa", sum := "976524bd25be96cb8f87fa6cea3ad94004804ac0b0abcb6bf27bf4d4978ce99a", func := "groove/groovelaw34.DecodablePrefixes", spec := "decodablePrefixes", inPlace := ["internal/bytealg.IndexByteString", "internal/bytealg.abigen_runtime_cmpstring"], unfollowed := true, recurses := true, apart := false, narrowed := true }
def DecodablePrefixesUptoSaid : Prop := decodablePrefixesUptoRow.holds Try.pinned (OpenSpec.upto decodablePrefixesSpec)

/-- 'groovelaw34.DecodableLeast', WHERE WHAT IT READS IS OF BULK AT MOST 1048576: true; the input reads as it did. -/
def decodableLeastUptoRow : OpenClaim := { program := "ytpancbdaigaheaa", sum := "976524bd25be96cb8f87fa6cea3ad94004804ac0b0abcb6bf27bf4d4978ce99a", func := "groove/groovelaw34.DecodableLeast", spec := "decodableLeast", inPlace := ["internal/bytealg.IndexByteString", "internal/bytealg.abigen_runtime_cmpstring", "internal/abi.NoEscape"], unfollowed := true, recurses := true, apart := false, narrowed := true }
def DecodableLeastUptoSaid : Prop := decodableLeastUptoRow.holds Try.pinned (OpenSpec.upto decodableLeastSpec)

/-- 'groovelaw34.DecodableReadings', WHERE WHAT IT READS IS OF BULK AT MOST 1048576: true; the input reads as it did. -/
def decodableReadingsUptoRow : OpenClaim := { program := "ytpancbdaigaheaa", sum := "976524bd25be96cb8f87fa6cea3ad94004804ac0b0abcb6bf27bf4d4978ce99a", func := "groove/groovelaw34.DecodableReadings", spec := "decodableReadings", inPlace := ["internal/bytealg.IndexByteString", "internal/bytealg.abigen_runtime_cmpstring"], unfollowed := true, recurses := true, apart := false, narrowed := true }
def DecodableReadingsUptoSaid : Prop := decodableReadingsUptoRow.holds Try.pinned (OpenSpec.upto decodableReadingsSpec)

end Rows
end Go.Proofs.Ytpancbdaigaheaa
