/-
  The chapter's examples, reckoned.
-/
import Derived.Test.YtpancbdaigaheaaAm26
import Derived.Test.YtpancbdaigaheaaTy
namespace Go.Proofs.Ytpancbdaigaheaa
open Go Go.AM
set_option maxRecDepth 1000000

/-- The model's own functions of this seat, as the reckoner takes them. -/
def axT : FuncId → List AV → Option AV := fun f args => match f, args with
  | 126, [.p (.str s), .p (.int .u8 c)] => some (.p (.int .i64 (ixB c.toNat.toUInt8 s 0)))
  | 127, [.p (.str a), .p (.str b)] => some (.p (.int .i64 (cmpB a b)))
  | _, _ => none

theorem axT_ok : ∀ f args v, axT f args = some v → AX Try.prog f args v := by
  intro f args v h
  unfold axT at h
  split at h
  · injection h with h; subst h
    exact ax_index Try.func126 (by kernel_rfl) (by kernel_rfl) (by kernel_rfl) (by kernel_rfl) _ _
  · injection h with h; subst h
    exact ax_compare Try.func127 (by kernel_rfl) (by kernel_rfl) (by kernel_rfl) (by kernel_rfl) _ _
  · cases h

theorem hEC : ECOK ⟨Try.prog, Γ, axT⟩ := ⟨hΓ, hmix, names_ok (by kernel_rfl), axT_ok⟩

theorem awake_ok : PFn Try.prog 13 [] [.bool true] := PFn.of_runE (C := ⟨Try.prog, Γ, axT⟩) (fuel := 900) hEC (by kernel_rfl)
end Go.Proofs.Ytpancbdaigaheaa
