/-
  The given statement MeasureUncompletable, for all arguments, without conditions.
-/
import Derived.Test.YtpljmccnfmkmfaaGreatRows
import Derived.Test.YtpljmccnfmkmfaaGreatJ0cede4017564
import Derived.Test.YtpljmccnfmkmfaaGreatJae40c92241a1

namespace Go.Proofs.YtpljmccnfmkmfaaGreat
open Go Go.AM Go.RowKit Go.ChangeShapes
set_option maxRecDepth 100000

theorem uncompletable_lifted (os : Os) (started : os.Started) (H : Type) (enc : TypeId × Value → H) :
    ReturnsInHanded {} Tryz.checked os 6 .any (Rows.measureUncompletableSpec.pre6 enc Tryz.prog Tryz.f6 Rows.measureUncompletableRow.domain false) (Rows.measureUncompletableSpec.post enc Tryz.prog Tryz.f6 false true false false) := by
  refine lift (C := Tryz.checked) (shs := [codeSh, .str]) (tb := 4) own laidOut started (by kernel_rfl) Tryz.func6
    (ChangeSpec.witness6 (enc := enc) (C := Tryz.checked) false ⟨#[], #[.agg #[.int .i64 0, .slice none 0 0], .string ⟨#[]⟩], []⟩ 8 (by kernel_rfl) (by kernel_rfl) (by kernel_rfl) (by kernel_rfl))
    (by kernel_rfl) (by kernel_rfl) (by kernel_rfl) (by kernel_rfl) rfl ?_ ?_
  · intro ds hd
    match ds, hd with
    | [d1, d2], _ => rfl
  · intro pv h
    obtain ⟨p1, _, rfl, h1, h⟩ := h.cons
    obtain ⟨p2, _, rfl, h2, h⟩ := h.cons
    have := h.zero
    subst this
    obtain ⟨q, ws, rfl, _, hws, _⟩ := code_of h1
    cases h2 with
    | str w hw => exact b6 q ws w hws

theorem uncompletable_holds : Rows.MeasureUncompletableSaid :=
  OpenClaim.holds_of_wide 6 Tryz.f6 rfl rfl rfl rfl rfl rfl rfl ⟨rfl, rfl, rfl, rfl, rfl⟩ rfl rfl rfl rfl rfl (by kernel_rfl) Tryz.func6 (by kernel_rfl)
    (of_decide_eq_true (by kernel_rfl)) (by unfold Func.isWrapper; first | (rw [if_pos (by decide +kernel)]; kernel_rfl) | (rw [if_neg (by decide +kernel)]; exact ⟨rfl, rfl⟩))
    (fun os started H enc _ => uncompletable_lifted os started H enc)
#print axioms uncompletable_holds
end Go.Proofs.YtpljmccnfmkmfaaGreat
