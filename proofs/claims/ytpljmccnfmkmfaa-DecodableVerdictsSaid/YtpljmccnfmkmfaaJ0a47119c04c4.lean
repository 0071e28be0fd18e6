/-
  Texts of this claim, joined.
-/
import Derived.Test.YtpljmccnfmkmfaaRows
import Derived.Test.YtpljmccnfmkmfaaJ557fbedbb452

set_option maxRecDepth 100000
namespace Go.Proofs.Ytpljmccnfmkmfaa
open Go Go.AM Go.RowKit Go.ChangeShapes

theorem Z54 (os : Os) (started : os.Started) (H : Type) (enc : TypeId × Value → H) :
    ReturnsInHanded {} Try.checked os 4 .any (Rows.decodableVerdictsSpec.pre6 enc Try.prog Try.f4 Rows.decodableVerdictsRow.domain false) (Rows.decodableVerdictsSpec.post enc Try.prog Try.f4 false true false false) := by
  refine lift (C := Try.checked) (shs := [Zgz]) (tb := 4) own Zik started (by kernel_rfl) Try.func4
    (ChangeSpec.witness6 (enc := enc) (C := Try.checked) false ⟨#[], #[.agg #[.int .i64 0, .slice none 0 0]], []⟩ 8 (by kernel_rfl) (by kernel_rfl) (by kernel_rfl) (by kernel_rfl))
    (by kernel_rfl) (by kernel_rfl) (by kernel_rfl) (by kernel_rfl) rfl ?_ ?_
  · intro ds hd
    match ds, hd with
    | [d1], _ => rfl
  · intro pv h
    obtain ⟨p1, _, rfl, h1, h⟩ := h.cons; have := h.zero; subst this; obtain ⟨q, ws, rfl, _, hws, _⟩ := Zj3 h1; exact v4 q ws hws

theorem verdicts_holds : Rows.DecodableVerdictsSaid :=
  OpenClaim.holds_of_wide 4 Try.f4 rfl rfl rfl rfl rfl rfl rfl ⟨rfl, rfl, rfl, rfl, rfl⟩ rfl rfl rfl rfl rfl (by kernel_rfl) Try.func4 (by kernel_rfl)
    (of_decide_eq_true (by kernel_rfl)) (by unfold Func.isWrapper; first | (rw [if_pos (by decide +kernel)]; kernel_rfl) | (rw [if_neg (by decide +kernel)]; exact ⟨rfl, rfl⟩))
    (fun os started H enc _ => Z54 os started H enc)
#print axioms verdicts_holds
end Go.Proofs.Ytpljmccnfmkmfaa
