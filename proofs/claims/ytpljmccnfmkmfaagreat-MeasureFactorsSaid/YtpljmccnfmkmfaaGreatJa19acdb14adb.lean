/-
  Texts of this claim, joined.
-/
import Derived.Test.YtpljmccnfmkmfaaGreatRows
import Derived.Test.YtpljmccnfmkmfaaGreatJ990e56e05f3e
import Derived.Test.YtpljmccnfmkmfaaGreatJ00e33a1789c4

set_option maxRecDepth 100000
namespace Go.Proofs.YtpljmccnfmkmfaaGreat
open Go Go.AM Go.RowKit Go.ChangeShapes

theorem Z93 (os : Os) (started : os.Started) (H : Type) (enc : TypeId × Value → H) :
    ReturnsInHanded {} Tryz.checked os 5 .any (Rows.measureFactorsSpec.pre6 enc Tryz.prog Tryz.f5 Rows.measureFactorsRow.domain false) (Rows.measureFactorsSpec.post enc Tryz.prog Tryz.f5 false true false false) := by
  refine lift (C := Tryz.checked) (shs := [Znq, .int .i64, .str]) (tb := 4) own Zpl started (by kernel_rfl) Tryz.func5
    (ChangeSpec.witness6 (enc := enc) (C := Tryz.checked) false ⟨#[], #[.agg #[.int .i64 0, .slice none 0 0], .int .i64 0, .string ⟨#[]⟩], []⟩ 8 (by kernel_rfl) (by kernel_rfl) (by kernel_rfl) (by kernel_rfl))
    (by kernel_rfl) (by kernel_rfl) (by kernel_rfl) (by kernel_rfl) rfl ?_ ?_
  · intro ds hd
    match ds, hd with
    | [d1, d2, d3], _ => rfl
  · intro pv h
    obtain ⟨p1, _, rfl, h1, h⟩ := h.cons; obtain ⟨p2, _, rfl, h2, h⟩ := h.cons; obtain ⟨p3, _, rfl, h3, h⟩ := h.cons; have := h.zero; subst this; obtain ⟨q, ws, rfl, _, hws, _⟩ := Zq9 h1
    cases h2 with
    | int _ n hn =>
      cases h3 with
      | str w hw => exact b5 q ws n w hws

theorem factors_holds : Rows.MeasureFactorsSaid :=
  OpenClaim.holds_of_wide 5 Tryz.f5 rfl rfl rfl rfl rfl rfl rfl ⟨rfl, rfl, rfl, rfl, rfl⟩ rfl rfl rfl rfl rfl (by kernel_rfl) Tryz.func5 (by kernel_rfl)
    (of_decide_eq_true (by kernel_rfl)) (by unfold Func.isWrapper; first | (rw [if_pos (by decide +kernel)]; kernel_rfl) | (rw [if_neg (by decide +kernel)]; exact ⟨rfl, rfl⟩))
    (fun os started H enc _ => Z93 os started H enc)
#print axioms factors_holds
end Go.Proofs.YtpljmccnfmkmfaaGreat
