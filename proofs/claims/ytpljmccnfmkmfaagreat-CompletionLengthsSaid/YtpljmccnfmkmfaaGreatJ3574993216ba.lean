/-
  Texts of this claim, joined.
-/
import Derived.Test.YtpljmccnfmkmfaaGreatRows
import Derived.Test.YtpljmccnfmkmfaaGreatJ5213c0a37e60
import Derived.Test.YtpljmccnfmkmfaaGreatJd0039bf495e0

set_option maxRecDepth 100000
namespace Go.Proofs.YtpljmccnfmkmfaaGreat
open Go Go.AM Go.RowKit Go.ChangeShapes

theorem Z83 (os : Os) (started : os.Started) (H : Type) (enc : TypeId × Value → H) :
    ReturnsInHanded {} Tryz.checked os 4 .any (Rows.completionLengthsSpec.pre6 enc Tryz.prog Tryz.f4 Rows.completionLengthsRow.domain false) (Rows.completionLengthsSpec.post enc Tryz.prog Tryz.f4 false true false false) := by
  refine lift (C := Tryz.checked) (shs := [Zmg, .int .i64, .sl (.int .i64)]) (tb := 4) own Zoh started (by kernel_rfl) Tryz.func4
    (ChangeSpec.witness6 (enc := enc) (C := Tryz.checked) false ⟨#[], #[.agg #[.int .i64 0, .slice none 0 0], .int .i64 0, .slice none 0 0], []⟩ 8 (by kernel_rfl) (by kernel_rfl) (by kernel_rfl) (by kernel_rfl))
    (by kernel_rfl) (by kernel_rfl) (by kernel_rfl) (by kernel_rfl) rfl ?_ ?_
  · intro ds hd
    match ds, hd with
    | [d1, d2, d3], _ => rfl
  · intro pv h
    obtain ⟨p1, _, rfl, h1, h⟩ := h.cons; obtain ⟨p2, _, rfl, h2, h⟩ := h.cons; obtain ⟨p3, _, rfl, h3, h⟩ := h.cons; have := h.zero; subst this; obtain ⟨q, ws, rfl, _, hws, _⟩ := Zp6 h1
    cases h2 with
    | int _ n hn =>
      obtain ⟨l, rfl, _, _⟩ := Zo2 h3; exact b4 q ws n l hws

theorem lengths_holds : Rows.CompletionLengthsSaid :=
  OpenClaim.holds_of_wide 4 Tryz.f4 rfl rfl rfl rfl rfl rfl rfl ⟨rfl, rfl, rfl, rfl, rfl⟩ rfl rfl rfl rfl rfl (by kernel_rfl) Tryz.func4 (by kernel_rfl)
    (of_decide_eq_true (by kernel_rfl)) (by unfold Func.isWrapper; first | (rw [if_pos (by decide +kernel)]; kernel_rfl) | (rw [if_neg (by decide +kernel)]; exact ⟨rfl, rfl⟩))
    (fun os started H enc _ => Z83 os started H enc)
#print axioms lengths_holds
end Go.Proofs.YtpljmccnfmkmfaaGreat
