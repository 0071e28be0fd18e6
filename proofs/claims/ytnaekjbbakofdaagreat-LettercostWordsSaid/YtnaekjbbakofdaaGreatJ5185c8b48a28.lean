/-
  The given statement LettercostWords, for all arguments, without conditions.
-/
import Derived.Test.YtnaekjbbakofdaaGreatRows
import Derived.Test.YtnaekjbbakofdaaGreatJbdeda2952d3a
import Derived.Test.YtnaekjbbakofdaaGreatJdc8915b2ae45

namespace Go.Proofs.YtnaekjbbakofdaaGreat
open Go Go.AM Go.RowKit Go.ChangeShapes
set_option maxRecDepth 100000

theorem words_lifted (os : Os) (started : os.Started) (H : Type) (enc : TypeId × Value → H) :
    ReturnsInHanded {} Tryz.checked os 8 .any (Rows.lettercostWordsSpec.pre6 enc Tryz.prog Tryz.f8 Rows.lettercostWordsRow.domain false) (Rows.lettercostWordsSpec.post enc Tryz.prog Tryz.f8 false true false false) := by
  refine lift (C := Tryz.checked) (shs := [caseSh, .str, .str]) (tb := 4) own laidOut started (by kernel_rfl) Tryz.func8
    (ChangeSpec.witness6 (enc := enc) (C := Tryz.checked) false ⟨#[], #[.agg #[.slice none 0 0, .slice none 0 0], .string ⟨#[]⟩, .string ⟨#[]⟩], []⟩ 8 (by kernel_rfl) (by kernel_rfl) (by kernel_rfl) (by kernel_rfl))
    (by kernel_rfl) (by kernel_rfl) (by kernel_rfl) (by kernel_rfl) rfl ?_ ?_
  · intro ds hd
    match ds, hd with
    | [d1, d2, d3], _ => rfl
  · intro pv h
    obtain ⟨p1, _, rfl, h1, h⟩ := h.cons
    obtain ⟨p2, _, rfl, h2, h⟩ := h.cons
    obtain ⟨p3, _, rfl, h3, h⟩ := h.cons
    have := h.zero
    subst this
    obtain ⟨xs, ys, rfl, hx, hy, hxb, hyb⟩ := case_of h1
    cases h2 with
    | str u hu =>
      cases h3 with
      | str v hv => exact b8 xs ys u v (maxLen_le hx) (maxLen_le hy) hxb hyb

theorem words_holds : Rows.LettercostWordsSaid :=
  OpenClaim.holds_of_wide 8 Tryz.f8 rfl rfl rfl rfl rfl rfl rfl ⟨rfl, rfl, rfl, rfl, rfl⟩ rfl rfl rfl rfl rfl (by kernel_rfl) Tryz.func8 (by kernel_rfl)
    (of_decide_eq_true (by kernel_rfl)) (by unfold Func.isWrapper; first | (rw [if_pos (by decide +kernel)]; kernel_rfl) | (rw [if_neg (by decide +kernel)]; exact ⟨rfl, rfl⟩))
    (fun os started H enc _ => words_lifted os started H enc)
#print axioms words_holds
end Go.Proofs.YtnaekjbbakofdaaGreat
