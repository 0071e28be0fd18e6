/-
  The given statement LettercostBest, for all arguments, without conditions.
-/
import Derived.Test.YtnaekjbbakofdaaGreatRows
import Derived.Test.YtnaekjbbakofdaaGreatJ45b7b83a9cc2
import Derived.Test.YtnaekjbbakofdaaGreatJc85dd612dc12

namespace Go.Proofs.YtnaekjbbakofdaaGreat
open Go Go.AM Go.RowKit Go.ChangeShapes
set_option maxRecDepth 100000

theorem best_lifted (os : Os) (started : os.Started) (H : Type) (enc : TypeId × Value → H) :
    ReturnsInHanded {} Tryz.checked os 9 .any (Rows.lettercostBestSpec.pre6 enc Tryz.prog Tryz.f9 Rows.lettercostBestRow.domain false) (Rows.lettercostBestSpec.post enc Tryz.prog Tryz.f9 false true false false) := by
  refine lift (C := Tryz.checked) (shs := [caseSh, .sl .str]) (tb := 4) own laidOut started (by kernel_rfl) Tryz.func9
    (ChangeSpec.witness6 (enc := enc) (C := Tryz.checked) false ⟨#[], #[.agg #[.slice none 0 0, .slice none 0 0], .slice none 0 0], []⟩ 9 (by kernel_rfl) (by kernel_rfl) (by kernel_rfl) (by kernel_rfl))
    (by kernel_rfl) (by kernel_rfl) (by kernel_rfl) (by kernel_rfl) rfl ?_ ?_
  · intro ds hd
    match ds, hd with
    | [d1, d2], _ => rfl
  · intro pv h
    obtain ⟨p1, _, rfl, h1, h⟩ := h.cons
    obtain ⟨p2, _, rfl, h2, h⟩ := h.cons
    have := h.zero
    subst this
    obtain ⟨xs, ys, rfl, hx, hy, hxb, hyb⟩ := case_of h1
    cases h2 with
    | sl _ l a1 a2 =>
      obtain ⟨ls, rfl, _⟩ := strs_of a2
      exact b9 xs ys ls (maxLen_le hx) (maxLen_le hy) (maxLen_le (by simpa using a1)) hxb hyb

theorem best_holds : Rows.LettercostBestSaid :=
  OpenClaim.holds_of_wide 9 Tryz.f9 rfl rfl rfl rfl rfl rfl rfl ⟨rfl, rfl, rfl, rfl, rfl⟩ rfl rfl rfl rfl rfl (by kernel_rfl) Tryz.func9 (by kernel_rfl)
    (of_decide_eq_true (by kernel_rfl)) (by unfold Func.isWrapper; first | (rw [if_pos (by decide +kernel)]; kernel_rfl) | (rw [if_neg (by decide +kernel)]; exact ⟨rfl, rfl⟩))
    (fun os started H enc _ => best_lifted os started H enc)
#print axioms best_holds
end Go.Proofs.YtnaekjbbakofdaaGreat
