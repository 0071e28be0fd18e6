/-
  The given statement LettercostOrder, for all arguments, without conditions.
-/
import Derived.Test.YtnaekjbbakofdaaGreatRows
import Derived.Test.YtnaekjbbakofdaaGreatJ1284e0e0b3fa
import Derived.Test.YtnaekjbbakofdaaGreatJed6f8de2c929

namespace Go.Proofs.YtnaekjbbakofdaaGreat
open Go Go.AM Go.RowKit Go.ChangeShapes
set_option maxRecDepth 100000

theorem order_lifted (os : Os) (started : os.Started) (H : Type) (enc : TypeId × Value → H) :
    ReturnsInHanded {} Tryz.checked os 7 .any (Rows.lettercostOrderSpec.pre6 enc Tryz.prog Tryz.f7 Rows.lettercostOrderRow.domain false) (Rows.lettercostOrderSpec.post enc Tryz.prog Tryz.f7 false true false false) := by
  refine lift (C := Tryz.checked) (shs := [caseSh]) (tb := 4) own laidOut started (by kernel_rfl) Tryz.func7
    (ChangeSpec.witness6 (enc := enc) (C := Tryz.checked) false ⟨#[], #[.agg #[.slice none 0 0, .slice none 0 0]], []⟩ 7 (by kernel_rfl) (by kernel_rfl) (by kernel_rfl) (by kernel_rfl))
    (by kernel_rfl) (by kernel_rfl) (by kernel_rfl) (by kernel_rfl) rfl ?_ ?_
  · intro ds hd
    match ds, hd with
    | [d1], _ => rfl
  · intro pv h
    obtain ⟨p1, _, rfl, h1, h⟩ := h.cons
    have := h.zero
    subst this
    obtain ⟨xs, ys, rfl, hx, hy, hxb, hyb⟩ := case_of h1
    exact b7 xs ys (maxLen_le hx) (maxLen_le hy) hxb hyb

theorem order_holds : Rows.LettercostOrderSaid :=
  OpenClaim.holds_of_wide 7 Tryz.f7 rfl rfl rfl rfl rfl rfl rfl ⟨rfl, rfl, rfl, rfl, rfl⟩ rfl rfl rfl rfl rfl (by kernel_rfl) Tryz.func7 (by kernel_rfl)
    (of_decide_eq_true (by kernel_rfl)) (by unfold Func.isWrapper; first | (rw [if_pos (by decide +kernel)]; kernel_rfl) | (rw [if_neg (by decide +kernel)]; exact ⟨rfl, rfl⟩))
    (fun os started H enc _ => order_lifted os started H enc)
#print axioms order_holds
end Go.Proofs.YtnaekjbbakofdaaGreat
