/-
  The given statement LettercostScales, for all arguments, without conditions.
-/
import Derived.Test.YtnaekjbbakofdaaGreatRows
import Derived.Test.YtnaekjbbakofdaaGreatJ1a4a3926c7eb
import Derived.Test.YtnaekjbbakofdaaGreatJ24e9f30148cf

namespace Go.Proofs.YtnaekjbbakofdaaGreat
open Go Go.AM Go.RowKit Go.ChangeShapes
set_option maxRecDepth 100000

theorem scales_lifted (os : Os) (started : os.Started) (H : Type) (enc : TypeId × Value → H) :
    ReturnsInHanded {} Tryz.checked os 4 .any (Rows.lettercostScalesSpec.pre6 enc Tryz.prog Tryz.f4 Rows.lettercostScalesRow.domain false) (Rows.lettercostScalesSpec.post enc Tryz.prog Tryz.f4 false true false false) := by
  refine lift (C := Tryz.checked) (shs := [caseSh, .int .u16]) (tb := 4) own laidOut started (by kernel_rfl) Tryz.func4
    (ChangeSpec.witness6 (enc := enc) (C := Tryz.checked) false ⟨#[], #[.agg #[.slice none 0 0, .slice none 0 0], .int .u16 0], []⟩ 4 (by kernel_rfl) (by kernel_rfl) (by kernel_rfl) (by kernel_rfl))
    (by kernel_rfl) (by kernel_rfl) (by kernel_rfl) (by kernel_rfl) rfl ?_ ?_
  · intro ds hd
    match ds, hd with
    | [d1, d2], _ => rfl
  · intro pv h
    obtain ⟨p1, _, rfl, h1, h⟩ := h.cons
    obtain ⟨p2, _, rfl, h2, h⟩ := h.cons
    have := h.zero
    subst this
    obtain ⟨xs, ys, rfl, hx, hy, hxb, hyb⟩ := case_of h1
    cases h2 with
    | int _ m hm =>
      simp only [InR] at hm
      have := b4 xs ys m.toNat (maxLen_le hx) (maxLen_le hy) hxb hyb (by omega)
      unfold u16N at this
      rw [show ((m.toNat : Nat) : Int) = m by omega] at this
      exact this

theorem scales_holds : Rows.LettercostScalesSaid :=
  OpenClaim.holds_of_wide 4 Tryz.f4 rfl rfl rfl rfl rfl rfl rfl ⟨rfl, rfl, rfl, rfl, rfl⟩ rfl rfl rfl rfl rfl (by kernel_rfl) Tryz.func4 (by kernel_rfl)
    (of_decide_eq_true (by kernel_rfl)) (by unfold Func.isWrapper; first | (rw [if_pos (by decide +kernel)]; kernel_rfl) | (rw [if_neg (by decide +kernel)]; exact ⟨rfl, rfl⟩))
    (fun os started H enc _ => scales_lifted os started H enc)
#print axioms scales_holds
end Go.Proofs.YtnaekjbbakofdaaGreat
