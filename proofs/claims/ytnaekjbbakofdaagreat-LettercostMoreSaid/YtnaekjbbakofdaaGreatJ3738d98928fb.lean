/-
  The given statement LettercostMore, for all arguments, without conditions.
-/
import Derived.Test.YtnaekjbbakofdaaGreatRows
import Derived.Test.YtnaekjbbakofdaaGreatJedb9476231f7
import Derived.Test.YtnaekjbbakofdaaGreatJ160597c79c99

namespace Go.Proofs.YtnaekjbbakofdaaGreat
open Go Go.AM Go.RowKit Go.ChangeShapes
set_option maxRecDepth 100000

theorem more_lifted (os : Os) (started : os.Started) (H : Type) (enc : TypeId × Value → H) :
    ReturnsInHanded {} Tryz.checked os 5 .any (Rows.lettercostMoreSpec.pre6 enc Tryz.prog Tryz.f5 Rows.lettercostMoreRow.domain false) (Rows.lettercostMoreSpec.post enc Tryz.prog Tryz.f5 false true false false) := by
  refine lift (C := Tryz.checked) (shs := [caseSh, .int .u8, .int .u16]) (tb := 4) own laidOut started (by kernel_rfl) Tryz.func5
    (ChangeSpec.witness6 (enc := enc) (C := Tryz.checked) false ⟨#[], #[.agg #[.slice none 0 0, .slice none 0 0], .int .u8 0, .int .u16 0], []⟩ 5 (by kernel_rfl) (by kernel_rfl) (by kernel_rfl) (by kernel_rfl))
    (by kernel_rfl) (by kernel_rfl) (by kernel_rfl) (by kernel_rfl) rfl ?_ ?_
  · intro ds hd
    match ds, hd with
    | [d1, d2, d3], _ => rfl
  · intro pv h
    obtain ⟨p1, _, rfl, h1, h⟩ := h.cons
    obtain ⟨p2, _, rfl, h2, h⟩ := h.cons
    obtain ⟨p3, _, rfl, h3, h⟩ := h.cons
    have := h.zero
    subst this
    obtain ⟨xs, ys, rfl, hx, hy, hxb, hyb⟩ := case_of h1
    cases h2 with
    | int _ u hu =>
      cases h3 with
      | int _ m hm =>
        simp only [InR] at hu hm
        have := b5 xs ys u.toNat m.toNat (maxLen_le hx) (maxLen_le hy) hxb hyb (by omega) (by omega)
        unfold u8N u16N at this
        rw [show ((u.toNat : Nat) : Int) = u by omega, show ((m.toNat : Nat) : Int) = m by omega] at this
        exact this

theorem more_holds : Rows.LettercostMoreSaid :=
  OpenClaim.holds_of_wide 5 Tryz.f5 rfl rfl rfl rfl rfl rfl rfl ⟨rfl, rfl, rfl, rfl, rfl⟩ rfl rfl rfl rfl rfl (by kernel_rfl) Tryz.func5 (by kernel_rfl)
    (of_decide_eq_true (by kernel_rfl)) (by unfold Func.isWrapper; first | (rw [if_pos (by decide +kernel)]; kernel_rfl) | (rw [if_neg (by decide +kernel)]; exact ⟨rfl, rfl⟩))
    (fun os started H enc _ => more_lifted os started H enc)
#print axioms more_holds
end Go.Proofs.YtnaekjbbakofdaaGreat
