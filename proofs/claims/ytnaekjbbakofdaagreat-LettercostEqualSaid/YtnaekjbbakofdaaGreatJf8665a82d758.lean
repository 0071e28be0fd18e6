/-
  The given statement LettercostEqual, for all arguments, without conditions.
-/
import Derived.Test.YtnaekjbbakofdaaGreatRows
import Derived.Test.YtnaekjbbakofdaaGreatJ726157cdb904
import Derived.Test.YtnaekjbbakofdaaGreatJd02fa84f89f6

namespace Go.Proofs.YtnaekjbbakofdaaGreat
open Go Go.AM Go.RowKit Go.ChangeShapes
set_option maxRecDepth 100000

theorem equal_lifted (os : Os) (started : os.Started) (H : Type) (enc : TypeId × Value → H) :
    ReturnsInHanded {} Tryz.checked os 6 .any (Rows.lettercostEqualSpec.pre6 enc Tryz.prog Tryz.f6 Rows.lettercostEqualRow.domain false) (Rows.lettercostEqualSpec.post enc Tryz.prog Tryz.f6 false true false false) := by
  refine lift (C := Tryz.checked) (shs := [.int .u8, .int .u8, .int .u8]) (tb := 4) own laidOut started (by kernel_rfl) Tryz.func6
    (ChangeSpec.witness6 (enc := enc) (C := Tryz.checked) false ⟨#[], #[.int .u8 0, .int .u8 0, .int .u8 0], []⟩ 6 (by kernel_rfl) (by kernel_rfl) (by kernel_rfl) (by kernel_rfl))
    (by kernel_rfl) (by kernel_rfl) (by kernel_rfl) (by kernel_rfl) rfl ?_ ?_
  · intro ds hd
    match ds, hd with
    | [d1, d2, d3], _ => rfl
  · intro pv h
    obtain ⟨p1, _, rfl, h1, h⟩ := h.cons
    obtain ⟨p2, _, rfl, h2, h⟩ := h.cons
    obtain ⟨p3, _, rfl, h3, h⟩ := h.cons
    have := h.zero
    subst this
    cases h1 with
    | int _ a ha =>
      cases h2 with
      | int _ b hb =>
        cases h3 with
        | int _ n hn =>
          simp only [InR] at ha hb hn
          have := b6 a.toNat b.toNat n.toNat (by omega) (by omega) (by omega)
          unfold u8N at this
          rw [show ((a.toNat : Nat) : Int) = a by omega, show ((b.toNat : Nat) : Int) = b by omega, show ((n.toNat : Nat) : Int) = n by omega] at this
          exact this

theorem equal_holds : Rows.LettercostEqualSaid :=
  OpenClaim.holds_of_wide 6 Tryz.f6 rfl rfl rfl rfl rfl rfl rfl ⟨rfl, rfl, rfl, rfl, rfl⟩ rfl rfl rfl rfl rfl (by kernel_rfl) Tryz.func6 (by kernel_rfl)
    (of_decide_eq_true (by kernel_rfl)) (by unfold Func.isWrapper; first | (rw [if_pos (by decide +kernel)]; kernel_rfl) | (rw [if_neg (by decide +kernel)]; exact ⟨rfl, rfl⟩))
    (fun os started H enc _ => equal_lifted os started H enc)
#print axioms equal_holds
end Go.Proofs.YtnaekjbbakofdaaGreat
