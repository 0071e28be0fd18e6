/-
  The given statement TopMissing, for all arguments, without conditions.
-/
import Derived.Test.YtaphjgjhpmmkmaaGreatRows
import Derived.Test.YtaphjgjhpmmkmaaGreatJ8f29af99b7f5
import Derived.Test.YtaphjgjhpmmkmaaGreatJ65c8f178c0d1

namespace Go.Proofs.YtaphjgjhpmmkmaaGreat
open Go Go.AM Go.RowKit Go.ChangeShapes
set_option maxRecDepth 100000

theorem missing_lifted (os : Os) (started : os.Started) (H : Type) (enc : TypeId × Value → H) :
    ReturnsInHanded {} Tryz.checked os 3 .any (Rows.topMissingSpec.pre6 enc Tryz.prog Tryz.f3 Rows.topMissingRow.domain false) (Rows.topMissingSpec.post enc Tryz.prog Tryz.f3 false true false false) := by
  refine lift (C := Tryz.checked) (shs := [codeSh, .int .u8]) (tb := 4) own laidOut started (by kernel_rfl) Tryz.func3
    (ChangeSpec.witness6 (enc := enc) (C := Tryz.checked) false ⟨#[], #[.agg #[.int .i64 0, .slice none 0 0], .int .u8 0], []⟩ 8 (by kernel_rfl) (by kernel_rfl) (by kernel_rfl) (by kernel_rfl))
    (by kernel_rfl) (by kernel_rfl) (by kernel_rfl) (by kernel_rfl) rfl ?_ ?_
  · intro ds hd
    match ds, hd with
    | [d1, d2], _ => rfl
  · intro pv h
    obtain ⟨p1, _, rfl, h1, h⟩ := h.cons
    obtain ⟨p2, _, rfl, h2, h⟩ := h.cons
    have := h.zero
    subst this
    obtain ⟨q, ws, rfl, _, hws, _⟩ := code_of h1
    cases h2 with
    | int k n hn =>
      have hn : 0 ≤ n ∧ n ≤ 255 := by simpa only [InR] using hn
      obtain ⟨m, rfl⟩ : ∃ m : Nat, n = m := ⟨n.toNat, by omega⟩
      exact b3 q ws m (by omega) hws

theorem missing_holds : Rows.TopMissingSaid :=
  OpenClaim.holds_of_wide 3 Tryz.f3 rfl rfl rfl rfl rfl rfl rfl ⟨rfl, rfl, rfl, rfl, rfl⟩ rfl rfl rfl rfl rfl (by kernel_rfl) Tryz.func3 (by kernel_rfl)
    (of_decide_eq_true (by kernel_rfl)) (by unfold Func.isWrapper; first | (rw [if_pos (by decide +kernel)]; kernel_rfl) | (rw [if_neg (by decide +kernel)]; exact ⟨rfl, rfl⟩))
    (fun os started H enc _ => missing_lifted os started H enc)
#print axioms missing_holds
end Go.Proofs.YtaphjgjhpmmkmaaGreat
