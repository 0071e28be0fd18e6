/-
  The given statement TopLengths, for all arguments, without conditions.
-/
import Derived.Test.YtaphjgjhpmmkmaaGreatRows
import Derived.Test.YtaphjgjhpmmkmaaGreatJ8f29af99b7f5
import Derived.Test.YtaphjgjhpmmkmaaGreatJ0cbdcbeeca29

namespace Go.Proofs.YtaphjgjhpmmkmaaGreat
open Go Go.AM Go.RowKit Go.ChangeShapes
set_option maxRecDepth 100000

theorem bytes_in {l : List PV} (h : ∀ i, i < l.length → Fit (.int .u8) (l.getD i default)) : ∃ a : List Int, l = a.map byI ∧ ∀ x ∈ a, 0 ≤ x ∧ x ≤ 255 := by
  induction l with
  | nil => exact ⟨[], rfl, by simp⟩
  | cons x l ih =>
    obtain ⟨a, h1, h2⟩ := ih (fun i hi => h (i + 1) (by simpa using hi))
    have h0 := h 0 (by simp)
    simp only [List.getD_cons_zero] at h0
    cases h0 with
    | int _ n hn => exact ⟨n :: a, by rw [h1]; rfl, fun w hw => by
        rcases List.mem_cons.1 hw with rfl | hw
        · simpa only [InR] using hn
        · exact h2 w hw⟩
theorem bytes_of {p : PV} (h : Fit (.sl (.int .u8)) p) : ∃ a : List Int, p = .sl (a.map byI) ∧ a.length ≤ maxLen ∧ ∀ x ∈ a, 0 ≤ x ∧ x ≤ 255 := by
  cases h with
  | sl _ l h1 h2 =>
    obtain ⟨a, rfl, h3⟩ := bytes_in h2
    exact ⟨a, rfl, by simpa using h1, h3⟩

theorem lengths_lifted (os : Os) (started : os.Started) (H : Type) (enc : TypeId × Value → H) :
    ReturnsInHanded {} Tryz.checked os 5 .any (Rows.topLengthsSpec.pre6 enc Tryz.prog Tryz.f5 Rows.topLengthsRow.domain false) (Rows.topLengthsSpec.post enc Tryz.prog Tryz.f5 false true false false) := by
  refine lift (C := Tryz.checked) (shs := [.int .u8, .sl (.int .u8)]) (tb := 4) own laidOut started (by kernel_rfl) Tryz.func5
    (ChangeSpec.witness6 (enc := enc) (C := Tryz.checked) false ⟨#[], #[.int .u8 0, .slice none 0 0], []⟩ 8 (by kernel_rfl) (by kernel_rfl) (by kernel_rfl) (by kernel_rfl))
    (by kernel_rfl) (by kernel_rfl) (by kernel_rfl) (by kernel_rfl) rfl ?_ ?_
  · intro ds hd
    match ds, hd with
    | [d1, d2], _ => rfl
  · intro pv h
    obtain ⟨p1, _, rfl, h1, h⟩ := h.cons
    obtain ⟨p2, _, rfl, h2, h⟩ := h.cons
    have := h.zero
    subst this
    obtain ⟨l, rfl, hl, hx⟩ := bytes_of h2
    cases h1 with
    | int k n hn =>
      have hn : 0 ≤ n ∧ n ≤ 255 := by simpa only [InR] using hn
      exact b5 n l hn.1 hn.2 hl hx

theorem lengths_holds : Rows.TopLengthsSaid :=
  OpenClaim.holds_of_wide 5 Tryz.f5 rfl rfl rfl rfl rfl rfl rfl ⟨rfl, rfl, rfl, rfl, rfl⟩ rfl rfl rfl rfl rfl (by kernel_rfl) Tryz.func5 (by kernel_rfl)
    (of_decide_eq_true (by kernel_rfl)) (by unfold Func.isWrapper; first | (rw [if_pos (by decide +kernel)]; kernel_rfl) | (rw [if_neg (by decide +kernel)]; exact ⟨rfl, rfl⟩))
    (fun os started H enc _ => lengths_lifted os started H enc)
#print axioms lengths_holds
end Go.Proofs.YtaphjgjhpmmkmaaGreat
