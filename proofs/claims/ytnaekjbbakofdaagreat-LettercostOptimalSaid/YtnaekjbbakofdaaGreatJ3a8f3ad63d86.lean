/-
  The given statement LettercostOptimal, for all arguments, without conditions.
-/
import Derived.Test.YtnaekjbbakofdaaGreatRows
import Derived.Test.YtnaekjbbakofdaaGreatJ9f8c92535658
import Derived.Test.YtnaekjbbakofdaaGreatJ76797d4c9523

namespace Go.Proofs.YtnaekjbbakofdaaGreat
open Go Go.AM Go.RowKit Go.ChangeShapes
set_option maxRecDepth 100000

theorem weights_of {p : PV} (h : Fit (.sl (.agg [.bool, .str])) p) : ∃ W : List WV, p = .sl (W.map wV) ∧ W.length ≤ maxLen := by
  cases h with
  | sl _ l h1 h2 =>
    have key : ∀ l : List PV, (∀ i, i < l.length → Fit (.agg [.bool, .str]) (l.getD i default)) → ∃ W : List WV, l = W.map wV := by
      intro l
      induction l with
      | nil => exact fun _ => ⟨[], rfl⟩
      | cons x l ih =>
        intro h
        obtain ⟨W, h1⟩ := ih (fun i hi => h (i + 1) (by simpa using hi))
        have h0 := h 0 (by simp)
        simp only [List.getD_cons_zero] at h0
        cases h0 with
        | agg _ m g1 g2 =>
          match m, g1 with
          | [y, z], _ =>
            have g3 := g2 0 (by simp)
            have g4 := g2 1 (by simp)
            simp only [List.getD_cons_zero, List.getD_cons_succ] at g3 g4
            cases g3 with
            | bool b =>
              cases g4 with
              | str s hs => exact ⟨(b, s) :: W, by rw [h1]; rfl⟩
    obtain ⟨W, rfl⟩ := key l h2
    exact ⟨W, rfl, by simpa using h1⟩

theorem optimal_lifted (os : Os) (started : os.Started) (H : Type) (enc : TypeId × Value → H) :
    ReturnsInHanded {} Tryz.checked os 3 .any (Rows.lettercostOptimalSpec.pre6 enc Tryz.prog Tryz.f3 Rows.lettercostOptimalRow.domain false) (Rows.lettercostOptimalSpec.post enc Tryz.prog Tryz.f3 false true false false) := by
  refine lift (C := Tryz.checked) (shs := [.sl (.int .i64), .sl (.agg [.bool, .str]), .int .i64]) (tb := 4) own laidOut started (by kernel_rfl) Tryz.func3
    (ChangeSpec.witness6 (enc := enc) (C := Tryz.checked) false ⟨#[], #[.slice none 0 0, .slice none 0 0, .int .i64 0], []⟩ 3 (by kernel_rfl) (by kernel_rfl) (by kernel_rfl) (by kernel_rfl))
    (by kernel_rfl) (by kernel_rfl) (by kernel_rfl) (by kernel_rfl) rfl ?_ ?_
  · intro ds hd
    match ds, hd with
    | [d1, d2, d3], _ => rfl
  · intro pv h
    obtain ⟨p1, _, rfl, h1, h⟩ := h.cons
    obtain ⟨p2, _, rfl, h2, h⟩ := h.cons
    obtain ⟨p3, _, rfl, h3, h⟩ := h.cons
    have := h.zero
    subst this
    obtain ⟨cs, rfl, hc, _⟩ := nums_of h1
    obtain ⟨W, rfl, hW⟩ := weights_of h2
    cases h3 with
    | int _ n hn => exact b3 cs W n (maxLen_le hc) (maxLen_le hW)

theorem optimal_holds : Rows.LettercostOptimalSaid :=
  OpenClaim.holds_of_wide 3 Tryz.f3 rfl rfl rfl rfl rfl rfl rfl ⟨rfl, rfl, rfl, rfl, rfl⟩ rfl rfl rfl rfl rfl (by kernel_rfl) Tryz.func3 (by kernel_rfl)
    (of_decide_eq_true (by kernel_rfl)) (by unfold Func.isWrapper; first | (rw [if_pos (by decide +kernel)]; kernel_rfl) | (rw [if_neg (by decide +kernel)]; exact ⟨rfl, rfl⟩))
    (fun os started H enc _ => optimal_lifted os started H enc)
#print axioms optimal_holds
end Go.Proofs.YtnaekjbbakofdaaGreat
