/-
  Texts of this claim, joined.
-/
import Derived.Test.YtpljmccnfmkmfaaGreatRows
import Derived.Test.YtpljmccnfmkmfaaGreatJe01266d4e944
import Derived.Test.YtpljmccnfmkmfaaGreatJb7dbf6933b90

set_option maxRecDepth 100000
namespace Go.Proofs.YtpljmccnfmkmfaaGreat
open Go Go.AM Go.RowKit Go.ChangeShapes

theorem Z9v {n : Nat} (h : n ≤ maxLen) : n ≤ 9223372036854775807 := by simp only [maxLen] at h; omega
theorem Zl7 {p : PV} (h : Fit (.sl (.agg [.bool, .str, .bool, .str])) p) : ∃ W : List Kn.RT, p = .sl (W.map Kn.rvT) ∧ W.length ≤ maxLen := by
  cases h with
  | sl _ l h1 h2 =>
    have key : ∀ l : List PV, (∀ i, i < l.length → Fit (.agg [.bool, .str, .bool, .str]) (l.getD i default)) → ∃ W : List Kn.RT, l = W.map Kn.rvT := by
      intro l
      induction l with
      | nil => exact fun _ => ⟨[], rfl⟩
      | cons x l ih =>
        intro h; obtain ⟨W, h1⟩ := ih (fun i hi => h (i + 1) (by simpa using hi)); have h0 := h 0 (by simp); simp only [List.getD_cons_zero] at h0
        cases h0 with
        | agg _ m g1 g2 =>
          match m, g1 with
          | [y, z, u, v], _ =>
            have g3 := g2 0 (by simp); have g4 := g2 1 (by simp); have g5 := g2 2 (by simp); have g6 := g2 3 (by simp); simp only [List.getD_cons_zero, List.getD_cons_succ] at g3 g4 g5 g6
            cases g3 with
            | bool b =>
              cases g4 with
              | str s hs =>
                cases g5 with
                | bool b' =>
                  cases g6 with
                  | str s' hs' => exact ⟨(b, s, b', s') :: W, by rw [h1]; rfl⟩
    obtain ⟨W, rfl⟩ := key l h2; exact ⟨W, rfl, by simpa using h1⟩

theorem Zas (os : Os) (started : os.Started) (H : Type) (enc : TypeId × Value → H) :
    ReturnsInHanded {} Tryz.checked os 8 .any (Rows.measureSumsSpec.pre6 enc Tryz.prog Tryz.f8 Rows.measureSumsRow.domain false) (Rows.measureSumsSpec.post enc Tryz.prog Tryz.f8 false true false false) := by
  refine lift (C := Tryz.checked) (shs := [.int .i64, .sl (.int .i64), Zkh, .sl (.agg [.bool, .str, .bool, .str])]) (tb := 4) own Zmd started (by kernel_rfl) Tryz.func8
    (ChangeSpec.witness6 (enc := enc) (C := Tryz.checked) false ⟨#[], #[.int .i64 0, .slice none 0 0, .agg #[.int .i64 0, .slice none 0 0], .slice none 0 0], []⟩ 8 (by kernel_rfl) (by kernel_rfl) (by kernel_rfl) (by kernel_rfl))
    (by kernel_rfl) (by kernel_rfl) (by kernel_rfl) (by kernel_rfl) rfl ?_ ?_
  · intro ds hd
    match ds, hd with
    | [d1, d2, d3, d4], _ => rfl
  · intro pv h
    obtain ⟨p1, _, rfl, h1, h⟩ := h.cons; obtain ⟨p2, _, rfl, h2, h⟩ := h.cons; obtain ⟨p3, _, rfl, h3, h⟩ := h.cons; obtain ⟨p4, _, rfl, h4, h⟩ := h.cons; have := h.zero; subst this; obtain ⟨q, ws, rfl, _, hws, _⟩ := Zn1 h3; obtain ⟨l, rfl, hl, _⟩ := Zlv h2; obtain ⟨rs, rfl, hrs⟩ := Zl7 h4
    cases h1 with
    | int _ n hn => exact b8 n l q ws rs (Z9v hl) hws (Z9v hrs)

theorem sums_holds : Rows.MeasureSumsSaid :=
  OpenClaim.holds_of_wide 8 Tryz.f8 rfl rfl rfl rfl rfl rfl rfl ⟨rfl, rfl, rfl, rfl, rfl⟩ rfl rfl rfl rfl rfl (by kernel_rfl) Tryz.func8 (by kernel_rfl)
    (of_decide_eq_true (by kernel_rfl)) (by unfold Func.isWrapper; first | (rw [if_pos (by decide +kernel)]; kernel_rfl) | (rw [if_neg (by decide +kernel)]; exact ⟨rfl, rfl⟩))
    (fun os started H enc _ => Zas os started H enc)
#print axioms sums_holds
end Go.Proofs.YtpljmccnfmkmfaaGreat
