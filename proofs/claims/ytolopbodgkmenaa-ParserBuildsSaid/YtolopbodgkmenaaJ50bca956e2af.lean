/-
  The given statement ParserBuilds, for all arguments, without conditions.
-/
import Derived.Test.YtolopbodgkmenaaRows
import Derived.Test.YtolopbodgkmenaaJ95fa5f97544c

namespace Go.Proofs.Ytolopbodgkmenaa
open Go Go.AM Go.RowKit Go.ChangeShapes
set_option maxRecDepth 100000

def parSh : Sh := .agg [.int .i64, .sl .str, .sl (.sl (.int .i64)), .sl (.sl (.int .i64))]
theorem rows_of {p : PV} (h : Fit (.sl (.sl (.int .i64))) p) : ∃ N : List (List Int), p = .sl (N.map slI) := by
  cases h with
  | sl _ l h1 h2 =>
    have : ∃ N : List (List Int), l = N.map slI := by
      clear h1
      induction l with
      | nil => exact ⟨[], rfl⟩
      | cons x l ih =>
        obtain ⟨N, h3⟩ := ih (fun i hi => h2 (i + 1) (by simpa using hi))
        have h0 := h2 0 (by simp)
        simp only [List.getD_cons_zero] at h0
        obtain ⟨a, rfl, _⟩ := nums_of h0
        exact ⟨a :: N, by rw [h3]; rfl⟩
    obtain ⟨N, rfl⟩ := this
    exact ⟨N, rfl⟩
theorem par_of {p : PV} (h : Fit parSh p) : ∃ (q : Int) (P : List (List UInt8)) (N E : List (List Int)), p = psV q P N E := by
  cases h with
  | agg _ l h1 h2 =>
    match l, h1 with
    | [x, y, z, u], _ =>
      have h3 := h2 0 (by simp)
      have h4 := h2 1 (by simp)
      have h5 := h2 2 (by simp)
      have h6 := h2 3 (by simp)
      simp only [List.getD_cons_zero, List.getD_cons_succ] at h3 h4 h5 h6
      obtain ⟨ws, rfl, _⟩ := words_of h4
      obtain ⟨N, rfl⟩ := rows_of h5
      obtain ⟨E, rfl⟩ := rows_of h6
      cases h3 with
      | int _ n hn => exact ⟨n, ws, N, E, rfl⟩

theorem builds_lifted (os : Os) (started : os.Started) (H : Type) (enc : TypeId × Value → H) :
    ReturnsInHanded {} Try.checked os 3 .any (Rows.parserBuildsSpec.pre6 enc Try.prog Try.f3 Rows.parserBuildsRow.domain false) (Rows.parserBuildsSpec.post enc Try.prog Try.f3 false true false false) := by
  refine lift (C := Try.checked) (shs := [codeSh, parSh]) (tb := 4) own laidOut started (by kernel_rfl) Try.func3
    (ChangeSpec.witness6 (enc := enc) (C := Try.checked) false ⟨#[], #[.agg #[.int .i64 0, .slice none 0 0], .agg #[.int .i64 0, .slice none 0 0, .slice none 0 0, .slice none 0 0]], []⟩ 8 (by kernel_rfl) (by kernel_rfl) (by kernel_rfl) (by kernel_rfl))
    (by kernel_rfl) (by kernel_rfl) (by kernel_rfl) (by kernel_rfl) rfl ?_ ?_
  · intro ds hd
    match ds, hd with
    | [d1, d2], _ => rfl
  · intro pv h
    obtain ⟨p1, _, rfl, h1, h⟩ := h.cons
    obtain ⟨p2, _, rfl, h2, h⟩ := h.cons
    have := h.zero
    subst this
    obtain ⟨q, ws, rfl, _, hws, _⟩ := code_of h1
    obtain ⟨r, P, N, E, rfl⟩ := par_of h2
    exact p3 q ws r P N E hws

theorem builds_holds : Rows.ParserBuildsSaid :=
  OpenClaim.holds_of_wide 3 Try.f3 rfl rfl rfl rfl rfl rfl rfl ⟨rfl, rfl, rfl, rfl, rfl⟩ rfl rfl rfl rfl rfl (by kernel_rfl) Try.func3 (by kernel_rfl)
    (of_decide_eq_true (by kernel_rfl)) (by unfold Func.isWrapper; first | (rw [if_pos (by decide +kernel)]; kernel_rfl) | (rw [if_neg (by decide +kernel)]; exact ⟨rfl, rfl⟩))
    (fun os started H enc _ => builds_lifted os started H enc)
#print axioms builds_holds
end Go.Proofs.Ytolopbodgkmenaa
