/-
  AM 20: a list that nobody owns, taken as a row to append to.
-/
import Derived.Test.YtpancbdaigaheaaAm19
namespace Go.AM
open Go.RowKit

theorem Rep.adopt {X : Ctx} {I : Nat → Prop} {μ : Nat → Value} {ob : Nat → Option Nat} {w : World} {st : St} {a : Act} {l : List PV} (R : Rep X I μ ob st w a) (i : Nat) (E : TypeId) (s : Nat)
    (hi : st.tmps.getD i .junk = .full l) (hs : ∀ x ∈ l, x.cells.length = s) : ∃ v, Rep X I (upd μ st.h.length v) (upd ob st.h.length none) ⟨st.tmps.set i (.own st.h.length l.length), st.h ++ [.row E s l .lax]⟩ w a := by
  have hlt : i < st.tmps.length := by
    by_cases h : i < st.tmps.length
    · exact h
    · rw [List.getD_eq_getElem?_getD, List.getElem?_eq_none (Nat.le_of_not_lt h)] at hi; cases hi
  have hv := R.tmps i hlt
  rw [hi] at hv
  generalize hc : a.tmps.getD i undef = c at hv
  cases hv with
  | full _ ad h =>
    refine ⟨.slice ad l.length l.length, {
      toRepH := R.toRepH.name (World.grownBy.refl _ _) (g := none) (by simp) ⟨hs, .inr ⟨rfl, upd_same _ _ _, ad, upd_same _ _ _, by rw [upd_same]; exact h⟩⟩
      size := by simpa using R.size, tmps := fun j hj => ?_, marks := ?_ }⟩
    · simp only [List.length_set, List.length_append, List.length_singleton] at hj ⊢
      by_cases e : i = j
      · subst e
        rw [List.getD_eq_getElem?_getD, List.getElem?_set_self hlt, hc]
        exact .own _ _ _ _ (Nat.lt_succ_self _) (upd_same _ _ _)
      · rw [List.getD_eq_getElem?_getD, List.getElem?_set_ne e, ← List.getD_eq_getElem?_getD]
        exact (R.tmps j hj).mono (Nat.le_succ _) (fun b hb => upd_other _ _ (by omega)) (fun _ h => h) (fun _ _ => rfl)
    · obtain ⟨rs, m1, m2, m3⟩ := R.marks
      refine ⟨rs, m1, m2, fun q hq => ?_⟩
      obtain ⟨e1, e2, e3, e4⟩ := m3 q hq
      refine ⟨e1, e2, e3, fun b hb => ?_⟩
      by_cases e : b = st.h.length
      · subst e; rw [upd_same] at hb; cases hb
      · rw [upd_other _ _ e] at hb; exact e4 b hb

theorem AWp.adopt {E : Env} {r : Option Nat} {c : Code} {Q : Exit → St → Prop} {tm : List AV} {h : List AObj} {l : List PV} (i : Nat) (t : TypeId) (s : Nat) (hi : tm.getD i .junk = .full l) (hs : ∀ x ∈ l, x.cells.length = s)
    (hw : AWp E r c Q ⟨tm.set i (.own h.length l.length), h ++ [.row t s l .lax]⟩) : AWp E r c Q ⟨tm, h⟩ := fun X I w a hE ⟨I', μ', ob', hI, R⟩ => by
  obtain ⟨v, R'⟩ := R.adopt i t s hi hs
  exact hw X I w a hE ⟨I', _, _, hI, R'⟩
end Go.AM
