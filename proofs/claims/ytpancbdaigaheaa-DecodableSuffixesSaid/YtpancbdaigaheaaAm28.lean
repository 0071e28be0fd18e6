/-
  AM 28: a list that nobody owns, in a box, taken as a row to append to.
-/
import Derived.Test.YtpancbdaigaheaaAm27
namespace Go.AM
open Go.RowKit

theorem Rep.adoptBox {X : Ctx} {I : Nat → Prop} {μ : Nat → Value} {ob : Nat → Option Nat} {w : World} {st : St} {a : Act} {l : List PV} (R : Rep X I μ ob st w a) (c : Nat) (E : TypeId) (s : Nat)
    (hc : st.h[c]? = some (.box [.full l])) (hs : ∀ x ∈ l, x.cells.length = s) : ∃ v, Rep X I (upd μ st.h.length v) (upd ob st.h.length none) ⟨st.tmps, st.h.set c (.box [.own st.h.length l.length]) ++ [.row E s l .lax]⟩ w a := by
  have hlt : c < st.h.length := (List.getElem?_eq_some_iff.1 hc).1
  obtain ⟨g, T, cur, h1, h2, h3, h4, h5⟩ := R.objs _ _ hc
  have hv := h5 0 (by simp)
  simp only [List.getD_cons_zero] at hv
  generalize hcv : cur.getD 0 undef = cv at hv
  cases hv with
  | full _ ad h =>
    have R1 := R.toRepH.name (World.grownBy.refl w none) (v := .slice ad l.length l.length) (g := none) (o := .row E s l .lax) (by simp) ⟨hs, .inr ⟨rfl, upd_same _ _ _, ad, upd_same _ _ _, by rw [upd_same]; exact h⟩⟩
    have hne : c ≠ st.h.length := by omega
    have R2 := R1.write (b0 := c) (g0 := g) (o := .box [.own st.h.length l.length]) (by simp; omega) (by rw [upd_other _ _ hne]; exact h1) (World.grownBy.refl w (some g))
      ⟨g, T, cur, by rw [upd_other _ _ hne]; exact h1, by rw [upd_other _ _ hne]; exact h2, h3, by simpa using h4, fun i hi => by
        have : i = 0 := by simpa using hi
        subst this
        rw [hcv]
        exact .own _ _ _ _ (by simp) (upd_same _ _ _)⟩
    rw [List.set_append_left _ _ hlt] at R2
    refine ⟨_, { toRepH := R2, size := R.size, tmps := fun j hj => (R.tmps j hj).mono (by simp) (fun b hb => upd_other _ _ (by omega)) (fun _ h => h) (fun _ _ => rfl), marks := ?_ }⟩
    obtain ⟨rs, m1, m2, m3⟩ := R.marks
    refine ⟨rs, m1, m2, fun q hq => ?_⟩
    obtain ⟨e1, e2, e3, e4⟩ := m3 q hq
    refine ⟨e1, e2, e3, fun b hb => ?_⟩
    by_cases e : b = st.h.length
    · subst e; rw [upd_same] at hb; cases hb
    · rw [upd_other _ _ e] at hb; exact e4 b hb

theorem AWp.adoptBox {E : Env} {r : Option Nat} {c : Code} {Q : Exit → St → Prop} {tm : List AV} {h : List AObj} {l : List PV} (b : Nat) (t : TypeId) (s : Nat) (hb : h[b]? = some (.box [.full l])) (hs : ∀ x ∈ l, x.cells.length = s)
    (hw : AWp E r c Q ⟨tm, h.set b (.box [.own h.length l.length]) ++ [.row t s l .lax]⟩) : AWp E r c Q ⟨tm, h⟩ := fun X I w a hE ⟨I', μ', ob', hI, R⟩ => by
  obtain ⟨v, R'⟩ := R.adoptBox b t s hb hs
  exact hw X I w a hE ⟨I', _, _, hI, R'⟩

/-- Nothing in these is struck. -/
theorem killAll_keep {tm : List AV} : ∀ {ks : List Nat}, (∀ k ∈ ks, ∀ v ∈ tm, v.kill k = v) → killAll ks tm = tm
  | [], _ => rfl
  | k :: ks, h => by
    show killAll ks (tm.map (AV.kill k)) = tm
    have e : tm.map (AV.kill k) = tm := by
      conv => rhs; rw [← List.map_id tm]
      exact List.map_congr_left (fun v hv => h k (by simp) v hv)
    rw [e]; exact killAll_keep (fun k' hk' => h k' (by simp [hk']))
end Go.AM
