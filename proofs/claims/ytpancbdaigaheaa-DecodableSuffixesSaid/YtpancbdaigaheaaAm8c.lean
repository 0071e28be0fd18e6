/-
  AM 8c: an owned row given to everybody to read.
-/
import Derived.Test.YtpancbdaigaheaaAm8b
namespace Go.AM
open Go.RowKit
section
variable {I : Nat → Prop} {w : World}
theorem RowIn.pr {E : TypeId} {s : Nat} {xs : List PV} {v : Value} {g : Nat} {fz : Bool} (hall : ∀ x ∈ xs, x.cells.length = s) (hin : RowIn I w E s xs v g fz) {J : Nat → Prop} (hJ : ∀ g, I g → J g) (hg : J g) : PR J w (.sl xs) v := by
  obtain ⟨cap, cur, fr, vs, hv, hw, _, _, hle, _, hcs, htake, hvl, hpr⟩ := hin
  by_cases h0 : xs = []
  · subst h0; rw [hv]; exact .sl0 _ _ (by simp)
  · have := PR.sl (I := J) (w := w) xs s g 0 cap cur E fr (fun j => vs.getD j undef) h0 hg hw hle hall (fun j hj => by
        have hmul : xs.length * s ≤ cap * s := Nat.mul_le_mul_right _ hle
        have h1 : cur.toList.getD j undef = vs.getD j undef := by
          rw [← htake]; simp only [List.getD_eq_getElem?_getD, List.getElem?_take, if_pos hj]
        have hj' : j < cur.size := by omega
        rw [← h1, Nat.zero_add, Array.getElem?_eq_getElem hj']
        simp [List.getD_eq_getElem?_getD, hj'])
      (fun i j hi hj => by
        have hj2 : i * s + j < xs.length * s := by
          have := Nat.mul_le_mul_right s (show i + 1 ≤ xs.length by omega)
          rw [Nat.add_mul, Nat.one_mul] at this; omega
        have := hpr _ hj2
        rw [flats_getD hall hi hj] at this
        exact this.mono hJ (fun _ _ => rfl))
    rw [hv]; exact this

end

/-! ### An owned row, given to everybody to read -/
def AV.thaw (b : Nat) (xs : List PV) : AV → AV
  | .own c n => if c = b then .p (.sl xs) else .own c n
  | .eptr c s i f => if c = b then .junk else .eptr c s i f
  | .fn f caps => .fn f (thawL b xs caps)
  | .agg l => .agg (thawL b xs l)
  | .tup l => .tup (thawL b xs l)
  | v => v
where
  thawL (b : Nat) (xs : List PV) : List AV → List AV
    | [] => []
    | v :: l => v.thaw b xs :: thawL b xs l

theorem thawL_eq (b : Nat) (xs : List PV) (l : List AV) : AV.thaw.thawL b xs l = l.map (AV.thaw b xs) := by
  induction l with
  | nil => rfl
  | cons v l ih => simp [AV.thaw.thawL, ih]

def AObj.thaw (b : Nat) (xs : List PV) : AObj → AObj
  | .box cs => .box (cs.map (AV.thaw b xs))
  | .lp tm ps assign body s => .lp (tm.map (AV.thaw b xs)) ps assign body s
  | o => o

theorem getD_map_junk {f : AV → AV} {l : List AV} {i : Nat} (hi : i < l.length) : (l.map f).getD i .junk = f (l.getD i .junk) := by
  simp [List.getD_eq_getElem?_getD, List.getElem?_map, List.getElem?_eq_getElem hi]

theorem VR.thaw {n : Nat} {μ : Nat → Value} {I J : Nat → Prop} {w : World} {x : AV} {v : Value} {b0 : Nat} {xs : List PV} (hI : ∀ g, I g → J g) (hr : PR J w (.sl xs) (μ b0)) (h : VR n μ I w x v) : VR n μ J w (x.thaw b0 xs) v := by
  induction h with
  | junk v => exact .junk v
  | cell v h => exact .cell v h
  | p x v h => exact .p x v (h.mono hI (fun _ _ => rfl))
  | full l a h => exact .full l a (h.mono hI (fun _ _ => rfl))
  | own b k a c hb h =>
    unfold AV.thaw
    split
    · rename_i e; subst e; rw [← h]; exact .p _ _ hr
    · exact .own b k a c hb h
  | ptr b off g hb h => exact .ptr b off g hb h
  | eptr b s i f g k c hb h =>
    unfold AV.thaw
    split
    · exact .junk _
    · exact .eptr b s i f g k c hb h
  | ipt l g off cur E fz vs hg hb hv hr => exact .ipt l g off cur E fz vs (hI g hg) hb hv (fun j hj => (hr j hj).mono hI (fun _ _ => rfl))
  | map b r hb h => exact .map b r hb h
  | yld b l hb h => exact .yld b l hb h
  | fn f caps cs hl _ ih =>
    unfold AV.thaw; rw [thawL_eq]
    exact .fn f _ cs (by simpa using hl) (fun i hi => by rw [getD_map_junk (by simpa using hi)]; exact ih i (by simpa using hi))
  | agg l cs hl _ ih =>
    unfold AV.thaw; rw [thawL_eq]
    exact .agg _ cs (by simpa using hl) (fun i hi => by rw [getD_map_junk (by simpa using hi)]; exact ih i (by simpa using hi))
  | tup l cs hl _ ih =>
    unfold AV.thaw; rw [thawL_eq]
    exact .tup _ cs (by simpa using hl) (fun i hi => by rw [getD_map_junk (by simpa using hi)]; exact ih i (by simpa using hi))

section
variable {X : Ctx} {I : Nat → Prop} {μ : Nat → Value} {ob : Nat → Option Nat} {w : World} {st : St} {a : Act} {b : Nat} {E : TypeId} {s : Nat} {xs : List PV} {k : RK}

def Frozen (st : St) (b : Nat) (xs : List PV) : St := ⟨st.tmps.map (AV.thaw b xs), (st.h.map (AObj.thaw b xs)).set b .dead⟩

theorem ObjOK.thaw {n c : Nat} {o : AObj} {J : Nat → Prop} (hI : ∀ g, I g → J g) (hr : PR J w (.sl xs) (μ b)) (hc : c ≠ b) (h : ObjOK n μ I ob w c o) : ObjOK n μ J (upd ob b none) w c (o.thaw b xs) := by
  have hob : upd ob b none c = ob c := upd_other _ _ hc
  cases o with
  | dead => trivial
  | box cs =>
    obtain ⟨g, T, cur, h1, h2, h3, h4, h5⟩ := h
    refine ⟨g, T, cur, hob.trans h1, h2, h3, by simpa using h4, fun i hi => ?_⟩
    simp only [List.length_map] at hi
    rw [getD_map_junk hi]; exact (h5 i hi).thaw hI hr
  | row E s ys k =>
    obtain ⟨h0, h⟩ := h
    refine ⟨h0, ?_⟩
    rcases h with ⟨g, h1, h2⟩ | ⟨h1, h2, a, h3, h4⟩
    · exact .inl ⟨g, hob.trans h1, h2.keep hI (fun _ _ => rfl) rfl⟩
    · exact .inr ⟨h1, hob.trans h2, a, h3, h4.mono hI (fun _ _ => rfl)⟩
  | mp es =>
    obtain ⟨r, ents, h1, h2, h3, h4, h5, h6⟩ := h
    exact ⟨r, ents, hob.trans h1, h2, h3, h4, fun i hi => ⟨(h5 i hi).1, ((h5 i hi).2).mono hI (fun _ _ => rfl)⟩, h6⟩
  | it m since seen last =>
    obtain ⟨r, g, h0, h1, h2, h3, h4, h5⟩ := h
    exact ⟨r, g, h0, hob.trans h1, h2, h3, h4, h5⟩
  | lp tm ps assign body s =>
    obtain ⟨l, rec, h1, h2, h3, h4, h5, h6⟩ := h
    refine ⟨l, rec, hob.trans h1, h2, h3, by simpa using h4, fun i hi => ?_, h6⟩
    simp only [List.length_map] at hi
    rw [getD_map_junk hi]; exact (h5 i hi).thaw hI hr

theorem Rep.freeze (R : Rep X I μ ob st w a) (hb : st.h[b]? = some (.row E s xs k)) : ∃ J, (∀ g, I g → J g) ∧ Rep X J μ (upd ob b none) (Frozen st b xs) w a := by
  obtain ⟨hall, hrow⟩ := R.objs b _ hb
  have hlt : b < st.h.length := (List.getElem?_eq_some_iff.1 hb).1
  let J : Nat → Prop := fun g => I g ∨ ob b = some g
  have hIJ : ∀ g, I g → J g := fun _ h => .inl h
  have hr : PR J w (.sl xs) (μ b) := by
    rcases hrow with ⟨g, h1, h2⟩ | ⟨_, _, a, h3, h4⟩
    · exact h2.pr hall hIJ (.inr h1)
    · exact h4.mono hIJ (fun _ _ => rfl)
  refine ⟨J, hIJ, {
    below := R.below, base := R.base, imm := fun g hg => hg.elim (R.imm g) (fun h => (R.own b g h).2.2), ctx := fun g hg => .inl (R.ctx g hg), frz := R.frz
    inew := fun g hg => hg.elim (R.inew g) (fun h => .inr (R.own b g h).2.1), may := R.may, names := by simpa [Frozen] using R.names
    own := fun c g hc => ?_, sep := fun c c' g h1 h2 => ?_, past := fun c hc => ?_, objs := fun c o ho => ?_
    size := by simpa [Frozen] using R.size, tmps := fun i hi => ?_, marks := ?_ }⟩
  · by_cases e : c = b
    · subst e; rw [upd_same] at hc; cases hc
    · rw [upd_other _ _ e] at hc
      exact ⟨fun h => h.elim (R.own c g hc).1 (fun h => e (R.sep c b g hc h)), (R.own c g hc).2⟩
  · by_cases e : c = b
    · subst e; rw [upd_same] at h1; cases h1
    · by_cases e' : c' = b
      · subst e'; rw [upd_same] at h2; cases h2
      · rw [upd_other _ _ e] at h1; rw [upd_other _ _ e'] at h2; exact R.sep c c' g h1 h2
  · simp only [Frozen, List.length_set, List.length_map] at hc
    rw [upd_other _ _ (by omega)]; exact R.past c hc
  · simp only [Frozen, List.length_set, List.length_map] at ho ⊢
    by_cases e : c = b
    · subst e
      rw [List.getElem?_set_self (by simpa using hlt)] at ho; injection ho with ho; subst ho; trivial
    · rw [List.getElem?_set_ne (fun h => e h.symm), List.getElem?_map] at ho
      cases ho' : st.h[c]? with
      | none => rw [ho'] at ho; simp at ho
      | some o' =>
        rw [ho'] at ho; simp only [Option.map_some, Option.some.injEq] at ho; subst ho
        exact (R.objs c o' ho').thaw hIJ hr e
  · simp only [Frozen, List.length_map, List.length_set] at hi ⊢
    rw [getD_map_junk hi]; exact (R.tmps i hi).thaw hIJ hr
  · obtain ⟨rs, m1, m2, m3⟩ := R.marks
    refine ⟨rs, m1, m2, fun q hq => ?_⟩
    obtain ⟨e1, e2, e3, e4⟩ := m3 q hq
    refine ⟨e1, e2, fun h => h.elim e3 (e4 b), fun c hc => ?_⟩
    by_cases e : c = b
    · subst e; rw [upd_same] at hc; cases hc
    · rw [upd_other _ _ e] at hc; exact e4 c hc


/-- Rows that are put into something are given away. -/
def fz1 (v : AV) (st : St) : St := match v with
  | .own b _ => (match st.h[b]? with
    | some (.row _ _ xs _) => Frozen st b xs
    | _ => st)
  | _ => st
def fzL : List AV → St → St
  | [], st => st
  | v :: l, st => fzL l (fz1 v st)

theorem Rep.fz1 (R : Rep X I μ ob st w a) (v : AV) : ∃ J ob', (∀ g, I g → J g) ∧ Rep X J μ ob' (AM.fz1 v st) w a := by
  unfold AM.fz1
  split
  · split
    · rename_i hb
      obtain ⟨J, h1, h2⟩ := R.freeze hb
      exact ⟨J, _, h1, h2⟩
    · exact ⟨I, ob, fun _ h => h, R⟩
  · exact ⟨I, ob, fun _ h => h, R⟩
theorem Rep.fzL : ∀ (l : List AV) {I : Nat → Prop} {ob : Nat → Option Nat} {st : St}, Rep X I μ ob st w a → ∃ J ob', (∀ g, I g → J g) ∧ Rep X J μ ob' (AM.fzL l st) w a
  | [], I, ob, _, R => ⟨I, ob, fun _ h => h, R⟩
  | v :: l, _, _, _, R => by
    obtain ⟨J, ob', h1, R1⟩ := R.fz1 v
    obtain ⟨J2, ob2, h2, R2⟩ := Rep.fzL l R1
    exact ⟨J2, ob2, fun g h => h2 g (h1 g h), R2⟩
theorem fzL_id : ∀ (l : List AV) (st : St), (∀ v ∈ l, ∀ b n, v ≠ .own b n) → fzL l st = st
  | [], _, _ => rfl
  | v :: l, st, h => by
    have : fz1 v st = st := by
      unfold fz1; split
      · rename_i b n; exact absurd rfl (h (.own b n) (by simp) b n)
      · rfl
    simp only [fzL, this]
    exact fzL_id l st (fun u hu => h u (by simp [hu]))
theorem fz1_length (v : AV) (st : St) : (fz1 v st).h.length = st.h.length ∧ (fz1 v st).tmps.length = st.tmps.length := by
  unfold fz1
  split
  · split
    · simp [Frozen]
    · simp
  · simp
theorem fzL_length : ∀ (l : List AV) (st : St), (fzL l st).h.length = st.h.length ∧ (fzL l st).tmps.length = st.tmps.length
  | [], _ => ⟨rfl, rfl⟩
  | v :: l, st => by
    have h1 := fz1_length v st
    have h2 := fzL_length l (fz1 v st)
    exact ⟨h2.1.trans h1.1, h2.2.trans h1.2⟩
end
end Go.AM
