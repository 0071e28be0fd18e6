/-
  AM 10: the forms of control; a function's contract out of its body.
-/
import Derived.Test.YtpancbdaigaheaaAm9
namespace Go.AM
open Go.RowKit

/-- From this abstract state the code does what Q says. -/
def AWp (E : Env) (r : Option Nat) (c : Code) (Q : Exit → St → Prop) (st : St) : Prop :=
  ∀ (X : Ctx) (I : Nat → Prop) (w : World) (a : Act), E.fits X → Now X I st w a → c.wpIn (Fw r) 0 E.P (fun e a' w' => ∃ st', Now X I st' w' a' ∧ Q e st') a w

/-- Less is known in st' than in st. -/
def weakT : List AV → List AV → Prop
  | [], [] => True
  | x :: l, y :: l' => (y = .junk ∨ y = x) ∧ weakT l l'
  | _, _ => False
/-- An owned row is appendable. -/
def laxer : AObj → AObj → Prop
  | .row E s xs .own, y => y = .row E s xs .lax
  | _, _ => False
def weakH : List AObj → List AObj → Prop
  | [], [] => True
  | x :: l, y :: l' => (y = .dead ∨ y = x ∨ laxer x y) ∧ weakH l l'
  | _, _ => False
def Weak (st st' : St) : Prop := weakT st.tmps st'.tmps ∧ weakH st.h st'.h

theorem weakT_ok : ∀ {l l' : List AV}, weakT l l' → l'.length = l.length ∧ ∀ i, i < l.length → l'.getD i .junk = .junk ∨ l'.getD i .junk = l.getD i .junk
  | [], [], _ => ⟨rfl, by simp⟩
  | x :: l, y :: l', h => by
    obtain ⟨h1, h2⟩ := h
    obtain ⟨e1, e2⟩ := weakT_ok h2
    refine ⟨by simp [e1], fun i hi => ?_⟩
    cases i with
    | zero => simpa using h1
    | succ i => simpa using e2 i (by simpa using hi)
theorem weakH_ok : ∀ {l l' : List AObj}, weakH l l' → l'.length = l.length ∧ ∀ (i : Nat) (o : AObj), l'[i]? = some o → o = AObj.dead ∨ l[i]? = some o ∨ ∃ x, l[i]? = some x ∧ laxer x o
  | [], [], _ => ⟨rfl, by simp⟩
  | x :: l, y :: l', h => by
    obtain ⟨h1, h2⟩ := h
    obtain ⟨e1, e2⟩ := weakH_ok h2
    refine ⟨by simp [e1], fun i o ho => ?_⟩
    cases i with
    | zero =>
      simp only [List.getElem?_cons_zero, Option.some.injEq] at ho ⊢
      subst ho
      rcases h1 with h | h | h
      · exact .inl h
      · exact .inr (.inl h.symm)
      · exact .inr (.inr ⟨_, rfl, h⟩)
    | succ i => simpa using e2 i o (by simpa using ho)

theorem weakT_refl (l : List AV) : weakT l l := by
  induction l with
  | nil => trivial
  | cons x l ih => exact ⟨.inr rfl, ih⟩
theorem weakH_refl (l : List AObj) : weakH l l := by
  induction l with
  | nil => trivial
  | cons x l ih => exact ⟨.inr (.inl rfl), ih⟩
theorem Weak.refl (st : St) : Weak st st := ⟨weakT_refl _, weakH_refl _⟩

section
variable {E : Env} {X : Ctx} {I : Nat → Prop} {w : World} {a : Act} {st st' : St} {Q Q' : Exit → St → Prop} {r : Option Nat} {c : Code}

theorem Now.weak (h : Weak st st') (hN : Now X I st w a) : Now X I st' w a := by
  obtain ⟨I', μ', ob', hI, R⟩ := hN
  obtain ⟨t1, t2⟩ := weakT_ok h.1
  obtain ⟨h1, h2⟩ := weakH_ok h.2
  refine ⟨I', μ', ob', hI, {
    below := R.below, base := R.base, imm := R.imm, ctx := R.ctx, frz := R.frz, inew := R.inew, may := R.may, names := by rw [h1]; exact R.names, own := R.own, sep := R.sep, past := fun b hb => R.past b (by rw [← h1]; exact hb)
    objs := fun b o ho => ?_, size := t1.trans R.size, tmps := fun i hi => ?_, marks := R.marks }⟩
  · rcases h2 b o ho with h | h | ⟨x, h, hx⟩
    · subst h; trivial
    · rw [h1]; exact R.objs b o h
    · rw [h1]
      have hO := R.objs b x h
      unfold laxer at hx
      split at hx
      · subst hx
        obtain ⟨q1, q2⟩ := hO
        refine ⟨q1, ?_⟩
        rcases q2 with q2 | ⟨q2, _⟩
        · exact .inl q2
        · cases q2
      · exact hx.elim
  · rw [h1]
    rcases t2 i (by omega) with h | h
    · rw [h]; exact .junk _
    · rw [h]; exact R.tmps i (by omega)

theorem AWp.weak (h : Weak st st') (hw : AWp E r c Q st') : AWp E r c Q st := fun X I w a hE hN => hw X I w a hE (hN.weak h)

theorem AWp.mono (hw : AWp E r c Q st) (hQ : ∀ e st, Q e st → Q' e st) : AWp E r c Q' st := fun X I w a hE hN =>
  wpIn_mono (hw X I w a hE hN) fun e _ _ ⟨st', h1, h2⟩ => ⟨st', h1, hQ e st' h2⟩

theorem AWp.region (hΓ : GamOK E.P E.Γ) {id : Nat} {ops : Array Oper} (h : stepsK E ops.toList ops.toList st (Q .normal)) : AWp E r (.region id ops false) Q st := fun X I w a hE hN => by
  refine wpIn_region ?_
  rw [List.range_eq_range', ← Array.length_toList]
  exact steps_ok (K := Q .normal) hΓ hE ops.toList 0 (by simp) hN rfl h (fun _ _ ⟨st', h1, _, h3⟩ => ⟨st', h1, h3⟩)

/-- What follows where the first part ends normally. -/
def thenQ (next : St → Prop) (Q : Exit → St → Prop) : Exit → St → Prop
  | .normal, st => next st
  | e, st => Q e st

theorem AWp.seq {x y : Code} (h : AWp E r x (thenQ (AWp E r y Q) Q) st) : AWp E r (.seq x y) Q st := fun X I w a hE hN => by
  refine wpIn_seq (wpIn_mono (h X I w a hE hN) ?_)
  rintro e a' w' ⟨st', hN', hq⟩
  cases e with
  | normal => exact hq X I w' a' hE hN'
  | exit id => exact ⟨st', hN', hq⟩
  | goto l => exact ⟨st', hN', hq⟩
  | ret => exact ⟨st', hN', hq⟩
  | panic ch => exact ⟨st', hN', hq⟩
  | outgrown => exact ⟨st', hN', hq⟩

theorem AWp.skip (h : Q .normal st) : AWp E r .skip Q st := fun _ _ _ _ _ hN => wpIn_skip ⟨st, hN, h⟩
theorem AWp.ret (h : Q .ret st) : AWp E r .ret Q st := fun _ _ _ _ _ hN => wpIn_ret ⟨st, hN, h⟩
theorem AWp.exit {id : Nat} (h : Q (.exit id) st) : AWp E r (.exit id) Q st := fun _ _ _ _ _ hN => wpIn_exit ⟨st, hN, h⟩
theorem AWp.label {l : Nat} (h : Q .normal st) : AWp E r (.label l) Q st := fun _ _ _ _ _ hN => wpIn_label ⟨st, hN, h⟩

def boolK (x : AV) (t f : Prop) : Prop :=
  match x with
  | .p (.bool b) => (b = true → t) ∧ (b = false → f)
  | _ => False

theorem AWp.cond {x : Operand} {c d : Code} (h : boolK (ev st.tmps x) (AWp E r c Q st) (AWp E r d Q st)) : AWp E r (.cond x c d) Q st := fun X I w a hE hN => by
  have hN' := hN
  obtain ⟨I', μ', ob', hI, R⟩ := hN
  unfold boolK at h
  split at h
  · rename_i b hb
    have hv := R.evs x
    rw [hb] at hv
    exact wpIn_cond_split hv.bool_inv (fun ht => h.1 ht X I w a hE hN') (fun hf => h.2 hf X I w a hE hN')
  · exact h.elim

def blockQ (id : Nat) (Q : Exit → St → Prop) : Exit → St → Prop
  | .exit i, st => if i = id then Q .normal st else Q (.exit i) st
  | e, st => Q e st

theorem AWp.block {id : Nat} {c : Code} (h : AWp E r c (blockQ id Q) st) : AWp E r (.block id c) Q st := fun X I w a hE hN => by
  refine wpIn_block (wpIn_mono (h X I w a hE hN) ?_)
  rintro e a' w' ⟨st', hN', hq⟩
  cases e with
  | exit i =>
    simp only [blockQ] at hq
    simp only [Exit.inBlock]
    split
    · rename_i he; rw [if_pos he] at hq; exact ⟨st', hN', hq⟩
    · rename_i he; rw [if_neg he] at hq; exact ⟨st', hN', hq⟩
  | normal => exact ⟨st', hN', hq⟩
  | goto l => exact ⟨st', hN', hq⟩
  | ret => exact ⟨st', hN', hq⟩
  | panic ch => exact ⟨st', hN', hq⟩
  | outgrown => exact ⟨st', hN', hq⟩

/-- At a round's end: less is known, what holds at every head holds again, and the measure has gone down. -/
def Again (Inv : St → Prop) (m : St → Nat) (n : Nat) (st : St) : Prop := ∃ st', Weak st st' ∧ Inv st' ∧ m st' < n

theorem AWp.loop {c : Code} (Inv : St → Prop) (m : St → Nat) {st' : St} (hw : Weak st st') (h0 : Inv st') (h : ∀ st, Inv st → AWp E r c (thenQ (Again Inv m (m st)) Q) st) : AWp E r (.loop c) Q st := by
  refine AWp.weak hw ?_
  intro X I w a hE hN
  let J : Act → World → Nat → Prop := fun a w n => ∃ st, Now X I st w a ∧ Inv st ∧ m st = n
  have hmin : ∀ a w n, J a w n → ∃ k, J a w k ∧ k ≤ n ∧ ∀ j, J a w j → k ≤ j := by
    intro a w n
    induction n using Nat.strongRecOn with
    | _ n ih =>
      intro hn
      by_cases hx : ∃ j, j < n ∧ J a w j
      · obtain ⟨j, hj, hJ⟩ := hx
        obtain ⟨k, h1, h2, h3⟩ := ih j hj hJ
        exact ⟨k, h1, by omega, h3⟩
      · exact ⟨n, hn, Nat.le_refl _, fun j hj => Nat.le_of_not_lt fun hlt => hx ⟨j, hlt, hj⟩⟩
  let μ : Act → World → Nat := fun a w => @dite Nat (∃ n, J a w n) (Classical.propDecidable _) (fun h => (hmin a w h.choose h.choose_spec).choose) (fun _ => 0)
  have hμ : ∀ a w, (∃ n, J a w n) → J a w (μ a w) ∧ ∀ j, J a w j → μ a w ≤ j := by
    intro a w hx
    have : μ a w = (hmin a w hx.choose hx.choose_spec).choose := dif_pos hx
    rw [this]
    have := (hmin a w hx.choose hx.choose_spec).choose_spec
    exact ⟨this.1, this.2.2⟩
  refine wpIn_loop (fun a w => ∃ n, J a w n) μ ⟨_, st', hN, h0, rfl⟩ ?_
  intro a w hx
  obtain ⟨⟨s, hNs, hIs, hms⟩, _⟩ := hμ a w hx
  refine wpIn_mono (h s hIs X I w a hE hNs) ?_
  rintro e a' w' ⟨s', hN', hq⟩
  cases e with
  | normal =>
    obtain ⟨s'', hw'', hI'', hlt⟩ := hq
    have hJ : J a' w' (m s'') := ⟨s'', hN'.weak hw'', hI'', rfl⟩
    refine ⟨⟨_, hJ⟩, ?_⟩
    have := (hμ a' w' ⟨_, hJ⟩).2 _ hJ
    rw [hms] at hlt
    omega
  | exit id => exact ⟨s', hN', hq⟩
  | goto l => exact ⟨s', hN', hq⟩
  | ret => exact ⟨s', hN', hq⟩
  | panic ch => exact ⟨s', hN', hq⟩
  | outgrown => exact ⟨s', hN', hq⟩

/-! ### Results -/
def resK (Γ : Gam) (st : St) : List ResultVar → (List AV → Prop) → Prop
  | [], K => K []
  | .tmp t :: rs, K => resK Γ st rs fun l => K (st.tmps.getD t .junk :: l)
  | .cell x t :: rs, K => loadK Γ st.h t (st.tmps.getD x .junk) fun v => resK Γ st rs fun l => K (v :: l)

def packAV : List AV → AV
  | [v] => v
  | l => .tup l

theorem loadVar_of {P : Program} {t : TypeId} {v cv : Value} {ad : Addr} (hv : v = .pointer (some ad)) (h : (Instr.loadAt t v).run P w = .ok cv w) : (do loadVar t (← asAddr v) : Sem Value).run P w = .ok cv w := by
  subst hv
  simpa [Instr.loadAt, Instr.sureAddr, asAddr] using h

def readRes (tmps : Array Value) : ResultVar → Sem Value
  | .tmp t => pure (tmps.getD t undef)
  | .cell a t => do loadVar t (← asAddr (tmps.getD a undef))

theorem results_eq (fn : Func) (tmps : Array Value) : results fn tmps = (fn.results.mapM (readRes tmps) >>= fun vs => pure (if h : vs.size = 1 then vs[0] else .tuple vs)) := rfl

theorem resK_ok {μ : Nat → Value} {ob : Nat → Option Nat} (hΓ : GamOK E.P E.Γ) (R : RepH X I μ ob st.h w) (ht : ∀ i, i < st.tmps.length → VR st.h.length μ I w (st.tmps.getD i .junk) (a.tmps.getD i undef)) :
    ∀ (rs : List ResultVar) {K : List AV → Prop}, resK E.Γ st rs K → ∃ l cs, (rs.mapM (readRes a.tmps)).run E.P w = .ok cs w ∧ l.length = cs.length ∧ (∀ i, i < l.length → VR st.h.length μ I w (l.getD i .junk) (cs.getD i undef)) ∧ K l
  | [], K, hk => ⟨[], [], by simp, rfl, by simp, hk⟩
  | .tmp t :: rs, K, hk => by
    obtain ⟨l, cs, h1, h2, h3, h4⟩ := resK_ok hΓ R ht rs hk
    refine ⟨_, a.tmps.getD t undef :: cs, by
      have h0 : (readRes a.tmps (.tmp t)).run E.P w = .ok (a.tmps.getD t undef) w := rfl
      simp only [List.mapM_cons, Sem.run_bind, h0, h1, Result.andThen]; rfl, by simp [h2], fun i hi => ?_, h4⟩
    cases i with
    | zero => exact VR.ev (a := a) ht (.tmp t)
    | succ i => simpa using h3 i (by simpa using hi)
  | .cell x t :: rs, K, hk => by
    have hx := VR.ev (a := a) ht (.tmp x)
    obtain ⟨v, cv, hr, hv, hK⟩ := load_ok (P := E.P) hΓ hx R.objs hk
    obtain ⟨l, cs, h1, h2, h3, h4⟩ := resK_ok hΓ R ht rs hK
    have hp : ∃ ad, a.tmps.getD x undef = .pointer (some ad) := by
      simp only [Act.eval] at hr
      cases hh : a.tmps.getD x undef with
      | pointer p =>
        cases p with
        | some ad => exact ⟨ad, rfl⟩
        | none => rw [hh] at hr; simp [Instr.loadAt, Instr.sureAddr] at hr
      | _ => rw [hh] at hr; simp [Instr.loadAt, Instr.sureAddr] at hr
    obtain ⟨ad, had⟩ := hp
    have hr2 : (readRes a.tmps (.cell x t)).run E.P w = .ok cv w := loadVar_of had hr
    refine ⟨_, cv :: cs, by simp only [List.mapM_cons, Sem.run_bind, hr2, h1, Result.andThen]; rfl, by simp [h2], fun i hi => ?_, h4⟩
    cases i with
    | zero => exact hv
    | succ i => simpa using h3 i (by simpa using hi)

theorem results_ok {μ : Nat → Value} {ob : Nat → Option Nat} (hΓ : GamOK E.P E.Γ) (R : RepH X I μ ob st.h w) (ht : ∀ i, i < st.tmps.length → VR st.h.length μ I w (st.tmps.getD i .junk) (a.tmps.getD i undef))
    {fn : Func} {K : AV → Prop} (hk : resK E.Γ st fn.results.toList fun l => K (packAV l)) : ∃ v cv, (results fn a.tmps).run E.P w = .ok cv w ∧ VR st.h.length μ I w v cv ∧ K v := by
  obtain ⟨l, cs, h1, h2, h3, h4⟩ := resK_ok (a := a) hΓ R ht _ hk
  have hm : (fn.results.mapM (readRes a.tmps)).run E.P w = .ok cs.toArray w := by
    have h5 : fn.results.mapM (readRes a.tmps) = Functor.map List.toArray (fn.results.toList.mapM (readRes a.tmps)) := by
      conv => lhs; rw [← Array.toArray_toList (xs := fn.results)]
      exact List.mapM_toArray
    rw [h5]; simp [h1]
  refine ⟨_, if h : cs.toArray.size = 1 then cs.toArray[0] else .tuple cs.toArray, ?_, ?_, h4⟩
  · rw [results_eq]; simp only [Sem.run_bind]
    rw [hm]; rfl
  · match l, cs, h2, h3 with
    | [x], [c], _, h3 => exact h3 0 (by simp)
    | [], [], _, h3 => exact .tup [] [] rfl (by simp)
    | x :: y :: l, c :: d :: cs, h2, h3 => exact .tup _ (c :: d :: cs) h2 h3
end
end Go.AM
