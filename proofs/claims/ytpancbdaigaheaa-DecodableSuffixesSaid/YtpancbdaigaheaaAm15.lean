/-
  AM 15: a statement whose order Go leaves open: the rule.
-/
import Derived.Test.YtpancbdaigaheaaAm14
import Derived.OrdersIn
namespace Go.AM
open Go.RowKit

/-- What comes before each operation, whatever the order. -/
def befs : List Oper → List (List Nat) → List (List Nat)
  | [], acc => acc
  | o :: l, acc => befs l (acc ++ [(o.after.toList.flatMap fun e => if Region.binds .any e then e.on :: acc.getD e.on [] else []).eraseDups])

/-- An operation that looks at no memory; a store. -/
def dryO (o : Oper) : Bool := match o.guard, o.op with
  | none, .move _ => true
  | none, .assign _ => true
  | none, .binOp _ _ _ _ _ => true
  | _, _ => false
def isSt (o : Oper) : Bool := match o.guard, o.dst, o.op with
  | none, none, .store _ _ _ => true
  | _, _, _ => false

def drawOK (m : Nat) (ops : List Oper) : Bool :=
  let b := befs ops []
  Nat.ble m ops.length && (List.range ops.length).all fun i => match ops[i]? with
    | some o => o.after.toList.all (fun e => !Region.binds .any e || Nat.blt e.on i) &&
        (List.range i).all fun j => (b.getD i []).contains j || (match ops[j]? with | some oj => oj.apart ops.toArray o && o.apart ops.toArray oj && (Nat.blt i m || (isSt o && dryO oj && Nat.blt j m)) | none => true)
    | none => true

theorem befs_in {S : Nat → Prop} {ops : List Oper} (hback : ∀ i o, ops[i]? = some o → ∀ e ∈ o.after, Region.binds .any e = true → e.on < i)
    (hS : ∀ i o, ops[i]? = some o → S i → ∀ e ∈ o.after, Region.binds .any e = true → S e.on) :
    ∀ (l : List Oper) (acc : List (List Nat)), (∀ j, l[j]? = ops[acc.length + j]?) → (∀ i o, i < acc.length → ops[i]? = some o → (∀ e ∈ o.after, Region.binds .any e = true → S e.on) → ∀ j ∈ acc.getD i [], S j) →
    ∀ i o, ops[i]? = some o → i < acc.length + l.length → (∀ e ∈ o.after, Region.binds .any e = true → S e.on) → ∀ j ∈ (befs l acc).getD i [], S j
  | [], acc, _, hacc, i, o, ho, hi, hs, j, hj => hacc i o (by simpa using hi) ho hs j hj
  | o' :: l, acc, hl, hacc, i, o, ho, hi, hs, j, hj => by
    have h0 : ops[acc.length]? = some o' := by simpa using (hl 0).symm
    refine befs_in hback hS l (acc ++ [_]) (fun j => by have := hl (j + 1); simpa [Nat.add_assoc, Nat.add_comm 1 j] using this) ?_ i o ho (by simp at hi ⊢; omega) hs j (by simpa [befs] using hj)
    intro i o hi ho hs j hj
    by_cases h1 : i < acc.length
    · exact hacc i o h1 ho hs j (by simpa [List.getD_eq_getElem?_getD, List.getElem?_append_left h1] using hj)
    · have : i = acc.length := by simp at hi; omega
      subst this
      rw [h0] at ho; injection ho with ho; subst ho
      simp only [List.getD_eq_getElem?_getD, List.getElem?_append_right (Nat.le_refl _), Nat.sub_self, List.getElem?_cons_zero, Option.getD_some, List.mem_eraseDups, List.mem_flatMap] at hj
      obtain ⟨e, he, hj⟩ := hj
      have he' : e ∈ o'.after := by simpa using he
      split at hj
      · rename_i hb
        rcases List.mem_cons.1 hj with rfl | hj
        · exact hs e he' hb
        · have hlt := hback _ _ h0 e he' hb
          have : e.on < ops.length := by have := (List.getElem?_eq_some_iff.1 h0).1; omega
          exact hacc e.on ops[e.on] hlt (List.getElem?_eq_getElem this) (hS _ _ (List.getElem?_eq_getElem this) (hs e he' hb)) j (by rw [List.getD_eq_getElem?_getD]; exact hj)
      · simp at hj

structure DrawOK (m : Nat) (ops : List Oper) : Prop where
  le : m ≤ ops.length
  back : ∀ i o, ops[i]? = some o → ∀ e ∈ o.after, Region.binds .any e = true → e.on < i
  pair : ∀ i o j, ops[i]? = some o → j < i → j ∈ (befs ops []).getD i [] ∨ (∀ oj, ops[j]? = some oj → (oj.apart ops.toArray o = true ∧ o.apart ops.toArray oj = true) ∧ (i < m ∨ (isSt o = true ∧ dryO oj = true ∧ j < m)))

theorem drawOK_spec {m : Nat} {ops : List Oper} (h : drawOK m ops = true) : DrawOK m ops := by
  simp only [drawOK, Bool.and_eq_true, List.all_eq_true, List.mem_range] at h
  obtain ⟨h1, h2⟩ := h
  have hlt : ∀ i (o : Oper), ops[i]? = some o → i < ops.length := fun i o ho => (List.getElem?_eq_some_iff.1 ho).1
  refine ⟨Nat.le_of_ble_eq_true h1, fun i o ho e he hb => ?_, fun i o j ho hj => ?_⟩
  · have := h2 i (hlt i o ho)
    simp only [ho, Bool.and_eq_true, List.all_eq_true] at this
    have := this.1 e (by simpa using he)
    simp only [hb, Bool.not_true, Bool.false_or] at this
    exact Nat.le_of_ble_eq_true this
  · have := h2 i (hlt i o ho)
    simp only [ho, Bool.and_eq_true, List.all_eq_true, List.mem_range] at this
    have := this.2 j hj
    simp only [Bool.or_eq_true, List.contains_iff_mem] at this
    rcases this with h | h4
    · exact .inl h
    · refine .inr fun oj hoj => ?_
      rw [hoj] at h4
      simp only [Bool.and_eq_true, Bool.or_eq_true] at h4
      refine ⟨h4.1, h4.2.imp Nat.le_of_ble_eq_true (fun h => ⟨h.1.1, h.1.2, Nat.le_of_ble_eq_true h.2⟩)⟩

section
variable {E : Env} {X : Ctx} {I : Nat → Prop} {w w' : World} {a : Act} {st : St} {o : Oper} {K : St → Prop} {Q : Exit → Act → World → Prop} {r : Option Nat} {ops : Array Oper} {ds : List Deferred}

/-- One operation, guarded. -/
theorem guard_ok (hΓ : GamOK E.P E.Γ) (hE : E.fits X) {i : Nat} (ho : ops[i]? = some o) (hN : Now X I st w a) (hd : a.defers = ds) (hk : guardK ops.toList o.guard st.tmps (opK E o st K) (K ⟨putD st.tmps o.dst (.tup []), st.h⟩)) :
    wpOpIn (Fw r) 0 E.P ops Q i (After X I ds K) a w := by
  obtain ⟨I', μ', ob', hI, R⟩ := hN
  have hrun : opK E o st K → o.wpIn (Fw r) 0 E.P a w (After X I ds K) Q := fun hk =>
    wpIn_next_mono (fun a' w' ⟨st', hn, hd', hk'⟩ => ⟨st', hn.trans hI, hd'.trans hd, hk'⟩) (op_ok hΓ hE R hk)
  have hskip : K ⟨putD st.tmps o.dst (.tup []), st.h⟩ → After X I ds K (a.put o.dst undef) w := fun hk =>
    ⟨_, ⟨I', μ', ob', hI, R.put (.tup [] [] rfl (fun i hi => by simp at hi)) o.dst⟩, (put_defers _ _ _).trans hd, hk⟩
  unfold wpOpIn
  simp only [ho]
  unfold guardK at hk
  split at hk
  · rename_i hg
    rw [if_pos (by simp [Region.wanted, hg])]; exact hrun hk
  · rename_i j want hg
    split at hk
    · rename_i d hd2
      obtain ⟨y1, y2⟩ := yielded_of hd2 R
      split at hk
      · rename_i b hb
        have hy := y1 b hb
        by_cases hbw : b = want
        · rw [if_pos (by simp [Region.wanted, hg, hy, hbw])]; exact hrun (hk.1 hbw)
        · rw [if_neg (by simp [Region.wanted, hg, hy, hbw])]
          exact ⟨fun _ _ => trivial, hskip (hk.2 (by cases b <;> cases want <;> simp_all))⟩
      · rename_i l' hl2
        have hy := y2 l' hl2
        rw [if_neg (by simp [Region.wanted, hg, hy])]
        exact ⟨fun _ _ => trivial, hskip hk⟩
      · exact hk.elim
    · exact hk.elim

theorem runs_ok (hΓ : GamOK E.P E.Γ) (hE : E.fits X) {i : Nat} {tm : List AV} {h : List AObj} {v : AV} (ho : ops[i]? = some o) (hN : Now X I ⟨tm, h⟩ w a) (hd : a.defers = ds) (hr : runsTo E ops.toList h o tm v) :
    wpOpIn (Fw r) 0 E.P ops Q i (After X I ds fun st => st = ⟨putD tm o.dst v, h⟩) a w := by
  refine guard_ok hΓ hE ho hN hd ?_
  have := hr (fun v' => (⟨putD tm o.dst v', h⟩ : St) = ⟨putD tm o.dst v, h⟩) rfl
  unfold guardK at this ⊢
  split at this
  · exact pure_op this
  · simp only
    split at this
    · split at this
      · exact ⟨fun h => pure_op (this.1 h), this.2⟩
      · exact this
      · exact this.elim
    · exact this.elim

/-- The list of what is left, and what is listed. -/
structure Left (ops : Array Oper) (un : Nat → Prop) (listed : Array Bool) : Prop where
  size : listed.size = ops.size
  un : ∀ i, listed.getD i true = false ↔ un i
  down : ∀ i o, ops[i]? = some o → listed.getD i false = true → ∀ e ∈ o.after, Region.binds .any e = true → listed.getD e.on false = true

theorem Left.lt {un : Nat → Prop} {listed : Array Bool} (L : Left ops un listed) {i : Nat} (h : un i) : i < ops.size := by
  have := (L.un i).2 h
  rcases Nat.lt_or_ge i listed.size with h' | h'
  · rw [← L.size]; exact h'
  · simp [Array.getElem?_eq_none h'] at this

theorem Left.li {un : Nat → Prop} {listed : Array Bool} (L : Left ops un listed) {i : Nat} (hi : i < ops.size) (h : ¬ un i) : listed.getD i false = true := by
  have h1 : listed.getD i true ≠ false := fun e => h ((L.un i).1 e)
  have hlt : i < listed.size := by rw [L.size]; exact hi
  simp [hlt] at h1 ⊢; exact h1

theorem Left.not {un : Nat → Prop} {listed : Array Bool} (L : Left ops un listed) {i : Nat} (h : listed.getD i false = true) : ¬ un i := by
  intro hu
  have h1 := (L.un i).2 hu
  have hlt : i < listed.size := by rw [L.size]; exact L.lt hu
  simp [hlt] at h h1; rw [h] at h1; cases h1

theorem Left.set {un un' : Nat → Prop} {listed : Array Bool} (L : Left ops un listed) {i : Nat} (hi : i ∈ Region.ready .any ops listed) (hu : ∀ j, un' j ↔ (un j ∧ j ≠ i)) : Left ops un' (listed.setIfInBounds i true) := by
  obtain ⟨h0, o, ho, hall⟩ := mem_ready.1 hi
  refine ⟨by simp [L.size], fun j => ?_, fun j oj hoj hl e he hb => ?_⟩
  · rw [hu]
    by_cases e : i = j
    · subst e
      have hlt : i < listed.size := by rw [L.size]; exact (Array.getElem?_eq_some_iff.1 ho).1
      simp [hlt]
    · rw [getD_set_ne true e, L.un j]; exact ⟨fun h => ⟨h, fun h' => e h'.symm⟩, fun h => h.1⟩
  · by_cases e' : i = j
    · subst e'
      rw [ho] at hoj; injection hoj with hoj; subst hoj
      exact getD_set_true (hall e he hb)
    · rw [getD_set_ne false e'] at hl
      exact getD_set_true (L.down j oj hoj hl e he hb)

/-! What looks at no memory may be done late. -/
theorem exec_congr {o : Oper} {ρ ρ' : Operand → Value} (hd : dryO o = true ∨ isSt o = true) (h : ∀ x ∈ o.op.operands, ρ x = ρ' x) : execOp ρ o = execOp ρ' o := by
  obtain ⟨dst, op, ty, pos, after, guard⟩ := o
  cases op with
  | move x => simp only [execOp]; rw [h x (by simp [Op.operands])]
  | assign x => simp only [execOp]; rw [h x (by simp [Op.operands])]
  | binOp op t x y u => simp only [execOp]; rw [h x (by simp [Op.operands]), h y (by simp [Op.operands])]
  | store t x y => simp only [execOp]; rw [h x (by simp [Op.operands]), h y (by simp [Op.operands])]
  | _ => exfalso; cases guard <;> cases dst <;> simp [dryO, isSt] at hd

def DryRun (P : Program) : List Oper → Act → Act → Prop
  | [], a, a' => a' = a
  | o :: l, a, a' => ∃ v, (∀ w, (execOp a.eval o).run P w = .ok (.value v) w) ∧ DryRun P l (a.put o.dst v) a'

theorem put_get {a : Act} {d : Option Nat} {v : Value} {t : Nat} (h : ∀ x, d = some x → x ≠ t) : (a.put d v).tmps.getD t undef = a.tmps.getD t undef := by
  cases d with
  | none => rfl
  | some d =>
    have hne := h d rfl
    show (a.tmps.setIfInBounds d v).getD t undef = a.tmps.getD t undef
    rw [Array.getD_eq_getD_getElem?, Array.getD_eq_getD_getElem?, Array.getElem?_setIfInBounds_ne hne]
theorem put_comm {a : Act} {d d' : Option Nat} (v v' : Value) (h : ∀ x, d = some x → d' ≠ some x) : (a.put d v).put d' v' = (a.put d' v').put d v := by
  cases d with
  | none => rfl
  | some x =>
    cases d' with
    | none => rfl
    | some y =>
      have hne : x ≠ y := fun e => h x rfl (by rw [e])
      have key : (a.tmps.setIfInBounds x v).setIfInBounds y v' = (a.tmps.setIfInBounds y v').setIfInBounds x v := by
        apply Array.ext_getElem?
        intro i
        by_cases hx : x = i
        · subst hx
          rw [Array.getElem?_setIfInBounds_ne (fun e => hne e.symm)]
          simp [Array.getElem?_setIfInBounds]
        · rw [Array.getElem?_setIfInBounds_ne hx]
          by_cases hy : y = i
          · subst hy
            simp [Array.getElem?_setIfInBounds]
          · rw [Array.getElem?_setIfInBounds_ne hy, Array.getElem?_setIfInBounds_ne hy, Array.getElem?_setIfInBounds_ne hx]
      exact congrArg (fun t => ({ a with tmps := t } : Act)) key
theorem eval_of_tmps {a a' : Act} {o : Oper} (h : ∀ t ∈ o.looksAt ops, a'.tmps.getD t undef = a.tmps.getD t undef) : ∀ x ∈ o.op.operands, a'.eval x = a.eval x := by
  intro x hx
  cases x with
  | tmp t => exact h t (by simp only [Oper.looksAt, List.mem_append, List.mem_filterMap]; exact .inl ⟨.tmp t, by simpa using hx, rfl⟩)
  | const v => rfl
  | global g => rfl
  | func f => rfl

theorem dry_front {P : Program} {o : Oper} {l2 : List Oper} {a' : Act} (ho : dryO o = true) : ∀ (l1 : List Oper) {a : Act}, DryRun P (l1 ++ o :: l2) a a' → (∀ x ∈ l1, dryO x = true) → (∀ x ∈ l1, o.apart ops x = true) →
    ∃ v, (∀ w, (execOp a.eval o).run P w = .ok (.value v) w) ∧ DryRun P (l1 ++ l2) (a.put o.dst v) a'
  | [], a, hk, _, _ => hk
  | x :: l1, a, hk, hx, ha => by
    obtain ⟨vx, h1, hk⟩ := hk
    obtain ⟨v, h2, hk⟩ := dry_front ho l1 hk (fun y hy => hx y (by simp [hy])) (fun y hy => ha y (by simp [hy]))
    obtain ⟨a1, a2, a3⟩ := Oper.apart_spec (ha x (by simp))
    refine ⟨v, fun w => ?_, vx, fun w => ?_, ?_⟩
    · rw [exec_congr (.inl ho) (eval_of_tmps (ops := ops) (a := a.put x.dst vx) (a' := a) (fun t ht => (put_get (fun d hd e => a3 d hd (e ▸ ht))).symm))]
      exact h2 w
    · rw [exec_congr (.inl (hx x (by simp))) (eval_of_tmps (ops := ops) (a := a) (a' := a.put o.dst v) (fun t ht => put_get (fun d hd e => a1 d hd (e ▸ ht))))]
      exact h1 w
    · rw [put_comm v vx (fun d hd e => a2 d hd e)]
      exact hk

theorem dry_get {P : Program} {t : Nat} : ∀ {l : List Oper} {a a' : Act}, DryRun P l a a' → (∀ x ∈ l, ∀ d, x.dst = some d → d ≠ t) → a'.tmps.getD t undef = a.tmps.getD t undef
  | [], a, a', h, _ => by subst h; rfl
  | o :: l, a, a', h, hx => by
    obtain ⟨v, _, h⟩ := h
    rw [dry_get h (fun x hm => hx x (by simp [hm])), put_get (hx o (by simp))]
theorem dry_defers {P : Program} : ∀ {l : List Oper} {a a' : Act}, DryRun P l a a' → a'.defers = a.defers
  | [], a, a', h => by subst h; rfl
  | o :: l, a, a', h => by
    obtain ⟨v, _, h⟩ := h
    rw [dry_defers h, put_defers]

/-- A dry operation at the level of the model. -/
theorem dry_one (hΓ : GamOK E.P E.Γ) {μ : Nat → Value} {ob : Nat → Option Nat} {h : List AObj} {tm : List AV} {v : AV} (hdry : dryO o = true) (R : Rep X I μ ob ⟨tm, h⟩ w a) (hr : runsTo E ops.toList h o tm v) :
    ∃ cv, (∀ w', (execOp a.eval o).run E.P w' = .ok (.value cv) w') ∧ Rep X I μ ob ⟨putD tm o.dst v, h⟩ w (a.put o.dst cv) := by
  obtain ⟨dst, op, ty, pos, after, guard⟩ := o
  have hg : guard = none := by
    cases guard with
    | none => rfl
    | some _ => cases op <;> simp [dryO] at hdry
  subst hg
  have hr0 : ∀ K : AV → Prop, K v → pureK E op h (ev tm) K := fun K hK => hr K hK
  cases op with
  | move x =>
    have : ev tm x = v := hr0 (fun u => u = v) rfl
    exact ⟨a.eval x, fun _ => by simp [execOp], R.put (by rw [← this]; exact R.evs x) dst⟩
  | assign x =>
    have : ev tm x = v := hr0 (fun u => u = v) rfl
    exact ⟨a.eval x, fun _ => by simp [execOp], R.put (by rw [← this]; exact R.evs x) dst⟩
  | binOp op t x y u =>
    have hb : binK E.Γ op t (ev tm x) (ev tm y) (fun u => u = v) := hr0 (fun u => u = v) rfl
    have hx := R.evs x
    have hy := R.evs y
    have key : ∀ w' : World, VR h.length μ I w' (ev tm x) (a.eval x) → VR h.length μ I w' (ev tm y) (a.eval y) → ∃ cv, (do eqGuard op t x y (a.eval x) (a.eval y); binOp op t (a.eval x) (a.eval y) : Sem Value).run E.P w' = .ok cv w' ∧ VR h.length μ I w' v cv := fun w' h1 h2 => by
      obtain ⟨v', cv, e1, e2, rfl⟩ := binK_ok (P := E.P) (w := w') hΓ x y h1 h2 hb
      exact ⟨cv, e1, e2⟩
    -- the operands are plain, and so is what comes of them
    have plain : (∃ p, ev tm x = .p p ∧ p.scal = true) ∧ (∃ p, ev tm y = .p p ∧ p.scal = true) ∧ ∃ p, v = .p p ∧ ((∃ k n, p = .int k n) ∨ (∃ b, p = .bool b) ∨ (∃ s, p = .str s)) := by
      unfold binK at hb
      split at hb
      · rename_i k a' k' b' hx' hy'
        refine ⟨⟨_, hx', rfl⟩, ⟨_, hy', rfl⟩, ?_⟩
        have hb := hb.2
        unfold intK at hb
        cases op <;> simp only at hb <;> first | exact hb.elim | exact ⟨_, hb.2.symm, .inl ⟨_, _, rfl⟩⟩ | exact ⟨_, hb.symm, .inr (.inl ⟨_, rfl⟩)⟩
      · rename_i hx' hy'
        refine ⟨⟨_, hx', rfl⟩, ⟨_, hy', rfl⟩, ?_⟩
        unfold strK at hb
        cases op <;> simp only at hb <;> first | exact hb.elim | exact ⟨_, hb.2.symm, .inr (.inr ⟨_, rfl⟩)⟩ | exact ⟨_, hb.symm, .inr (.inl ⟨_, rfl⟩)⟩
      · rename_i hx' hy'
        refine ⟨⟨_, hx', rfl⟩, ⟨_, hy', rfl⟩, ?_⟩
        have hb := hb.2
        cases op <;> simp only at hb <;> first | exact hb.elim | exact ⟨_, hb.symm, .inr (.inl ⟨_, rfl⟩)⟩
      · exact hb.elim
    obtain ⟨⟨px, hpx, sx⟩, ⟨py, hpy, sy⟩, pv, hpv, sv⟩ := plain
    have any : ∀ {p : PV} {u : AV} {c : Value} (w' : World), u = .p p → p.scal = true → VR h.length μ I w u c → VR h.length μ I w' u c := fun {p u c} w' hu hs hv => by
      subst hu; cases hv with | p _ _ h1 => exact .p _ _ (h1.scal hs)
    obtain ⟨cv, e1, e2⟩ := key w hx hy
    refine ⟨cv, fun w' => ?_, R.put e2 dst⟩
    obtain ⟨cv', e3, e4⟩ := key w' (any w' hpx sx hx) (any w' hpy sy hy)
    have : cv' = cv := by
      subst hpv
      rcases sv with ⟨k, n, rfl⟩ | ⟨b, rfl⟩ | ⟨s, rfl⟩
      · rw [e2.int_inv, e4.int_inv]
      · rw [e2.bool_inv, e4.bool_inv]
      · obtain ⟨b1, rfl, h1⟩ := e2.str_inv
        obtain ⟨b2, rfl, h2⟩ := e4.str_inv
        rw [bytes_eq (h2.trans h1.symm)]
    subst this
    simp only [execOp, Sem.run_bind] at e3 ⊢
    rw [e3]; rfl
  | _ => simp [dryO] at hdry

theorem dry_all (hΓ : GamOK E.P E.Γ) {μ : Nat → Value} {ob : Nat → Option Nat} {h : List AObj} {KT : List AV → Prop} : ∀ {l : List Oper} {tm : List AV} {a : Act}, (∀ o ∈ l, dryO o = true) → Rep X I μ ob ⟨tm, h⟩ w a → lexR E ops.toList h l tm KT →
    ∃ a' tm', DryRun E.P l a a' ∧ Rep X I μ ob ⟨tm', h⟩ w a' ∧ KT tm'
  | [], tm, a, _, R, hk => ⟨a, tm, rfl, R, hk⟩
  | o :: l, tm, a, hd, R, hk => by
    obtain ⟨v, h1, hk⟩ := hk
    obtain ⟨cv, h2, R1⟩ := dry_one (ops := ops) hΓ (hd o (by simp)) R h1
    obtain ⟨a', tm', h3, R2, h4⟩ := dry_all hΓ (fun x hx => hd x (by simp [hx])) R1 hk
    exact ⟨a', tm', ⟨cv, h2, h3⟩, R2, h4⟩

theorem st_late {i : Nat} {a a' : Act} {KA KB : Act → World → Prop} (hs : isSt o = true) (ho : ops[i]? = some o) (he : ∀ x ∈ o.op.operands, a'.eval x = a.eval x) (h : wpOpIn (Fw r) 0 E.P ops (fun _ _ _ => False) i KA a' w) (hK : ∀ w', KA a' w' → KB a w') : wpOpIn (Fw r) 0 E.P ops Q i KB a w := by
  obtain ⟨dst, op, ty, pos, after, guard⟩ := o
  have hshape : guard = none ∧ dst = none ∧ ∃ t x y, op = .store t x y := by
    cases guard with
    | some _ => simp [isSt] at hs
    | none =>
      cases dst with
      | some _ => simp [isSt] at hs
      | none => cases op <;> simp [isSt] at hs; exact ⟨rfl, rfl, _, _, _, rfl⟩
  obtain ⟨rfl, rfl, t, x, y, rfl⟩ := hshape
  unfold wpOpIn at h ⊢
  simp only [ho] at h ⊢
  rw [if_pos (by simp [Region.wanted])] at h ⊢
  refine Oper.wpIn_of (by simp) ?_
  have h2 := h.2
  rw [Oper.semAt_eq _ _ _ (by simp)] at h2
  rw [← exec_congr (.inr hs) he]
  cases hrun : (execOp a'.eval { dst := none, op := Op.store t x y, type := ty, pos := pos, after := after, guard := none }).run E.P w with
  | ok n w' =>
    rw [hrun] at h2
    have hn : n = .skip := by
      simp only [execOp, Sem.run_bind] at hrun
      cases hs2 : (Instr.storeAt t (a'.eval x) (a'.eval y)).run E.P w with
      | ok _ w2 =>
        rw [hs2] at hrun
        simp only [Result.andThen, Sem.run_pure, Result.ok.injEq] at hrun
        exact hrun.1.symm
      | halt hh w2 =>
        rw [hs2] at hrun
        simp only [Result.andThen] at hrun
        cases hrun
    subst hn
    exact hK w' h2
  | halt hh w' =>
    rw [hrun] at h2
    cases hh <;> exact (h2 : False).elim

variable {m : Nat}

theorem Left.before (hok : DrawOK m ops.toList) {un : Nat → Prop} {listed : Array Bool} (L : Left ops un listed) {i j : Nat} {o : Oper} (hi : i ∈ Region.ready .any ops listed) (ho : ops[i]? = some o) (hj : j ∈ (befs ops.toList []).getD i []) : ¬ un j := by
  obtain ⟨h0, o', ho', hall⟩ := mem_ready.1 hi
  rw [ho] at ho'; injection ho' with ho'; subst ho'
  refine L.not (befs_in (S := fun j => listed.getD j false = true) hok.back (fun i o ho => L.down i o (by simpa using ho)) ops.toList [] (by simp) (by simp) i o (by simpa using ho) ?_ hall j hj)
  have := (Array.getElem?_eq_some_iff.1 ho).1
  simpa using this

/-- The least that is left is ready. -/
theorem Left.least (hok : DrawOK m ops.toList) {un : Nat → Prop} {listed : Array Bool} (L : Left ops un listed) {i : Nat} (hi : un i) (hmin : ∀ j, j < i → ¬ un j) : i ∈ Region.ready .any ops listed := by
  have hlt := L.lt hi
  refine mem_ready.2 ⟨(L.un i).2 hi, ops[i], by simp [hlt], fun e he hb => ?_⟩
  have := hok.back i ops[i] (by simp [hlt]) e he hb
  exact L.li (by omega) (hmin _ this)

theorem draw_two (hok : DrawOK m ops.toList) (hΓ : GamOK E.P E.Γ) (hE : E.fits X) : ∀ (fuel : Nat) {k : Nat} {l : List (Nat × Oper)} {listed : Array Bool} {st : St} {a a' : Act} {w : World} {I : Nat → Prop}, (∀ p ∈ l, ops[p.1]? = some p.2 ∧ p.1 < m ∧ dryO p.2 = true) → l.Pairwise (fun p q => p.1 < q.1) →
    Left ops (fun i => (∃ p ∈ l, p.1 = i) ∨ (k ≤ i ∧ i < ops.size)) listed → m ≤ k → l.length + (ops.size - k) ≤ fuel → DryRun E.P (l.map (·.2)) a a' →
    Now X I st w a' → a.defers = ds → stepsK E ops.toList (ops.toList.drop k) st K → (∀ a w, After X I ds K a w → Q .normal a w) → wpAnyIn (Fw r) 0 E.P .any ops Q fuel listed a w := by
  intro fuel
  induction fuel with
  | zero =>
    intro k l listed st a a' w I hl hs L hm hf hdry hN hd hk hQ
    have : l = [] := by cases l with | nil => rfl | cons p l => simp at hf
    subst this
    have hks : ops.size ≤ k := by simp at hf; omega
    have hr : Region.ready .any ops listed = [] := List.eq_nil_iff_forall_not_mem.2 fun i hi => by
      have := (L.un i).1 (mem_ready.1 hi).1
      rcases this with ⟨p, hp, _⟩ | ⟨h1, h2⟩
      · cases hp
      · omega
    rw [List.drop_eq_nil_of_le (by simpa using hks)] at hk
    have : a' = a := hdry
    subst this
    exact ⟨hr, hQ a' w ⟨st, hN, hd, hk⟩⟩
  | succ fuel ih =>
    intro k l listed st a a' w I hl hs L hm hf hdry hN hd hk hQ
    refine ⟨fun hr => ?_, fun i hi => ?_⟩
    · -- nothing is ready: nothing is left
      cases l with
      | cons p0 l0 =>
        have := Left.least hok L (i := p0.1) (.inl ⟨p0, by simp, rfl⟩) (fun j hj h => by
          rcases h with ⟨q, hq, rfl⟩ | h
          · rcases List.mem_cons.1 hq with rfl | hq
            · omega
            · have := (List.pairwise_cons.1 hs).1 q hq; omega
          · have := (hl p0 (by simp)).2.1; omega)
        rw [hr] at this; cases this
      | nil =>
        have : ops.size ≤ k := Nat.le_of_not_lt fun hlt => by
          have := Left.least hok L (i := k) (.inr ⟨Nat.le_refl _, hlt⟩) (fun j hj h => by
            rcases h with ⟨q, hq, _⟩ | h
            · cases hq
            · omega)
          rw [hr] at this; cases this
        rw [List.drop_eq_nil_of_le (by simpa using this)] at hk
        have : a' = a := hdry
        subst this
        exact hQ a' w ⟨st, hN, hd, hk⟩
    · obtain ⟨hu, o, ho, _⟩ := mem_ready.1 hi
      have hu := (L.un i).1 hu
      rcases hu with ⟨p, hp, rfl⟩ | ⟨hki, his⟩
      · -- one that was left over
        have hpo : o = p.2 := by have := (hl p hp).1; rw [ho] at this; injection this
        subst hpo
        have hpd := (hl p hp).2.2
        obtain ⟨A, B, rfl⟩ := List.append_of_mem hp
        obtain ⟨hA, hB, hAB⟩ := List.pairwise_append.1 hs
        have hap : ∀ x ∈ A.map (·.2), p.2.apart ops x = true := by
          intro x hx
          obtain ⟨q, hq, rfl⟩ := List.mem_map.1 hx
          have hlt := hAB q hq p (by simp)
          rcases hok.pair p.1 p.2 q.1 (by simpa using ho) hlt with h | h
          · exact absurd (.inl ⟨q, by simp [hq], rfl⟩) (Left.before hok L hi ho h)
          · have := (h q.2 (by have := (hl q (by simp [hq])).1; simpa using this)).1.2; simpa using this
        simp only [List.map_append, List.map_cons] at hdry
        obtain ⟨v, hv, hdry⟩ := dry_front (ops := ops) hpd _ hdry (fun x hx => by
          obtain ⟨q, hq, rfl⟩ := List.mem_map.1 hx
          exact (hl q (by simp [hq])).2.2) hap
        have hgn : p.2.guard = none := by
          cases hg : p.2.guard with
          | none => rfl
          | some _ => simp [dryO, hg] at hpd
        have hnd : ∀ c, p.2.op ≠ .defer c := fun c hc => by simp [dryO, hgn, hc] at hpd
        unfold wpOpIn
        simp only [ho]
        rw [if_pos (by simp [Region.wanted, hgn])]
        refine Oper.wpIn_of hnd ?_
        rw [hv w]
        refine ih (l := A ++ B) (fun q hq => hl q (by simp only [List.mem_append, List.mem_cons] at hq ⊢; rcases hq with h | h <;> simp [h])) ?_ (L.set hi fun j => ?_) hm ?_ (by simpa using hdry) hN ((put_defers _ _ _).trans hd) hk hQ
        · exact List.pairwise_append.2 ⟨hA, (List.pairwise_cons.1 hB).2, fun x hx y hy => hAB x hx y (by simp [hy])⟩
        · have hpm := (hl p hp).2.1
          constructor
          · rintro (⟨q, hq, rfl⟩ | ⟨h1, h2⟩)
            · refine ⟨.inl ⟨q, by simp only [List.mem_append, List.mem_cons] at hq ⊢; rcases hq with h | h <;> simp [h], rfl⟩, ?_⟩
              rcases List.mem_append.1 hq with h | h
              · have := hAB q h p (by simp); omega
              · have := (List.pairwise_cons.1 hB).1 q h; omega
            · exact ⟨.inr ⟨h1, h2⟩, by omega⟩
          · rintro ⟨⟨q, hq, rfl⟩ | h, hne⟩
            · refine .inl ⟨q, ?_, rfl⟩
              simp only [List.mem_append, List.mem_cons] at hq ⊢
              rcases hq with h | rfl | h
              · exact .inl h
              · exact absurd rfl hne
              · exact .inr h
            · exact .inr h
        · simp only [List.length_append, List.length_cons] at hf ⊢; omega
      · -- the next one in the order of the text
        have hik : i = k := by
          apply Nat.le_antisymm _ hki
          refine Nat.le_of_not_lt fun hlt => ?_
          rcases hok.pair i o k (by simpa using ho) hlt with h | h
          · exact Left.before hok L hi ho h (.inr ⟨Nat.le_refl _, by omega⟩)
          · have := (h ops[k] (by simp [show k < ops.size by omega])).2
            omega
        subst hik
        have hdrop : ops.toList.drop i = o :: ops.toList.drop (i + 1) := by
          rw [List.drop_eq_getElem_cons (by simpa using his)]
          have : ops.toList[i]'(by simpa using his) = o := by
            have := (Array.getElem?_eq_some_iff.1 ho).2
            simpa using this
          rw [this]
        rw [hdrop] at hk
        have hun : ∀ j, ((∃ p ∈ l, p.1 = j) ∨ (i + 1 ≤ j ∧ j < ops.size)) ↔ (((∃ p ∈ l, p.1 = j) ∨ (i ≤ j ∧ j < ops.size)) ∧ j ≠ i) := fun j => by
          constructor
          · rintro (⟨q, hq, rfl⟩ | h)
            · have := (hl q hq).2.1; exact ⟨.inl ⟨q, hq, rfl⟩, by omega⟩
            · exact ⟨.inr (by omega), by omega⟩
          · rintro ⟨h | h, hne⟩
            · exact .inl h
            · exact .inr (by omega)
        cases l with
        | nil =>
          have : a' = a := hdry
          subst this
          refine wpOpIn_mono ?_ (guard_ok (K := fun st' => stepsK E ops.toList (ops.toList.drop (i + 1)) st' K) hΓ hE ho hN hd hk)
          rintro a2 w2 ⟨st', hN', hd', hk'⟩
          exact ih (k := i + 1) (l := []) (by simp) (by simp) (L.set hi hun) (by omega) (by simp at hf ⊢; omega) rfl hN' hd' hk' hQ
        | cons p0 l0 =>
          have hq : ∀ q ∈ p0 :: l0, (q.2.apart ops o = true ∧ o.apart ops q.2 = true) ∧ isSt o = true := fun q hq => by
            have hqm := (hl q hq).2.1
            rcases hok.pair i o q.1 (by simpa using ho) (by omega) with h | h
            · exact absurd (.inl ⟨q, hq, rfl⟩) (Left.before hok L hi ho h)
            · have h1 := h q.2 (by have := (hl q hq).1; simpa using this)
              refine ⟨by simpa using h1.1, ?_⟩
              rcases h1.2 with h2 | h2
              · omega
              · exact h2.1
          have hst := (hq p0 (by simp)).2
          have he : ∀ x ∈ o.op.operands, a'.eval x = a.eval x := eval_of_tmps (ops := ops) (fun t ht => dry_get hdry (fun x hx d hd e => by
            obtain ⟨q, hqm, rfl⟩ := List.mem_map.1 hx
            obtain ⟨a1, _, _⟩ := Oper.apart_spec (hq q hqm).1.1
            exact a1 d hd (e ▸ ht)))
          have hdst : o.dst = none := by
            cases hd2 : o.dst with
            | none => rfl
            | some d => cases hg : o.guard <;> simp [isSt, hd2, hg] at hst
          refine st_late hst ho he (guard_ok (Q := fun _ _ _ => False) (K := fun st' => stepsK E ops.toList (ops.toList.drop (i + 1)) st' K) hΓ hE ho hN ((dry_defers hdry).trans hd) hk) ?_
          rintro w2 ⟨st', hN', hd', hk'⟩
          exact ih (k := i + 1) hl hs (L.set hi hun) (by omega) (by simp at hf ⊢; omega) hdry hN' hd hk' hQ

theorem draw_one (hok : DrawOK m ops.toList) (hΓ : GamOK E.P E.Γ) (hE : E.fits X) {h : List AObj} : ∀ (fuel : Nat) {l : List (Nat × Oper)} {listed : Array Bool} {tm : List AV} {a : Act} {w : World} {I : Nat → Prop}, 
    (∀ p ∈ l, ops[p.1]? = some p.2 ∧ p.1 < m) → l.Pairwise (fun p q => p.1 < q.1) → Left ops (fun i => (∃ p ∈ l, p.1 = i) ∨ (m ≤ i ∧ i < ops.size)) listed → l.length + (ops.size - m) ≤ fuel →
    Now X I ⟨tm, h⟩ w a → a.defers = ds → lexR E ops.toList h (l.map (·.2)) tm (fun tm' => stepsK E ops.toList (ops.toList.drop m) ⟨tm', h⟩ K) → (∀ a w, After X I ds K a w → Q .normal a w) → wpAnyIn (Fw r) 0 E.P .any ops Q fuel listed a w := by
  intro fuel
  induction fuel with
  | zero =>
    intro l listed tm a w I hl hs L hf hN hd hk hQ
    have : l = [] := by cases l with | nil => rfl | cons p l => simp at hf
    subst this
    exact draw_two hok (K := K) hΓ hE 0 (k := m) (l := []) (by simp) (by simp) L (Nat.le_refl _) hf rfl hN hd hk hQ
  | succ fuel ih =>
    intro l listed tm a w I hl hs L hf hN hd hk hQ
    cases l with
    | nil => exact draw_two hok (K := K) hΓ hE (fuel + 1) (k := m) (l := []) (by simp) (by simp) L (Nat.le_refl _) hf rfl hN hd hk hQ
    | cons p0 l0 =>
      by_cases hdry : ∀ p ∈ p0 :: l0, dryO p.2 = true
      · -- all that is left may be done late
        obtain ⟨I', μ', ob', hI, R⟩ := hN
        obtain ⟨a', tm', h1, R', h2⟩ := dry_all (ops := ops) hΓ (l := (p0 :: l0).map (·.2)) (fun o ho => by
          obtain ⟨q, hq, rfl⟩ := List.mem_map.1 ho
          exact hdry q hq) R hk
        exact draw_two hok (K := K) hΓ hE (fuel + 1) (k := m) (fun p hp => ⟨(hl p hp).1, (hl p hp).2, hdry p hp⟩) hs L (Nat.le_refl _) hf h1 ⟨I', μ', ob', hI, R'⟩ hd h2 hQ
      · have hp0 := hl p0 (by simp)
        refine ⟨fun hr => ?_, fun i hi => ?_⟩
        · have := Left.least hok L (i := p0.1) (.inl ⟨p0, by simp, rfl⟩) (fun j hj h => by
            rcases h with ⟨q, hq, rfl⟩ | h
            · rcases List.mem_cons.1 hq with rfl | hq
              · omega
              · have := (List.pairwise_cons.1 hs).1 q hq; omega
            · omega)
          rw [hr] at this; cases this
        · obtain ⟨hu, o, ho, _⟩ := mem_ready.1 hi
          have hu := (L.un i).1 hu
          have him : ∃ p ∈ p0 :: l0, p.1 = i := by
            rcases hu with h | ⟨h1, h2⟩
            · exact h
            · exfalso
              refine hdry fun q hq => ?_
              have hqm := (hl q hq).2
              rcases hok.pair i o q.1 (by simpa using ho) (by omega) with h | h
              · exact absurd (.inl ⟨q, hq, rfl⟩) (Left.before hok L hi ho h)
              · rcases (h q.2 (by have := (hl q hq).1; simpa using this)).2 with h3 | h3
                · omega
                · exact h3.2.1
          generalize hL : p0 :: l0 = l at *
          obtain ⟨p, hp, rfl⟩ := him
          have hpo : o = p.2 := by have := (hl p hp).1; rw [ho] at this; injection this
          subst hpo
          obtain ⟨A, B, rfl⟩ := List.append_of_mem hp
          obtain ⟨hA, hB, hAB⟩ := List.pairwise_append.1 hs
          have hap : ∀ x ∈ A.map (·.2), p.2.apart ops.toList.toArray x = true := by
            intro x hx
            obtain ⟨q, hq, rfl⟩ := List.mem_map.1 hx
            have hlt := hAB q hq p (by simp)
            rcases hok.pair p.1 p.2 q.1 (by simpa using ho) hlt with h | h
            · exact absurd (.inl ⟨q, by simp [hq], rfl⟩) (Left.before hok L hi ho h)
            · exact (h q.2 (by have := (hl q (by simp [hq])).1; simpa using this)).1.2
          simp only [List.map_append, List.map_cons] at hk
          obtain ⟨v, hv, hk⟩ := move_front _ hk hap
          refine wpOpIn_mono ?_ (runs_ok hΓ hE ho hN hd hv)
          rintro a' w' ⟨st', hN', hd', rfl⟩
          refine ih (l := A ++ B) (fun q hq => hl q (by simp only [List.mem_append, List.mem_cons] at hq ⊢; rcases hq with h | h <;> simp [h])) ?_ (L.set hi fun j => ?_) ?_ hN' hd' (by simpa using hk) hQ
          · exact List.pairwise_append.2 ⟨hA, (List.pairwise_cons.1 hB).2, fun x hx y hy => hAB x hx y (by simp [hy])⟩
          · have hpm := (hl p hp).2
            constructor
            · rintro (⟨q, hq, rfl⟩ | ⟨h1, h2⟩)
              · refine ⟨.inl ⟨q, by simp only [List.mem_append, List.mem_cons] at hq ⊢; rcases hq with h | h <;> simp [h], rfl⟩, ?_⟩
                rcases List.mem_append.1 hq with h | h
                · have := hAB q h p (by simp); omega
                · have := (List.pairwise_cons.1 hB).1 q h; omega
              · exact ⟨.inr ⟨h1, h2⟩, by omega⟩
            · rintro ⟨⟨q, hq, rfl⟩ | h, hne⟩
              · refine .inl ⟨q, ?_, rfl⟩
                simp only [List.mem_append, List.mem_cons] at hq ⊢
                rcases hq with h | rfl | h
                · exact .inl h
                · exact absurd rfl hne
                · exact .inr h
              · exact .inr h
          · simp only [List.length_append, List.length_cons] at hf ⊢; omega
end

theorem AWp.draw {E : Env} {r : Option Nat} {Q : Exit → St → Prop} (hΓ : GamOK E.P E.Γ) (hmix : E.P.follows .mixedOrders = true) {id : Nat} {ops : List Oper} {tm : List AV} {h : List AObj} (m : Nat) (hok : drawOK m ops = true)
    (hk : lexK E ops h (ops.take m) tm (fun tm' => stepsK E ops (ops.drop m) ⟨tm', h⟩ (Q .normal))) : AWp E r (.region id ops.toArray true) Q ⟨tm, h⟩ := fun X I w a hE hN => by
  have hok' := drawOK_spec hok
  refine wpIn_region_any hmix ?_
  obtain ⟨I', μ', ob', hI, R⟩ := hN
  have R' : Rep X I' μ' ob' ⟨tm, h⟩ { w with drawn := w.drawn + 1 } a := R.grow ⟨rfl, rfl, rfl, Nat.le_refl _, fun _ _ _ => rfl⟩ (fun _ h => h) (fun _ h => .inl h)
  have hlen : ∀ p ∈ (ops.zipIdx.take m).map Prod.swap, ops.toArray[p.1]? = some p.2 ∧ p.1 < m := by
    intro p hp
    obtain ⟨q, hq, rfl⟩ := List.mem_map.1 hp
    obtain ⟨i, hi, rfl⟩ := List.mem_take_iff_getElem.1 hq
    simp only [List.getElem_zipIdx, Prod.swap, List.getElem?_toArray, Nat.zero_add]
    simp only [List.length_zipIdx] at hi
    exact ⟨List.getElem?_eq_getElem (by omega), by omega⟩
  refine draw_one (K := Q .normal) (h := h) (by simpa using hok') hΓ hE _ (l := (ops.zipIdx.take m).map Prod.swap) hlen ?_ ⟨by simp, fun i => ?_, fun i o _ hl => ?_⟩ ?_ ⟨I', μ', ob', hI, R'⟩ rfl ?_ (fun _ _ ⟨st', h1, _, h3⟩ => ⟨st', h1, h3⟩)
  · rw [List.pairwise_map, List.pairwise_iff_getElem]
    intro i j hi hj hij
    simpa using hij
  · have hle := hok'.le
    constructor
    · intro hi
      have hlt : i < ops.length := by
        rcases Nat.lt_or_ge i ops.length with h' | h'
        · exact h'
        · simp [h'] at hi
      by_cases him : i < m
      · refine .inl ⟨(i, ops[i]), List.mem_map.2 ⟨(ops[i], i), List.mem_take_iff_getElem.2 ⟨i, by simp; omega, by simp⟩, rfl⟩, rfl⟩
      · exact .inr ⟨by omega, by simpa using hlt⟩
    · rintro (⟨p, hp, rfl⟩ | ⟨_, h2⟩)
      · have h3 := (hlen p hp).1
        have : p.1 < ops.length := by simpa using (Array.getElem?_eq_some_iff.1 h3).1
        simp [this]
      · have : i < ops.length := by simpa using h2
        simp [this]
  · exfalso
    rcases Nat.lt_or_ge i ops.length with h' | h'
    · simp [h'] at hl
    · simp [h'] at hl
  · have hle := hok'.le
    simp; omega
  · have : ((ops.zipIdx.take m).map Prod.swap).map (·.2) = ops.take m := by
      rw [List.map_map]
      apply List.ext_getElem
      · simp
      · intro i h1 h2; simp [Prod.swap]
    rw [this]
    exact lexR_of hk

end Go.AM
