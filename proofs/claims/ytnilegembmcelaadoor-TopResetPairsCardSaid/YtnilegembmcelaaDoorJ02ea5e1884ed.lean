/-
  Texts of this claim, joined.
-/
import Derived.Test.YtnilegembmcelaaDoorJ77b3e1090e21
import Derived.OrdersIn

section
namespace Go.AM
open Go.RowKit

def befs : List Oper → List (List Nat) → List (List Nat)
  | [], acc => acc
  | o :: l, acc => befs l (acc ++ [(o.after.toList.flatMap fun e => if Region.binds .any e then e.on :: acc.getD e.on [] else []).eraseDups])

def dryO (o : Oper) : Bool := match o.guard, o.op with
  | none, .move _ => true
  | none, .assign _ => true
  | none, .binOp _ _ _ _ _ => true
  | _, _ => false
def isSt (o : Oper) : Bool := match o.guard, o.dst, o.op with
  | none, none, .store _ _ _ => true
  | _, _, _ => false

def Z6k (m : Nat) (ops : List Oper) : Bool :=
  let b := befs ops []
  Nat.ble m ops.length && (List.range ops.length).all fun i => match ops[i]? with
    | some o => o.after.toList.all (fun e => !Region.binds .any e || Nat.blt e.on i) &&
        (List.range i).all fun j => (b.getD i []).contains j || (match ops[j]? with | some oj => oj.apart ops.toArray o && o.apart ops.toArray oj && (Nat.blt i m || (isSt o && dryO oj && Nat.blt j m)) | none => true)
    | none => true

theorem Z5k {S : Nat → Prop} {ops : List Oper} (hback : ∀ i o, ops[i]? = some o → ∀ e ∈ o.after, Region.binds .any e = true → e.on < i)
    (hS : ∀ i o, ops[i]? = some o → S i → ∀ e ∈ o.after, Region.binds .any e = true → S e.on) :
    ∀ (l : List Oper) (acc : List (List Nat)), (∀ j, l[j]? = ops[acc.length + j]?) → (∀ i o, i < acc.length → ops[i]? = some o → (∀ e ∈ o.after, Region.binds .any e = true → S e.on) → ∀ j ∈ acc.getD i [], S j) →
    ∀ i o, ops[i]? = some o → i < acc.length + l.length → (∀ e ∈ o.after, Region.binds .any e = true → S e.on) → ∀ j ∈ (befs l acc).getD i [], S j
  | [], acc, _, hacc, i, o, ho, hi, hs, j, hj => hacc i o (by simpa using hi) ho hs j hj
  | o' :: l, acc, hl, hacc, i, o, ho, hi, hs, j, hj => by
    have h0 : ops[acc.length]? = some o' := by simpa using (hl 0).symm
    refine Z5k hback hS l (acc ++ [_]) (fun j => by have := hl (j + 1); simpa [Nat.add_assoc, Nat.add_comm 1 j] using this) ?_ i o ho (by simp at hi ⊢; omega) hs j (by simpa [befs] using hj); intro i o hi ho hs j hj; by_cases h1 : i < acc.length
    · exact hacc i o h1 ho hs j (by simpa [List.getD_eq_getElem?_getD, List.getElem?_append_left h1] using hj)
    · have : i = acc.length := by simp at hi; omega
      subst this; rw [h0] at ho; injection ho with ho; subst ho
      simp only [List.getD_eq_getElem?_getD, List.getElem?_append_right (Nat.le_refl _), Nat.sub_self, List.getElem?_cons_zero, Option.getD_some, List.mem_eraseDups, List.mem_flatMap] at hj; obtain ⟨e, he, hj⟩ := hj; have he' : e ∈ o'.after := by simpa using he
      split at hj
      · rename_i hb
        rcases List.mem_cons.1 hj with rfl | hj
        · exact hs e he' hb
        · have hlt := hback _ _ h0 e he' hb
          have : e.on < ops.length := by have := (List.getElem?_eq_some_iff.1 h0).1; omega
          exact hacc e.on ops[e.on] hlt (List.getElem?_eq_getElem this) (hS _ _ (List.getElem?_eq_getElem this) (hs e he' hb)) j (by rw [List.getD_eq_getElem?_getD]; exact hj)
      · simp at hj

structure Z6t (m : Nat) (ops : List Oper) : Prop where
  le : m ≤ ops.length
  back : ∀ i o, ops[i]? = some o → ∀ e ∈ o.after, Region.binds .any e = true → e.on < i
  pair : ∀ i o j, ops[i]? = some o → j < i → j ∈ (befs ops []).getD i [] ∨ (∀ oj, ops[j]? = some oj → (oj.apart ops.toArray o = true ∧ o.apart ops.toArray oj = true) ∧ (i < m ∨ (isSt o = true ∧ dryO oj = true ∧ j < m)))

theorem Z7g {m : Nat} {ops : List Oper} (h : Z6k m ops = true) : Z6t m ops := by
  simp only [Z6k, Bool.and_eq_true, List.all_eq_true, List.mem_range] at h; obtain ⟨h1, h2⟩ := h; have hlt : ∀ i (o : Oper), ops[i]? = some o → i < ops.length := fun i o ho => (List.getElem?_eq_some_iff.1 ho).1
  refine ⟨Nat.le_of_ble_eq_true h1, fun i o ho e he hb => ?_, fun i o j ho hj => ?_⟩
  · have := h2 i (hlt i o ho)
    simp only [ho, Bool.and_eq_true, List.all_eq_true] at this; have := this.1 e (by simpa using he); simp only [hb, Bool.not_true, Bool.false_or] at this; exact Nat.le_of_ble_eq_true this
  · have := h2 i (hlt i o ho)
    simp only [ho, Bool.and_eq_true, List.all_eq_true, List.mem_range] at this; have := this.2 j hj; simp only [Bool.or_eq_true, List.contains_iff_mem] at this; rcases this with h | h4
    · exact .inl h
    · refine .inr fun oj hoj => ?_
      rw [hoj] at h4; simp only [Bool.and_eq_true, Bool.or_eq_true] at h4; refine ⟨h4.1, h4.2.imp Nat.le_of_ble_eq_true (fun h => ⟨h.1.1, h.1.2, Nat.le_of_ble_eq_true h.2⟩)⟩

section
variable {E : Env} {X : Ctx} {I : Nat → Prop} {w w' : World} {a : Act} {st : St} {o : Oper} {K : St → Prop} {Q : Exit → Act → World → Prop} {r : Option Nat} {ops : Array Oper} {ds : List Deferred}

theorem Z3q (hΓ : Zg E.P E.Γ) (hE : E.fits X) {i : Nat} (ho : ops[i]? = some o) (hN : Now X I st w a) (hd : a.defers = ds) (hk : Zr ops.toList o.guard st.tmps (opK E o st K) (K ⟨putD st.tmps o.dst (.tup []), st.h⟩)) :
    wpOpIn (Fw r) 0 E.P ops Q i (Z22 X I ds K) a w := by
  obtain ⟨I', μ', ob', hI, R⟩ := hN
  have hrun : opK E o st K → o.wpIn (Fw r) 0 E.P a w (Z22 X I ds K) Q := fun hk =>
    Z0f (fun a' w' ⟨st', hn, hd', hk'⟩ => ⟨st', hn.trans hI, hd'.trans hd, hk'⟩) (Zhf hΓ hE R hk)
  have hskip : K ⟨putD st.tmps o.dst (.tup []), st.h⟩ → Z22 X I ds K (a.put o.dst undef) w := fun hk =>
    ⟨_, ⟨I', μ', ob', hI, R.put (.tup [] [] rfl (fun i hi => by simp at hi)) o.dst⟩, (Zn _ _ _).trans hd, hk⟩
  unfold wpOpIn; simp only [ho]; unfold Zr at hk
  split at hk
  · rename_i hg
    rw [if_pos (by simp [Region.wanted, hg])]; exact hrun hk
  · rename_i j want hg
    split at hk
    · rename_i d hd2
      obtain ⟨y1, y2⟩ := Z4n hd2 R
      split at hk
      · rename_i b hb
        have hy := y1 b hb; by_cases hbw : b = want
        · rw [if_pos (by simp [Region.wanted, hg, hy, hbw])]; exact hrun (hk.1 hbw)
        · rw [if_neg (by simp [Region.wanted, hg, hy, hbw])]
          exact ⟨fun _ _ => trivial, hskip (hk.2 (by cases b <;> cases want <;> simp_all))⟩
      · rename_i l' hl2
        have hy := y2 l' hl2; rw [if_neg (by simp [Region.wanted, hg, hy])]; exact ⟨fun _ _ => trivial, hskip hk⟩
      · exact hk.elim
    · exact hk.elim

theorem Z9c (hΓ : Zg E.P E.Γ) (hE : E.fits X) {i : Nat} {tm : List AV} {h : List AObj} {v : AV} (ho : ops[i]? = some o) (hN : Now X I ⟨tm, h⟩ w a) (hd : a.defers = ds) (hr : Z24 E ops.toList h o tm v) :
    wpOpIn (Fw r) 0 E.P ops Q i (Z22 X I ds fun st => st = ⟨putD tm o.dst v, h⟩) a w := by
  refine Z3q hΓ hE ho hN hd ?_; have := hr (fun v' => (⟨putD tm o.dst v', h⟩ : St) = ⟨putD tm o.dst v, h⟩) rfl; unfold Zr at this ⊢
  split at this
  · exact Z9e this
  · simp only
    split at this
    · split at this
      · exact ⟨fun h => Z9e (this.1 h), this.2⟩
      · exact this
      · exact this.elim
    · exact this.elim

structure Left (ops : Array Oper) (un : Nat → Prop) (listed : Array Bool) : Prop where
  size : listed.size = ops.size
  un : ∀ i, listed.getD i true = false ↔ un i
  down : ∀ i o, ops[i]? = some o → listed.getD i false = true → ∀ e ∈ o.after, Region.binds .any e = true → listed.getD e.on false = true

theorem Left.lt {un : Nat → Prop} {listed : Array Bool} (L : Left ops un listed) {i : Nat} (h : un i) : i < ops.size := by
  have := (L.un i).2 h; rcases Nat.lt_or_ge i listed.size with h' | h'
  · rw [← L.size]; exact h'
  · simp [Array.getElem?_eq_none h'] at this

theorem Left.li {un : Nat → Prop} {listed : Array Bool} (L : Left ops un listed) {i : Nat} (hi : i < ops.size) (h : ¬ un i) : listed.getD i false = true := by
  have h1 : listed.getD i true ≠ false := fun e => h ((L.un i).1 e)
  have hlt : i < listed.size := by rw [L.size]; exact hi
  simp [hlt] at h1 ⊢; exact h1

theorem Left.not {un : Nat → Prop} {listed : Array Bool} (L : Left ops un listed) {i : Nat} (h : listed.getD i false = true) : ¬ un i := by
  intro hu; have h1 := (L.un i).2 hu; have hlt : i < listed.size := by rw [L.size]; exact L.lt hu
  simp [hlt] at h h1; rw [h] at h1; cases h1

theorem Left.set {un un' : Nat → Prop} {listed : Array Bool} (L : Left ops un listed) {i : Nat} (hi : i ∈ Region.ready .any ops listed) (hu : ∀ j, un' j ↔ (un j ∧ j ≠ i)) : Left ops un' (listed.setIfInBounds i true) := by
  obtain ⟨h0, o, ho, hall⟩ := mem_ready.1 hi; refine ⟨by simp [L.size], fun j => ?_, fun j oj hoj hl e he hb => ?_⟩
  · rw [hu]
    by_cases e : i = j
    · subst e
      have hlt : i < listed.size := by rw [L.size]; exact (Array.getElem?_eq_some_iff.1 ho).1
      simp [hlt]
    · rw [getD_set_ne true e, L.un j]; exact ⟨fun h => ⟨h, fun h' => e h'.symm⟩, fun h => h.1⟩
  · by_cases e' : i = j
    · subst e'
      rw [ho] at hoj; injection hoj with hoj; subst hoj
      exact getD_set_true (hall e he hb)
    · rw [getD_set_ne false e'] at hl
      exact getD_set_true (L.down j oj hoj hl e he hb)

/-! What looks at no memory may be done late. -/
theorem Z36 {o : Oper} {ρ ρ' : Operand → Value} (hd : dryO o = true ∨ isSt o = true) (h : ∀ x ∈ o.op.operands, ρ x = ρ' x) : execOp ρ o = execOp ρ' o := by
  obtain ⟨dst, op, ty, pos, after, guard⟩ := o
  cases op with
  | move x => simp only [execOp]; rw [h x (by simp [Op.operands])]
  | assign x => simp only [execOp]; rw [h x (by simp [Op.operands])]
  | binOp op t x y u => simp only [execOp]; rw [h x (by simp [Op.operands]), h y (by simp [Op.operands])]
  | store t x y => simp only [execOp]; rw [h x (by simp [Op.operands]), h y (by simp [Op.operands])]
  | _ => exfalso; cases guard <;> cases dst <;> simp [dryO, isSt] at hd

def Z4i (P : Program) : List Oper → Act → Act → Prop
  | [], a, a' => a' = a
  | o :: l, a, a' => ∃ v, (∀ w, (execOp a.eval o).run P w = .ok (.value v) w) ∧ Z4i P l (a.put o.dst v) a'

theorem Z71 {a : Act} {d : Option Nat} {v : Value} {t : Nat} (h : ∀ x, d = some x → x ≠ t) : (a.put d v).tmps.getD t undef = a.tmps.getD t undef := by
  cases d with
  | none => rfl
  | some d =>
    have hne := h d rfl; show (a.tmps.setIfInBounds d v).getD t undef = a.tmps.getD t undef; rw [Array.getD_eq_getD_getElem?, Array.getD_eq_getD_getElem?, Array.getElem?_setIfInBounds_ne hne]
theorem Zbd {a : Act} {d d' : Option Nat} (v v' : Value) (h : ∀ x, d = some x → d' ≠ some x) : (a.put d v).put d' v' = (a.put d' v').put d v := by
  cases d with
  | none => rfl
  | some x =>
    cases d' with
    | none => rfl
    | some y =>
      have hne : x ≠ y := fun e => h x rfl (by rw [e])
      have key : (a.tmps.setIfInBounds x v).setIfInBounds y v' = (a.tmps.setIfInBounds y v').setIfInBounds x v := by
        apply Array.ext_getElem?
        intro i; by_cases hx : x = i
        · subst hx
          rw [Array.getElem?_setIfInBounds_ne (fun e => hne e.symm)]; simp [Array.getElem?_setIfInBounds]
        · rw [Array.getElem?_setIfInBounds_ne hx]
          by_cases hy : y = i
          · subst hy
            simp [Array.getElem?_setIfInBounds]
          · rw [Array.getElem?_setIfInBounds_ne hy, Array.getElem?_setIfInBounds_ne hy, Array.getElem?_setIfInBounds_ne hx]
      exact congrArg (fun t => ({ a with tmps := t } : Act)) key
theorem Z1p {a a' : Act} {o : Oper} (h : ∀ t ∈ o.looksAt ops, a'.tmps.getD t undef = a.tmps.getD t undef) : ∀ x ∈ o.op.operands, a'.eval x = a.eval x := by
  intro x hx
  cases x with
  | tmp t => exact h t (by simp only [Oper.looksAt, List.mem_append, List.mem_filterMap]; exact .inl ⟨.tmp t, by simpa using hx, rfl⟩)
  | const v => rfl
  | global g => rfl
  | func f => rfl

theorem Z6j {P : Program} {o : Oper} {l2 : List Oper} {a' : Act} (ho : dryO o = true) : ∀ (l1 : List Oper) {a : Act}, Z4i P (l1 ++ o :: l2) a a' → (∀ x ∈ l1, dryO x = true) → (∀ x ∈ l1, o.apart ops x = true) →
    ∃ v, (∀ w, (execOp a.eval o).run P w = .ok (.value v) w) ∧ Z4i P (l1 ++ l2) (a.put o.dst v) a'
  | [], a, hk, _, _ => hk
  | x :: l1, a, hk, hx, ha => by
    obtain ⟨vx, h1, hk⟩ := hk; obtain ⟨v, h2, hk⟩ := Z6j ho l1 hk (fun y hy => hx y (by simp [hy])) (fun y hy => ha y (by simp [hy])); obtain ⟨a1, a2, a3⟩ := Oper.apart_spec (ha x (by simp)); refine ⟨v, fun w => ?_, vx, fun w => ?_, ?_⟩
    · rw [Z36 (.inl ho) (Z1p (ops := ops) (a := a.put x.dst vx) (a' := a) (fun t ht => (Z71 (fun d hd e => a3 d hd (e ▸ ht))).symm))]
      exact h2 w
    · rw [Z36 (.inl (hx x (by simp))) (Z1p (ops := ops) (a := a) (a' := a.put o.dst v) (fun t ht => Z71 (fun d hd e => a1 d hd (e ▸ ht))))]
      exact h1 w
    · rw [Zbd v vx (fun d hd e => a2 d hd e)]
      exact hk

theorem Zai {P : Program} {t : Nat} : ∀ {l : List Oper} {a a' : Act}, Z4i P l a a' → (∀ x ∈ l, ∀ d, x.dst = some d → d ≠ t) → a'.tmps.getD t undef = a.tmps.getD t undef
  | [], a, a', h, _ => by subst h; rfl
  | o :: l, a, a', h, hx => by
    obtain ⟨v, _, h⟩ := h; rw [Zai h (fun x hm => hx x (by simp [hm])), Z71 (hx o (by simp))]
theorem Z50 {P : Program} : ∀ {l : List Oper} {a a' : Act}, Z4i P l a a' → a'.defers = a.defers
  | [], a, a', h => by subst h; rfl
  | o :: l, a, a', h => by
    obtain ⟨v, _, h⟩ := h; rw [Z50 h, Zn]

theorem Zeg (hΓ : Zg E.P E.Γ) {μ : Nat → Value} {ob : Nat → Option Nat} {h : List AObj} {tm : List AV} {v : AV} (hdry : dryO o = true) (R : Rep X I μ ob ⟨tm, h⟩ w a) (hr : Z24 E ops.toList h o tm v) :
    ∃ cv, (∀ w', (execOp a.eval o).run E.P w' = .ok (.value cv) w') ∧ Rep X I μ ob ⟨putD tm o.dst v, h⟩ w (a.put o.dst cv) := by
  obtain ⟨dst, op, ty, pos, after, guard⟩ := o; have hg : guard = none := by
    cases guard with
    | none => rfl
    | some _ => cases op <;> simp [dryO] at hdry
  subst hg; have hr0 : ∀ K : AV → Prop, K v → Z6 E op h (ev tm) K := fun K hK => hr K hK
  cases op with
  | move x =>
    have : ev tm x = v := hr0 (fun u => u = v) rfl; exact ⟨a.eval x, fun _ => by simp [execOp], R.put (by rw [← this]; exact R.evs x) dst⟩
  | assign x =>
    have : ev tm x = v := hr0 (fun u => u = v) rfl; exact ⟨a.eval x, fun _ => by simp [execOp], R.put (by rw [← this]; exact R.evs x) dst⟩
  | binOp op t x y u =>
    have hb : binA E.Γ op t (ev tm x) (ev tm y) (fun u => u = v) := hr0 (fun u => u = v) rfl; have hx := R.evs x; have hy := R.evs y; rcases Z7l hb with hb | hb
    · have hb0 := hb
      unfold aggK at hb
      split at hb
      · rename_i l m hl hm
        obtain ⟨te, hte, ⟨h1, h2, h3⟩, hb⟩ := hb.get; have hv : ∃ b : Bool, v = .p (.bool b) := by
          split at hb
          · split at hb
            · exact ⟨_, hb.symm⟩
            · exact ⟨_, hb.symm⟩
            · exact hb.elim
          · exact hb.elim
        obtain ⟨bv, rfl⟩ := hv; have hb1 : aggK E.Γ op t (.p (.agg l)) (.p (.agg m)) (fun u => u = .p (.bool bv)) := by
          unfold aggK at hb0 ⊢; rw [hl, hm] at hb0; exact hb0
        have key : ∀ w' : World, ∃ cv, (do eqGuard op t x y (a.eval x) (a.eval y); binOp op t (a.eval x) (a.eval y) : Sem Value).run E.P w' = .ok cv w' ∧ VR h.length μ I w' (.p (.bool bv)) cv := fun w' => by
          have px : PR I w' (.agg l) (a.eval x) := (hx.pure hl).scal h2; have py : PR I w' (.agg m) (a.eval y) := (hy.pure hm).scal h3; obtain ⟨v', cv, e1, e2, rfl⟩ := Zav (P := E.P) (w := w') (n := h.length) (μ := μ) hΓ x y (.p _ _ px) (.p _ _ py) hb1; exact ⟨cv, e1, e2⟩
        obtain ⟨cv, e1, e2⟩ := key w; refine ⟨cv, fun w' => ?_, R.put e2 dst⟩; obtain ⟨cv', e3, e4⟩ := key w'; have : cv' = cv := by rw [e2.bool_inv, e4.bool_inv]
        subst this; simp only [execOp, Sem.run_bind] at e3 ⊢; rw [e3]; rfl
      · exact hb.elim
    have key : ∀ w' : World, VR h.length μ I w' (ev tm x) (a.eval x) → VR h.length μ I w' (ev tm y) (a.eval y) → ∃ cv, (do eqGuard op t x y (a.eval x) (a.eval y); binOp op t (a.eval x) (a.eval y) : Sem Value).run E.P w' = .ok cv w' ∧ VR h.length μ I w' v cv := fun w' h1 h2 => by
      obtain ⟨v', cv, e1, e2, rfl⟩ := Zan (P := E.P) (w := w') hΓ x y h1 h2 hb; exact ⟨cv, e1, e2⟩
    -- the operands are plain, and so is what comes of them
    have plain : (∃ p, ev tm x = .p p ∧ p.scal = true) ∧ (∃ p, ev tm y = .p p ∧ p.scal = true) ∧ ∃ p, v = .p p ∧ ((∃ k n, p = .int k n) ∨ (∃ b, p = .bool b) ∨ (∃ s, p = .str s)) := by
      unfold binK at hb
      split at hb
      · rename_i k a' k' b' hx' hy'
        refine ⟨⟨_, hx', rfl⟩, ⟨_, hy', rfl⟩, ?_⟩; have hb : intK op k a' b' (fun u => u = v) := by cases op <;> first | exact hb | exact hb.2
        unfold intK at hb
        cases op <;> simp only at hb <;> first | exact hb.elim | exact ⟨_, hb.symm, .inl ⟨_, _, rfl⟩⟩ | exact ⟨_, hb.2.symm, .inl ⟨_, _, rfl⟩⟩ | exact ⟨_, hb.symm, .inr (.inl ⟨_, rfl⟩)⟩
      · rename_i hx' hy'
        refine ⟨⟨_, hx', rfl⟩, ⟨_, hy', rfl⟩, ?_⟩; unfold strK at hb
        cases op <;> simp only at hb <;> first | exact hb.elim | exact ⟨_, hb.2.symm, .inr (.inr ⟨_, rfl⟩)⟩ | exact ⟨_, hb.symm, .inr (.inl ⟨_, rfl⟩)⟩
      · rename_i hx' hy'
        refine ⟨⟨_, hx', rfl⟩, ⟨_, hy', rfl⟩, ?_⟩; have hb := hb.2
        cases op <;> simp only at hb <;> first | exact hb.elim | exact ⟨_, hb.symm, .inr (.inl ⟨_, rfl⟩)⟩
      · exact hb.elim
    obtain ⟨⟨px, hpx, sx⟩, ⟨py, hpy, sy⟩, pv, hpv, sv⟩ := plain; have any : ∀ {p : PV} {u : AV} {c : Value} (w' : World), u = .p p → p.scal = true → VR h.length μ I w u c → VR h.length μ I w' u c := fun {p u c} w' hu hs hv => by
      subst hu; cases hv with | p _ _ h1 => exact .p _ _ (h1.scal hs)
    obtain ⟨cv, e1, e2⟩ := key w hx hy; refine ⟨cv, fun w' => ?_, R.put e2 dst⟩; obtain ⟨cv', e3, e4⟩ := key w' (any w' hpx sx hx) (any w' hpy sy hy); have : cv' = cv := by
      subst hpv; rcases sv with ⟨k, n, rfl⟩ | ⟨b, rfl⟩ | ⟨s, rfl⟩
      · rw [e2.int_inv, e4.int_inv]
      · rw [e2.bool_inv, e4.bool_inv]
      · obtain ⟨b1, rfl, h1⟩ := e2.str_inv
        obtain ⟨b2, rfl, h2⟩ := e4.str_inv; rw [Z5i (h2.trans h1.symm)]
    subst this; simp only [execOp, Sem.run_bind] at e3 ⊢; rw [e3]; rfl
  | _ => simp [dryO] at hdry

theorem Zaj (hΓ : Zg E.P E.Γ) {μ : Nat → Value} {ob : Nat → Option Nat} {h : List AObj} {KT : List AV → Prop} : ∀ {l : List Oper} {tm : List AV} {a : Act}, (∀ o ∈ l, dryO o = true) → Rep X I μ ob ⟨tm, h⟩ w a → lexR E ops.toList h l tm KT →
    ∃ a' tm', Z4i E.P l a a' ∧ Rep X I μ ob ⟨tm', h⟩ w a' ∧ KT tm'
  | [], tm, a, _, R, hk => ⟨a, tm, rfl, R, hk⟩
  | o :: l, tm, a, hd, R, hk => by
    obtain ⟨v, h1, hk⟩ := hk; obtain ⟨cv, h2, R1⟩ := Zeg (ops := ops) hΓ (hd o (by simp)) R h1; obtain ⟨a', tm', h3, R2, h4⟩ := Zaj hΓ (fun x hx => hd x (by simp [hx])) R1 hk; exact ⟨a', tm', ⟨cv, h2, h3⟩, R2, h4⟩

theorem Zd7 {i : Nat} {a a' : Act} {KA KB : Act → World → Prop} (hs : isSt o = true) (ho : ops[i]? = some o) (he : ∀ x ∈ o.op.operands, a'.eval x = a.eval x) (h : wpOpIn (Fw r) 0 E.P ops (fun _ _ _ => False) i KA a' w) (hK : ∀ w', KA a' w' → KB a w') : wpOpIn (Fw r) 0 E.P ops Q i KB a w := by
  obtain ⟨dst, op, ty, pos, after, guard⟩ := o; have hshape : guard = none ∧ dst = none ∧ ∃ t x y, op = .store t x y := by
    cases guard with
    | some _ => simp [isSt] at hs
    | none =>
      cases dst with
      | some _ => simp [isSt] at hs
      | none => cases op <;> simp [isSt] at hs; exact ⟨rfl, rfl, _, _, _, rfl⟩
  obtain ⟨rfl, rfl, t, x, y, rfl⟩ := hshape; unfold wpOpIn at h ⊢; simp only [ho] at h ⊢; rw [if_pos (by simp [Region.wanted])] at h ⊢; refine Oper.wpIn_of (by simp) ?_; have h2 := h.2; rw [Oper.semAt_eq _ _ _ (by simp)] at h2; rw [← Z36 (.inr hs) he]
  cases hrun : (execOp a'.eval { dst := none, op := Op.store t x y, type := ty, pos := pos, after := after, guard := none }).run E.P w with
  | ok n w' =>
    rw [hrun] at h2; have hn : n = .skip := by
      simp only [execOp, Sem.run_bind] at hrun
      cases hs2 : (Instr.storeAt t (a'.eval x) (a'.eval y)).run E.P w with
      | ok _ w2 =>
        rw [hs2] at hrun; simp only [Result.andThen, Sem.run_pure, Result.ok.injEq] at hrun; exact hrun.1.symm
      | halt hh w2 =>
        rw [hs2] at hrun; simp only [Result.andThen] at hrun
        cases hrun
    subst hn; exact hK w' h2
  | halt hh w' =>
    rw [hrun] at h2
    cases hh <;> exact (h2 : False).elim

variable {m : Nat}

theorem Left.before (hok : Z6t m ops.toList) {un : Nat → Prop} {listed : Array Bool} (L : Left ops un listed) {i j : Nat} {o : Oper} (hi : i ∈ Region.ready .any ops listed) (ho : ops[i]? = some o) (hj : j ∈ (befs ops.toList []).getD i []) : ¬ un j := by
  obtain ⟨h0, o', ho', hall⟩ := mem_ready.1 hi; rw [ho] at ho'; injection ho' with ho'; subst ho'
  refine L.not (Z5k (S := fun j => listed.getD j false = true) hok.back (fun i o ho => L.down i o (by simpa using ho)) ops.toList [] (by simp) (by simp) i o (by simpa using ho) ?_ hall j hj); have := (Array.getElem?_eq_some_iff.1 ho).1
  simpa using this

theorem Left.least (hok : Z6t m ops.toList) {un : Nat → Prop} {listed : Array Bool} (L : Left ops un listed) {i : Nat} (hi : un i) (hmin : ∀ j, j < i → ¬ un j) : i ∈ Region.ready .any ops listed := by
  have hlt := L.lt hi; refine mem_ready.2 ⟨(L.un i).2 hi, ops[i], by simp [hlt], fun e he hb => ?_⟩; have := hok.back i ops[i] (by simp [hlt]) e he hb; exact L.li (by omega) (hmin _ this)

theorem Z5e (hok : Z6t m ops.toList) (hΓ : Zg E.P E.Γ) (hE : E.fits X) : ∀ (fuel : Nat) {k : Nat} {l : List (Nat × Oper)} {listed : Array Bool} {st : St} {a a' : Act} {w : World} {I : Nat → Prop}, (∀ p ∈ l, ops[p.1]? = some p.2 ∧ p.1 < m ∧ dryO p.2 = true) → l.Pairwise (fun p q => p.1 < q.1) →
    Left ops (fun i => (∃ p ∈ l, p.1 = i) ∨ (k ≤ i ∧ i < ops.size)) listed → m ≤ k → l.length + (ops.size - k) ≤ fuel → Z4i E.P (l.map (·.2)) a a' →
    Now X I st w a' → a.defers = ds → Z0p E ops.toList (ops.toList.drop k) st K → (∀ a w, Z22 X I ds K a w → Q .normal a w) → wpAnyIn (Fw r) 0 E.P .any ops Q fuel listed a w := by
  intro fuel
  induction fuel with
  | zero =>
    intro k l listed st a a' w I hl hs L hm hf hdry hN hd hk hQ; have : l = [] := by cases l with | nil => rfl | cons p l => simp at hf
    subst this; have hks : ops.size ≤ k := by simp at hf; omega
    have hr : Region.ready .any ops listed = [] := List.eq_nil_iff_forall_not_mem.2 fun i hi => by
      have := (L.un i).1 (mem_ready.1 hi).1; rcases this with ⟨p, hp, _⟩ | ⟨h1, h2⟩
      · cases hp
      · omega
    rw [List.drop_eq_nil_of_le (by simpa using hks)] at hk; have : a' = a := hdry; subst this; exact ⟨hr, hQ a' w ⟨st, hN, hd, hk⟩⟩
  | succ fuel ih =>
    intro k l listed st a a' w I hl hs L hm hf hdry hN hd hk hQ; refine ⟨fun hr => ?_, fun i hi => ?_⟩
    · -- nothing is ready: nothing is left
      cases l with
      | cons p0 l0 =>
        have := Left.least hok L (i := p0.1) (.inl ⟨p0, by simp, rfl⟩) (fun j hj h => by
          rcases h with ⟨q, hq, rfl⟩ | h
          · rcases List.mem_cons.1 hq with rfl | hq
            · omega
            · have := (List.pairwise_cons.1 hs).1 q hq; omega
          · have := (hl p0 (by simp)).2.1; omega)
        rw [hr] at this; cases this
      | nil =>
        have : ops.size ≤ k := Nat.le_of_not_lt fun hlt => by
          have := Left.least hok L (i := k) (.inr ⟨Nat.le_refl _, hlt⟩) (fun j hj h => by
            rcases h with ⟨q, hq, _⟩ | h
            · cases hq
            · omega)
          rw [hr] at this; cases this
        rw [List.drop_eq_nil_of_le (by simpa using this)] at hk; have : a' = a := hdry; subst this; exact hQ a' w ⟨st, hN, hd, hk⟩
    · obtain ⟨hu, o, ho, _⟩ := mem_ready.1 hi
      have hu := (L.un i).1 hu; rcases hu with ⟨p, hp, rfl⟩ | ⟨hki, his⟩
      · -- one that was left over
        have hpo : o = p.2 := by have := (hl p hp).1; rw [ho] at this; injection this
        subst hpo; have hpd := (hl p hp).2.2; obtain ⟨A, B, rfl⟩ := List.append_of_mem hp; obtain ⟨hA, hB, hAB⟩ := List.pairwise_append.1 hs; have hap : ∀ x ∈ A.map (·.2), p.2.apart ops x = true := by
          intro x hx; obtain ⟨q, hq, rfl⟩ := List.mem_map.1 hx; have hlt := hAB q hq p (by simp); rcases hok.pair p.1 p.2 q.1 (by simpa using ho) hlt with h | h
          · exact absurd (.inl ⟨q, by simp [hq], rfl⟩) (Left.before hok L hi ho h)
          · have := (h q.2 (by have := (hl q (by simp [hq])).1; simpa using this)).1.2; simpa using this
        simp only [List.map_append, List.map_cons] at hdry; obtain ⟨v, hv, hdry⟩ := Z6j (ops := ops) hpd _ hdry (fun x hx => by
          obtain ⟨q, hq, rfl⟩ := List.mem_map.1 hx; exact (hl q (by simp [hq])).2.2) hap
        have hgn : p.2.guard = none := by
          cases hg : p.2.guard with
          | none => rfl
          | some _ => simp [dryO, hg] at hpd
        have hnd : ∀ c, p.2.op ≠ .defer c := fun c hc => by simp [dryO, hgn, hc] at hpd
        unfold wpOpIn; simp only [ho]; rw [if_pos (by simp [Region.wanted, hgn])]; refine Oper.wpIn_of hnd ?_; rw [hv w]; refine ih (l := A ++ B) (fun q hq => hl q (by simp only [List.mem_append, List.mem_cons] at hq ⊢; rcases hq with h | h <;> simp [h])) ?_ (L.set hi fun j => ?_) hm ?_ (by simpa using hdry) hN ((Zn _ _ _).trans hd) hk hQ
        · exact List.pairwise_append.2 ⟨hA, (List.pairwise_cons.1 hB).2, fun x hx y hy => hAB x hx y (by simp [hy])⟩
        · have hpm := (hl p hp).2.1
          constructor
          · rintro (⟨q, hq, rfl⟩ | ⟨h1, h2⟩)
            · refine ⟨.inl ⟨q, by simp only [List.mem_append, List.mem_cons] at hq ⊢; rcases hq with h | h <;> simp [h], rfl⟩, ?_⟩
              rcases List.mem_append.1 hq with h | h
              · have := hAB q h p (by simp); omega
              · have := (List.pairwise_cons.1 hB).1 q h; omega
            · exact ⟨.inr ⟨h1, h2⟩, by omega⟩
          · rintro ⟨⟨q, hq, rfl⟩ | h, hne⟩
            · refine .inl ⟨q, ?_, rfl⟩
              simp only [List.mem_append, List.mem_cons] at hq ⊢; rcases hq with h | rfl | h
              · exact .inl h
              · exact absurd rfl hne
              · exact .inr h
            · exact .inr h
        · simp only [List.length_append, List.length_cons] at hf ⊢; omega
      · -- the next one in the order of the text
        have hik : i = k := by
          apply Nat.le_antisymm _ hki
          refine Nat.le_of_not_lt fun hlt => ?_
          rcases hok.pair i o k (by simpa using ho) hlt with h | h
          · exact Left.before hok L hi ho h (.inr ⟨Nat.le_refl _, by omega⟩)
          · have := (h ops[k] (by simp [show k < ops.size by omega])).2
            omega
        subst hik; have hdrop : ops.toList.drop i = o :: ops.toList.drop (i + 1) := by
          rw [List.drop_eq_getElem_cons (by simpa using his)]; have : ops.toList[i]'(by simpa using his) = o := by
            have := (Array.getElem?_eq_some_iff.1 ho).2
            simpa using this
          rw [this]
        rw [hdrop] at hk; have hun : ∀ j, ((∃ p ∈ l, p.1 = j) ∨ (i + 1 ≤ j ∧ j < ops.size)) ↔ (((∃ p ∈ l, p.1 = j) ∨ (i ≤ j ∧ j < ops.size)) ∧ j ≠ i) := fun j => by
          constructor
          · rintro (⟨q, hq, rfl⟩ | h)
            · have := (hl q hq).2.1; exact ⟨.inl ⟨q, hq, rfl⟩, by omega⟩
            · exact ⟨.inr (by omega), by omega⟩
          · rintro ⟨h | h, hne⟩
            · exact .inl h
            · exact .inr (by omega)
        cases l with
        | nil =>
          have : a' = a := hdry; subst this; refine wpOpIn_mono ?_ (Z3q (K := fun st' => Z0p E ops.toList (ops.toList.drop (i + 1)) st' K) hΓ hE ho hN hd hk); rintro a2 w2 ⟨st', hN', hd', hk'⟩; exact ih (k := i + 1) (l := []) (by simp) (by simp) (L.set hi hun) (by omega) (by simp at hf ⊢; omega) rfl hN' hd' hk' hQ
        | cons p0 l0 =>
          have hq : ∀ q ∈ p0 :: l0, (q.2.apart ops o = true ∧ o.apart ops q.2 = true) ∧ isSt o = true := fun q hq => by
            have hqm := (hl q hq).2.1; rcases hok.pair i o q.1 (by simpa using ho) (by omega) with h | h
            · exact absurd (.inl ⟨q, hq, rfl⟩) (Left.before hok L hi ho h)
            · have h1 := h q.2 (by have := (hl q hq).1; simpa using this)
              refine ⟨by simpa using h1.1, ?_⟩; rcases h1.2 with h2 | h2
              · omega
              · exact h2.1
          have hst := (hq p0 (by simp)).2; have he : ∀ x ∈ o.op.operands, a'.eval x = a.eval x := Z1p (ops := ops) (fun t ht => Zai hdry (fun x hx d hd e => by
            obtain ⟨q, hqm, rfl⟩ := List.mem_map.1 hx; obtain ⟨a1, _, _⟩ := Oper.apart_spec (hq q hqm).1.1; exact a1 d hd (e ▸ ht)))
          have hdst : o.dst = none := by
            cases hd2 : o.dst with
            | none => rfl
            | some d => cases hg : o.guard <;> simp [isSt, hd2, hg] at hst
          refine Zd7 hst ho he (Z3q (Q := fun _ _ _ => False) (K := fun st' => Z0p E ops.toList (ops.toList.drop (i + 1)) st' K) hΓ hE ho hN ((Z50 hdry).trans hd) hk) ?_; rintro w2 ⟨st', hN', hd', hk'⟩; exact ih (k := i + 1) hl hs (L.set hi hun) (by omega) (by simp at hf ⊢; omega) hdry hN' hd hk' hQ

theorem Zbu (hok : Z6t m ops.toList) (hΓ : Zg E.P E.Γ) (hE : E.fits X) {h : List AObj} : ∀ (fuel : Nat) {l : List (Nat × Oper)} {listed : Array Bool} {tm : List AV} {a : Act} {w : World} {I : Nat → Prop}, 
    (∀ p ∈ l, ops[p.1]? = some p.2 ∧ p.1 < m) → l.Pairwise (fun p q => p.1 < q.1) → Left ops (fun i => (∃ p ∈ l, p.1 = i) ∨ (m ≤ i ∧ i < ops.size)) listed → l.length + (ops.size - m) ≤ fuel →
    Now X I ⟨tm, h⟩ w a → a.defers = ds → lexR E ops.toList h (l.map (·.2)) tm (fun tm' => Z0p E ops.toList (ops.toList.drop m) ⟨tm', h⟩ K) → (∀ a w, Z22 X I ds K a w → Q .normal a w) → wpAnyIn (Fw r) 0 E.P .any ops Q fuel listed a w := by
  intro fuel
  induction fuel with
  | zero =>
    intro l listed tm a w I hl hs L hf hN hd hk hQ; have : l = [] := by cases l with | nil => rfl | cons p l => simp at hf
    subst this; exact Z5e hok (K := K) hΓ hE 0 (k := m) (l := []) (by simp) (by simp) L (Nat.le_refl _) hf rfl hN hd hk hQ
  | succ fuel ih =>
    intro l listed tm a w I hl hs L hf hN hd hk hQ
    cases l with
    | nil => exact Z5e hok (K := K) hΓ hE (fuel + 1) (k := m) (l := []) (by simp) (by simp) L (Nat.le_refl _) hf rfl hN hd hk hQ
    | cons p0 l0 =>
      by_cases hdry : ∀ p ∈ p0 :: l0, dryO p.2 = true
      · -- all that is left may be done late
        obtain ⟨I', μ', ob', hI, R⟩ := hN; obtain ⟨a', tm', h1, R', h2⟩ := Zaj (ops := ops) hΓ (l := (p0 :: l0).map (·.2)) (fun o ho => by
          obtain ⟨q, hq, rfl⟩ := List.mem_map.1 ho; exact hdry q hq) R hk
        exact Z5e hok (K := K) hΓ hE (fuel + 1) (k := m) (fun p hp => ⟨(hl p hp).1, (hl p hp).2, hdry p hp⟩) hs L (Nat.le_refl _) hf h1 ⟨I', μ', ob', hI, R'⟩ hd h2 hQ
      · have hp0 := hl p0 (by simp)
        refine ⟨fun hr => ?_, fun i hi => ?_⟩
        · have := Left.least hok L (i := p0.1) (.inl ⟨p0, by simp, rfl⟩) (fun j hj h => by
            rcases h with ⟨q, hq, rfl⟩ | h
            · rcases List.mem_cons.1 hq with rfl | hq
              · omega
              · have := (List.pairwise_cons.1 hs).1 q hq; omega
            · omega)
          rw [hr] at this; cases this
        · obtain ⟨hu, o, ho, _⟩ := mem_ready.1 hi
          have hu := (L.un i).1 hu; have him : ∃ p ∈ p0 :: l0, p.1 = i := by
            rcases hu with h | ⟨h1, h2⟩
            · exact h
            · exfalso
              refine hdry fun q hq => ?_
              have hqm := (hl q hq).2; rcases hok.pair i o q.1 (by simpa using ho) (by omega) with h | h
              · exact absurd (.inl ⟨q, hq, rfl⟩) (Left.before hok L hi ho h)
              · rcases (h q.2 (by have := (hl q hq).1; simpa using this)).2 with h3 | h3
                · omega
                · exact h3.2.1
          generalize hL : p0 :: l0 = l at *; obtain ⟨p, hp, rfl⟩ := him; have hpo : o = p.2 := by have := (hl p hp).1; rw [ho] at this; injection this
          subst hpo; obtain ⟨A, B, rfl⟩ := List.append_of_mem hp; obtain ⟨hA, hB, hAB⟩ := List.pairwise_append.1 hs; have hap : ∀ x ∈ A.map (·.2), p.2.apart ops.toList.toArray x = true := by
            intro x hx; obtain ⟨q, hq, rfl⟩ := List.mem_map.1 hx; have hlt := hAB q hq p (by simp); rcases hok.pair p.1 p.2 q.1 (by simpa using ho) hlt with h | h
            · exact absurd (.inl ⟨q, by simp [hq], rfl⟩) (Left.before hok L hi ho h)
            · exact (h q.2 (by have := (hl q (by simp [hq])).1; simpa using this)).1.2
          simp only [List.map_append, List.map_cons] at hk; obtain ⟨v, hv, hk⟩ := Z33 _ hk hap; refine wpOpIn_mono ?_ (Z9c hΓ hE ho hN hd hv); rintro a' w' ⟨st', hN', hd', rfl⟩; refine ih (l := A ++ B) (fun q hq => hl q (by simp only [List.mem_append, List.mem_cons] at hq ⊢; rcases hq with h | h <;> simp [h])) ?_ (L.set hi fun j => ?_) ?_ hN' hd' (by simpa using hk) hQ
          · exact List.pairwise_append.2 ⟨hA, (List.pairwise_cons.1 hB).2, fun x hx y hy => hAB x hx y (by simp [hy])⟩
          · have hpm := (hl p hp).2
            constructor
            · rintro (⟨q, hq, rfl⟩ | ⟨h1, h2⟩)
              · refine ⟨.inl ⟨q, by simp only [List.mem_append, List.mem_cons] at hq ⊢; rcases hq with h | h <;> simp [h], rfl⟩, ?_⟩
                rcases List.mem_append.1 hq with h | h
                · have := hAB q h p (by simp); omega
                · have := (List.pairwise_cons.1 hB).1 q h; omega
              · exact ⟨.inr ⟨h1, h2⟩, by omega⟩
            · rintro ⟨⟨q, hq, rfl⟩ | h, hne⟩
              · refine .inl ⟨q, ?_, rfl⟩
                simp only [List.mem_append, List.mem_cons] at hq ⊢; rcases hq with h | rfl | h
                · exact .inl h
                · exact absurd rfl hne
                · exact .inr h
              · exact .inr h
          · simp only [List.length_append, List.length_cons] at hf ⊢; omega
end

theorem AWp.draw {E : Env} {r : Option Nat} {Q : Exit → St → Prop} (hΓ : Zg E.P E.Γ) (hmix : E.P.follows .mixedOrders = true) {id : Nat} {ops : List Oper} {tm : List AV} {h : List AObj} (m : Nat) (hok : Z6k m ops = true)
    (hk : lexK E ops h (ops.take m) tm (fun tm' => Z0p E ops (ops.drop m) ⟨tm', h⟩ (Q .normal))) : AWp E r (.region id ops.toArray true) Q ⟨tm, h⟩ := fun X I w a hE hN => by
  have hok' := Z7g hok; refine wpIn_region_any hmix ?_; obtain ⟨I', μ', ob', hI, R⟩ := hN; have R' : Rep X I' μ' ob' ⟨tm, h⟩ { w with drawn := w.drawn + 1 } a := R.grow ⟨rfl, rfl, rfl, Nat.le_refl _, fun _ _ _ => rfl⟩ (fun _ h => h) (fun _ h => .inl h); have hlen : ∀ p ∈ (ops.zipIdx.take m).map Prod.swap, ops.toArray[p.1]? = some p.2 ∧ p.1 < m := by
    intro p hp; obtain ⟨q, hq, rfl⟩ := List.mem_map.1 hp; obtain ⟨i, hi, rfl⟩ := List.mem_take_iff_getElem.1 hq; simp only [List.getElem_zipIdx, Prod.swap, List.getElem?_toArray, Nat.zero_add]; simp only [List.length_zipIdx] at hi; exact ⟨List.getElem?_eq_getElem (by omega), by omega⟩
  refine Zbu (K := Q .normal) (h := h) (by simpa using hok') hΓ hE _ (l := (ops.zipIdx.take m).map Prod.swap) hlen ?_ ⟨by simp, fun i => ?_, fun i o _ hl => ?_⟩ ?_ ⟨I', μ', ob', hI, R'⟩ rfl ?_ (fun _ _ ⟨st', h1, _, h3⟩ => ⟨st', h1, h3⟩)
  · rw [List.pairwise_map, List.pairwise_iff_getElem]
    intro i j hi hj hij
    simpa using hij
  · have hle := hok'.le
    constructor
    · intro hi
      have hlt : i < ops.length := by
        rcases Nat.lt_or_ge i ops.length with h' | h'
        · exact h'
        · simp [h'] at hi
      by_cases him : i < m
      · refine .inl ⟨(i, ops[i]), List.mem_map.2 ⟨(ops[i], i), List.mem_take_iff_getElem.2 ⟨i, by simp; omega, by simp⟩, rfl⟩, rfl⟩
      · exact .inr ⟨by omega, by simpa using hlt⟩
    · rintro (⟨p, hp, rfl⟩ | ⟨_, h2⟩)
      · have h3 := (hlen p hp).1
        have : p.1 < ops.length := by simpa using (Array.getElem?_eq_some_iff.1 h3).1
        simp [this]
      · have : i < ops.length := by simpa using h2
        simp [this]
  · exfalso
    rcases Nat.lt_or_ge i ops.length with h' | h'
    · simp [h'] at hl
    · simp [h'] at hl
  · have hle := hok'.le
    simp; omega
  · have : ((ops.zipIdx.take m).map Prod.swap).map (·.2) = ops.take m := by
      rw [List.map_map]
      apply List.ext_getElem
      · simp
      · intro i h1 h2; simp [Prod.swap]
    rw [this]; exact Z9z hk

end Go.AM
end

section
namespace Go.AM
open Go.RowKit

def AV.under (n : Nat) : AV → Bool
  | .own c _ => Nat.blt c n
  | .ptr c _ => Nat.blt c n
  | .eptr c _ _ _ => Nat.blt c n
  | .map c => Nat.blt c n
  | .yld c => Nat.blt c n
  | .fn _ caps => underL n caps
  | .agg l => underL n l
  | .tup l => underL n l
  | _ => true
where
  underL (n : Nat) : List AV → Bool
    | [] => true
    | v :: l => v.under n && underL n l

def AObj.under (n : Nat) : AObj → Bool
  | .box cs => cs.all (AV.under n)
  | .it m _ _ _ => Nat.blt m n
  | .lp tm _ _ _ _ => tm.all (AV.under n)
  | _ => true

theorem Z1s {n : Nat} : ∀ {l : List AV}, AV.under.underL n l = true → ∀ i, i < l.length → (l.getD i .junk).under n = true
  | v :: l, h, i, hi => by
    simp only [AV.under.underL, Bool.and_eq_true] at h
    cases i with
    | zero => exact h.1
    | succ i => simpa using Z1s h.2 i (by simpa using hi)

theorem VR.narrow {m n : Nat} {μ : Nat → Value} {I : Nat → Prop} {w : World} {x : AV} {v : Value} (h : VR m μ I w x v) (hu : x.under n = true) : VR n μ I w x v := by
  induction h with
  | junk v => exact .junk v
  | cell v h => exact .cell v h
  | p x v h => exact .p x v h
  | full l a h => exact .full l a h
  | own b k a c hb h => exact .own b k a c (Nat.le_of_ble_eq_true hu) h
  | ptr b off g hb h => exact .ptr b off g (Nat.le_of_ble_eq_true hu) h
  | eptr b s i f g off k c hb h => exact .eptr b s i f g off k c (Nat.le_of_ble_eq_true hu) h
  | ipt l g off cur E fz vs hg hb hv hr => exact .ipt l g off cur E fz vs hg hb hv hr
  | map b r hb h => exact .map b r (Nat.le_of_ble_eq_true hu) h
  | yld b l hb h => exact .yld b l (Nat.le_of_ble_eq_true hu) h
  | fn f caps cs hl _ ih => exact .fn f caps cs hl (fun i hi => ih i hi (Z1s hu i hi))
  | agg l cs hl _ ih => exact .agg l cs hl (fun i hi => ih i hi (Z1s hu i hi))
  | tup l cs hl _ ih => exact .tup l cs hl (fun i hi => ih i hi (Z1s hu i hi))
  | nil => exact .nil

def cut (n : Nat) (ob : Nat → Option Nat) : Nat → Option Nat := fun b => if b < n then ob b else none
theorem Z5f {n : Nat} {ob : Nat → Option Nat} {b g : Nat} (h : cut n ob b = some g) : b < n ∧ ob b = some g := by
  unfold cut at h
  split at h
  · exact ⟨‹_›, h⟩
  · cases h

section
variable {P : Program} {X : Ctx} {I : Nat → Prop} {μ : Nat → Value} {ob : Nat → Option Nat} {w w' : World} {h : List AObj}

theorem RepH.trunc (R : RepH X I μ ob h w) {n : Nat} (hn : X.n0 ≤ n) (hle : n ≤ h.length) (hu : (h.take n).all (AObj.under n) = true) : RepH X I μ (cut n ob) (h.take n) w := by
  have hlen : (h.take n).length = n := by simp [hle]
  exact {
    below := R.below, laid := R.laid, base := R.base, imm := R.imm, ctx := R.ctx, frz := R.frz, inew := R.inew, may := R.may
    names := by rw [hlen]; exact hn
    own := fun b g hb => R.own b g (Z5f hb).2
    sep := fun b b' g h1 h2 => R.sep b b' g (Z5f h1).2 (Z5f h2).2
    past := fun b hb => by rw [hlen] at hb; simp [cut, Nat.not_lt.2 hb]
    objs := fun b o ho => by
      have hb : b < n := by have := (List.getElem?_eq_some_iff.1 ho).1; omega
      have hmem : o ∈ h.take n := List.mem_of_getElem? ho; have hou := List.all_eq_true.1 hu o hmem; rw [List.getElem?_take, if_pos hb] at ho; have hO := R.objs b o ho; have hcut : cut n ob b = ob b := by simp [cut, hb]
      rw [hlen]
      cases o with
      | dead => trivial
      | box cs =>
        obtain ⟨g, T, cur, h1, h2, h3, h4, h5⟩ := hO; refine ⟨g, T, cur, hcut.trans h1, h2, h3, h4, fun i hi => (h5 i hi).narrow ?_⟩; simp only [AObj.under, List.all_eq_true] at hou; exact hou _ (by rw [List.getD_eq_getElem?_getD, List.getElem?_eq_getElem hi, Option.getD_some]; exact List.getElem_mem _)
      | row E s xs k =>
        obtain ⟨h0, hO⟩ := hO; refine ⟨h0, ?_⟩; rcases hO with ⟨g, h1, h2⟩ | ⟨h1, h2, a, h3, h4⟩
        · exact .inl ⟨g, hcut.trans h1, h2⟩
        · exact .inr ⟨h1, hcut.trans h2, a, h3, h4⟩
      | mp es =>
        obtain ⟨r, ents, h1, h2, h3, h4, h5, h6⟩ := hO; exact ⟨r, ents, hcut.trans h1, h2, h3, h4, h5, h6⟩
      | mpi es =>
        obtain ⟨r, ents, h1, h2, h3, h4, h5, h6⟩ := hO; exact ⟨r, ents, hcut.trans h1, h2, h3, h4, h5, h6⟩
      | sit s pos =>
        obtain ⟨r, bs, h1, h2, h3, h4⟩ := hO; exact ⟨r, bs, hcut.trans h1, h2, h3, h4⟩
      | it m since seen last =>
        obtain ⟨r, g, h0, h1, h2, h3, h4, h5⟩ := hO; exact ⟨r, g, Nat.le_of_ble_eq_true hou, hcut.trans h1, h2, h3, h4, h5⟩
      | lp tm ps assign body s =>
        obtain ⟨l, rec, h1, h2, h3, h4, h5, h6⟩ := hO; refine ⟨l, rec, hcut.trans h1, h2, h3, h4, fun i hi => (h5 i hi).narrow ?_, h6⟩; simp only [AObj.under, List.all_eq_true] at hou; exact hou _ (by rw [List.getD_eq_getElem?_getD, List.getElem?_eq_getElem hi, Option.getD_some]; exact List.getElem_mem _) }

def Zjw (Γ : Gam) (rs : List ResultVar) (n : Nat) (R : AV → List AObj → Prop) (st : St) : Prop :=
  resK Γ st rs fun l => ((Z0a l).under n = true ∧ (st.h.take n).all (AObj.under n) = true ∧ n ≤ st.h.length) ∧ R (Z0a l) (st.h.take n)

theorem AC.of_body {Γ : Gam} {f : FuncId} {fn : Func} {c : Code} {args : List AV} {ks : List Nat} {R : AV → List AObj → Prop} (n : Nat) (hΓ : Zg P Γ) (hf : P.funcs[f]? = some fn) (hname : (fn.name == "runtime.NumGoroutine") = false) (hb : fn.body = some c)
    (hn : h.length ≤ n) (hw : AWp ⟨P, Γ, h.length, ks⟩ none c (fun e st => Ends e ∧ Zjw Γ fn.results.toList n R st) ⟨args ++ List.replicate (fn.ntmps - args.length) .junk, h⟩) : AC P f args h ks R := by
  refine ⟨Z06 hf hname hb, fun X I μ ob w cargs RH hlen hargs hks => ?_⟩
  let X' : Ctx := { B0 := X.B0, w0 := X.w0, I0 := I, μ0 := μ, n0 := h.length, ks := ks, fz := fun g => g < w.heap.size ∧ ∀ b, ob b ≠ some g, w1 := w }
  refine callsIn_wide.1 (?_ : CallsIn (Fw none) 0 P f cargs.toArray w _); refine callsIn_of_wp_marks hf hb trivial ?_; have hN : Now X' I ⟨args ++ List.replicate (fn.ntmps - args.length) .junk, h⟩ w { tmps := cargs.toArray ++ Array.replicate (fn.ntmps - cargs.toArray.size) undef, defers := [] } := by
    refine ⟨I, μ, ob, fun _ h => h, {
      below := RH.below, laid := RH.laid, base := RH.base, imm := RH.imm, ctx := fun _ h => h, frz := fun g hg => ⟨hg.1, rfl⟩, inew := fun _ h => .inl h, may := fun _ _ => rfl, names := Nat.le_refl _
      own := fun b g hg => ⟨(RH.own b g hg).1, ⟨(RH.own b g hg).2.1.1, fun hz => hz.2 b hg⟩, (RH.own b g hg).2.2⟩, sep := RH.sep, past := RH.past, objs := RH.objs
      size := by simp [hlen], tmps := fun i hi => ?_, marks := ⟨[], rfl, List.nodup_nil, by simp⟩ }⟩
    by_cases h1 : i < args.length
    · have e1 : (args ++ List.replicate (fn.ntmps - args.length) AV.junk).getD i AV.junk = args.getD i .junk := by
        simp only [List.getD_eq_getElem?_getD, List.getElem?_append_left h1]
      have e2 : (cargs.toArray ++ Array.replicate (fn.ntmps - cargs.toArray.size) undef).getD i undef = cargs.getD i undef := by
        rw [Z5m, Array.toList_append]; simp only [List.getD_eq_getElem?_getD]; rw [List.getElem?_append_left (by simpa using (show i < cargs.length by omega))]
      rw [e1, e2]; exact hargs i h1
    · have e1 : (args ++ List.replicate (fn.ntmps - args.length) AV.junk).getD i AV.junk = .junk := by
        simp only [List.getD_eq_getElem?_getD, List.getElem?_append_right (show args.length ≤ i by omega), List.getElem?_replicate]
        split <;> rfl
      rw [e1]; exact .junk _
  refine wpIn_mono (hw X' I w _ ⟨rfl, rfl⟩ hN) ?_; rintro e a' w' ⟨st', ⟨I', μ', ob', hI, R1⟩, he, hres⟩; obtain ⟨rs, m1, m2, m3⟩ := R1.marks
  have hleave : LeavesInM (Fw none) 0 P fn a'.tmps (fun e w' => ∃ cv v h' I' μ' ob', e = .returned cv ∧ RepH X I' μ' ob' h' w' ∧ VR h'.length μ' I' w' v cv ∧ (∀ g, I g → I' g) ∧
      (∀ b, b < h.length → b ∉ ks → μ' b = μ b) ∧ h.length ≤ h'.length ∧ (∀ g, I' g → I g ∨ (∃ b, ob b = some g) ∨ w.heap.size ≤ g) ∧ (∀ b g, ob' b = some g → (∃ c, ob c = some g) ∨ w.heap.size ≤ g) ∧
      (∀ g, g < w.heap.size → (∀ b, ob b ≠ some g) → w'.heap[g]? = w.heap[g]?) ∧ R v h') a'.defers .returning w' := by
    refine Z3n rs m1 m2 (fun r hr => (m3 r hr).1) (fun w'' a1 a2 a3 a4 a5 => ?_); have R2 := R1.toRepH.put a1 a2 a3 a4 a5 (fun k hk => ⟨(m3 k hk).2.1, (m3 k hk).2.2.1, (m3 k hk).2.2.2⟩)
    have htm : ∀ i, i < st'.tmps.length → VR st'.h.length μ' I' w'' (st'.tmps.getD i .junk) (a'.tmps.getD i undef) := fun i hi =>
      (R1.tmps i hi).mono (Nat.le_refl _) (fun _ _ => rfl) (fun _ h => h) (fun g hg => a5 g (fun hm => (m3 g hm).2.2.1 hg))
    obtain ⟨l, cs, r1, r2, r3, ⟨u1, u2, u3⟩, r4⟩ := Z3y (E := ⟨P, Γ, h.length, ks⟩) (a := a') hΓ R2 htm _ hres; have hm : (fn.results.mapM (Z0d a'.tmps)).run P w'' = .ok cs.toArray w'' := by
      have h5 : fn.results.mapM (Z0d a'.tmps) = Functor.map List.toArray (fn.results.toList.mapM (Z0d a'.tmps)) := by
        conv => lhs; rw [← Array.toArray_toList (xs := fn.results)]
        exact List.mapM_toArray
      rw [h5]; simp [r1]
    have hlen' : (st'.h.take n).length = n := by simp [u3]
    have R3 := R2.trunc hn u3 u2; have hnf : ∀ g, X'.mine g → (∃ b, ob b = some g) ∨ w.heap.size ≤ g := fun g hg => by
      rcases Nat.lt_or_ge g w.heap.size with h1 | h1
      · refine .inl (Classical.byContradiction fun h2 => hg.2 ⟨h1, fun b hb => h2 ⟨b, hb⟩⟩)
      · exact .inr h1
    refine ⟨_, by rw [Z2z]; simp only [Sem.run_bind]; rw [hm]; rfl, _, Z0a l, st'.h.take n, I', μ', cut n ob', rfl, ?_, ?_, hI, fun b hb hk => ?_, by rw [hlen']; exact hn, fun g hg => ?_, fun b g hb => ?_, fun g hg ho => ?_, r4⟩
    · exact {
        below := R3.below, laid := R3.laid, base := R3.base, imm := R3.imm, ctx := fun g hg => hI g (RH.ctx g hg)
        frz := fun g hg => by
          have h1 := RH.frz g hg; have h2 := R3.frz g ⟨h1.1, fun b hb => (RH.own b g hb).2.1.2 hg⟩; exact ⟨h2.1, h2.2.trans h1.2⟩
        inew := fun g hg => by
          rcases R3.inew g hg with h1 | h1
          · exact RH.inew g h1
          · rcases hnf g h1 with ⟨b, hb⟩ | h2
            · exact .inr (RH.own b g hb).2.1
            · exact .inr (RH.fresh h2)
        may := fun b hb => by
          have hb1 : b < X.n0 := Nat.lt_of_not_le fun h1 => hb (.inl h1)
          have := RH.names; rw [R3.may b (fun h1 => h1.elim (fun h1 => by have h1 : h.length ≤ b := h1; omega) (fun h1 => hb (hks b h1)))]; exact RH.may b hb
        names := Nat.le_trans RH.names R3.names
        own := fun b g hb => by
          have h1 := R3.own b g hb; refine ⟨h1.1, ?_, h1.2.2⟩; rcases hnf g h1.2.1 with ⟨c, hc⟩ | h2
          · exact (RH.own c g hc).2.1
          · exact RH.fresh h2
        sep := R3.sep, past := R3.past, objs := R3.objs }
    · rw [hlen']
      match l, cs, r2, r3, u1 with
      | [x], [c], _, r3, u1 => exact (r3 0 (by simp)).narrow u1
      | [], [], _, _, _ => exact .tup [] [] rfl (by simp)
      | x :: y :: l, c :: d :: cs, h2, r3, u1 => exact (VR.tup _ (c :: d :: cs) h2 r3).narrow u1
    · exact R3.may b (fun h1 => h1.elim (fun h1 => by have h1 : h.length ≤ b := h1; omega) hk)
    · rcases R3.inew g hg with h1 | h1
      · exact .inl h1
      · exact .inr (hnf g h1)
    · exact hnf g (R3.own b g hb).2.1
    · exact (R3.frz g ⟨hg, ho⟩).2
  rcases he with rfl | rfl
  · exact hleave
  · exact hleave
end

attribute [go_sem] Zjw AV.under AV.under.underL AObj.under List.all_cons List.all_nil Bool.and_true Bool.true_and
end Go.AM
end

section
namespace Go.AM
open Go.RowKit

section
variable {E : Env} {h : List AObj} {tm : List AV} {K : AV → Prop} {KT : List AV → Prop}
@[go_sem] theorem Zfa (x : Operand) : Z6 E (.move x) h (ev tm) K = K (ev tm x) := rfl
@[go_sem] theorem Zce (x : Operand) : Z6 E (.assign x) h (ev tm) K = K (ev tm x) := rfl
@[go_sem] theorem Zf9 (c x y : Operand) : Z6 E (.pick c x y) h (ev tm) K = Z28 (ev tm c) (ev tm x) (ev tm y) K := rfl
@[go_sem] theorem Zdi (op : BinOp) (t u : TypeId) (x y : Operand) : Z6 E (.binOp op t x y u) h (ev tm) K = binA E.Γ op t (ev tm x) (ev tm y) K := rfl
@[go_sem] theorem Zf8 (op : UnOp) (t : TypeId) (x : Operand) : Z6 E (.unOp op t x) h (ev tm) K = unK op (ev tm x) K := rfl
@[go_sem] theorem Zbf (s t : TypeId) (x : Operand) : Z6 E (.convert s t x) h (ev tm) K = Z1q E.Γ s t (ev tm x) K := rfl
@[go_sem] theorem Z9g (t : TypeId) (x : Operand) (f : Nat) : Z6 E (.fieldAddr t x f) h (ev tm) K = faK E.Γ t (ev tm x) f K := rfl
@[go_sem] theorem Zdg (t : TypeId) (x : Operand) (f : Nat) : Z6 E (.field t x f) h (ev tm) K = Z1b E.Γ t (ev tm x) f K := rfl
@[go_sem] theorem Z9f (t : TypeId) (x i : Operand) : Z6 E (.indexAddr t x i) h (ev tm) K = iaK E.Γ h t (ev tm x) (ev tm i) K := rfl
@[go_sem] theorem Zdf (t : TypeId) (x i : Operand) : Z6 E (.index t x i) h (ev tm) K = idxK E.Γ t (ev tm x) (ev tm i) K := rfl
@[go_sem] theorem Zfb (t : TypeId) (x : Operand) : Z6 E (.load t x) h (ev tm) K = Z1k E.Γ h t (ev tm x) K := rfl
@[go_sem] theorem Zde (t : TypeId) (x : Operand) (lo hi mx : Option Operand) : Z6 E (.slice t x lo hi mx) h (ev tm) K = Zw E.Γ t (ev tm x) (lo.map (ev tm)) (hi.map (ev tm)) (mx.map (ev tm)) K := rfl
@[go_sem] theorem Zbe (x : Operand) (i : Nat) : Z6 E (.extract x i) h (ev tm) K = extK (ev tm x) i K := rfl
@[go_sem] theorem Zb1 (f : FuncId) (caps : List Operand) : Z6 E (.makeFunc (.func f) #[] caps.toArray) h (ev tm) K = K (.fn f (caps.map (ev tm))) := rfl
@[go_sem] theorem Zh7 (x : Operand) (t : TypeId) : Z6 E (.call { callee := .builtin .len, args := #[x], argTypes := #[t] }) h (ev tm) K = lenK E.Γ t (ev tm x) h K := rfl
@[go_sem] theorem Zh5 (x y : Operand) (ts : Array TypeId) : Z6 E (.call { callee := .builtin .min, args := #[x, y], argTypes := ts }) h (ev tm) K = minK (ev tm x) (ev tm y) K := rfl
@[go_sem] theorem Zh6 (x : Operand) (l : List Operand) (ts : Array TypeId) : Z6 E (.call { callee := .builtin .max, args := (x :: l).toArray, argTypes := ts }) h (ev tm) K = maxK (ev tm x) (l.map (ev tm)) K := rfl
@[go_sem] theorem Z93 (t : TypeId) (len : Nat) (parts : List (Nat × Operand)) : Z6 E (.buildSlice t len parts.toArray) h (ev tm) K = bsPK E.Γ t len (parts.map fun p => (p.1, ev tm p.2)) K := rfl
@[go_sem] theorem Zfc (f : Operand) (args : List Operand) (ts : Array TypeId) : Z6 E (.call { callee := .value f, args := args.toArray, argTypes := ts }) h (ev tm) K = Z10 E h (ev tm f) (args.map (ev tm)) K := rfl
@[go_sem] theorem Zb0 (x : Operand) : Z6 E (.nilCheck x) h (ev tm) K = nilK (ev tm x) K := rfl
@[go_sem] theorem Zdh (t : TypeId) (parts : List (Nat × Operand)) : Z6 E (.build t parts.toArray) h (ev tm) K = bldK E.Γ t (parts.map fun p => (p.1, ev tm p.2)) K := rfl
@[go_sem] theorem Zcc (t : TypeId) (x y : Operand) (ok : Bool) : Z6 E (.lookup t x y ok) h (ev tm) K = Z20 E.Γ h t (ev tm x) (ev tm y) ok K := rfl
theorem Zb {f : FuncId} {caps args : List AV} {pargs vs : List PV} (hf : PFn E.P f pargs vs) (ha : ArgsOK h (args ++ caps) pargs vs) (hk : K (Z0a (vs.map .p))) : Z10 E h (.fn f caps) args K := .inl ⟨_, _, hf, ha, hk⟩

theorem Zu {KS : St → Prop} {d : Option Nat} {f : FuncId} {caps args : List AV} {ks : List Nat} {R : AV → List AObj → Prop} (hf : AC E.P f (args ++ caps) h ks R) (hks : ∀ k ∈ ks, E.n0 ≤ k ∨ k ∈ E.ks) (hk : ∀ v h', R v h' → KS ⟨putD (Zc ks tm) d v, h'⟩) : Z2u E ⟨tm, h⟩ d (.fn f caps) args KS :=
  .inl ⟨ks, R, hf, hks, hk⟩

theorem Z0 {KS : St → Prop} {d : Option Nat} {f : FuncId} {caps args : List AV} {pargs vs : List PV} (hf : PFn E.P f pargs vs) (ha : ArgsOK h (args ++ caps) pargs vs) (hk : KS ⟨putD tm d (Z0a (vs.map .p)), h⟩) : Z2u E ⟨tm, h⟩ d (.fn f caps) args KS := by
  refine Zu (ks := []) (R := fun v h' => v = Z0a (vs.map .p) ∧ h' = h) ?_ (by simp) (by rintro v h' ⟨rfl, rfl⟩; exact hk); rcases ha with ha | ha | ⟨ha, h2⟩
  · exact AC.of_fn hf (.inl ha)
  · exact AC.of_fn hf (.inr ha)
  · exact AC.of_fn_own hf ha h2

theorem Z8f {KS : St → Prop} {d : Option Nat} {f : FuncId} {caps args : List AV} {v : AV} (hf : AX E.P f (args ++ caps) v) (hk : KS ⟨putD tm d v, h⟩) : Z2u E ⟨tm, h⟩ d (.fn f caps) args KS := .inr ⟨v, hf, hk⟩

theorem ArgsOK.pures {args : List AV} {pargs vs : List PV} (h1 : AV.pures args = some pargs) : ArgsOK h args pargs vs := .inl h1
theorem ArgsOK.still {args : List AV} {pargs vs : List PV} (h1 : AV.purL [] args = some pargs) : ArgsOK h args pargs vs := .inr (.inl h1)
end

section
variable {st : St} {b : Nat} {E : TypeId} {s : Nat} {xs : List PV} {k : RK}
theorem AWp.freeze {E' : Env} {r : Option Nat} {c : Code} {Q : Exit → St → Prop} (b : Nat) (hb : st.h[b]? = some (.row E s xs k)) (hw : AWp E' r c Q (Z0c st b xs)) : AWp E' r c Q st := fun X I w a hE ⟨I', μ', ob', hI, R⟩ => by
  obtain ⟨J, hJ, R'⟩ := R.freeze hb; exact hw X I w a hE ⟨J, μ', _, fun g hg => hJ g (hI g hg), R'⟩
end

attribute [go_sem] bsPK List.cons_append List.nil_append
end Go.AM
end

section
namespace Go.AM
open Go.RowKit

def gK (v : AV) (want : Bool) (run skip : Prop) : Prop := match v with
  | .p (.bool b) => (b = want → run) ∧ (b = (!want) → skip)
  | .tup _ => skip
  | _ => False
def Z2k (d : Option Nat) (tm : List AV) : AV := match d with
  | some d => tm.getD d .junk
  | none => .junk

theorem Z1n (ops : List Oper) (j : Nat) (want : Bool) (tm : List AV) (run skip : Prop) : Zr ops (some (j, want)) tm run skip = gK (Z2k ((ops.map (·.dst)).getD j none) tm) want run skip := by
  have : (ops.map (·.dst)).getD j none = Z2j ops j := by
    simp only [Z2j, List.getD_eq_getElem?_getD, List.getElem?_map]; cases ops[j]? <;> rfl
  rw [this]; unfold Zr; simp only; generalize Z2j ops j = q
  cases q with
  | none => rfl
  | some d =>
    simp only [Z2k, gK]; generalize tm.getD d .junk = v
    cases v with
    | p v => cases v <;> rfl
    | _ => rfl

def Z07 (E : Env) (sl : List (Option Nat)) : List Oper → St → (St → Prop) → Prop
  | [], st, K => K st
  | o :: rest, st, K => match o.guard with
    | none => opK E o st fun st' => Z07 E sl rest st' K
    | some (j, w) => gK (Z2k (sl.getD j none) st.tmps) w (opK E o st fun st' => Z07 E sl rest st' K) (Z07 E sl rest ⟨putD st.tmps o.dst (.tup []), st.h⟩ K)

theorem Z2i (E : Env) (ops : List Oper) : ∀ (l : List Oper) (st : St) (K : St → Prop), Z0p E ops l st K = Z07 E (ops.map (·.dst)) l st K
  | [], _, _ => rfl
  | o :: rest, st, K => by
    unfold Z0p Z07; have ih := Z2i E ops rest
    cases hg : o.guard with
    | none => simp only [Zr, ih]
    | some p => obtain ⟨j, w⟩ := p; rw [Z1n]; simp only [ih]

def lexL (E : Env) (sl : List (Option Nat)) (h : List AObj) : List Oper → List AV → (List AV → Prop) → Prop
  | [], tm, K => K tm
  | o :: l, tm, K => match o.guard with
    | none => Z6 E o.op h (ev tm) fun v => lexL E sl h l (putD tm o.dst v) K
    | some (j, w) => gK (Z2k (sl.getD j none) tm) w (Z6 E o.op h (ev tm) fun v => lexL E sl h l (putD tm o.dst v) K) (lexL E sl h l (putD tm o.dst (.tup [])) K)

theorem Za0 (E : Env) (ops : List Oper) (h : List AObj) : ∀ (l : List Oper) (tm : List AV) (K : List AV → Prop), lexK E ops h l tm K = lexL E (ops.map (·.dst)) h l tm K
  | [], _, _ => rfl
  | o :: rest, tm, K => by
    unfold lexK lexL; have ih := Za0 E ops h rest
    cases hg : o.guard with
    | none => simp only [Zr, ih]
    | some p => obtain ⟨j, w⟩ := p; rw [Z1n]; simp only [ih]

theorem AWp.drawL {E : Env} {r : Option Nat} {Q : Exit → St → Prop} (hΓ : Zg E.P E.Γ) (hmix : E.P.follows .mixedOrders = true) {id : Nat} {ops : List Oper} {tm : List AV} {h : List AObj} (m : Nat) (hok : Z6k m ops = true)
    (hk : lexL E (ops.map (·.dst)) h (ops.take m) tm (fun tm' => Z07 E (ops.map (·.dst)) (ops.drop m) ⟨tm', h⟩ (Q .normal))) : AWp E r (.region id ops.toArray true) Q ⟨tm, h⟩ := by
  refine AWp.draw hΓ hmix m hok ?_; rw [Za0]; simp only [Z2i]; exact hk

section
variable {E : Env} {r : Option Nat} {Q : Exit → St → Prop} {tm tm' : List AV} {h : List AObj} {K : St → Prop} {KA : AV → Prop} {KT : List AV → Prop}
@[go_sem] theorem Zev (id : Nat) (ops : List Oper) : awp E r (.region id ops.toArray false) Q ⟨tm, h⟩ = Z07 E (ops.map (·.dst)) ops ⟨tm, h⟩ (Q .normal) := by
  rw [← Z2i]; rfl
@[go_sem] theorem Zf4 (sl : List (Option Nat)) : Z07 E sl [] ⟨tm, h⟩ K = K ⟨tm, h⟩ := rfl
@[go_sem] theorem Zc8 (sl : List (Option Nat)) (rest : List Oper) (dst : Option Tmp) (op : Op) (ty : TypeId) (pos : String) (after : Array Edge) :
    Z07 E sl (⟨dst, op, ty, pos, after, none⟩ :: rest) ⟨tm, h⟩ K = opK E ⟨dst, op, ty, pos, after, none⟩ ⟨tm, h⟩ fun st' => Z07 E sl rest st' K := rfl
@[go_sem] theorem Zc9 (sl : List (Option Nat)) (rest : List Oper) (dst : Option Tmp) (op : Op) (ty : TypeId) (pos : String) (after : Array Edge) (j : Nat) (want : Bool) :
    Z07 E sl (⟨dst, op, ty, pos, after, some (j, want)⟩ :: rest) ⟨tm, h⟩ K = gK (Z2k (sl.getD j none) tm) want (opK E ⟨dst, op, ty, pos, after, some (j, want)⟩ ⟨tm, h⟩ fun st' => Z07 E sl rest st' K) (Z07 E sl rest ⟨putD tm dst (.tup []), h⟩ K) := rfl
@[go_sem] theorem lexL_nil (sl : List (Option Nat)) : lexL E sl h [] tm KT = KT tm := rfl
@[go_sem] theorem Zft (sl : List (Option Nat)) (l : List Oper) (dst : Option Tmp) (op : Op) (ty : TypeId) (pos : String) (after : Array Edge) :
    lexL E sl h (⟨dst, op, ty, pos, after, none⟩ :: l) tm KT = Z6 E op h (ev tm) fun v => lexL E sl h l (putD tm dst v) KT := rfl
@[go_sem] theorem Zfu (sl : List (Option Nat)) (l : List Oper) (dst : Option Tmp) (op : Op) (ty : TypeId) (pos : String) (after : Array Edge) (j : Nat) (want : Bool) :
    lexL E sl h (⟨dst, op, ty, pos, after, some (j, want)⟩ :: l) tm KT = gK (Z2k (sl.getD j none) tm) want (Z6 E op h (ev tm) fun v => lexL E sl h l (putD tm dst v) KT) (lexL E sl h l (putD tm dst (.tup [])) KT) := rfl
@[go_sem] theorem Zf5 (d : Nat) : Z2k (some d) tm = tm.getD d .junk := rfl
@[go_sem] theorem gK_tup (l : List AV) (want : Bool) (x y : Prop) : gK (.tup l) want x y = y := rfl
@[go_sem] theorem gK_true (b : Bool) (x y : Prop) : gK (.p (.bool b)) true x y = Z11 (.p (.bool b)) x y := rfl
@[go_sem] theorem gK_false (b : Bool) (x y : Prop) : gK (.p (.bool b)) false x y = Z11 (.p (.bool b)) y x := by
  simp only [gK, Z11, Bool.not_false]; exact propext And.comm
theorem Z8y (p : Prop) [Decidable p] (x y : Prop) : Z11 (.p (.bool (decide p))) x y = ((p → x) ∧ (¬ p → y)) := by
  simp only [Z11, decide_eq_true_eq, decide_eq_false_iff_not]
@[go_sem] theorem Zgf (x y : Prop) : Z11 (.p (.bool true)) x y = x := by simp [Z11]
@[go_sem] theorem Zep (x y : Prop) : Z11 (.p (.bool false)) x y = y := by simp [Z11]

/-! What is not looked at. (A rule that changes nothing would not be taken: 'hd' is there to be taken away.) -/
def hd {α : Sort _} (a : α) : α := a
@[go_sem] theorem Zd {α : Sort _} (a : α) : hd a = a := congrFun (funext fun _ => rfl : @hd α = fun a => a) a
@[congr] theorem Zjn {c : Code} {st st' : St} (h : hd st = st') : awp E r c Q st = awp E r c Q st' := by rw [Zd] at h; rw [h]
@[congr] theorem Zjx {c : Code} {st st' : St} (h : hd st = st') : AWp E r c Q st = AWp E r c Q st' := by rw [Zd] at h; rw [h]
@[congr] theorem Zca {sl sl' : List (Option Nat)} {l : List Oper} {st st' : St} (h1 : hd sl = sl') (h : st = st') : Z07 E sl l st K = Z07 E sl' l st' K := by rw [Zd] at h1; rw [h1, h]
@[congr] theorem Zfv {sl sl' : List (Option Nat)} {l : List Oper} (h1 : hd sl = sl') (ht : tm = tm') : lexL E sl h l tm KT = lexL E sl' h l tm' KT := by rw [Zd] at h1; rw [h1, ht]
@[congr] theorem Zhu {o : Oper} {st st' : St} (h : hd st = st') : opK E o st K = opK E o st' K := by rw [Zd] at h; rw [h]
@[congr] theorem Zcd {op : Op} (ht : hd tm = tm') : Z6 E op h (ev tm) KA = Z6 E op h (ev tm') KA := by rw [Zd] at ht; rw [ht]
@[congr] theorem gK_congr {v v' : AV} {w : Bool} {x y : Prop} (h : hd v = v') : gK v w x y = gK v' w x y := by rw [Zd] at h; rw [h]
@[congr] theorem Zeq {v v' : AV} {x y : Prop} (h : hd v = v') : Z11 v x y = Z11 v' x y := by rw [Zd] at h; rw [h]
variable {Γ : Gam} {t : TypeId} {x x' y y' z z' : AV}
@[congr] theorem Zfo (h1 : hd x = x') : nilK x KA = nilK x' KA := by rw [Zd] at h1; rw [h1]
@[congr] theorem Zfq (h1 : hd x = x') (h2 : y = y') : minK x y KA = minK x' y' KA := by rw [Zd] at h1; rw [h1, h2]
@[congr] theorem Zcj {b : Bool} (h1 : hd x = x') : Z0b Γ t b x h KA = Z0b Γ t b x' h KA := by rw [Zd] at h1; rw [h1]
@[congr] theorem Zgh {ps ps' : List (Nat × AV)} (h1 : hd ps = ps') : bldK Γ t ps KA = bldK Γ t ps' KA := by rw [Zd] at h1; rw [h1]
@[congr] theorem Ze3 {ok : Bool} (h1 : hd x = x') (h2 : y = y') : Z20 Γ h t x y ok KA = Z20 Γ h t x' y' ok KA := by rw [Zd] at h1; rw [h1, h2]
@[congr] theorem Zf0 (h1 : hd x = x') (h2 : y = y') (h3 : z = z') : updK Γ tm h t x y z K = updK Γ tm h t x' y' z' K := by rw [Zd] at h1; rw [h1, h2, h3]
@[congr] theorem Zf7 {d : Option Nat} (h1 : hd x = x') : rngK Γ tm h d t x K = rngK Γ tm h d t x' K := by rw [Zd] at h1; rw [h1]
@[congr] theorem Zdx {d : Option Nat} (h1 : hd x = x') : Z76 tm h d x K = Z76 tm h d x' K := by rw [Zd] at h1; rw [h1]
@[congr] theorem Zfl {d : Option Nat} (h1 : hd x = x') : nxtK tm h d x K = nxtK tm h d x' K := by rw [Zd] at h1; rw [h1]
@[congr] theorem Zfp {d : Option Nat} (h1 : hd x = x') (h2 : y = y') : mkSK Γ tm h d t x y K = mkSK Γ tm h d t x' y' K := by rw [Zd] at h1; rw [h1, h2]
@[congr] theorem Zgj {op : BinOp} (h1 : hd x = x') (h2 : y = y') : binA Γ op t x y KA = binA Γ op t x' y' KA := by rw [Zd] at h1; rw [h1, h2]
@[congr] theorem Zgo {op : BinOp} (h1 : hd x = x') (h2 : y = y') : aggK Γ op t x y KA = aggK Γ op t x' y' KA := by rw [Zd] at h1; rw [h1, h2]
@[congr] theorem Zfr {l l' : List AV} (h1 : hd x = x') (h2 : l = l') : maxK x l KA = maxK x' l' KA := by rw [Zd] at h1; rw [h1, h2]
@[congr] theorem Zgi {op : BinOp} (h1 : hd x = x') (h2 : y = y') : binK Γ op t x y KA = binK Γ op t x' y' KA := by rw [Zd] at h1; rw [h1, h2]
@[congr] theorem Zdo (h1 : hd x = x') (h2 : y = y') (h3 : z = z') : Z28 x y z KA = Z28 x' y' z' KA := by rw [Zd] at h1; rw [h1, h2, h3]
@[congr] theorem Zgq {op : UnOp} (h1 : hd x = x') : unK op x KA = unK op x' KA := by rw [Zd] at h1; rw [h1]
@[congr] theorem Zg2 {i : Nat} (h1 : hd x = x') : extK x i KA = extK x' i KA := by rw [Zd] at h1; rw [h1]
@[congr] theorem Zej {s : TypeId} (h1 : hd x = x') : Z1q Γ s t x KA = Z1q Γ s t x' KA := by rw [Zd] at h1; rw [h1]
@[congr] theorem Ziu {d : Option Nat} {s : TypeId} (h1 : hd x = x') : cvY Γ tm h d s t x K = cvY Γ tm h d s t x' K := by rw [Zd] at h1; rw [h1]
@[congr] theorem Zg0 (h1 : hd x = x') (h2 : y = y') : idxK Γ t x y KA = idxK Γ t x' y' KA := by rw [Zd] at h1; rw [h1, h2]
@[congr] theorem Zik (h1 : hd x = x') (h2 : y = y') : iaK Γ h t x y KA = iaK Γ h t x' y' KA := by rw [Zd] at h1; rw [h1, h2]
@[congr] theorem Zin {f : Nat} (h1 : hd x = x') : faK Γ t x f KA = faK Γ t x' f KA := by rw [Zd] at h1; rw [h1]
@[congr] theorem Zcs {f : Nat} (h1 : hd x = x') : Z1b Γ t x f KA = Z1b Γ t x' f KA := by rw [Zd] at h1; rw [h1]
@[congr] theorem Ze4 (h1 : hd x = x') : Z1k Γ h t x KA = Z1k Γ h t x' KA := by rw [Zd] at h1; rw [h1]
@[congr] theorem Zfz (h1 : hd x = x') : lenK Γ t x h KA = lenK Γ t x' h KA := by rw [Zd] at h1; rw [h1]
@[congr] theorem Zcb {lo lo' hi hi' mx mx' : Option AV} (h1 : hd x = x') (h2 : lo = lo') (h3 : hi = hi') (h4 : mx = mx') : Zw Γ t x lo hi mx KA = Zw Γ t x' lo' hi' mx' KA := by rw [Zd] at h1; rw [h1, h2, h3, h4]
@[congr] theorem Zga {len : Nat} {ps ps' : List (Nat × AV)} (h1 : hd ps = ps') : bsPK Γ t len ps KA = bsPK Γ t len ps' KA := by rw [Zd] at h1; rw [h1]
@[congr] theorem Zjc {d : Option Nat} {len : Nat} {ps ps' : List (Nat × AV)} (h1 : hd ps = ps') : bsK Γ tm h d t len ps K = bsK Γ tm h d t len ps' K := by rw [Zd] at h1; rw [h1]
@[congr] theorem Zgt {a b : Operand} (h1 : hd x = x') (h2 : hd y = y') : stZ Γ tm h t a b x y K = stZ Γ tm h t a b x' y' K := by rw [Zd] at h1 h2; rw [h1, h2]
@[congr] theorem Zc6 {a b : Operand} {st st' : St} (h1 : hd st = st') : Z7t Γ st t a b K = Z7t Γ st' t a b K := by rw [Zd] at h1; rw [h1]
@[congr] theorem Zjb {d : Option Nat} {len : Nat} {ps : List (Nat × Operand)} {st st' : St} (h1 : hd st = st') : bsY Γ st d t len ps K = bsY Γ st' d t len ps K := by rw [Zd] at h1; rw [h1]
@[congr] theorem Zez {a b c : Operand} {st st' : St} (h1 : hd st = st') : updY Γ st t a b c K = updY Γ st' t a b c K := by rw [Zd] at h1; rw [h1]
@[congr] theorem Zgx {d : Option Nat} {a : Operand} {lo hi mx : Option Operand} (h1 : hd x = x') : slY E tm h d t a lo hi mx x K = slY E tm h d t a lo hi mx x' K := by rw [Zd] at h1; rw [h1]
@[congr] theorem Zg3 (h1 : hd x = x') : entK h x KA = entK h x' KA := by rw [Zd] at h1; rw [h1]
@[congr] theorem Zge {d : Option Nat} (h1 : hd x = x') : boxK tm h d x K = boxK tm h d x' K := by rw [Zd] at h1; rw [h1]
@[congr] theorem Zc7 (h1 : hd x = x') (h2 : y = y') : Z18 Γ tm h t x y K = Z18 Γ tm h t x' y' K := by rw [Zd] at h1; rw [h1, h2]
@[congr] theorem Zgn {n0 : Nat} {ks : List Nat} {d : Option Nat} (h1 : hd x = x') (h2 : y = y') : appK Γ n0 ks tm h d t x y K = appK Γ n0 ks tm h d t x' y' K := by rw [Zd] at h1; rw [h1, h2]
@[congr] theorem Zen {st : St} {d : Option Nat} {l l' : List AV} (h1 : hd x = x') (h2 : l = l') : Z2u E st d x l K = Z2u E st d x' l' K := by rw [Zd] at h1; rw [h1, h2]
@[congr] theorem Zbw {l l' : List AV} (h1 : hd x = x') (h2 : l = l') : Z10 E h x l KA = Z10 E h x' l' KA := by rw [Zd] at h1; rw [h1, h2]
@[congr] theorem Zf1 {Γ' : Gam} {u : TypeId} {f : TE → Prop} (h1 : hd t = u) (h2 : Γ = Γ') : tyAt Γ t f = tyAt Γ' u f := by rw [Zd] at h1; rw [h1, h2]
@[congr] theorem Zcr {u : TypeId} {f : Nat} {F : Nat → TE → Prop} (h1 : hd t = u) : fldOff Γ t f F = fldOff Γ u f F := by rw [Zd] at h1; rw [h1]
theorem Zh {te : TE} (hte : Γ t = some te) (f : TE → Prop) : tyAt Γ t f = f te := by simp only [tyAt, hte]
end
attribute [go_sem] true_imp_iff false_imp_iff
end Go.AM
end

section
namespace Go.AM
open Go.RowKit

def dmOf : List (Nat × Nat) → Nat → Nat
  | [], _ => 0
  | (i, m) :: l, id => if i = id then m else dmOf l id

def Z0z (dm : List (Nat × Nat)) : Code → Bool
  | .region id ops draw => !draw || Nat.beq (dmOf dm id) 1000 || Z6k (dmOf dm id) ops.toList
  | .seq x y => Z0z dm x && Z0z dm y
  | .cond _ x y => Z0z dm x && Z0z dm y
  | .block _ c => Z0z dm c
  | _ => true

def lexD (E : Env) (sl : List (Option Nat)) (h : List AObj) (m : Nat) (ops : List Oper) (tm : List AV) (K : St → Prop) : Prop :=
  lexL E sl h (ops.take m) tm fun tm' => Z07 E sl (ops.drop m) ⟨tm', h⟩ K

def Z7h (E : Env) (r : Option Nat) (id : Nat) (ops : List Oper) (m : Nat) (st : St) (Q : Exit → St → Prop) : Prop :=
  if m = 1000 then AWp E r (.region id ops.toArray true) Q st else lexD E (ops.map (·.dst)) st.h m ops st.tmps (Q .normal)

def awpD (E : Env) (r : Option Nat) (dm : List (Nat × Nat)) : Code → (Exit → St → Prop) → St → Prop
  | .skip, Q, st => Q .normal st
  | .label _, Q, st => Q .normal st
  | .ret, Q, st => Q .ret st
  | .exit id, Q, st => Q (.exit id) st
  | .region id ops draw, Q, st => if draw then Z7h E r id ops.toList (dmOf dm id) st Q else Z07 E (ops.toList.map (·.dst)) ops.toList st (Q .normal)
  | .seq x y, Q, st => awpD E r dm x (Z3f (awpD E r dm y Q) Q) st
  | .cond c x y, Q, st => Z11 (ev st.tmps c) (awpD E r dm x Q st) (awpD E r dm y Q st)
  | .block id c, Q, st => awpD E r dm c (Z2v id Q) st
  | c, Q, st => AWp E r c Q st

theorem AWp.of_awpD {E : Env} {r : Option Nat} (dm : List (Nat × Nat)) (hΓ : Zg E.P E.Γ) (hmix : E.P.follows .mixedOrders = true) : ∀ {c : Code} {Q : Exit → St → Prop} {st : St}, Z0z dm c = true → awpD E r dm c Q st → AWp E r c Q st := by
  intro c
  induction c with
  | skip => intro Q st _ h; exact .skip h
  | label l => intro Q st _ h; exact .label h
  | ret => intro Q st _ h; exact .ret h
  | exit id => intro Q st _ h; exact .exit h
  | region id ops draw =>
    intro Q st hd h; obtain ⟨ops⟩ := ops; obtain ⟨tm, hh⟩ := st
    cases draw with
    | true =>
      have h : Z7h E r id ops (dmOf dm id) ⟨tm, hh⟩ Q := h; unfold Z7h at h; by_cases hm : dmOf dm id = 1000
      · rw [if_pos hm] at h; exact h
      · rw [if_neg hm] at h
        exact AWp.drawL hΓ hmix (dmOf dm id) (by simpa [Z0z, hm] using hd) h
    | false =>
      refine .region hΓ ?_; rw [Z2i]; exact h
  | seq x y ihx ihy =>
    intro Q st hd h; simp only [Z0z, Bool.and_eq_true] at hd; refine AWp.seq ((ihx hd.1 h).mono ?_); intro e st' hq
    cases e with
    | normal => exact ihy hd.2 hq
    | _ => exact hq
  | cond c x y ihx ihy =>
    intro Q st hd h; simp only [Z0z, Bool.and_eq_true] at hd; refine AWp.cond ?_; simp only [awpD] at h; unfold Z11 at h ⊢
    split at h
    · exact ⟨fun hb => ihx hd.1 (h.1 hb), fun hb => ihy hd.2 (h.2 hb)⟩
    · exact h
  | block id c ih => intro Q st hd h; exact .block (ih hd h)
  | loop c _ => intro Q st _ h; exact h
  | rangeFunc f ps a b _ _ => intro Q st _ h; exact h
  | scope c _ => intro Q st _ h; exact h
  | goto l => intro Q st _ h; exact h
  | refuse w => intro Q st _ h; exact h

section
variable {E : Env} {r : Option Nat} {Q : Exit → St → Prop} {tm tm' : List AV} {h : List AObj} {K : St → Prop} {dm : List (Nat × Nat)} {sl sl' : List (Option Nat)}
@[go_sem] theorem Zjp : awpD E r dm .skip Q ⟨tm, h⟩ = Q .normal ⟨tm, h⟩ := rfl
@[go_sem] theorem Zgk (l : Nat) : awpD E r dm (.label l) Q ⟨tm, h⟩ = Q .normal ⟨tm, h⟩ := rfl
@[go_sem] theorem awpD_ret : awpD E r dm .ret Q ⟨tm, h⟩ = Q .ret ⟨tm, h⟩ := rfl
@[go_sem] theorem Zjr (id : Nat) : awpD E r dm (.exit id) Q ⟨tm, h⟩ = Q (.exit id) ⟨tm, h⟩ := rfl
@[go_sem] theorem Zew (id : Nat) (ops : List Oper) : awpD E r dm (.region id ops.toArray false) Q ⟨tm, h⟩ = Z07 E (ops.map (·.dst)) ops ⟨tm, h⟩ (Q .normal) := rfl
@[go_sem] theorem Zjs (id : Nat) (ops : List Oper) : awpD E r dm (.region id ops.toArray true) Q ⟨tm, h⟩ = Z7h E r id ops (dmOf dm id) ⟨tm, h⟩ Q := rfl
@[go_sem] theorem drawD_eq (id m : Nat) (ops : List Oper) : Z7h E r id ops m ⟨tm, h⟩ Q = if m = 1000 then AWp E r (.region id ops.toArray true) Q ⟨tm, h⟩ else lexD E (ops.map (·.dst)) h m ops tm (Q .normal) := rfl
@[go_sem] theorem awpD_seq (x y : Code) : awpD E r dm (.seq x y) Q ⟨tm, h⟩ = awpD E r dm x (Z3f (awpD E r dm y Q) Q) ⟨tm, h⟩ := rfl
@[go_sem] theorem Zjt (c : Operand) (x y : Code) : awpD E r dm (.cond c x y) Q ⟨tm, h⟩ = Z11 (ev tm c) (awpD E r dm x Q ⟨tm, h⟩) (awpD E r dm y Q ⟨tm, h⟩) := rfl
@[go_sem] theorem Zgm (id : Nat) (c : Code) : awpD E r dm (.block id c) Q ⟨tm, h⟩ = awpD E r dm c (Z2v id Q) ⟨tm, h⟩ := rfl
@[go_sem] theorem Zjq (c : Code) : awpD E r dm (.loop c) Q ⟨tm, h⟩ = AWp E r (.loop c) Q ⟨tm, h⟩ := rfl
@[go_sem] theorem Zb3 (f : Operand) (ps : Array Tmp) (a b : Code) : awpD E r dm (.rangeFunc f ps a b) Q ⟨tm, h⟩ = AWp E r (.rangeFunc f ps a b) Q ⟨tm, h⟩ := rfl
@[go_sem] theorem lexD_nil (m : Nat) : lexD E sl h m [] tm K = K ⟨tm, h⟩ := by simp only [lexD, List.take_nil, List.drop_nil]; rfl
@[go_sem] theorem Zie (ops : List Oper) : lexD E sl h 0 ops tm K = Z07 E sl ops ⟨tm, h⟩ K := rfl
@[go_sem] theorem Zfw (m : Nat) (l : List Oper) (dst : Option Tmp) (op : Op) (ty : TypeId) (pos : String) (after : Array Edge) :
    lexD E sl h (m + 1) (⟨dst, op, ty, pos, after, none⟩ :: l) tm K = Z6 E op h (ev tm) fun v => lexD E sl h m l (putD tm dst v) K := rfl
@[go_sem] theorem Zfx (m : Nat) (l : List Oper) (dst : Option Tmp) (op : Op) (ty : TypeId) (pos : String) (after : Array Edge) (j : Nat) (want : Bool) :
    lexD E sl h (m + 1) (⟨dst, op, ty, pos, after, some (j, want)⟩ :: l) tm K = gK (Z2k (sl.getD j none) tm) want (Z6 E op h (ev tm) fun v => lexD E sl h m l (putD tm dst v) K) (lexD E sl h m l (putD tm dst (.tup [])) K) := rfl
@[congr] theorem Zgl {c : Code} {st st' : St} (h : hd st = st') : awpD E r dm c Q st = awpD E r dm c Q st' := by rw [Zd] at h; rw [h]
@[congr] theorem Zeh {id m m' : Nat} {l : List Oper} {st : St} (h2 : m = m') : Z7h E r id l m st Q = Z7h E r id l m' st Q := by rw [h2]
@[congr] theorem Zfy {m m' : Nat} {l : List Oper} (h1 : hd sl = sl') (h2 : m = m') (ht : tm = tm') : lexD E sl h m l tm K = lexD E sl' h m' l tm' K := by rw [Zd] at h1; rw [h1, h2, ht]

@[go_sem] theorem Zjg (b : Bool) (x y : Prop) : Z11 (.p (.bool (!b))) x y = Z11 (.p (.bool b)) y x := by
  cases b <;> simp [Z11]
end
attribute [go_sem] Z8y
attribute [go_sem] dmOf Int.ofNat_inj Nat.reduceEqDiff
end Go.AM
end

section
namespace Go.AM
open Go.RowKit

theorem Rep.adopt {X : Ctx} {I : Nat → Prop} {μ : Nat → Value} {ob : Nat → Option Nat} {w : World} {st : St} {a : Act} {l : List PV} (R : Rep X I μ ob st w a) (i : Nat) (E : TypeId) (s : Nat)
    (hi : st.tmps.getD i .junk = .full l) (hs : ∀ x ∈ l, x.cells.length = s) : ∃ v, Rep X I (upd μ st.h.length v) (upd ob st.h.length none) ⟨st.tmps.set i (.own st.h.length l.length), st.h ++ [.row E s l .lax]⟩ w a := by
  have hlt : i < st.tmps.length := by
    by_cases h : i < st.tmps.length
    · exact h
    · rw [List.getD_eq_getElem?_getD, List.getElem?_eq_none (Nat.le_of_not_lt h)] at hi; cases hi
  have hv := R.tmps i hlt; rw [hi] at hv; generalize hc : a.tmps.getD i undef = c at hv
  cases hv with
  | full _ ad h =>
    refine ⟨.slice ad l.length l.length, {
      toRepH := R.toRepH.name (World.grownBy.refl _ _) (g := none) (by simp) ⟨hs, .inr ⟨rfl, Z5 _ _ _, ad, Z5 _ _ _, by rw [Z5]; exact h⟩⟩
      size := by simpa using R.size, tmps := fun j hj => ?_, marks := ?_ }⟩
    · simp only [List.length_set, List.length_append, List.length_singleton] at hj ⊢
      by_cases e : i = j
      · subst e
        rw [List.getD_eq_getElem?_getD, List.getElem?_set_self hlt, hc]; exact .own _ _ _ _ (Nat.lt_succ_self _) (Z5 _ _ _)
      · rw [List.getD_eq_getElem?_getD, List.getElem?_set_ne e, ← List.getD_eq_getElem?_getD]
        exact (R.tmps j hj).mono (Nat.le_succ _) (fun b hb => Z2 _ _ (by omega)) (fun _ h => h) (fun _ _ => rfl)
    · obtain ⟨rs, m1, m2, m3⟩ := R.marks
      refine ⟨rs, m1, m2, fun q hq => ?_⟩; obtain ⟨e1, e2, e3, e4⟩ := m3 q hq; refine ⟨e1, e2, e3, fun b hb => ?_⟩; by_cases e : b = st.h.length
      · subst e; rw [Z5] at hb; cases hb
      · rw [Z2 _ _ e] at hb; exact e4 b hb

theorem AWp.adopt {E : Env} {r : Option Nat} {c : Code} {Q : Exit → St → Prop} {tm : List AV} {h : List AObj} {l : List PV} (i : Nat) (t : TypeId) (s : Nat) (hi : tm.getD i .junk = .full l) (hs : ∀ x ∈ l, x.cells.length = s)
    (hw : AWp E r c Q ⟨tm.set i (.own h.length l.length), h ++ [.row t s l .lax]⟩) : AWp E r c Q ⟨tm, h⟩ := fun X I w a hE ⟨I', μ', ob', hI, R⟩ => by
  obtain ⟨v, R'⟩ := R.adopt i t s hi hs; exact hw X I w a hE ⟨I', _, _, hI, R'⟩
end Go.AM
end

