/-
  Texts of this claim, joined.
-/
import Derived.Test.YtnilegembmcelaaDoorJ4ab8883c603b
import Derived.Orders

namespace Go.AM
open Go.RowKit

def ArgsOK (h : List AObj) (args : List AV) (pargs vs : List PV) : Prop :=
  AV.pures args = some pargs ∨ AV.purL [] args = some pargs ∨ (AV.purL h args = some pargs ∧ vs.all PV.scal = true)

def Z10 (E : Env) (h : List AObj) (f : AV) (args : List AV) (K : AV → Prop) : Prop :=
  match f with
  | .fn g caps => (∃ pargs vs, PFn E.P g pargs vs ∧ ArgsOK h (args ++ caps) pargs vs ∧ K (Z0a (vs.map .p))) ∨ (∃ v, AX E.P g (args ++ caps) v ∧ K v) ∨ (∃ v, AC E.P g (args ++ caps) h [] (fun v' h' => v' = v ∧ h' = h) ∧ K v)
  | _ => False

def bsPK (Γ : Gam) (t : TypeId) (len : Nat) (parts : List (Nat × AV)) (K : AV → Prop) : Prop :=
  tyAt Γ t fun te => (match te.td with
    | .slice e => tyAt Γ e fun ee => (match Z29 0 parts with
      | some ps => (ps.length = len ∧ ee.zero.isSome = true ∧ Zp ps ee.cells ∧ len * ee.cells ≤ 16777216) ∧ K (.full ps)
      | none => False)
    | _ => False)

def Z8e (E : Env) (h : List AObj) (c : Call) (e : Operand → AV) (K : AV → Prop) : Prop :=
  match c.callee with
  | .value f => Z10 E h (e f) (c.args.toList.map e) K
  | .builtin b => (match b, c.args.toList.map e, c.argTypes.toList with
    | .len, [x], [t] => lenK E.Γ t x h K
    | .min, [x, y], _ => minK x y K
    | .max, x :: xs, _ => maxK x xs K
    | _, _, _ => False)
  | .invoke _ _ => False

def Z6 (E : Env) (op : Op) (h : List AObj) (e : Operand → AV) (K : AV → Prop) : Prop :=
  match op with
  | .move x => K (e x)
  | .assign x => K (e x)
  | .pick c x y => Z28 (e c) (e x) (e y) K
  | .binOp op t x y _ => binA E.Γ op t (e x) (e y) K
  | .unOp op _ x => unK op (e x) K
  | .convert src dst x => Z1q E.Γ src dst (e x) K
  | .fieldAddr t x f => faK E.Γ t (e x) f K
  | .field t x f => Z1b E.Γ t (e x) f K
  | .indexAddr t x i => iaK E.Γ h t (e x) (e i) K
  | .index t x i => idxK E.Γ t (e x) (e i) K
  | .load t x => Z1k E.Γ h t (e x) K
  | .slice t x lo hi mx => Zw E.Γ t (e x) (lo.map e) (hi.map e) (mx.map e) K
  | .extract x i => extK (e x) i K
  | .makeFunc fn first caps => Zbo fn first.toList (caps.toList.map e) K
  | .buildSlice t len parts => bsPK E.Γ t len (parts.toList.map fun p => (p.1, e p.2)) K
  | .call c => Z8e E h c e K
  | .nilCheck x => nilK (e x) K
  | .build t parts => bldK E.Γ t (parts.toList.map fun p => (p.1, e p.2)) K
  | .lookup t x i ok => Z20 E.Γ h t (e x) (e i) ok K
  | _ => False

theorem Z9u (x y : AV) : Detm (minK x y) := fun K h => by
  unfold minK at h
  split at h
  · exact ⟨_, h, fun K' hk' => hk'⟩
  · exact h.elim
theorem Z6a : ∀ (l : List AV) (x : AV), Detm (maxK x l)
  | [], x => Detm.ret x
  | y :: ys, x => fun K h => by
    unfold maxK at h
    split at h
    · obtain ⟨v, h1, h2⟩ := Z6a ys _ K h
      exact ⟨v, h1, fun K' hk' => by unfold maxK; exact h2 K' hk'⟩
    · exact h.elim
theorem Z6s (Γ : Gam) (op : BinOp) (t : TypeId) (x y : AV) : Detm (aggK Γ op t x y) := fun K h => by
  unfold aggK at h
  split at h
  · rename_i l m hl hm
    obtain ⟨te, hte, h1, h⟩ := h.get
    split at h
    · rename_i fs htd
      split at h
      · rename_i r hr _
        exact ⟨_, h, fun K' hk' => by simp only [aggK, hl, hm, tyAt, hte, htd, hr]; exact ⟨h1, hk'⟩⟩
      · rename_i r hr _
        exact ⟨_, h, fun K' hk' => by simp only [aggK, hl, hm, tyAt, hte, htd, hr]; exact ⟨h1, hk'⟩⟩
      · exact h.elim
    · exact h.elim
  · exact h.elim
theorem Zap (Γ : Gam) (op : BinOp) (t : TypeId) (x y : AV) : Detm (binA Γ op t x y) := fun K h => by
  unfold binA at h
  split at h
  · exact Z6s Γ op t _ y K h
  · exact Z6s Γ op t _ y K h
  · rename_i h1 h2
    obtain ⟨v, h3, h4⟩ := Zao Γ op t x y K h; exact ⟨v, h3, fun K' hk' => Zeu (h4 K' hk')⟩

theorem Z30 (E : Env) (op : Op) (h : List AObj) (e : Operand → AV) : Detm (Z6 E op h e) := by
  cases op with
  | move x => exact Detm.ret _
  | assign x => exact Detm.ret _
  | pick c x y => exact Z8m _ _ _
  | binOp op t x y u => exact Zap _ _ _ _ _
  | unOp op t x => exact Zb8 _ _
  | convert s d x => exact Z8v _ _ _ _
  | fieldAddr t x f => exact Zbt _ _ _ _
  | field t x f => exact Z7f _ _ _ _
  | indexAddr t x i => exact Zbr _ _ _ _ _
  | index t x i => exact Za8 _ _ _ _
  | load t x => exact Z8q _ _ _ _
  | slice t x lo hi mx => exact Z6y _ _ _ _ _ _
  | extract x i => exact Zae _ _
  | makeFunc fn first caps =>
    intro K hk; simp only [Z6] at hk ⊢; unfold Zbo at hk ⊢
    split at hk
    · exact ⟨_, hk, fun _ hk => hk⟩
    · exact hk.elim
  | buildSlice t len parts =>
    intro K hk; simp only [Z6] at hk ⊢; unfold bsPK at hk; obtain ⟨te, hte, hk⟩ := hk.get
    split at hk
    · rename_i el he
      obtain ⟨ee, hee, hk⟩ := hk.get
      split at hk
      · rename_i ps hps
        refine ⟨_, hk.2, fun K' hk' => ?_⟩; simp only [bsPK, tyAt, hte, he, hee, hps]; exact ⟨hk.1, hk'⟩
      · exact hk.elim
    · exact hk.elim
  | call c =>
    intro K hk; simp only [Z6] at hk ⊢; unfold Z8e at hk ⊢
    split at hk
    · rename_i f hf
      unfold Z10 at hk
      split at hk
      · rename_i g caps hg
        rcases hk with ⟨pa, vs, h1, h2, h3⟩ | ⟨v, h1, h2⟩ | ⟨v, h1, h2⟩
        · refine ⟨_, h3, fun K' hk' => ?_⟩
          simp only [Z10, hg]; exact .inl ⟨pa, vs, h1, h2, hk'⟩
        · refine ⟨_, h2, fun K' hk' => ?_⟩
          simp only [Z10, hg]; exact .inr (.inl ⟨v, h1, hk'⟩)
        · refine ⟨_, h2, fun K' hk' => ?_⟩
          simp only [Z10, hg]; exact .inr (.inr ⟨v, h1, hk'⟩)
      · exact hk.elim
    · rename_i b hb
      split at hk
      · rename_i x t e1 e2
        obtain ⟨v, h1, h2⟩ := Za1 _ _ _ _ K hk; exact ⟨v, h1, fun K' hk' => h2 K' hk'⟩
      · rename_i x y e1
        obtain ⟨v, h1, h2⟩ := Z9u _ _ K hk; exact ⟨v, h1, fun K' hk' => h2 K' hk'⟩
      · rename_i x xs e1
        obtain ⟨v, h1, h2⟩ := Z6a _ _ K hk; exact ⟨v, h1, fun K' hk' => h2 K' hk'⟩
      · exact hk.elim
    · exact hk.elim
  | nilCheck x => exact Z9r _
  | build t parts => exact Zam _ _ _
  | lookup t x i ok => exact Z8o _ _ _ _ _ _
  | _ => exact Detm.no

theorem Z72 {E : Env} {op : Op} {h : List AObj} {e e' : Operand → AV} {K : AV → Prop} (he : ∀ x ∈ op.operands, e x = e' x) (hk : Z6 E op h e K) : Z6 E op h e' K := by
  have mapc : ∀ (l : List Operand), (∀ x ∈ l, e x = e' x) → l.map e = l.map e' := fun l hl => List.map_congr_left hl
  cases op with
  | move x => simp only [Z6] at hk ⊢; rw [← he x (by simp [Op.operands])]; exact hk
  | assign x => simp only [Z6] at hk ⊢; rw [← he x (by simp [Op.operands])]; exact hk
  | pick c x y => simp only [Z6] at hk ⊢; rw [← he c (by simp [Op.operands]), ← he x (by simp [Op.operands]), ← he y (by simp [Op.operands])]; exact hk
  | binOp op t x y u => simp only [Z6] at hk ⊢; rw [← he x (by simp [Op.operands]), ← he y (by simp [Op.operands])]; exact hk
  | unOp op t x => simp only [Z6] at hk ⊢; rw [← he x (by simp [Op.operands])]; exact hk
  | convert s d x => simp only [Z6] at hk ⊢; rw [← he x (by simp [Op.operands])]; exact hk
  | fieldAddr t x f => simp only [Z6] at hk ⊢; rw [← he x (by simp [Op.operands])]; exact hk
  | field t x f => simp only [Z6] at hk ⊢; rw [← he x (by simp [Op.operands])]; exact hk
  | indexAddr t x i => simp only [Z6] at hk ⊢; rw [← he x (by simp [Op.operands]), ← he i (by simp [Op.operands])]; exact hk
  | index t x i => simp only [Z6] at hk ⊢; rw [← he x (by simp [Op.operands]), ← he i (by simp [Op.operands])]; exact hk
  | load t x => simp only [Z6] at hk ⊢; rw [← he x (by simp [Op.operands])]; exact hk
  | slice t x lo hi mx =>
    simp only [Z6] at hk ⊢; have hm : ∀ (y : Option Operand), (∀ z, y = some z → z ∈ (Op.slice t x lo hi mx).operands) → y.map e = y.map e' := by
      intro y hy
      cases y with
      | none => rfl
      | some z => simp only [Option.map_some]; rw [he z (hy z rfl)]
    rw [← he x (by simp [Op.operands]), ← hm lo (by intro z hz; subst hz; simp [Op.operands]), ← hm hi (by intro z hz; subst hz; simp [Op.operands]), ← hm mx (by intro z hz; subst hz; simp [Op.operands])]; exact hk
  | extract x i => simp only [Z6] at hk ⊢; rw [← he x (by simp [Op.operands])]; exact hk
  | makeFunc fn first caps =>
    simp only [Z6] at hk ⊢; rw [← mapc caps.toList (fun x hx => he x (by simp [Op.operands]; exact .inr (by simpa using hx)))]; exact hk
  | buildSlice t len parts =>
    simp only [Z6] at hk ⊢; have : (parts.toList.map fun p => (p.1, e p.2)) = parts.toList.map fun p => (p.1, e' p.2) := List.map_congr_left (fun p hp => by
      rw [he p.2 (by simp only [Op.operands, List.mem_toArray, List.mem_map]; exact ⟨p, hp, rfl⟩)])
    rw [← this]; exact hk
  | call c =>
    obtain ⟨callee, args, ats⟩ := c; simp only [Z6] at hk ⊢
    have ha : args.toList.map e = args.toList.map e' := mapc _ (fun x hx => he x (by
      simp only [Op.operands, Call.operands, Array.mem_append]; exact .inr (by simpa using hx)))
    unfold Z8e at hk ⊢
    cases callee with
    | value f =>
      simp only at hk ⊢; rw [← ha, ← he f (by simp [Op.operands, Call.operands])]; exact hk
    | builtin b => simp only at hk ⊢; rw [← ha]; exact hk
    | invoke r m => exact hk
  | nilCheck x => simp only [Z6] at hk ⊢; rw [← he x (by simp [Op.operands])]; exact hk
  | lookup t x i ok => simp only [Z6] at hk ⊢; rw [← he x (by simp [Op.operands]), ← he i (by simp [Op.operands])]; exact hk
  | build t parts =>
    simp only [Z6] at hk ⊢; have : (parts.toList.map fun p => (p.1, e p.2)) = parts.toList.map fun p => (p.1, e' p.2) := List.map_congr_left (fun p hp => by
      rw [he p.2 (by simp only [Op.operands, List.mem_toArray, List.mem_map]; exact ⟨p, hp, rfl⟩)])
    rw [← this]; exact hk
  | _ => exact hk

theorem Zes {Γ : Gam} {op : BinOp} {t : TypeId} {x : AV} {tm : List AV} {K : AV → Prop} (hk : binK Γ op t x (ev tm (.const (.slice none 0 0))) K) : False := by
  have : ev tm (.const (.slice none 0 0)) = .full [] := rfl; rw [this] at hk; unfold binK at hk
  split at hk <;> first | exact hk | (rename_i h1; cases h1) | (rename_i h1 _; cases h1)
theorem Z8i {Γ : Gam} {op : BinOp} {t : TypeId} {x : AV} {tm : List AV} {K : AV → Prop} (hk : binA Γ op t x (ev tm (.const (.slice none 0 0))) K) : False := by
  rcases Z7l hk with hk | hk
  · have : ev tm (.const (.slice none 0 0)) = .full [] := rfl
    rw [this] at hk; unfold aggK at hk
    split at hk
    · rename_i h1; cases h1
    · exact hk
  · exact Zes hk

theorem Z9e {E : Env} {o : Oper} {tm : List AV} {h : List AObj} {K : St → Prop} (hk : Z6 E o.op h (ev tm) fun v => K ⟨putD tm o.dst v, h⟩) : opK E o ⟨tm, h⟩ K := by
  obtain ⟨dst, op, ty, pos, after, guard⟩ := o
  cases op with
  | call c =>
    obtain ⟨callee, args, ats⟩ := c; simp only [Z6, Z8e] at hk; simp only [opK, Z5h]
    cases callee with
    | value f =>
      simp only at hk ⊢; unfold Z10 at hk; unfold Z2u
      split at hk
      · rename_i g caps hg
        rcases hk with ⟨pa, vs, h1, h2, h3⟩ | ⟨v, h1, h2⟩ | ⟨v, h1, h2⟩
        · simp only [hg]
          refine .inl ⟨[], fun v h' => v = Z0a (vs.map .p) ∧ h' = h, ?_, by simp, ?_⟩
          · rcases h2 with h2 | h2 | ⟨h2, h4⟩
            · exact AC.of_fn h1 (.inl h2)
            · exact AC.of_fn h1 (.inr h2)
            · exact AC.of_fn_own h1 h2 h4
          · rintro v h' ⟨rfl, rfl⟩; exact h3
        · simp only [hg]; exact .inr ⟨v, h1, h2⟩
        · simp only [hg]; exact .inl ⟨[], _, h1, by simp, by rintro v' h' ⟨rfl, rfl⟩; exact h2⟩
      · exact hk.elim
    | builtin b =>
      simp only at hk ⊢; unfold Z3s
      split at hk
      · rename_i e1 e2; simp only [e1, e2]; exact hk
      · rename_i e1; simp only [e1]; exact hk
      · rename_i e1; simp only [e1]; exact hk
      · exact hk.elim
    | invoke r m => exact hk.elim
  | buildSlice t len parts =>
    simp only [Z6] at hk; simp only [opK]; unfold bsPK at hk; obtain ⟨te, hte, hk⟩ := hk.get
    split at hk
    · rename_i el he
      obtain ⟨ee, hee, hk⟩ := hk.get
      split at hk
      · rename_i ps hps
        have hid : fzL (parts.toList.map fun p => ev tm p.2) ⟨tm, h⟩ = ⟨tm, h⟩ := Zcq _ _ (fun v hv b n e => by
          obtain ⟨i, hi, rfl⟩ := List.getElem_of_mem hv; simp only [List.length_map] at hi; have h3 := (Z31 0 _ ps hps).2.2 i (by simpa using hi); simp only [List.map_map, List.getD_eq_getElem?_getD, List.getElem?_map, List.getElem?_eq_getElem hi, Option.map_some, Option.getD_some, Function.comp] at h3; rw [List.getElem_map] at e; rw [e] at h3; cases h3)
        rw [hid]; simp only [bsZ, bsK, tyAt, hte, he, hee, hps]; exact hk
      · exact hk.elim
    · exact hk.elim
  | move x => exact hk
  | assign x => exact hk
  | pick c x y => exact hk
  | binOp op t x y u =>
    show Z4g _ _ _ _ _ _ _ _; have hk : binA E.Γ op t (ev tm x) (ev tm y) fun v => K ⟨putD tm dst v, h⟩ := hk
    unfold Z4g
    split
    · exact (Z8i hk).elim
    · exact (Z8i hk).elim
    · exact hk
  | nilCheck x => exact hk
  | build t parts => exact hk
  | lookup t x i ok => exact hk
  | unOp op t x => exact hk
  | convert s d x =>
    have hk : Z1q E.Γ s d (ev tm x) fun v => K ⟨putD tm dst v, h⟩ := hk
    exact Z6l hk
  | fieldAddr t x f => exact hk
  | field t x f => exact hk
  | indexAddr t x i => exact hk
  | index t x i => exact hk
  | load t x => exact hk
  | slice t x lo hi mx =>
    have hk : Zw E.Γ t (ev tm x) (lo.map (ev tm)) (hi.map (ev tm)) (mx.map (ev tm)) (fun v => K ⟨putD tm dst v, h⟩) := hk; have hno : ∀ b m, ev tm x ≠ .own b m := fun b m e => by
      rw [e] at hk; unfold Zw at hk
      split at hk
      · rename_i h1 _ _ _; cases h1
      · rename_i h1 _ _ _; cases h1
      · rename_i h1 _ _ _; cases h1
      · simp only [AV.list] at hk
    have hid : fz1 (ev tm x) ⟨tm, h⟩ = ⟨tm, h⟩ := by
      unfold fz1; split
      · rename_i b n he; exact absurd he (hno b n)
      · rfl
    show slZ E.Γ E.n0 E.ks ⟨tm, h⟩ dst t x lo hi mx (ev tm x) K; unfold slZ
    split
    · exact absurd ‹ev tm x = AV.own _ _› (hno _ _)
    · have hq : queB h (ev tm x) = false := by
        cases he : ev tm x <;> first | exact absurd he (hno _ _) | rfl
      rw [hq, if_neg (by simp)]; unfold slFz; rw [hid]; exact hk
  | extract x i => exact hk
  | makeFunc fn first caps => exact hk
  | _ => exact hk.elim

/-! ### The walk in the order of the text, and any other order -/
def lexK (E : Env) (ops : List Oper) (h : List AObj) : List Oper → List AV → (List AV → Prop) → Prop
  | [], tm, K => K tm
  | o :: l, tm, K => Zr ops o.guard tm (Z6 E o.op h (ev tm) fun v => lexK E ops h l (putD tm o.dst v) K) (lexK E ops h l (putD tm o.dst (.tup [])) K)

def Z24 (E : Env) (ops : List Oper) (h : List AObj) (o : Oper) (tm : List AV) (v : AV) : Prop :=
  ∀ K : AV → Prop, K v → Zr ops o.guard tm (Z6 E o.op h (ev tm) K) (K (.tup []))

def lexR (E : Env) (ops : List Oper) (h : List AObj) : List Oper → List AV → (List AV → Prop) → Prop
  | [], tm, K => K tm
  | o :: l, tm, K => ∃ v, Z24 E ops h o tm v ∧ lexR E ops h l (putD tm o.dst v) K

theorem Z35 {E : Env} {ops : List Oper} {h : List AObj} {o : Oper} {tm : List AV} {K : AV → Prop} (hk : Zr ops o.guard tm (Z6 E o.op h (ev tm) K) (K (.tup []))) : ∃ v, K v ∧ Z24 E ops h o tm v := by
  unfold Zr at hk
  split at hk
  · rename_i hg
    obtain ⟨v, h1, h2⟩ := Z30 E o.op h (ev tm) K hk; exact ⟨v, h1, fun K' hk' => by rw [hg]; exact h2 K' hk'⟩
  · rename_i j want hg
    split at hk
    · rename_i d hd
      split at hk
      · rename_i b hb
        by_cases hbw : b = want
        · obtain ⟨v, h1, h2⟩ := Z30 E o.op h (ev tm) K (hk.1 hbw)
          refine ⟨v, h1, fun K' hk' => ?_⟩; simp only [Zr, hg, hd, hb]; exact ⟨fun _ => h2 K' hk', fun h => absurd h (by subst hbw; cases b <;> simp)⟩
        · refine ⟨_, hk.2 (by cases b <;> cases want <;> simp_all), fun K' hk' => ?_⟩
          simp only [Zr, hg, hd, hb]; exact ⟨fun h => absurd h hbw, fun _ => hk'⟩
      · rename_i l hl
        refine ⟨_, hk, fun K' hk' => ?_⟩; simp only [Zr, hg, hd, hl]; exact hk'
      · exact hk.elim
    · exact hk.elim

theorem Z9z {E : Env} {ops : List Oper} {h : List AObj} : ∀ {l : List Oper} {tm : List AV} {K : List AV → Prop}, lexK E ops h l tm K → lexR E ops h l tm K
  | [], _, _, hk => hk
  | o :: l, tm, K, hk => by
    obtain ⟨v, h1, h2⟩ := Z35 (K := fun v => lexK E ops h l (putD tm o.dst v) K) hk; exact ⟨v, h2, Z9z h1⟩

theorem Z3l {tm : List AV} {d : Option Nat} {v : AV} {t : Nat} (h : ∀ x, d = some x → x ≠ t) : (putD tm d v).getD t .junk = tm.getD t .junk := by
  cases d with
  | none => rfl
  | some d => simp [putD, List.getD_eq_getElem?_getD, List.getElem?_set_ne (h d rfl)]

theorem Zx {tm : List AV} {d d' : Option Nat} (v v' : AV) (h : ∀ x, d = some x → d' ≠ some x) : putD (putD tm d v) d' v' = putD (putD tm d' v') d v := by
  cases d with
  | none => rfl
  | some d =>
    cases d' with
    | none => rfl
    | some d' => exact List.set_comm _ _ (fun e => h d rfl (by rw [e]))

theorem Z1e {E : Env} {ops : List Oper} {h : List AObj} {o : Oper} {tm tm' : List AV} {v : AV} (he : ∀ t ∈ o.looksAt ops.toArray, tm.getD t .junk = tm'.getD t .junk) (hr : Z24 E ops h o tm v) : Z24 E ops h o tm' v := by
  intro K hK; have hk := hr K hK; have hev : ∀ x ∈ o.op.operands, ev tm x = ev tm' x := by
    intro x hx
    cases x with
    | tmp t =>
      refine he t ?_; simp only [Oper.looksAt, List.mem_append, List.mem_filterMap]; exact .inl ⟨.tmp t, by simpa using hx, rfl⟩
    | const c => rfl
    | global g => rfl
    | func f => rfl
  have hp : Z6 E o.op h (ev tm) K → Z6 E o.op h (ev tm') K := Z72 hev; unfold Zr at hk ⊢
  split
  · rename_i hg; rw [hg] at hk; exact hp hk
  · rename_i j want hg
    rw [hg] at hk; simp only at hk
    split
    · rename_i d hd
      simp only [hd] at hk
      have hd' : tm.getD d .junk = tm'.getD d .junk := he d (by
        simp only [Oper.looksAt, hg, List.mem_append]; refine .inr ?_; have : (ops.toArray[j]?).bind (·.dst) = some d := by simpa [Z2j] using hd
        rw [this]; simp)
      rw [hd'] at hk
      split
      · rename_i b hb; simp only [hb] at hk; exact ⟨fun h => hp (hk.1 h), hk.2⟩
      · rename_i l hl; simp only [hl] at hk; exact hk
      · rename_i h1 h2
        split at hk
        · exact absurd ‹_› (h1 _)
        · exact absurd ‹_› (h2 _)
        · exact hk
    · rename_i hd; simp only [hd] at hk

theorem Z33 {E : Env} {ops : List Oper} {h : List AObj} {o : Oper} {l2 : List Oper} {K : List AV → Prop} : ∀ (l1 : List Oper) {tm : List AV}, lexR E ops h (l1 ++ o :: l2) tm K → (∀ x ∈ l1, o.apart ops.toArray x = true) →
    ∃ v, Z24 E ops h o tm v ∧ lexR E ops h (l1 ++ l2) (putD tm o.dst v) K
  | [], tm, hk, _ => hk
  | x :: l1, tm, hk, ha => by
    obtain ⟨vx, hx, hk⟩ := hk; obtain ⟨v, hv, hk⟩ := Z33 l1 hk (fun y hy => ha y (by simp [hy])); obtain ⟨a1, a2, a3⟩ := Oper.apart_spec (ha x (by simp)); refine ⟨v, Z1e (fun t ht => Z3l (fun d hd e => a3 d hd (e ▸ ht))) hv, vx, Z1e (fun t ht => (Z3l (fun d hd e => a1 d hd (e ▸ ht))).symm) hx, ?_⟩; rw [Zx v vx (fun d hd e => a2 d hd e)]; exact hk
end Go.AM
