/-
  Texts of this claim, joined.
-/
import Derived.Test.YtnilegembmcelaaDoorJ428f311a1658
import Derived.Laws.StructEq

set_option linter.unusedSimpArgs false
section
namespace Go.AM
open Go.RowKit

def PV.scal : PV → Bool
  | .bool _ | .int _ _ | .str _ => true
  | .agg l => l.all fun
    | .bool _ | .int _ _ | .str _ => true
    | _ => false
  | _ => false

theorem PR.scal {I : Nat → Prop} {w : World} {p : PV} {v : Value} {J : Nat → Prop} {w' : World} (hp : PR I w p v) (h : p.scal = true) : PR J w' p v := by
  cases hp with
  | bool b => exact .bool b
  | int k n => exact .int k n
  | str s => exact .str s
  | sl0 a c h' => simp [PV.scal] at h
  | sl l s g off cap cur E fz vs hl hI hw hc hs hv hr => simp [PV.scal] at h
  | agg l cs hl hr =>
    refine .agg l cs hl (fun i hi => ?_); have h1 := hr i hi; simp only [PV.scal, List.all_eq_true] at h; have h2 := h (l.getD i default) (by rw [List.getD_eq_getElem?_getD, List.getElem?_eq_getElem hi, Option.getD_some]; exact List.getElem_mem _); generalize l.getD i default = q at h1 h2; generalize cs.getD i undef = c at h1
    cases h1 with
    | bool b => exact .bool b
    | int k n => exact .int k n
    | str s => exact .str s
    | _ => simp at h2

def Z3a (Γ : Gam) : List (Nat × TypeId) → List PV → List PV → Option Bool
  | [], _, _ => some true
  | (o, ft) :: fs, l, m => match Γ ft with
    | some fe => (match fe.td, l[o]?, m[o]? with
      | .bool, some (.bool a), some (.bool b) => (Z3a Γ fs l m).map fun r => a == b && r
      | .int _, some (.int k a), some (.int k' b) => if k = k' then (Z3a Γ fs l m).map fun r => decide (a = b) && r else none
      | .str, some (.str a), some (.str b) => (Z3a Γ fs l m).map fun r => decide (a = b) && r
      | _, _, _ => none)
    | none => none

def Z4m (Γ : Gam) : List (Nat × TypeId) → List PV → List PV → Option Bool
  | [], _, _ => some true
  | (o, ft) :: fs, l, m => match Γ ft with
    | some fe => (match fe.td, l[o]?, m[o]? with
      | .bool, some (.bool a), some (.bool b) => (Z4m Γ fs l m).map fun r => a == b && r
      | .int _, some (.int k a), some (.int k' b) => if k = k' then (Z4m Γ fs l m).map fun r => decide (a = b) && r else none
      | .str, some (.str a), some (.str b) => (Z4m Γ fs l m).map fun r => decide (a = b) && r
      | .struct gs, _, _ => if fe.eqs = true ∧ o + fe.cells ≤ l.length ∧ o + fe.cells ≤ m.length then (match Z3a Γ gs ((l.drop o).take fe.cells) ((m.drop o).take fe.cells) with
        | some q => (Z4m Γ fs l m).map fun r => q && r
        | none => none) else none
      | _, _, _ => none)
    | none => none
def aggK (Γ : Gam) (op : BinOp) (t : TypeId) (x y : AV) (K : AV → Prop) : Prop := match x.pure, y.pure with
  | some (.agg l), some (.agg m) => tyAt Γ t fun te => (te.eqs = true ∧ (PV.agg l).scal = true ∧ (PV.agg m).scal = true) ∧ (match te.td with
    | .struct fs => (match Z4m Γ fs l m, op with
      | some r, .eql => K (.p (.bool r))
      | some r, .neq => K (.p (.bool (!r)))
      | _, _ => False)
    | _ => False)
  | _, _ => False

section
variable {P : Program} {n : Nat} {μ : Nat → Value} {I : Nat → Prop} {w : World}

theorem PR.agg_inv {l : List PV} {v : Value} (h : PR I w (.agg l) v) : ∃ cs : List Value, v = .agg cs.toArray ∧ l.length = cs.length ∧ ∀ i, i < l.length → PR I w (l.getD i default) (cs.getD i undef) := by
  cases h with | agg _ cs hl hr => exact ⟨cs, rfl, hl, hr⟩
theorem PR.bool_inv {b : Bool} {v : Value} (h : PR I w (.bool b) v) : v = .bool b := by cases h; rfl
theorem PR.int_inv {k : IntKind} {x : Int} {v : Value} (h : PR I w (.int k x) v) : v = .int k x := by cases h; rfl

theorem Z8 {t : TypeId} {d : TypeDesc} (hu : P.underlying t = some d) (ha : Z01 d = false) {cs : List Value} {o : Nat} {v : Value} (h : cs[o]? = some v) : (part t cs.toArray o).run P w = .ok v w := by
  have hag : (isAgg t).run P w = .ok false w := by
    simp only [isAgg, Sem.run_bind, run_underlying hu, Result.andThen]
    cases d <;> first | rfl | cases ha
  unfold part; rw [Sem.run_bind, hag]; simp [Result.andThen, h]

theorem Z3b {Γ : Gam} (hΓ : Zg P Γ) (d : Nat) (hd : d ≠ 0) {l m : List PV} {xs ys : List Value} (hl : l.length = xs.length) (hm : m.length = ys.length)
    (hx : ∀ i, i < l.length → PR I w (l.getD i default) (xs.getD i undef)) (hy : ∀ i, i < m.length → PR I w (m.getD i default) (ys.getD i undef)) :
    ∀ (fs : List Field) (r : Bool), fs.all (fun f => f.name != "_") = true → Z3a Γ (fs.map fun f => (f.offset, f.type)) l m = some r → (Op.eqFields d xs.toArray ys.toArray fs).run P w = .ok r w
  | [], r, _, h => by injection h with h; subst h; rfl
  | f :: fs, r, hn, h => by
    have cell : ∀ {l : List PV} {xs : List Value} {o : Nat} {p : PV}, l.length = xs.length → (∀ i, i < l.length → PR I w (l.getD i default) (xs.getD i undef)) → l[o]? = some p → ∃ v, xs[o]? = some v ∧ PR I w p v := by
      intro l xs o p hl hx ho; obtain ⟨hlt, he⟩ := List.getElem?_eq_some_iff.1 ho; have := hx o hlt; rw [List.getD_eq_getElem?_getD, ho, List.getD_eq_getElem?_getD, List.getElem?_eq_getElem (by omega)] at this; exact ⟨_, List.getElem?_eq_getElem (by omega), this⟩
    simp only [List.all_cons, Bool.and_eq_true, bne_iff_ne, ne_eq] at hn; obtain ⟨d, rfl⟩ : ∃ e, d = e + 1 := ⟨d - 1, by omega⟩; unfold Z3a at h; simp only [List.map_cons] at h; unfold Op.eqFields; rw [if_pos hn.1]
    have fin : ∀ (q : Bool) (u v : Value), (part f.type xs.toArray f.offset).run P w = .ok u w → (part f.type ys.toArray f.offset).run P w = .ok v w → (Op.equalIn (d + 1) f.type u v).run P w = .ok q w →
        (Z3a Γ (fs.map fun f => (f.offset, f.type)) l m).map (fun r => q && r) = some r →
        (do let a ← part f.type xs.toArray f.offset; let b ← part f.type ys.toArray f.offset; let r ← Op.equalIn (d + 1) f.type a b; if (!r) = true then pure false else Op.eqFields (d + 1) xs.toArray ys.toArray fs : Sem Bool).run P w = .ok r w := by
      intro q u v h1 h2 h3 h4
      cases h5 : Z3a Γ (fs.map fun f => (f.offset, f.type)) l m with
      | none => rw [h5] at h4; cases h4
      | some r' =>
        rw [h5] at h4; simp only [Option.map_some, Option.some.injEq] at h4; subst h4; have ih := Z3b hΓ (d + 1) (by omega) hl hm hx hy fs r' (by simpa using hn.2) h5; simp only [Sem.run_bind, h1, h2, h3, Result.andThen]
        cases q
        · simp
        · simpa using ih
    split at h
    · rename_i fe hfe
      obtain ⟨dd, hu, hd, hag⟩ := (hΓ _ _ hfe).desc
      split at h
      · rename_i a b htd hla hmb
        rw [htd] at hd; simp only [Z7] at hd; subst hd; obtain ⟨u, e1, e2⟩ := cell hl hx hla; obtain ⟨v, e3, e4⟩ := cell hm hy hmb; rw [e2.bool_inv] at e1; rw [e4.bool_inv] at e3; exact fin (a == b) _ _ (Z8 hu rfl e1) (Z8 hu rfl e3) (run_equalIn_bool' w d _ a b hu) h
      · rename_i k0 k a k' b htd hla hmb
        split at h
        · rename_i hk; subst hk
          rw [htd] at hd; simp only [Z7] at hd; subst hd; obtain ⟨u, e1, e2⟩ := cell hl hx hla; obtain ⟨v, e3, e4⟩ := cell hm hy hmb; rw [e2.int_inv] at e1; rw [e4.int_inv] at e3; exact fin (decide (a = b)) _ _ (Z8 hu rfl e1) (Z8 hu rfl e3) (by rw [run_equalIn_int w d _ k k0 a b hu, Z5j]) h
        · cases h
      · rename_i a b htd hla hmb
        rw [htd] at hd; simp only [Z7] at hd; subst hd; obtain ⟨u, e1, e2⟩ := cell hl hx hla; obtain ⟨v, e3, e4⟩ := cell hm hy hmb; obtain ⟨ba, rfl, rfl⟩ := e2.str_inv; obtain ⟨bb, rfl, rfl⟩ := e4.str_inv; exact fin (decide (ba.data.toList = bb.data.toList)) _ _ (Z8 hu rfl e1) (Z8 hu rfl e3) (by rw [run_equalIn_string w d _ ba bb hu, lbeq, ByteArray.toList_eq, ByteArray.toList_eq]) h
      · cases h
    · cases h

theorem Z4d {Γ : Gam} (hΓ : Zg P Γ) (d : Nat) (hd : 2 ≤ d) {l m : List PV} {xs ys : List Value} (hl : l.length = xs.length) (hm : m.length = ys.length)
    (hx : ∀ i, i < l.length → PR I w (l.getD i default) (xs.getD i undef)) (hy : ∀ i, i < m.length → PR I w (m.getD i default) (ys.getD i undef)) :
    ∀ (fs : List Field) (r : Bool), fs.all (fun f => f.name != "_") = true → Z4m Γ (fs.map fun f => (f.offset, f.type)) l m = some r → (Op.eqFields d xs.toArray ys.toArray fs).run P w = .ok r w
  | [], r, _, h => by injection h with h; subst h; rfl
  | f :: fs, r, hn, h => by
    have cell : ∀ {l : List PV} {xs : List Value} {o : Nat} {p : PV}, l.length = xs.length → (∀ i, i < l.length → PR I w (l.getD i default) (xs.getD i undef)) → l[o]? = some p → ∃ v, xs[o]? = some v ∧ PR I w p v := by
      intro l xs o p hl hx ho; obtain ⟨hlt, he⟩ := List.getElem?_eq_some_iff.1 ho; have := hx o hlt; rw [List.getD_eq_getElem?_getD, ho, List.getD_eq_getElem?_getD, List.getElem?_eq_getElem (by omega)] at this; exact ⟨_, List.getElem?_eq_getElem (by omega), this⟩
    simp only [List.all_cons, Bool.and_eq_true, bne_iff_ne, ne_eq] at hn; obtain ⟨d, rfl⟩ : ∃ e, d = e + 1 := ⟨d - 1, by omega⟩; unfold Z4m at h; simp only [List.map_cons] at h; unfold Op.eqFields; rw [if_pos hn.1]
    have fin : ∀ (q : Bool) (u v : Value), (part f.type xs.toArray f.offset).run P w = .ok u w → (part f.type ys.toArray f.offset).run P w = .ok v w → (Op.equalIn (d + 1) f.type u v).run P w = .ok q w →
        (Z4m Γ (fs.map fun f => (f.offset, f.type)) l m).map (fun r => q && r) = some r →
        (do let a ← part f.type xs.toArray f.offset; let b ← part f.type ys.toArray f.offset; let r ← Op.equalIn (d + 1) f.type a b; if (!r) = true then pure false else Op.eqFields (d + 1) xs.toArray ys.toArray fs : Sem Bool).run P w = .ok r w := by
      intro q u v h1 h2 h3 h4
      cases h5 : Z4m Γ (fs.map fun f => (f.offset, f.type)) l m with
      | none => rw [h5] at h4; cases h4
      | some r' =>
        rw [h5] at h4; simp only [Option.map_some, Option.some.injEq] at h4; subst h4; have ih := Z4d hΓ (d + 1) (by omega) hl hm hx hy fs r' (by simpa using hn.2) h5; simp only [Sem.run_bind, h1, h2, h3, Result.andThen]
        cases q
        · simp
        · simpa using ih
    split at h
    · rename_i fe hfe
      obtain ⟨dd, hu, hd, hag⟩ := (hΓ _ _ hfe).desc
      split at h
      · rename_i a b htd hla hmb
        rw [htd] at hd; simp only [Z7] at hd; subst hd; obtain ⟨u, e1, e2⟩ := cell hl hx hla; obtain ⟨v, e3, e4⟩ := cell hm hy hmb; rw [e2.bool_inv] at e1; rw [e4.bool_inv] at e3; exact fin (a == b) _ _ (Z8 hu rfl e1) (Z8 hu rfl e3) (run_equalIn_bool' w d _ a b hu) h
      · rename_i k0 k a k' b htd hla hmb
        split at h
        · rename_i hk; subst hk
          rw [htd] at hd; simp only [Z7] at hd; subst hd; obtain ⟨u, e1, e2⟩ := cell hl hx hla; obtain ⟨v, e3, e4⟩ := cell hm hy hmb; rw [e2.int_inv] at e1; rw [e4.int_inv] at e3; exact fin (decide (a = b)) _ _ (Z8 hu rfl e1) (Z8 hu rfl e3) (by rw [run_equalIn_int w d _ k k0 a b hu, Z5j]) h
        · cases h
      · rename_i a b htd hla hmb
        rw [htd] at hd; simp only [Z7] at hd; subst hd; obtain ⟨u, e1, e2⟩ := cell hl hx hla; obtain ⟨v, e3, e4⟩ := cell hm hy hmb; obtain ⟨ba, rfl, rfl⟩ := e2.str_inv; obtain ⟨bb, rfl, rfl⟩ := e4.str_inv; exact fin (decide (ba.data.toList = bb.data.toList)) _ _ (Z8 hu rfl e1) (Z8 hu rfl e3) (by rw [run_equalIn_string w d _ ba bb hu, lbeq, ByteArray.toList_eq, ByteArray.toList_eq]) h
      · rename_i gs _ _ htd
        split at h
        · rename_i hcond
          obtain ⟨hq, hlo, hmo⟩ := hcond; obtain ⟨s1, s2, s3⟩ := (hΓ _ _ hfe).eqs hq; obtain ⟨i, hi, hisz, _⟩ := (hΓ _ _ hfe).info; rw [htd] at hd; obtain ⟨fa, rfl, rfl⟩ := hd; have hfo : P.fieldsOf f.type = fa := by unfold Program.fieldsOf; rw [hu]
          rw [hfo] at s3; have hu' : P.underlying f.type = some (.struct (P.fieldsOf f.type)) := by rw [hfo]; exact hu
          have hpart : ∀ xs : List Value, (part f.type xs.toArray f.offset).run P w = .ok (.agg ((xs.drop f.offset).take fe.cells).toArray) w := fun xs => by
            have hag : (isAgg f.type).run P w = .ok true w := by simp only [isAgg, Sem.run_bind, run_underlying hu, Result.andThen]; rfl
            unfold part; rw [Sem.run_bind, hag]; simp [Result.andThen, sizeOf, typeInfo, hi, hisz, List.take_drop]
          have sub : ∀ {l : List PV} {xs : List Value} {o c : Nat}, l.length = xs.length → o + c ≤ l.length → (∀ i, i < l.length → PR I w (l.getD i default) (xs.getD i undef)) →
              ((l.drop o).take c).length = ((xs.drop o).take c).length ∧ ∀ i, i < ((l.drop o).take c).length → PR I w (((l.drop o).take c).getD i default) (((xs.drop o).take c).getD i undef) := by
            intro l xs o c hl ho hx; refine ⟨by simp [hl], fun i hi => ?_⟩; simp only [List.length_take, List.length_drop] at hi; have h1 := hx (o + i) (by omega); simp only [List.getD_eq_getElem?_getD] at h1 ⊢; rw [List.getElem?_take_of_lt (by omega), List.getElem?_drop, List.getElem?_take_of_lt (by omega), List.getElem?_drop]; exact h1
          obtain ⟨a1, a2⟩ := sub hl hlo hx; obtain ⟨b1, b2⟩ := sub hm hmo hy
          split at h
          · rename_i q hql
            refine fin q _ _ (hpart xs) (hpart ys) ?_ h; rw [run_equalIn_struct w d f.type _ _ hu' s1, hfo]; obtain ⟨d, rfl⟩ : ∃ e, d = e + 1 := ⟨d - 1, by omega⟩; exact Z3b hΓ (d + 1) (by omega) a1 b1 a2 b2 _ q s3 hql
          · cases h
        · cases h
      · cases h
    · cases h

theorem Zav {Γ : Gam} (hΓ : Zg P Γ) {op : BinOp} {x y : AV} {a b : Value} {K : AV → Prop} {t : TypeId} (ox oy : Operand) (hx : VR n μ I w x a) (hy : VR n μ I w y b) (h : aggK Γ op t x y K) :
    ∃ v cv, (do eqGuard op t ox oy a b; binOp op t a b : Sem Value).run P w = .ok cv w ∧ VR n μ I w v cv ∧ K v := by
  unfold aggK at h
  split at h
  · rename_i l m hl hm
    obtain ⟨te, hte, ⟨h1, _, _⟩, h⟩ := h.get; obtain ⟨xs, rfl, lx, rx⟩ := (hx.pure hl).agg_inv; obtain ⟨ys, rfl, ly, ry⟩ := (hy.pure hm).agg_inv; obtain ⟨d, hu, hd, hag⟩ := (hΓ _ _ hte).desc; obtain ⟨e1, e2, e3⟩ := (hΓ _ _ hte).eqs h1
    split at h
    · rename_i fs htd
      rw [htd] at hd; obtain ⟨fa, rfl, rfl⟩ := hd; have hfo : P.fieldsOf t = fa := by unfold Program.fieldsOf; rw [hu]
      rw [hfo] at e3; have hu' : P.underlying t = some (.struct (P.fieldsOf t)) := by rw [hfo]; exact hu
      have hg : (eqGuard op t ox oy (.agg xs.toArray) (.agg ys.toArray)).run P w = .ok () w := run_eqGuard_agg w op t ox oy _ _ e2; have hq : ∀ r, Z4m Γ (fa.toList.map fun f => (f.offset, f.type)) l m = some r → (Op.equalIn 10000 t (.agg xs.toArray) (.agg ys.toArray)).run P w = .ok r w := fun r hr => by
        rw [run_equalIn_struct w 9999 t _ _ hu' e1, hfo]; exact Z4d hΓ 9999 (by omega) lx ly rx ry _ r e3 hr
      split at h
      · rename_i r hr _
        exact ⟨_, .bool r, by rw [Sem.run_bind, hg]; show (binOp .eql t _ _).run P w = _; rw [run_eql_struct, hq r hr]; rfl, .mkBool _, h⟩
      · rename_i r hr _
        exact ⟨_, .bool (!r), by rw [Sem.run_bind, hg]; show (binOp .neq t _ _).run P w = _; rw [run_neq_struct, hq r hr]; rfl, .mkBool _, h⟩
      · exact h.elim
    · exact h.elim
  · exact h.elim
end
end Go.AM
end

section
namespace Go.AM
open Go.RowKit

structure Env where
  P : Program
  Γ : Gam
  n0 : Nat
  ks : List Nat

def Env.fits (E : Env) (X : Ctx) : Prop := X.n0 = E.n0 ∧ X.ks = E.ks

def Fw (r : Option Nat) : Fence := { Fence.wide with round := r }

def Now (X : Ctx) (I : Nat → Prop) (st : St) (w : World) (a : Act) : Prop := ∃ I' μ' ob', (∀ g, I g → I' g) ∧ Rep X I' μ' ob' st w a

theorem Leaves.now {X : Ctx} {I : Nat → Prop} {μ : Nat → Value} {n : Nat} {st : St} {w : World} {a : Act} (h : Leaves X I μ n st w a) : Now X I st w a := by
  obtain ⟨I', μ', ob', h1, h2, _⟩ := h; exact ⟨I', μ', ob', h1, h2⟩

theorem Now.trans {X : Ctx} {I I' : Nat → Prop} {st : St} {w : World} {a : Act} (hI : ∀ g, I g → I' g) (h : Now X I' st w a) : Now X I st w a := by
  obtain ⟨I'', μ', ob', h1, h2⟩ := h; exact ⟨I'', μ', ob', fun g h => h1 g (hI g h), h2⟩

def Z5p (P : Program) (f : FuncId) : Prop := ∀ (args : Array Value) (w : World), (callFunc f args).run P w = .ok (.enter f args) w

theorem Z06 {P : Program} {f : FuncId} {fn : Func} {c : Code} (hf : P.funcs[f]? = some fn) (hname : (fn.name == "runtime.NumGoroutine") = false) (hb : fn.body = some c) : Z5p P f := by
  intro args w; have hn : ¬ fn.name = "runtime.NumGoroutine" := fun h => by rw [h] at hname; simp at hname
  simp [callFunc, hf, hn, hb]

def AX (P : Program) (f : FuncId) (args : List AV) (v : AV) : Prop :=
  ∀ (n : Nat) (μ : Nat → Value) (I : Nat → Prop) (w : World) (cargs : List Value), args.length = cargs.length → (∀ i, i < args.length → VR n μ I w (args.getD i .junk) (cargs.getD i undef)) →
    ∃ cv, (callFunc f cargs.toArray).run P w = .ok (.value cv) w ∧ VR n μ I w v cv

def AC (P : Program) (f : FuncId) (args : List AV) (h : List AObj) (ks : List Nat) (R : AV → List AObj → Prop) : Prop :=
  Z5p P f ∧ ∀ (X : Ctx) (I : Nat → Prop) (μ : Nat → Value) (ob : Nat → Option Nat) (w : World) (cargs : List Value), RepH X I μ ob h w → args.length = cargs.length →
    (∀ i, i < args.length → VR h.length μ I w (args.getD i .junk) (cargs.getD i undef)) → (∀ k ∈ ks, X.may k) →
    Calls P f cargs.toArray w fun e w' => ∃ cv v h' I' μ' ob', e = .returned cv ∧ RepH X I' μ' ob' h' w' ∧ VR h'.length μ' I' w' v cv ∧ (∀ g, I g → I' g) ∧
      (∀ b, b < h.length → b ∉ ks → μ' b = μ b) ∧ h.length ≤ h'.length ∧ (∀ g, I' g → I g ∨ (∃ b, ob b = some g) ∨ w.heap.size ≤ g) ∧ (∀ b g, ob' b = some g → (∃ c, ob c = some g) ∨ w.heap.size ≤ g) ∧
      (∀ g, g < w.heap.size → (∀ b, ob b ≠ some g) → w'.heap[g]? = w.heap[g]?) ∧ R v h'

def YC (P : Program) (b : Nat) (args : List AV) (h : List AObj) (ks : List Nat) (R : AV → List AObj → Prop) : Prop :=
  ∀ (X : Ctx) (I : Nat → Prop) (μ : Nat → Value) (ob : Nat → Option Nat) (w : World) (cargs : List Value), RepH X I μ ob h w → args.length = cargs.length →
    (∀ i, i < args.length → VR h.length μ I w (args.getD i .junk) (cargs.getD i undef)) → (∀ k ∈ ks, X.may k) →
    ∃ l fn tmps assign body, μ b = .func (.yield l) #[] #[] ∧ (Instr.yield l cargs.toArray).run P w = .ok (.round l fn tmps assign body) w ∧
    RoundIn (Fw none) 0 P l fn tmps assign body w fun e w' => ∃ cv v h' I' μ' ob', e = .returned cv ∧ RepH X I' μ' ob' h' w' ∧ VR h'.length μ' I' w' v cv ∧ (∀ g, I g → I' g) ∧
      (∀ b, b < h.length → b ∉ ks → μ' b = μ b) ∧ h.length ≤ h'.length ∧ (∀ g, I' g → I g ∨ (∃ b, ob b = some g) ∨ w.heap.size ≤ g) ∧ (∀ b g, ob' b = some g → (∃ c, ob c = some g) ∨ w.heap.size ≤ g) ∧
      (∀ g, g < w.heap.size → (∀ b, ob b ≠ some g) → w'.heap[g]? = w.heap[g]?) ∧ R v h'

def Zc (ks : List Nat) (tm : List AV) : List AV := ks.foldl (fun tm k => tm.map (AV.kill k)) tm

def Z2u (E : Env) (st : St) (d : Option Nat) (f : AV) (args : List AV) (K : St → Prop) : Prop :=
  match f with
  | .fn g caps => (∃ ks R, AC E.P g (args ++ caps) st.h ks R ∧ (∀ k ∈ ks, E.n0 ≤ k ∨ k ∈ E.ks) ∧ ∀ v h', R v h' → K ⟨putD (Zc ks st.tmps) d v, h'⟩) ∨
    (∃ v, AX E.P g (args ++ caps) v ∧ K ⟨putD st.tmps d v, st.h⟩)
  | .yld b => ∃ ks R, YC E.P b args st.h ks R ∧ (∀ k ∈ ks, E.n0 ≤ k ∨ k ∈ E.ks) ∧ ∀ v h', R v h' → K ⟨putD (Zc ks st.tmps) d v, h'⟩
  | _ => False

def Zbo (fn : Fn) (first : List Operand) (caps : List AV) (K : AV → Prop) : Prop :=
  match fn, first with
  | .func f, [] => K (.fn f caps)
  | _, _ => False

def minK (x y : AV) (K : AV → Prop) : Prop :=
  match x, y with
  | .p (.int k a), .p (.int _ b) => K (.p (.int k (if b < a then b else a)))
  | _, _ => False

def maxK (x : AV) : List AV → (AV → Prop) → Prop
  | [], K => K x
  | y :: ys, K => match x, y with
    | .p (.int k a), .p (.int _ b) => maxK (.p (.int k (if a < b then b else a))) ys K
    | _, _ => False

def binA (Γ : Gam) (op : BinOp) (t : TypeId) (x y : AV) (K : AV → Prop) : Prop := match x with
  | .agg _ => aggK Γ op t x y K
  | .p (.agg _) => aggK Γ op t x y K
  | _ => binK Γ op t x y K
theorem Z7l {Γ : Gam} {op : BinOp} {t : TypeId} {x y : AV} {K : AV → Prop} (h : binA Γ op t x y K) : aggK Γ op t x y K ∨ binK Γ op t x y K := by
  unfold binA at h
  split at h
  · exact .inl h
  · exact .inl h
  · exact .inr h
theorem Zeu {Γ : Gam} {op : BinOp} {t : TypeId} {x y : AV} {K : AV → Prop} (h : binK Γ op t x y K) : binA Γ op t x y K := by
  unfold binA
  split
  · exact h.elim
  · exact h.elim
  · exact h

def Z4g (Γ : Gam) (op : BinOp) (t : TypeId) (x : AV) (y : Operand) (ey : AV) (h : List AObj) (K : AV → Prop) : Prop :=
  match y, op with
  | .const (.slice none 0 0), .eql => Z0b Γ t false x h K
  | .const (.slice none 0 0), .neq => Z0b Γ t true x h K
  | _, _ => binA Γ op t x ey K

def Z3s (E : Env) (st : St) (d : Option Nat) (b : Builtin) (args : List AV) (ts : List TypeId) (K : St → Prop) : Prop :=
  match b, args, ts with
  | .len, [x], [t] => lenK E.Γ t x st.h fun v => K ⟨putD st.tmps d v, st.h⟩
  | .append, [x, y], [t, t'] => t = t' ∧ appK E.Γ E.n0 E.ks st.tmps st.h d t x y K
  | .min, [x, y], _ => minK x y fun v => K ⟨putD st.tmps d v, st.h⟩
  | .max, x :: xs, _ => maxK x xs fun v => K ⟨putD st.tmps d v, st.h⟩
  | _, _, _ => False

def Z5h (E : Env) (st : St) (d : Option Nat) (c : Call) (K : St → Prop) : Prop :=
  match c.callee with
  | .value f => Z2u E st d (ev st.tmps f) (c.args.toList.map (ev st.tmps)) K
  | .builtin b => Z3s E st d b (c.args.toList.map (ev st.tmps)) c.argTypes.toList K
  | .invoke _ _ => False

def slFz (Γ : Gam) (st : St) (d : Option Nat) (t : TypeId) (x : Operand) (lo hi mx : Option Operand) (v : AV) (K : St → Prop) : Prop :=
  Zw Γ t (ev (fz1 v st).tmps x) (lo.map (ev (fz1 v st).tmps)) (hi.map (ev (fz1 v st).tmps)) (mx.map (ev (fz1 v st).tmps)) fun u => K ⟨putD (fz1 v st).tmps d u, (fz1 v st).h⟩
def queB (h : List AObj) : AV → Bool
  | .own b _ => (match h[b]? with
    | some (.row _ _ _ .que) => true
    | some (.row _ _ _ .laq) => true
    | _ => false)
  | _ => false
def slQ (Γ : Gam) (n0 : Nat) (ks : List Nat) (st : St) (d : Option Nat) (t : TypeId) (lo hi mx : Option Operand) (v : AV) (K : St → Prop) : Prop :=
  match v, lo, hi, mx with
  | .own b m, some l, none, none => Z99 Γ n0 ks st.tmps st.h d t b m (ev st.tmps l) K
  | _, _, _, _ => False
def slZ (Γ : Gam) (n0 : Nat) (ks : List Nat) (st : St) (d : Option Nat) (t : TypeId) (x : Operand) (lo hi mx : Option Operand) (v : AV) (K : St → Prop) : Prop :=
  match v, lo, mx with
  | .own b m, none, none => Z5x Γ n0 ks st.tmps st.h d t b m (hi.map (ev st.tmps)) K
  | v, lo, mx => if queB st.h v then slQ Γ n0 ks st d t lo hi mx v K else slFz Γ st d t x lo hi mx v K
def Z2h (Γ : Gam) (s : St) (t : TypeId) (x y : Operand) (K : St → Prop) : Prop := Z18 Γ s.tmps s.h t (ev s.tmps x) (ev s.tmps y) K
def bsZ (Γ : Gam) (s : St) (d : Option Nat) (t : TypeId) (len : Nat) (parts : List (Nat × Operand)) (K : St → Prop) : Prop := bsK Γ s.tmps s.h d t len (parts.map fun p => (p.1, ev s.tmps p.2)) K
def updZ (Γ : Gam) (s : St) (t : TypeId) (x i y : Operand) (K : St → Prop) : Prop := updK Γ s.tmps s.h t (ev s.tmps x) (ev s.tmps i) (ev s.tmps y) K

def opK (E : Env) (o : Oper) (st : St) (K : St → Prop) : Prop :=
  let put (v : AV) : Prop := K ⟨putD st.tmps o.dst v, st.h⟩
  let e := ev st.tmps
  match o.op with
  | .move x => put (e x)
  | .assign x => put (e x)
  | .pick c x y => Z28 (e c) (e x) (e y) put
  | .binOp op t x y _ => Z4g E.Γ op t (e x) y (e y) st.h put
  | .unOp op _ x => unK op (e x) put
  | .convert src dst x => cvZ E.Γ st o.dst src dst (e x) K
  | .fieldAddr t x f => faK E.Γ t (e x) f put
  | .field t x f => Z1b E.Γ t (e x) f put
  | .indexAddr t x i => iaK E.Γ st.h t (e x) (e i) put
  | .index t x i => idxK E.Γ t (e x) (e i) put
  | .load t x => Z1k E.Γ st.h t (e x) put
  | .slice t x lo hi mx => slZ E.Γ E.n0 E.ks st o.dst t x lo hi mx (e x) K
  | .extract x i => extK (e x) i put
  | .makeFunc fn first caps => Zbo fn first.toList (caps.toList.map e) put
  | .box _ x => boxK st.tmps st.h o.dst (e x) K
  | .alloc t => allocK E.Γ st.tmps st.h o.dst t K
  | .store t x y => (match e x with
    | .eptr _ _ _ _ => Z2h E.Γ (fzL [e y] st) t x y fun st' => K ⟨putD st'.tmps o.dst (.tup []), st'.h⟩
    | _ => Z2h E.Γ st t x y fun st' => K ⟨putD st'.tmps o.dst (.tup []), st'.h⟩)
  | .buildSlice t len parts => bsZ E.Γ (fzL (parts.toList.map fun p => e p.2) st) o.dst t len parts.toList K
  | .call c => Z5h E st o.dst c K
  | .nilCheck x => nilK (e x) put
  | .build t parts => bldK E.Γ t (parts.toList.map fun p => (p.1, e p.2)) put
  | .makeSlice t l c => mkSK E.Γ st.tmps st.h o.dst t (e l) (e c) K
  | .makeMap _ none => mkMK st.tmps st.h o.dst K
  | .lookup t x i ok => Z20 E.Γ st.h t (e x) (e i) ok put
  | .mapUpdate t x i y => updZ E.Γ (fzL [e y] st) t x i y fun st' => K ⟨putD st'.tmps o.dst (.tup []), st'.h⟩
  | .range t x => rngK E.Γ st.tmps st.h o.dst t (e x) K
  | .next x false => nxtK st.tmps st.h o.dst (e x) K
  | .next x true => Z76 st.tmps st.h o.dst (e x) K
  | .entry x => entK st.h (e x) put
  | .insert t x i y => updZ E.Γ (fzL [e y] st) t x i y fun st' => K ⟨putD st'.tmps o.dst (.tup []), st'.h⟩
  | _ => False

section
variable {E : Env} {X : Ctx} {I : Nat → Prop} {μ : Nat → Value} {ob : Nat → Option Nat} {w w' : World} {a : Act} {st : St} {o : Oper} {K : St → Prop} {Q : Exit → Act → World → Prop} {r : Option Nat}

def Z22 (X : Ctx) (I : Nat → Prop) (ds : List Deferred) (K : St → Prop) (a : Act) (w : World) : Prop := ∃ st, Now X I st w a ∧ a.defers = ds ∧ K st

theorem Oper.wpIn_of {n : Nat} {next : Act → World → Prop} (h1 : ∀ c, o.op ≠ .defer c) (h : o.uponIn (Fw r) n E.P a next Q ((execOp a.eval o).run E.P w)) : o.wpIn (Fw r) n E.P a w next Q :=
  ⟨fun _ _ => trivial, by rw [Oper.semAt_eq _ _ _ h1]; exact h⟩

theorem Zn (a : Act) (d : Option Nat) (v : Value) : (a.put d v).defers = a.defers := by cases d <;> rfl

theorem Zj (R : Rep X I μ ob st w a) (h1 : ∀ c, o.op ≠ .defer c) (h : ∃ v cv, (execOp a.eval o).run E.P w = .ok (.value cv) w ∧ VR st.h.length μ I w v cv ∧ K ⟨putD st.tmps o.dst v, st.h⟩) :
    o.wpIn (Fw r) 0 E.P a w (Z22 X I a.defers K) Q := by
  obtain ⟨v, cv, hr, hv, hK⟩ := h; refine Oper.wpIn_of h1 ?_; rw [hr]; exact ⟨_, ⟨I, μ, ob, fun _ h => h, R.put hv o.dst⟩, Zn _ _ _, hK⟩

theorem Z0l (h1 : ∀ c, o.op ≠ .defer c) {s : Sem Value} (he : (execOp a.eval o).run E.P w = (s.run E.P w).andThen fun v w => .ok (.value v) w) {n : Nat} (h : StepOK E.P X I μ n s w a o.dst K) :
    o.wpIn (Fw r) 0 E.P a w (Z22 X I a.defers K) Q := by
  obtain ⟨cv, w', st', hr, hl, hK⟩ := h; refine Oper.wpIn_of h1 ?_; rw [he, hr]; exact ⟨st', hl.now, Zn _ _ _, hK⟩

theorem Zbq {n n' : Nat} {μ μ' : Nat → Value} {I I' : Nat → Prop} (ks : List Nat) (hn : n ≤ n') (hμ : ∀ b, b < n → b ∉ ks → μ' b = μ b) (hI : ∀ g, I g → I' g) (hw : ∀ g, I g → w'.heap[g]? = w.heap[g]?)
    {tm : List AV} {cs : Array Value} (h : ∀ i, i < tm.length → VR n μ I w (tm.getD i .junk) (cs.getD i undef)) :
    (Zc ks tm).length = tm.length ∧ ∀ i, i < tm.length → VR n' μ' I' w' ((Zc ks tm).getD i .junk) (cs.getD i undef) := by
  induction ks generalizing tm μ with
  | nil => exact ⟨rfl, fun i hi => (h i hi).mono hn (fun b hb => hμ b hb (by simp)) hI hw⟩
  | cons k ks ih =>
    have h2 : ∀ i, i < (tm.map (AV.kill k)).length → VR n (upd μ k (μ' k)) I w ((tm.map (AV.kill k)).getD i .junk) (cs.getD i undef) := by
      intro i hi; simp only [List.length_map] at hi; have := (h i hi).kill (n' := n) (μ' := upd μ k (μ' k)) (I' := I) (w' := w) k (Nat.le_refl _) (fun b _ hb => Z2 _ _ hb) (fun _ h => h) (fun _ _ => rfl)
      simpa [List.getD_eq_getElem?_getD, List.getElem?_map, List.getElem?_eq_getElem hi] using this
    have := ih (μ := upd μ k (μ' k)) (fun b hb hbk => by
      by_cases e : b = k
      · subst e; rw [Z5]
      · rw [Z2 _ _ e]; exact hμ b hb (by simp [e, hbk])) h2
    simpa [Zc] using this

theorem Z7z {I' : Nat → Prop} {μ' : Nat → Value} {ob' : Nat → Option Nat} {h' : List AObj} {ks : List Nat} (R : Rep X I μ ob st w a) (R' : RepH X I' μ' ob' h' w') (hI : ∀ g, I g → I' g)
    (hμ : ∀ b, b < st.h.length → b ∉ ks → μ' b = μ b) (hlen : st.h.length ≤ h'.length) (hI2 : ∀ g, I' g → I g ∨ (∃ b, ob b = some g) ∨ w.heap.size ≤ g) (hob : ∀ b g, ob' b = some g → (∃ c, ob c = some g) ∨ w.heap.size ≤ g)
    (hold : ∀ g, g < w.heap.size → (∀ b, ob b ≠ some g) → w'.heap[g]? = w.heap[g]?) : Rep X I' μ' ob' ⟨Zc ks st.tmps, h'⟩ w' a := by
  have hIw : ∀ g, I g → w'.heap[g]? = w.heap[g]? := fun g hg => hold g (R.imm g hg) (fun b hb => (R.own b g hb).1 hg)
  obtain ⟨k1, k2⟩ := Zbq (w' := w') (n' := h'.length) (μ' := μ') (I' := I') ks hlen hμ hI hIw R.tmps
  exact {
    toRepH := R'
    size := k1.trans R.size
    tmps := fun i hi => k2 i (by rw [← k1]; exact hi)
    marks := by
      obtain ⟨rs, m1, m2, m3⟩ := R.marks; refine ⟨rs, m1, m2, fun q hq => ?_⟩; obtain ⟨e1, e2, e3, e4⟩ := m3 q hq; have hlt : q < w.heap.size := (Array.getElem?_eq_some_iff.1 e1).1; refine ⟨(hold q hlt e4).trans e1, e2, fun hi => (hI2 q hi).elim e3 (fun h => h.elim (fun ⟨b, hb⟩ => e4 b hb) (fun h => by omega)), fun b hb => ?_⟩; rcases hob b q hb with ⟨c, hc⟩ | h
      · exact e4 c hc
      · omega }

theorem Zgp {d : Option Nat} {b : Nat} {args : List AV} {cf : Value} {cargs : List Value} (hE : E.fits X) (R : Rep X I μ ob st w a) (hf : VR st.h.length μ I w (.yld b) cf) (hl : args.length = cargs.length)
    (ha : ∀ i, i < args.length → VR st.h.length μ I w (args.getD i .junk) (cargs.getD i undef)) (hk : Z2u E st d (.yld b) args K) :
    ∃ l fn tmps assign body, cf = .func (.yield l) #[] #[] ∧ (Instr.yield l cargs.toArray).run E.P w = .ok (.round l fn tmps assign body) w ∧
      RoundIn (Fw r) 0 E.P l fn tmps assign body w fun e w' => ∃ cv, e = .returned cv ∧ Z22 X I a.defers K (a.put d cv) w' := by
  obtain ⟨ks, Rr, hyc, hks, hK⟩ := hk; obtain ⟨l, fn, tmps, assign, body, h1, h2, h3⟩ := hyc X I μ ob w cargs R.toRepH hl ha (fun k hk => by
    rcases hks k hk with h | h
    · exact .inl (by rw [hE.1]; exact h)
    · exact .inr (by rw [hE.2]; exact h))
  have hcf : cf = .func (.yield l) #[] #[] := by
    cases hf with | yld _ l' _ h => rw [h] at h1; injection h1 with h1; injection h1 with h1; subst h1; rfl
  refine ⟨l, fn, tmps, assign, body, hcf, h2, ?_⟩; refine RoundIn.mono (F := Fw none) h3 ?_; rintro e w' ⟨cv, v, h', I', μ', ob', rfl, R', hv, hI, hμ, hlen, hI2, hob, hold, hR⟩; exact ⟨cv, rfl, _, ⟨I', μ', ob', hI, (Z7z R R' hI hμ hlen hI2 hob hold).put hv d⟩, Zn _ _ _, hK v h' hR⟩

theorem Zem {d : Option Nat} {f : AV} {args : List AV} {cf : Value} {cargs : List Value} (hE : E.fits X) (R : Rep X I μ ob st w a) (hf : VR st.h.length μ I w f cf) (hl : args.length = cargs.length)
    (ha : ∀ i, i < args.length → VR st.h.length μ I w (args.getD i .junk) (cargs.getD i undef)) (hny : ∀ b, f ≠ .yld b) (hk : Z2u E st d f args K) :
    ∃ g cs, cf = .func (.func g) #[] cs ∧ ((Z5p E.P g ∧ Calls E.P g (cargs.toArray ++ cs) w fun e w' => ∃ cv, e = .returned cv ∧ Z22 X I a.defers K (a.put d cv) w') ∨
      (∃ cv, (callFunc g (cargs.toArray ++ cs)).run E.P w = .ok (.value cv) w ∧ Z22 X I a.defers K (a.put d cv) w)) := by
  unfold Z2u at hk
  split at hk
  · rename_i g caps
    obtain ⟨cs, rfl, hcl, hcr⟩ := hf.fn_inv; have hlen : (args ++ caps).length = (cargs ++ cs).length := by simp [hl, hcl]
    have hall : ∀ i, i < (args ++ caps).length → VR st.h.length μ I w ((args ++ caps).getD i .junk) ((cargs ++ cs).getD i undef) := fun i hi => by
      by_cases h1 : i < args.length
      · have e1 : (args ++ caps).getD i .junk = args.getD i .junk := by simp only [List.getD_eq_getElem?_getD, List.getElem?_append_left h1]
        have e2 : (cargs ++ cs).getD i undef = cargs.getD i undef := by simp only [List.getD_eq_getElem?_getD, List.getElem?_append_left (show i < cargs.length by omega)]
        rw [e1, e2]; exact ha i h1
      · have e1 : (args ++ caps).getD i .junk = caps.getD (i - args.length) .junk := by simp only [List.getD_eq_getElem?_getD, List.getElem?_append_right (show args.length ≤ i by omega)]
        have e2 : (cargs ++ cs).getD i undef = cs.getD (i - args.length) undef := by simp only [List.getD_eq_getElem?_getD, List.getElem?_append_right (show cargs.length ≤ i by omega), hl]
        rw [e1, e2]; exact hcr _ (by simp only [List.length_append] at hi; omega)
    refine ⟨g, cs.toArray, rfl, ?_⟩; rw [show cargs.toArray ++ cs.toArray = (cargs ++ cs).toArray by simp]; rcases hk with ⟨ks, Rr, ⟨hent, hac⟩, hks, hK⟩ | ⟨v, hax, hK⟩
    · refine .inl ⟨hent, ?_⟩
      have hcall := hac X I μ ob w (cargs ++ cs) R.toRepH hlen hall (fun k hk => by
        rcases hks k hk with h | h
        · exact .inl (by rw [hE.1]; exact h)
        · exact .inr (by rw [hE.2]; exact h))
      intro fs; obtain ⟨e, w', fr, ⟨cv, v, h', I', μ', ob', rfl, R', hv, hI, hμ, hlen, hI2, hob, hold, hR⟩, hcom⟩ := hcall fs; refine ⟨_, w', fr, ⟨cv, rfl, ⟨putD (Zc ks st.tmps) d v, h'⟩, ⟨I', μ', ob', hI, ?_⟩, Zn _ _ _, hK v h' hR⟩, hcom⟩; have R1 := Z7z R R' hI hμ hlen hI2 hob hold; exact R1.put hv d
    · obtain ⟨cv, hr, hv⟩ := hax st.h.length μ I w (cargs ++ cs) hlen hall
      exact .inr ⟨cv, hr, _, ⟨I, μ, ob, fun _ h => h, R.put hv d⟩, Zn _ _ _, hK⟩
  · exact absurd rfl (hny _)
  · exact hk.elim

theorem amap {α β : Type} (f : α → β) (A : Array α) : A.map f = (A.toList.map f).toArray := Array.ext' (by simp)

theorem Z6w {n : Nat} {next next' : Act → World → Prop} (h : ∀ a w, next a w → next' a w) {x : Result Next} (hx : o.uponIn (Fw r) n E.P a next Q x) : o.uponIn (Fw r) n E.P a next' Q x := by
  unfold Oper.uponIn at hx ⊢
  split <;> simp only at hx
  · exact h _ _ hx
  · exact h _ _ hx
  · exact h _ _ hx
  · refine ⟨hx.1, hx.2.mono ?_⟩
    intro e w he
    cases e with
    | returned v => exact h _ _ he
    | panicked c => exact he
    | outgrown => exact he
  · exact ⟨hx.1, hx.2.mono fun v w hv => h _ _ hv⟩
  · refine ⟨hx.1, hx.2.mono ?_⟩
    intro e w he
    cases e with
    | returned v => exact h _ _ he
    | panicked c => exact he
    | outgrown => exact he
  · exact hx

theorem Z0f {n : Nat} {next next' : Act → World → Prop} (h : ∀ a w, next a w → next' a w) (hx : o.wpIn (Fw r) n E.P a w next Q) : o.wpIn (Fw r) n E.P a w next' Q :=
  ⟨hx.1, Z6w h hx.2⟩

theorem Zck {P : Program} {n : Nat} {e : Operand → AV} {a : Operand → Value} (hev : ∀ o, VR n μ I w (e o) (a o)) : ∀ {ys : List Operand} {x : AV} {v : Value} {K : AV → Prop}, VR n μ I w x v → maxK x (ys.map e) K →
    ∃ u cv, (List.foldlM Builtin.max2 v (ys.map a)).run P w = .ok cv w ∧ VR n μ I w u cv ∧ K u
  | [], x, v, K, hx, hk => ⟨x, v, rfl, hx, hk⟩
  | y :: ys, x, v, K, hx, hk => by
    have hy := hev y; simp only [List.map_cons] at hk; unfold maxK at hk
    split at hk
    · rename_i k p k' q hyy
      rw [hyy] at hy; obtain ⟨u, cv, hr, hu, hK⟩ := Zck hev (ys := ys) (.mkInt k (if p < q then q else p)) hk; refine ⟨u, cv, ?_, hu, hK⟩; rw [hx.int_inv]; simp only [List.map_cons, List.foldlM_cons, Sem.run_bind, hy.int_inv, Builtin.max2, Sem.run_pure, Result.andThen_ok]; exact hr
    · exact hk.elim

theorem Zhf (hΓ : Zg E.P E.Γ) (hE : E.fits X) (R : Rep X I μ ob st w a) (hk : opK E o st K) : o.wpIn (Fw r) 0 E.P a w (Z22 X I a.defers K) Q := by
  have hev := R.evs; unfold opK at hk; obtain ⟨dst, op, ty, pos, after, guard⟩ := o; simp only at hk
  split at hk
  · exact Zj R (by simp) ⟨_, _, by simp [execOp], hev _, hk⟩
  · exact Zj R (by simp) ⟨_, _, by simp [execOp], hev _, hk⟩
  · obtain ⟨v, cv, hr, hv, hK⟩ := Zdn (P := E.P) (w := w) (hev _) (hev _) (hev _) hk
    exact Zj R (by simp) ⟨v, cv, by simpa [execOp] using hr, hv, hK⟩
  · unfold Z4g at hk
    have hnil : ∀ x' : AV, ∀ vx : Value, VR st.h.length μ I w x' vx → ∀ xs, x'.listH st.h = some xs → ∃ a c, vx = .slice a xs.length c ∧ (a = none → c = 0) ∧ xs.length ≤ c := by
      intro x' vx hx xs hl; unfold AV.listH at hl
      split at hl
      · rename_i b k
        split at hl
        · rename_i E' s' xs' rk hb
          injection hl with hl; subst hl
          obtain ⟨a, c, rfl, hbn, hbm⟩ := hx.own_inv; rcases (R.objs _ _ hb).2 with ⟨g, _, _, cap, _, _, _, e3, _, _, _, hle, _⟩ | ⟨_, _, a', h1, h2⟩
          · rw [hbm] at e3; injection e3 with e4 e5 e6; subst e4 e5 e6; exact ⟨_, _, rfl, by simp, hle⟩
          · rw [hbm] at h1; injection h1 with e4 e5 e6; subst e4 e5 e6
            rw [hbm] at h2; obtain ⟨a2, c2, e7, _, e8⟩ := h2.sl_len
            injection e7 with e9 _ e10; subst e9
            exact ⟨_, _, rfl, fun h => by rw [e10]; exact e8 h, Nat.le_refl _⟩
        · cases hl
      · obtain ⟨a, c, e1, e2, e3⟩ := (hx.list_inv hl).sl_len
        exact ⟨a, c, e1, e3, e2⟩
    have eqg : ∀ (op : BinOp) (t : TypeId) (ox oy : Operand) (vx : Value), (∀ cs, vx ≠ .agg cs) → vx ≠ .nilIface → eqGuard op t ox oy vx (.slice none 0 0) = pure () := fun op t ox oy vx h1 h2 => Z1y ⟨h1, h2⟩
    have nilcase : ∀ (op : BinOp) (t : TypeId) (x : Operand) (neg : Bool), Z0b E.Γ t neg (ev st.tmps x) st.h (fun v => K ⟨putD st.tmps dst v, st.h⟩) → (op = .eql ∧ neg = false ∨ op = .neq ∧ neg = true) →
        ∃ v cv, (do eqGuard op t x (.const (.slice none 0 0)) (a.eval x) (.slice none 0 0); binOp op t (a.eval x) (.slice none 0 0) : Sem Value).run E.P w = .ok cv w ∧ VR st.h.length μ I w v cv ∧ K ⟨putD st.tmps dst v, st.h⟩ := by
      intro op t x neg hk hop; obtain ⟨n1, n2⟩ := Zbm (P := E.P) hΓ (t := t) (K := fun v => K ⟨putD st.tmps dst v, st.h⟩) (hev x) (fun xs hl => hnil _ _ (hev x) xs hl); have hsl : ∃ p l c, a.eval x = .slice p l c := by
        rcases Z77 hk with hn | ⟨xs, hl⟩
        · have hx := hev x
          rw [hn] at hx; generalize a.eval x = vx at hx ⊢
          cases hx
          exact ⟨none, 0, 0, rfl⟩
        · obtain ⟨p, c, e, _⟩ := hnil _ _ (hev x) _ hl; exact ⟨p, _, c, e⟩
      obtain ⟨p, l, c, he⟩ := hsl; rcases hop with ⟨rfl, rfl⟩ | ⟨rfl, rfl⟩
      · obtain ⟨v, cv, hr, hv, hK⟩ := n1 hk
        refine ⟨v, cv, ?_, hv, hK⟩; rw [eqg _ _ _ _ _ (by rw [he]; simp) (by rw [he]; simp)]
        simpa using hr
      · obtain ⟨v, cv, hr, hv, hK⟩ := n2 hk
        refine ⟨v, cv, ?_, hv, hK⟩; rw [eqg _ _ _ _ _ (by rw [he]; simp) (by rw [he]; simp)]
        simpa using hr
    split at hk
    · obtain ⟨v, cv, hr, hv, hK⟩ := nilcase _ _ _ _ hk (.inl ⟨rfl, rfl⟩)
      exact Zj R (by simp) ⟨v, cv, by
        simp only [execOp, Sem.run_bind] at hr ⊢; simp only [Act.eval] at hr ⊢; rw [hr]; rfl, hv, hK⟩
    · obtain ⟨v, cv, hr, hv, hK⟩ := nilcase _ _ _ _ hk (.inr ⟨rfl, rfl⟩)
      exact Zj R (by simp) ⟨v, cv, by
        simp only [execOp, Sem.run_bind] at hr ⊢; simp only [Act.eval] at hr ⊢; rw [hr]; rfl, hv, hK⟩
    · rcases Z7l hk with hk | hk
      · obtain ⟨v, cv, hr, hv, hK⟩ := Zav (P := E.P) (w := w) hΓ _ _ (hev _) (hev _) hk
        exact Zj R (by simp) ⟨v, cv, by
          simp only [execOp, Sem.run_bind] at hr ⊢; rw [hr]; rfl, hv, hK⟩
      · obtain ⟨v, cv, hr, hv, hK⟩ := Zan (P := E.P) (w := w) hΓ _ _ (hev _) (hev _) hk
        exact Zj R (by simp) ⟨v, cv, by
          simp only [execOp, Sem.run_bind] at hr ⊢; rw [hr]; rfl, hv, hK⟩
  · obtain ⟨v, cv, hr, hv, hK⟩ := un_ok (P := E.P) (w := w) (hev _) hk
    exact Zj R (by simp) ⟨v, cv, by simp [execOp, hr], hv, hK⟩
  · exact Z0l (by simp) (by simp [execOp]) (cv_ok (P := E.P) hΓ R (hev _) hk)
  · obtain ⟨v, cv, hr, hv, hK⟩ := fa_ok (P := E.P) (w := w) hΓ (hev _) hk
    exact Zj R (by simp) ⟨v, cv, by simp [execOp, hr], hv, hK⟩
  · obtain ⟨v, cv, hr, hv, hK⟩ := Zbs (P := E.P) (w := w) hΓ (hev _) hk
    exact Zj R (by simp) ⟨v, cv, by simp [execOp, hr], hv, hK⟩
  · obtain ⟨v, cv, hr, hv, hK⟩ := ia_ok (P := E.P) (w := w) hΓ (hev _) (hev _) R.objs hk
    exact Zj R (by simp) ⟨v, cv, by simp [execOp, hr], hv, hK⟩
  · obtain ⟨v, cv, hr, hv, hK⟩ := Zij (P := E.P) (w := w) hΓ (hev _) (hev _) hk
    exact Zj R (by simp) ⟨v, cv, by simp [execOp, hr], hv, hK⟩
  · obtain ⟨v, cv, hr, hv, hK⟩ := Z9x (P := E.P) (w := w) hΓ (hev _) R.objs hk
    exact Zj R (by simp) ⟨v, cv, by simp [execOp, hr], hv, hK⟩
  · rename_i t x lo hi mx
    unfold slZ at hk
    split at hk
    · rename_i b m hx
      have h1 := hev x; rw [hx] at h1; have hh : (match hi.map (ev st.tmps), hi.map a.eval with | none, none => True | some x, some v => VR st.h.length μ I w x v | _, _ => False) := by cases hi <;> simp [hev]
      exact Z0l (r := r) (by simp) (by simp [execOp]) (Zbc (P := E.P) (t := t) (vh := hi.map a.eval) hΓ R h1 hh (by rw [hE.1, hE.2]; exact hk))
    · rename_i lo mx v' lo' mx' hne
      by_cases hq : queB st.h (ev st.tmps x) = true
      · rw [if_pos hq] at hk
        unfold slQ at hk
        split at hk
        · rename_i b m l hx
          have h1 := hev x; rw [hx] at h1; exact Z0l (r := r) (by simp) (by simp [execOp]) (Zd9 (P := E.P) (t := t) hΓ R h1 (hev l) (by rw [hE.1, hE.2]; exact hk))
        · exact hk.elim
      rw [if_neg hq] at hk; unfold slFz at hk; obtain ⟨J, obz, hJ, Rz⟩ := R.fz1 (ev st.tmps x); have hez : ∀ y, VR (fz1 (ev st.tmps x) st).h.length μ J w (ev (fz1 (ev st.tmps x) st).tmps y) (a.eval y) := Rep.evs Rz; obtain ⟨v, cv, hr, hv, hK⟩ := Zbb (P := E.P) (w := w) (vl := lo.map a.eval) (vh := hi.map a.eval) (vm := mx.map a.eval) hΓ (hez x) (by cases lo <;> simp [hez]) (by cases hi <;> simp [hez]) (by cases mx <;> simp [hez]) hk; exact Z0f (fun a' w' ⟨st', hn, h2, h3⟩ => ⟨st', hn.trans hJ, h2, h3⟩) (Zj (r := r) (K := K) Rz (by simp) ⟨v, cv, by simp [execOp, hr], hv, hK⟩)
  · obtain ⟨v, cv, hr, hv, hK⟩ := Ziq (P := E.P) (w := w) (hev _) hk
    exact Zj R (by simp) ⟨v, cv, by simp [execOp, hr], hv, hK⟩
  · rename_i fn first caps
    unfold Zbo at hk
    split at hk
    · rename_i f hfirst
      have hfirst : first = #[] := by simpa using hfirst
      subst hfirst; refine Zj R (by simp) ⟨_, .func (.func f) #[] (caps.map a.eval), by simp [execOp, Instr.makeFunc], ?_, hk⟩; have := VR.fn (n := st.h.length) (μ := μ) (I := I) (w := w) f (caps.toList.map (ev st.tmps)) (caps.toList.map a.eval) (by simp) (fun i hi => by
        simp only [List.length_map] at hi; simp only [List.getD_eq_getElem?_getD, List.getElem?_map, List.getElem?_eq_getElem hi, Option.map_some, Option.getD_some]; exact hev _)
      rw [amap]; exact this
    · exact hk.elim
  · rename_i t x
    exact Z0l (by simp) (by simp only [execOp, Instr.box, Sem.run_bind]; cases (newVar t (a.eval x)).run E.P w <;> rfl) (Zcv (P := E.P) (t := t) R (hev _) hk)
  · exact Z0l (by simp) (by simp [execOp]) (Zc3 (P := E.P) hΓ R hk)
  · rename_i t x y
    have hk' : ∃ l, Z2h E.Γ (fzL l st) t x y fun st' => K ⟨putD st'.tmps dst (.tup []), st'.h⟩ := by
      split at hk
      · exact ⟨_, hk⟩
      · exact ⟨[], hk⟩
    obtain ⟨lz, hk⟩ := hk'; obtain ⟨J, obz, hJ, Rz⟩ := R.fzL lz; obtain ⟨w', st', hr, hl, hK⟩ := Zb9 (P := E.P) hΓ Rz (Rz.evs _) (Rz.evs _) hk; refine Oper.wpIn_of (by simp) ?_; have : (execOp a.eval { dst := dst, op := .store t x y, type := ty, pos := pos, after := after, guard := guard }).run E.P w = .ok .skip w' := by simp [execOp, hr]
    rw [this]; obtain ⟨I', μ', ob', h1, h2, _⟩ := hl; exact ⟨_, ⟨I', μ', ob', fun g hg => h1 g (hJ g hg), h2.put (.tup [] [] rfl (fun i hi => by simp at hi)) dst⟩, Zn _ _ _, hK⟩
  · rename_i t len parts
    obtain ⟨J, obz, hJ, Rz⟩ := R.fzL (parts.toList.map fun p => ev st.tmps p.2); have hb := bs_ok (P := E.P) (cparts := parts.toList.map fun p => (p.1, a.eval p.2)) hΓ Rz (by simp) (fun i hi => by
      simp only [List.length_map] at hi; simp only [List.map_map, List.getD_eq_getElem?_getD, List.getElem?_map, List.getElem?_eq_getElem hi, Option.map_some, Option.getD_some, Function.comp]; exact Rz.evs _) hk
    refine Z0f (fun a' w' ⟨st', hn, h2, h3⟩ => ⟨st', hn.trans hJ, h2, h3⟩) (Z0l (r := r) (by simp) ?_ hb); rw [← amap]; simp [execOp]
  · rename_i c
    obtain ⟨callee, args, ats⟩ := c; unfold Z5h at hk; simp only at hk
    split at hk
    · rename_i f
      have hargs : ∀ i, i < (args.toList.map (ev st.tmps)).length → VR st.h.length μ I w ((args.toList.map (ev st.tmps)).getD i .junk) ((args.toList.map a.eval).getD i undef) := fun i hi => by
        simp only [List.length_map] at hi; simp only [List.getD_eq_getElem?_getD, List.getElem?_map, List.getElem?_eq_getElem hi, Option.map_some, Option.getD_some]; exact hev _
      by_cases hy : ∃ b, ev st.tmps f = .yld b
      · obtain ⟨b, hb⟩ := hy
        rw [hb] at hk; obtain ⟨l, fn, tmps, assign, body, hcf, hrun0, hround⟩ := Zgp (r := r) (cargs := args.toList.map a.eval) hE R (by rw [← hb]; exact hev f) (by simp) hargs hk; refine Oper.wpIn_of (by simp) ?_; have hrun : (execOp a.eval { dst := dst, op := .call { callee := .value f, args := args, argTypes := ats }, type := ty, pos := pos, after := after, guard := guard }).run E.P w = .ok (.round l fn tmps assign body) w := by
          rw [← amap] at hrun0; simpa [execOp, resolve, hcf, Deferred.ofValue, invoke] using hrun0
        rw [hrun, Oper.uponIn_round]; refine ⟨fun h => by simp [Fw, Fence.wide] at h, ?_⟩; refine RoundIn.mono hround ?_; rintro e w' ⟨cv, rfl, hA⟩; exact hA
      obtain ⟨g, cs, hcf, hcall⟩ := Zem (cargs := args.toList.map a.eval) hE R (hev f) (by simp) hargs (fun b hb => hy ⟨b, hb⟩) hk; refine Oper.wpIn_of (by simp) ?_; have hrun : (execOp a.eval { dst := dst, op := .call { callee := .value f, args := args, argTypes := ats }, type := ty, pos := pos, after := after, guard := guard }).run E.P w = (callFunc g ((args.toList.map a.eval).toArray ++ cs)).run E.P w := by
        rw [← amap]; simp [execOp, resolve, hcf, Deferred.ofValue, invoke]
      rw [hrun]; rcases hcall with ⟨hent, hcall⟩ | ⟨cv, hr, hA⟩
      · rw [hent]
        refine ⟨fun h => by simp [Fw, Fence.wide] at h, ?_⟩; have hc2 := (callsIn_wide (n := 0)).2 hcall; refine ⟨trivial, fun fs hroom => ?_⟩; obtain ⟨e, w', fr, ⟨cv, rfl, hA⟩, hcom⟩ := hc2.2 fs (room_wide _); exact ⟨_, w', fr, hA, hcom⟩
      · rw [hr]; exact hA
    · rename_i b
      unfold Z3s at hk
      split at hk
      · rename_i x t ha ht
        obtain ⟨y, rfl, rfl⟩ : ∃ y, args = #[y] ∧ ev st.tmps y = x := by
          obtain ⟨l⟩ := args
          cases l with
          | nil => simp at ha
          | cons y l => cases l with
            | nil => exact ⟨y, rfl, by simpa using ha⟩
            | cons z l => simp at ha
        have ht : ats = #[t] := by simpa using congrArg List.toArray ht
        subst ht; obtain ⟨v, cv, hr, hv, hK⟩ := Zif (P := E.P) (w := w) (ty := ty) hΓ (hev y) R.objs hk; exact Zj R (by simp) ⟨v, cv, by simp [execOp, resolve, invoke, builtin, hr], hv, hK⟩
      · rename_i x y t t' ha ht
        obtain ⟨x', y', rfl, rfl, rfl⟩ : ∃ x' y', args = #[x', y'] ∧ ev st.tmps x' = x ∧ ev st.tmps y' = y := by
          obtain ⟨l⟩ := args
          match l, ha with
          | [x', y'], ha => exact ⟨x', y', rfl, by simpa using ha⟩
          | [], ha => simp at ha
          | [_], ha => simp at ha
          | _ :: _ :: _ :: _, ha => simp at ha
        have ht : ats = #[t, t'] := by simpa using congrArg List.toArray ht
        subst ht; obtain ⟨rfl, hk⟩ := hk; refine Z0l (by simp) ?_ (Zat (P := E.P) (ty := ty) hΓ R (hev x') (hev y') (by rw [hE.1, hE.2]; exact hk)); simp [execOp, resolve, invoke, builtin]
      · rename_i x y ha
        obtain ⟨x', y', rfl, rfl, rfl⟩ : ∃ x' y', args = #[x', y'] ∧ ev st.tmps x' = x ∧ ev st.tmps y' = y := by
          obtain ⟨l⟩ := args
          match l, ha with
          | [x', y'], ha => exact ⟨x', y', rfl, by simpa using ha⟩
          | [], ha => simp at ha
          | [_], ha => simp at ha
          | _ :: _ :: _ :: _, ha => simp at ha
        unfold minK at hk
        split at hk
        · rename_i k x k' y hx hy
          have e1 := hev x'; have e2 := hev y'; rw [hx] at e1; rw [hy] at e2; exact Zj R (by simp) ⟨_, .int k (if y < x then y else x), by simp [execOp, resolve, invoke, builtin, Builtin.min_, Builtin.min2, e1.int_inv, e2.int_inv], .mkInt _ _, hk⟩
        · exact hk.elim
      · rename_i x xs ha
        obtain ⟨x', ys, rfl, rfl, rfl⟩ : ∃ x' ys, args = (x' :: ys).toArray ∧ ev st.tmps x' = x ∧ ys.map (ev st.tmps) = xs := by
          obtain ⟨l⟩ := args
          match l, ha with
          | x' :: ys, ha => exact ⟨x', ys, rfl, by simpa using ha⟩
        obtain ⟨v, cv, hr, hv, hK⟩ := Zck (P := E.P) (w := w) (μ := μ) (I := I) (n := st.h.length) (ys := ys) (e := ev st.tmps) (a := a.eval) hev (hev x') hk; exact Zj R (by simp) ⟨v, cv, by simp [execOp, resolve, invoke, builtin, Builtin.max_, hr], hv, hK⟩
      · exact hk.elim
    · exact hk.elim
  · rename_i x
    have hK := Z9q hk; refine Zj R (by simp) ⟨_, a.eval x, ?_, hev x, hK⟩; rcases Zi3 (hev x) hk with ⟨ad, he⟩ | ⟨g, cs, he⟩ | ⟨l, he⟩
    · simp only [execOp, he]; rfl
    · simp only [execOp, he]; rfl
    · simp only [execOp, he]; rfl
  · rename_i t parts
    obtain ⟨v, cv, hr, hv, hK⟩ := Zji (P := E.P) (w := w) (n := st.h.length) (μ := μ) (I := I) (cps := parts.toList.map fun p => (p.1, a.eval p.2)) hΓ (by simp) (fun i hi => by
      simp only [List.length_map] at hi; simp only [List.getD_eq_getElem?_getD, List.getElem?_map, List.getElem?_eq_getElem hi, Option.map_some, Option.getD_some]; exact ⟨by simp, hev _⟩) hk
    exact Zj R (by simp) ⟨v, cv, by
      rw [← amap] at hr; simp only [execOp, Sem.run_bind]; rw [hr]; rfl, hv, hK⟩
  · exact Z0l (by simp) (by simp [execOp]) (Zi4 (P := E.P) hΓ R (hev _) (hev _) hk)
  · rename_i t
    exact Z0l (by simp) (by simp [execOp]) (Zi5 (P := E.P) (t := t) R hk)
  · obtain ⟨v, cv, hr, hv, hK⟩ := Ze2 (P := E.P) (w := w) hΓ (hev _) (hev _) R.objs hk
    exact Zj R (by simp) ⟨v, cv, by simp [execOp, hr], hv, hK⟩
  · rename_i t x i y
    obtain ⟨J, obz, hJ, Rz⟩ := R.fzL [ev st.tmps y]; obtain ⟨w', st', hr, hl, hK⟩ := Zc4 (P := E.P) hΓ Rz (Rz.evs _) (Rz.evs _) (Rz.evs _) hk; refine Oper.wpIn_of (by simp) ?_; have : (execOp a.eval { dst := dst, op := .mapUpdate t x i y, type := ty, pos := pos, after := after, guard := guard }).run E.P w = .ok .skip w' := by simp [execOp, hr]
    rw [this]; obtain ⟨I', μ', ob', h1, h2, _⟩ := hl; exact ⟨_, ⟨I', μ', ob', fun g hg => h1 g (hJ g hg), h2.put (.tup [] [] rfl (fun i hi => by simp at hi)) dst⟩, Zn _ _ _, hK⟩
  · exact Z0l (by simp) (by simp [execOp]) (Zh2 (P := E.P) hΓ R (hev _) hk)
  · exact Z0l (by simp) (by simp [execOp]) (Zi0 (P := E.P) (ty := ty) R (hev _) hk)
  · exact Z0l (by simp) (by simp [execOp]) (Zdw (P := E.P) (ty := ty) R (hev _) hk)
  · obtain ⟨v, cv, hr, hv, hK⟩ := Zit (P := E.P) (w := w) (hev _) R.objs hk
    exact Zj R (by simp) ⟨v, cv, by simp [execOp, hr], hv, hK⟩
  · rename_i t x i y
    obtain ⟨J, obz, hJ, Rz⟩ := R.fzL [ev st.tmps y]; obtain ⟨w', st', hr, hl, hK⟩ := Zc4 (P := E.P) hΓ Rz (Rz.evs _) (Rz.evs _) (Rz.evs _) hk; refine Oper.wpIn_of (by simp) ?_; have : (execOp a.eval { dst := dst, op := .insert t x i y, type := ty, pos := pos, after := after, guard := guard }).run E.P w = .ok .skip w' := by simp [execOp, hr]
    rw [this]; obtain ⟨I', μ', ob', h1, h2, _⟩ := hl; exact ⟨_, ⟨I', μ', ob', fun g hg => h1 g (hJ g hg), h2.put (.tup [] [] rfl (fun i hi => by simp at hi)) dst⟩, Zn _ _ _, hK⟩
  · exact hk.elim

/-! ### A list of operations -/
def Z2j (ops : List Oper) (j : Nat) : Option Nat := (ops[j]?).bind (·.dst)

def Zr (ops : List Oper) (g : Option (Nat × Bool)) (tm : List AV) (run skip : Prop) : Prop :=
  match g with
  | none => run
  | some (j, want) => (match Z2j ops j with
    | some d => (match tm.getD d .junk with
      | .p (.bool b) => (b = want → run) ∧ (b = (!want) → skip)
      | .tup _ => skip
      | _ => False)
    | none => False)

def Z0p (E : Env) (ops : List Oper) : List Oper → St → (St → Prop) → Prop
  | [], st, K => K st
  | o :: rest, st, K => Zr ops o.guard st.tmps (opK E o st fun st' => Z0p E ops rest st' K) (Z0p E ops rest ⟨putD st.tmps o.dst (.tup []), st.h⟩ K)

theorem Z4n {ops : Array Oper} {j : Nat} {d : Nat} (hd : Z2j ops.toList j = some d) (R : Rep X I μ ob st w a) : 
    (∀ b, st.tmps.getD d .junk = .p (.bool b) → yielded ops a.tmps j = some b) ∧ (∀ l, st.tmps.getD d .junk = .tup l → yielded ops a.tmps j = none) := by
  have hd' : (ops[j]?).bind (·.dst) = some d := by simpa [Z2j] using hd
  have hlt : ∀ x, st.tmps.getD d .junk = x → x ≠ .junk → d < st.tmps.length := fun x hx hn => by
    by_cases h : d < st.tmps.length
    · exact h
    · rw [List.getD_eq_getElem?_getD, List.getElem?_eq_none (Nat.le_of_not_lt h)] at hx; exact absurd hx.symm hn
  refine ⟨fun b hb => ?_, fun l hl => ?_⟩
  · have h := hlt _ hb (by simp)
    have hv := R.tmps d h; rw [hb] at hv; have := hv.bool_inv; have hs := R.size; simp only [yielded, hd', Option.bind_some]; have hg : a.tmps[d]? = some (a.tmps.getD d undef) := by
      rw [Array.getD, dif_pos (show d < a.tmps.size by omega), Array.getElem?_eq_getElem (show d < a.tmps.size by omega)]; rfl
    rw [hg, this]
  · have h := hlt _ hl (by simp)
    have hv := R.tmps d h; rw [hl] at hv; obtain ⟨cs, this, _⟩ := hv.tup_inv; have hs := R.size; simp only [yielded, hd', Option.bind_some]; have hg : a.tmps[d]? = some (a.tmps.getD d undef) := by
      rw [Array.getD, dif_pos (show d < a.tmps.size by omega), Array.getElem?_eq_getElem (show d < a.tmps.size by omega)]; rfl
    rw [hg, this]

theorem Z55 (hΓ : Zg E.P E.Γ) (hE : E.fits X) {ops : Array Oper} {Q : Exit → Act → World → Prop} {ds : List Deferred} : ∀ (l : List Oper) (k : Nat), (∀ j, l[j]? = ops[k + j]?) → ∀ {st : St} {a : Act} {w : World} {I : Nat → Prop},
    Now X I st w a → a.defers = ds → Z0p E ops.toList l st K → (∀ a w, Z22 X I ds K a w → Q .normal a w) → wpOpsIn (Fw r) 0 E.P ops Q (List.range' k l.length) a w
  | [], k, _, st, a, w, I, hN, hd, hk, hQ => hQ a w ⟨st, hN, hd, hk⟩
  | o :: l, k, hl, st, a, w, I, hN, hd, hk, hQ => by
    have h0 : ops[k]? = some o := by simpa using (hl 0).symm
    have hl' : ∀ j, l[j]? = ops[k + 1 + j]? := fun j => by have := hl (j + 1); simpa [Nat.add_assoc, Nat.add_comm 1 j] using this
    obtain ⟨I', μ', ob', hI, R⟩ := hN; have hQ' : ∀ a w, Z22 X I' ds K a w → Q .normal a w := fun a w ⟨st', hn, h2, h3⟩ => hQ a w ⟨st', hn.trans hI, h2, h3⟩
    have hrun : opK E o st (fun st' => Z0p E ops.toList l st' K) → o.wpIn (Fw r) 0 E.P a w (wpOpsIn (Fw r) 0 E.P ops Q (List.range' (k + 1) l.length)) Q := fun hk =>
      Z0f (fun a' w' ⟨st', hn, hd', hk'⟩ => Z55 hΓ hE l (k + 1) hl' hn (hd'.trans hd) hk' (fun a w hA => hQ' a w hA)) (Zhf hΓ hE R hk)
    have hskip : Z0p E ops.toList l ⟨putD st.tmps o.dst (.tup []), st.h⟩ K → wpOpsIn (Fw r) 0 E.P ops Q (List.range' (k + 1) l.length) (a.put o.dst undef) w := fun hk =>
      Z55 hΓ hE l (k + 1) hl' ⟨I', μ', ob', fun _ h => h, R.put (.tup [] [] rfl (fun i hi => by simp at hi)) o.dst⟩ ((Zn _ _ _).trans hd) hk (fun a w hA => hQ' a w hA)
    simp only [List.length_cons, List.range'_succ, wpOpsIn, h0]; unfold Z0p Zr at hk
    split at hk
    · rename_i hg
      rw [if_pos (by simp [Region.wanted, hg])]; exact hrun hk
    · rename_i j want hg
      split at hk
      · rename_i d hd2
        obtain ⟨y1, y2⟩ := Z4n hd2 R
        split at hk
        · rename_i b hb
          have hy := y1 b hb; by_cases hbw : b = want
          · rw [if_pos (by simp [Region.wanted, hg, hy, hbw])]; exact hrun (hk.1 hbw)
          · rw [if_neg (by simp [Region.wanted, hg, hy, hbw])]
            exact ⟨fun _ _ => trivial, hskip (hk.2 (by cases b <;> cases want <;> simp_all))⟩
        · rename_i l' hl2
          have hy := y2 l' hl2; rw [if_neg (by simp [Region.wanted, hg, hy])]; exact ⟨fun _ _ => trivial, hskip hk⟩
        · exact hk.elim
      · exact hk.elim
end
end Go.AM
end

section
namespace Go.AM
open Go.RowKit

def AWp (E : Env) (r : Option Nat) (c : Code) (Q : Exit → St → Prop) (st : St) : Prop :=
  ∀ (X : Ctx) (I : Nat → Prop) (w : World) (a : Act), E.fits X → Now X I st w a → c.wpIn (Fw r) 0 E.P (fun e a' w' => ∃ st', Now X I st' w' a' ∧ Q e st') a w

def Z6v : List AV → List AV → Prop
  | [], [] => True
  | x :: l, y :: l' => (y = .junk ∨ y = x) ∧ Z6v l l'
  | _, _ => False
def Z8r : AObj → AObj → Prop
  | .row E s xs .own, y => y = .row E s xs .lax ∨ y = .row E s xs .que ∨ y = .row E s xs .laq
  | .row E s xs .lax, y => y = .row E s xs .laq
  | _, _ => False
def Z4j : List AObj → List AObj → Prop
  | [], [] => True
  | x :: l, y :: l' => (y = .dead ∨ y = x ∨ Z8r x y) ∧ Z4j l l'
  | _, _ => False
def Weak (st st' : St) : Prop := Z6v st.tmps st'.tmps ∧ Z4j st.h st'.h

theorem Z7n : ∀ {l l' : List AV}, Z6v l l' → l'.length = l.length ∧ ∀ i, i < l.length → l'.getD i .junk = .junk ∨ l'.getD i .junk = l.getD i .junk
  | [], [], _ => ⟨rfl, by simp⟩
  | x :: l, y :: l', h => by
    obtain ⟨h1, h2⟩ := h; obtain ⟨e1, e2⟩ := Z7n h2; refine ⟨by simp [e1], fun i hi => ?_⟩
    cases i with
    | zero => simpa using h1
    | succ i => simpa using e2 i (by simpa using hi)
theorem Z7p : ∀ {l l' : List AObj}, Z4j l l' → l'.length = l.length ∧ ∀ (i : Nat) (o : AObj), l'[i]? = some o → o = AObj.dead ∨ l[i]? = some o ∨ ∃ x, l[i]? = some x ∧ Z8r x o
  | [], [], _ => ⟨rfl, by simp⟩
  | x :: l, y :: l', h => by
    obtain ⟨h1, h2⟩ := h; obtain ⟨e1, e2⟩ := Z7p h2; refine ⟨by simp [e1], fun i o ho => ?_⟩
    cases i with
    | zero =>
      simp only [List.getElem?_cons_zero, Option.some.injEq] at ho ⊢; subst ho; rcases h1 with h | h | h
      · exact .inl h
      · exact .inr (.inl h.symm)
      · exact .inr (.inr ⟨_, rfl, h⟩)
    | succ i => simpa using e2 i o (by simpa using ho)

theorem Z2w (l : List AV) : Z6v l l := by
  induction l with
  | nil => trivial
  | cons x l ih => exact ⟨.inr rfl, ih⟩
theorem Zm (l : List AObj) : Z4j l l := by
  induction l with
  | nil => trivial
  | cons x l ih => exact ⟨.inr (.inl rfl), ih⟩
theorem Weak.refl (st : St) : Weak st st := ⟨Z2w _, Zm _⟩

section
variable {E : Env} {X : Ctx} {I : Nat → Prop} {w : World} {a : Act} {st st' : St} {Q Q' : Exit → St → Prop} {r : Option Nat} {c : Code}

theorem Now.weak (h : Weak st st') (hN : Now X I st w a) : Now X I st' w a := by
  obtain ⟨I', μ', ob', hI, R⟩ := hN; obtain ⟨t1, t2⟩ := Z7n h.1; obtain ⟨h1, h2⟩ := Z7p h.2
  refine ⟨I', μ', ob', hI, {
    below := R.below, laid := R.laid, base := R.base, imm := R.imm, ctx := R.ctx, frz := R.frz, inew := R.inew, may := R.may, names := by rw [h1]; exact R.names, own := R.own, sep := R.sep, past := fun b hb => R.past b (by rw [← h1]; exact hb)
    objs := fun b o ho => ?_, size := t1.trans R.size, tmps := fun i hi => ?_, marks := R.marks }⟩
  · rcases h2 b o ho with h | h | ⟨x, h, hx⟩
    · subst h; trivial
    · rw [h1]; exact R.objs b o h
    · rw [h1]
      have hO := R.objs b x h; unfold Z8r at hx
      split at hx
      · rcases hx with hx | hx | hx <;> subst hx <;> obtain ⟨q1, q2⟩ := hO <;> refine ⟨q1, ?_⟩ <;> rcases q2 with q2 | ⟨q2, _⟩
        · exact .inl q2
        · cases q2
        · exact .inl q2
        · cases q2
        · exact .inl q2
        · cases q2
      · subst hx
        exact hO
      · exact hx.elim
  · rw [h1]
    rcases t2 i (by omega) with h | h
    · rw [h]; exact .junk _
    · rw [h]; exact R.tmps i (by omega)

theorem AWp.weak (h : Weak st st') (hw : AWp E r c Q st') : AWp E r c Q st := fun X I w a hE hN => hw X I w a hE (hN.weak h)

theorem AWp.mono (hw : AWp E r c Q st) (hQ : ∀ e st, Q e st → Q' e st) : AWp E r c Q' st := fun X I w a hE hN =>
  wpIn_mono (hw X I w a hE hN) fun e _ _ ⟨st', h1, h2⟩ => ⟨st', h1, hQ e st' h2⟩

theorem AWp.region (hΓ : Zg E.P E.Γ) {id : Nat} {ops : Array Oper} (h : Z0p E ops.toList ops.toList st (Q .normal)) : AWp E r (.region id ops false) Q st := fun X I w a hE hN => by
  refine wpIn_region ?_; rw [List.range_eq_range', ← Array.length_toList]; exact Z55 (K := Q .normal) hΓ hE ops.toList 0 (by simp) hN rfl h (fun _ _ ⟨st', h1, _, h3⟩ => ⟨st', h1, h3⟩)

def Z3f (next : St → Prop) (Q : Exit → St → Prop) : Exit → St → Prop
  | .normal, st => next st
  | e, st => Q e st

theorem AWp.seq {x y : Code} (h : AWp E r x (Z3f (AWp E r y Q) Q) st) : AWp E r (.seq x y) Q st := fun X I w a hE hN => by
  refine wpIn_seq (wpIn_mono (h X I w a hE hN) ?_); rintro e a' w' ⟨st', hN', hq⟩
  cases e with
  | normal => exact hq X I w' a' hE hN'
  | exit id => exact ⟨st', hN', hq⟩
  | goto l => exact ⟨st', hN', hq⟩
  | ret => exact ⟨st', hN', hq⟩
  | panic ch => exact ⟨st', hN', hq⟩
  | outgrown => exact ⟨st', hN', hq⟩

theorem AWp.skip (h : Q .normal st) : AWp E r .skip Q st := fun _ _ _ _ _ hN => wpIn_skip ⟨st, hN, h⟩
theorem AWp.ret (h : Q .ret st) : AWp E r .ret Q st := fun _ _ _ _ _ hN => wpIn_ret ⟨st, hN, h⟩
theorem AWp.exit {id : Nat} (h : Q (.exit id) st) : AWp E r (.exit id) Q st := fun _ _ _ _ _ hN => wpIn_exit ⟨st, hN, h⟩
theorem AWp.label {l : Nat} (h : Q .normal st) : AWp E r (.label l) Q st := fun _ _ _ _ _ hN => wpIn_label ⟨st, hN, h⟩

def Z11 (x : AV) (t f : Prop) : Prop :=
  match x with
  | .p (.bool b) => (b = true → t) ∧ (b = false → f)
  | _ => False

theorem AWp.cond {x : Operand} {c d : Code} (h : Z11 (ev st.tmps x) (AWp E r c Q st) (AWp E r d Q st)) : AWp E r (.cond x c d) Q st := fun X I w a hE hN => by
  have hN' := hN; obtain ⟨I', μ', ob', hI, R⟩ := hN; unfold Z11 at h
  split at h
  · rename_i b hb
    have hv := R.evs x; rw [hb] at hv; exact wpIn_cond_split hv.bool_inv (fun ht => h.1 ht X I w a hE hN') (fun hf => h.2 hf X I w a hE hN')
  · exact h.elim

def Z2v (id : Nat) (Q : Exit → St → Prop) : Exit → St → Prop
  | .exit i, st => if i = id then Q .normal st else Q (.exit i) st
  | e, st => Q e st

theorem AWp.block {id : Nat} {c : Code} (h : AWp E r c (Z2v id Q) st) : AWp E r (.block id c) Q st := fun X I w a hE hN => by
  refine wpIn_block (wpIn_mono (h X I w a hE hN) ?_); rintro e a' w' ⟨st', hN', hq⟩
  cases e with
  | exit i =>
    simp only [Z2v] at hq; simp only [Exit.inBlock]
    split
    · rename_i he; rw [if_pos he] at hq; exact ⟨st', hN', hq⟩
    · rename_i he; rw [if_neg he] at hq; exact ⟨st', hN', hq⟩
  | normal => exact ⟨st', hN', hq⟩
  | goto l => exact ⟨st', hN', hq⟩
  | ret => exact ⟨st', hN', hq⟩
  | panic ch => exact ⟨st', hN', hq⟩
  | outgrown => exact ⟨st', hN', hq⟩

def Again (Inv : St → Prop) (m : St → Nat) (n : Nat) (st : St) : Prop := ∃ st', Weak st st' ∧ Inv st' ∧ m st' < n

theorem AWp.loop {c : Code} (Inv : St → Prop) (m : St → Nat) {st' : St} (hw : Weak st st') (h0 : Inv st') (h : ∀ st, Inv st → AWp E r c (Z3f (Again Inv m (m st)) Q) st) : AWp E r (.loop c) Q st := by
  refine AWp.weak hw ?_; intro X I w a hE hN
  let J : Act → World → Nat → Prop := fun a w n => ∃ st, Now X I st w a ∧ Inv st ∧ m st = n
  have hmin : ∀ a w n, J a w n → ∃ k, J a w k ∧ k ≤ n ∧ ∀ j, J a w j → k ≤ j := by
    intro a w n
    induction n using Nat.strongRecOn with
    | _ n ih =>
      intro hn; by_cases hx : ∃ j, j < n ∧ J a w j
      · obtain ⟨j, hj, hJ⟩ := hx
        obtain ⟨k, h1, h2, h3⟩ := ih j hj hJ; exact ⟨k, h1, by omega, h3⟩
      · exact ⟨n, hn, Nat.le_refl _, fun j hj => Nat.le_of_not_lt fun hlt => hx ⟨j, hlt, hj⟩⟩
  let μ : Act → World → Nat := fun a w => @dite Nat (∃ n, J a w n) (Classical.propDecidable _) (fun h => (hmin a w h.choose h.choose_spec).choose) (fun _ => 0)
  have hμ : ∀ a w, (∃ n, J a w n) → J a w (μ a w) ∧ ∀ j, J a w j → μ a w ≤ j := by
    intro a w hx; have : μ a w = (hmin a w hx.choose hx.choose_spec).choose := dif_pos hx; rw [this]; have := (hmin a w hx.choose hx.choose_spec).choose_spec; exact ⟨this.1, this.2.2⟩
  refine wpIn_loop (fun a w => ∃ n, J a w n) μ ⟨_, st', hN, h0, rfl⟩ ?_; intro a w hx; obtain ⟨⟨s, hNs, hIs, hms⟩, _⟩ := hμ a w hx; refine wpIn_mono (h s hIs X I w a hE hNs) ?_; rintro e a' w' ⟨s', hN', hq⟩
  cases e with
  | normal =>
    obtain ⟨s'', hw'', hI'', hlt⟩ := hq; have hJ : J a' w' (m s'') := ⟨s'', hN'.weak hw'', hI'', rfl⟩; refine ⟨⟨_, hJ⟩, ?_⟩; have := (hμ a' w' ⟨_, hJ⟩).2 _ hJ; rw [hms] at hlt; omega
  | exit id => exact ⟨s', hN', hq⟩
  | goto l => exact ⟨s', hN', hq⟩
  | ret => exact ⟨s', hN', hq⟩
  | panic ch => exact ⟨s', hN', hq⟩
  | outgrown => exact ⟨s', hN', hq⟩

/-! ### Results -/
def resK (Γ : Gam) (st : St) : List ResultVar → (List AV → Prop) → Prop
  | [], K => K []
  | .tmp t :: rs, K => resK Γ st rs fun l => K (st.tmps.getD t .junk :: l)
  | .cell x t :: rs, K => Z1k Γ st.h t (st.tmps.getD x .junk) fun v => resK Γ st rs fun l => K (v :: l)

def Z0a : List AV → AV
  | [v] => v
  | l => .tup l

theorem Z8p {P : Program} {t : TypeId} {v cv : Value} {ad : Addr} (hv : v = .pointer (some ad)) (h : (Instr.loadAt t v).run P w = .ok cv w) : (do loadVar t (← asAddr v) : Sem Value).run P w = .ok cv w := by
  subst hv
  simpa [Instr.loadAt, Instr.sureAddr, asAddr] using h

def Z0d (tmps : Array Value) : ResultVar → Sem Value
  | .tmp t => pure (tmps.getD t undef)
  | .cell a t => do loadVar t (← asAddr (tmps.getD a undef))

theorem Z2z (fn : Func) (tmps : Array Value) : results fn tmps = (fn.results.mapM (Z0d tmps) >>= fun vs => pure (if h : vs.size = 1 then vs[0] else .tuple vs)) := rfl

theorem Z3y {μ : Nat → Value} {ob : Nat → Option Nat} (hΓ : Zg E.P E.Γ) (R : RepH X I μ ob st.h w) (ht : ∀ i, i < st.tmps.length → VR st.h.length μ I w (st.tmps.getD i .junk) (a.tmps.getD i undef)) :
    ∀ (rs : List ResultVar) {K : List AV → Prop}, resK E.Γ st rs K → ∃ l cs, (rs.mapM (Z0d a.tmps)).run E.P w = .ok cs w ∧ l.length = cs.length ∧ (∀ i, i < l.length → VR st.h.length μ I w (l.getD i .junk) (cs.getD i undef)) ∧ K l
  | [], K, hk => ⟨[], [], by simp, rfl, by simp, hk⟩
  | .tmp t :: rs, K, hk => by
    obtain ⟨l, cs, h1, h2, h3, h4⟩ := Z3y hΓ R ht rs hk; refine ⟨_, a.tmps.getD t undef :: cs, by
      have h0 : (Z0d a.tmps (.tmp t)).run E.P w = .ok (a.tmps.getD t undef) w := rfl; simp only [List.mapM_cons, Sem.run_bind, h0, h1, Result.andThen]; rfl, by simp [h2], fun i hi => ?_, h4⟩
    cases i with
    | zero => exact VR.ev (a := a) R.laid ht (.tmp t)
    | succ i => simpa using h3 i (by simpa using hi)
  | .cell x t :: rs, K, hk => by
    have hx := VR.ev (a := a) R.laid ht (.tmp x); obtain ⟨v, cv, hr, hv, hK⟩ := Z9x (P := E.P) hΓ hx R.objs hk; obtain ⟨l, cs, h1, h2, h3, h4⟩ := Z3y hΓ R ht rs hK; have hp : ∃ ad, a.tmps.getD x undef = .pointer (some ad) := by
      simp only [Act.eval] at hr
      cases hh : a.tmps.getD x undef with
      | pointer p =>
        cases p with
        | some ad => exact ⟨ad, rfl⟩
        | none => rw [hh] at hr; simp [Instr.loadAt, Instr.sureAddr] at hr
      | _ => rw [hh] at hr; simp [Instr.loadAt, Instr.sureAddr] at hr
    obtain ⟨ad, had⟩ := hp; have hr2 : (Z0d a.tmps (.cell x t)).run E.P w = .ok cv w := Z8p had hr; refine ⟨_, cv :: cs, by simp only [List.mapM_cons, Sem.run_bind, hr2, h1, Result.andThen]; rfl, by simp [h2], fun i hi => ?_, h4⟩
    cases i with
    | zero => exact hv
    | succ i => simpa using h3 i (by simpa using hi)

end
end Go.AM
end

