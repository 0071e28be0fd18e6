/-
  Texts of this claim, joined.
-/
import Derived.Test.YtpljmccnfmkmfaaJ2bb9e99bf35e
import Derived.Shelf.Strings.Builder1

set_option linter.unusedSimpArgs false
namespace Go.AM
open Go.RowKit

section
variable {E : Env} {X : Ctx} {I : Nat → Prop} {μ : Nat → Value} {ob : Nat → Option Nat} {h : List AObj} {tm tm' : List AV} {wb w w' : World} {a : Act} {r : Option Nat} {K : List AV → Prop} {Q : Exit → Act → World → Prop}

theorem Z64 (hb : Below wb.heap.size wb w) : wb.grownBy w none := ⟨hb.os, hb.tape, hb.output, hb.size, fun k hk _ => hb.block k hk⟩
theorem Rep.above (R : Rep X I μ ob ⟨tm, h⟩ wb a) (hb : Below wb.heap.size wb w) : Rep X I μ ob ⟨tm, h⟩ w a := R.grow (Z64 hb) (fun _ h => h) (fun _ h => .inl h)

structure Bld (X : Ctx) (I : Nat → Prop) (μ : Nat → Value) (ob : Nat → Option Nat) (h : List AObj) (wb : World) (T e : TypeId) (s : Nat) (tm : List AV) (l : List UInt8) (w : World) (a : Act) : Prop where
  base : Rep X I μ ob ⟨tm, h⟩ wb a
  below : Below wb.heap.size wb w
  bld : Lib.IsBuilder T e wb.heap.size wb.heap.size (Lib.byteCells l) w
  ptr : a.tmps.getD s undef = .pointer (some ⟨wb.heap.size, 0, none⟩)

variable {T e : TypeId} {s : Nat} {l l' : List UInt8}

theorem Z7x (a : Act) {d s : Nat} (v : Value) (hd : d ≠ s) : (a.put (some d) v).tmps.getD s undef = a.tmps.getD s undef := by
  simp only [Act.put]; rw [Array.getD_eq_getD_getElem?, Array.getD_eq_getD_getElem?]; simp [Array.set!_eq_setIfInBounds, Array.getElem?_setIfInBounds, hd]

theorem Bld.put (B : Bld X I μ ob h wb T e s tm l w a) {v : AV} {cv : Value} (hv : VR h.length μ I w v cv) {d : Nat} (hd : d ≠ s) : Bld X I μ ob h wb T e s (putD tm (some d) v) l w (a.put (some d) cv) where
  base := B.base.put (hv.mono (Nat.le_refl _) (fun _ _ => rfl) (fun _ h => h) (fun g hg => (B.below.block g (B.base.imm g hg)).symm)) _
  below := B.below
  bld := B.bld
  ptr := by rw [Z7x _ _ hd]; exact B.ptr

theorem Bld.weak (B : Bld X I μ ob h wb T e s tm l w a) (hw : Z4h tm tm') : Bld X I μ ob h wb T e s tm' l w a where
  base := by
    obtain ⟨t1, t2⟩ := Z6y hw; refine { toRepH := B.base.toRepH, size := t1.trans B.base.size, marks := B.base.marks, tmps := fun i hi => ?_ }; rcases t2 i (by simp only at hi; omega) with h | h
    · simp only; rw [h]; exact .junk _
    · simp only; rw [h]; exact B.base.tmps i (by simp only at hi ⊢; omega)
  below := B.below
  bld := B.bld
  ptr := B.ptr

theorem Bld.rep (B : Bld X I μ ob h wb T e s tm l w a) : Rep X I μ ob ⟨tm, h⟩ w a := B.base.above B.below

def Z94 (o : Oper) : Bool := match o.op with
  | .move _ | .assign _ | .binOp _ _ _ _ _ | .fieldAddr _ _ _ | .indexAddr _ _ _ | .load _ _ => true
  | .call c => (match c.callee with | .builtin .len => true | _ => false)
  | _ => false

theorem Zfe (hΓ : Zo E.P E.Γ) (R : Rep X I μ ob ⟨tm, h⟩ w a) {o : Oper} (hs : Z94 o = true) {K : AV → Prop} (hk : Z9 E o.op h (ev tm) K) :
    ∃ v cv, (execOp a.eval o).run E.P w = .ok (.value cv) w ∧ VR h.length μ I w v cv ∧ K v := by
  have hev := R.evs; obtain ⟨dst, op, ty, pos, after, guard⟩ := o
  cases op with
  | move x => exact ⟨_, _, by simp [execOp], hev _, hk⟩
  | assign x => exact ⟨_, _, by simp [execOp], hev _, hk⟩
  | binOp op t x y u =>
    have hk : binA E.Γ op t (ev tm x) (ev tm y) K := hk; rcases Z7g hk with hk | hk
    · obtain ⟨v, cv, hr, hv, hK⟩ := Za0 (P := E.P) (w := w) hΓ x y (hev _) (hev _) hk
      exact ⟨v, cv, by simp only [execOp, Sem.run_bind] at hr ⊢; rw [hr]; rfl, hv, hK⟩
    · obtain ⟨v, cv, hr, hv, hK⟩ := Z9z (P := E.P) (w := w) hΓ x y (hev _) (hev _) hk
      exact ⟨v, cv, by simp only [execOp, Sem.run_bind] at hr ⊢; rw [hr]; rfl, hv, hK⟩
  | fieldAddr t x f =>
    obtain ⟨v, cv, hr, hv, hK⟩ := Zoa (P := E.P) (w := w) hΓ (hev _) hk; exact ⟨v, cv, by simp [execOp, hr], hv, hK⟩
  | indexAddr t x i =>
    obtain ⟨v, cv, hr, hv, hK⟩ := Zo6 (P := E.P) (w := w) hΓ (hev _) (hev _) R.objs hk; exact ⟨v, cv, by simp [execOp, hr], hv, hK⟩
  | load t x =>
    obtain ⟨v, cv, hr, hv, hK⟩ := Z9j (P := E.P) (w := w) hΓ (hev _) R.objs hk; exact ⟨v, cv, by simp [execOp, hr], hv, hK⟩
  | call c =>
    obtain ⟨callee, args, ats⟩ := c; have hk : Z6t E h ⟨callee, args, ats⟩ (ev tm) K := hk; unfold Z6t at hk
    cases callee with
    | builtin b =>
      cases b with
      | len =>
        simp only at hk
        split at hk
        · rename_i x t _ ha ht
          obtain ⟨y, rfl, rfl⟩ : ∃ y, args = #[y] ∧ ev tm y = x := by
            obtain ⟨l⟩ := args
            cases l with
            | nil => simp at ha
            | cons y l => cases l with
              | nil => exact ⟨y, rfl, by simpa using ha⟩
              | cons z l => simp at ha
          have ht : ats = #[t] := by simpa using congrArg List.toArray ht
          subst ht; obtain ⟨v, cv, hr, hv, hK⟩ := Zhj (P := E.P) (w := w) (ty := ty) hΓ (hev y) R.objs hk; exact ⟨v, cv, by simp [execOp, resolve, invoke, builtin, hr], hv, hK⟩
        · rename_i hb _; cases hb
        · rename_i hb _; cases hb
        · exact hk.elim
      | _ => simp [Z94] at hs
    | value f => simp [Z94] at hs
    | invoke r m => simp [Z94] at hs
  | _ => simp [Z94] at hs

def Zff (s : Nat) (o : Oper) : Bool := Z94 o && (o.guard.isNone && (match o.dst with | some d => !(Nat.beq d s) | none => false))

theorem Za9 (hΓ : Zo E.P E.Γ) {ops : Array Oper} {rest : List Nat} {os : List Oper} : ∀ (ls : List Oper) (k : Nat), (∀ j, j < ls.length → ls[j]? = ops[k + j]?) → ls.all (Zff s) = true → ∀ {tm : List AV} {a : Act},
    Bld X I μ ob h wb T e s tm l w a → lexK E os h ls tm K → (∀ tm' a', Bld X I μ ob h wb T e s tm' l w a' → a'.defers = a.defers → K tm' → wpOpsIn (Fw r) 0 E.P ops Q rest a' w) →
    wpOpsIn (Fw r) 0 E.P ops Q (List.range' k ls.length ++ rest) a w
  | [], k, _, _, tm, a, B, hk, hq => hq tm a B rfl hk
  | o :: ls, k, hl, hc, tm, a, B, hk, hq => by
    have h0 : ops[k]? = some o := by simpa using (hl 0 (by simp)).symm
    have hl' : ∀ j, j < ls.length → ls[j]? = ops[k + 1 + j]? := fun j hj => by have := hl (j + 1) (by simpa using hj); simpa [Nat.add_assoc, Nat.add_comm 1 j] using this
    simp only [List.all_cons, Bool.and_eq_true, Zff] at hc; obtain ⟨⟨h1, h2, h3⟩, hc⟩ := hc
    have h2 : o.guard = none := by cases hg : o.guard with
      | none => rfl
      | some x => rw [hg] at h2; cases h2
    have hk : Z9 E o.op h (ev tm) fun v => lexK E os h ls (putD tm o.dst v) K := by
      unfold lexK at hk; rw [h2] at hk; exact hk
    obtain ⟨v, cv, hr, hv, hK⟩ := Zfe hΓ B.rep h1 hk; simp only [List.length_cons, List.range'_succ, List.cons_append, wpOpsIn, h0]; rw [if_pos (by simp [Region.wanted, h2])]
    cases hd : o.dst with
    | none => rw [hd] at h3; cases h3
    | some d =>
      rw [hd] at h3 hK; have h3 : d ≠ s := fun e => by subst e; simp at h3
      refine Oper.wpIn_of (fun c hc => by rw [Z94, hc] at h1; cases h1) ?_; rw [hr]; show wpOpsIn _ _ _ _ _ _ (a.put o.dst cv) w; rw [hd]; exact Za9 hΓ ls (k + 1) hl' (by simpa [Zff] using hc) (B.put hv h3) hK fun tm' a' B' hd' hK' => hq tm' a' B' (hd'.trans (Zl _ _ _)) hK'

theorem Z59 (hΓ : Zo E.P E.Γ) {ops : Array Oper} {rest is : List Nat} (k n : Nat) (his : is = List.range' k n ++ rest) (hn : (ops.toList.drop k).length ≥ n) (hc : ((ops.toList.drop k).take n).all (Zff s) = true) (B : Bld X I μ ob h wb T e s tm l w a)
    (hk : lexK E ops.toList h ((ops.toList.drop k).take n) tm K) (hq : ∀ tm' a', Bld X I μ ob h wb T e s tm' l w a' → a'.defers = a.defers → K tm' → wpOpsIn (Fw r) 0 E.P ops Q rest a' w) : wpOpsIn (Fw r) 0 E.P ops Q is a w := by
  have hlen : ((ops.toList.drop k).take n).length = n := by rw [List.length_take]; omega
  have := Za9 (r := r) (Q := Q) (rest := rest) hΓ ((ops.toList.drop k).take n) k (fun j hj => by
    rw [hlen] at hj; rw [List.getElem?_take, if_pos hj, List.getElem?_drop, Array.getElem?_toList]) hc B hk hq
  rw [hlen] at this; rw [his]; exact this

/-! ### It is made, written, read -/
theorem Bld.start (R : Rep X I μ ob ⟨tm, h⟩ w a) (hs : s < tm.length) : Bld X I μ ob h w T e s (putD tm (some s) .junk) [] (w.alloc (.cells #[.pointer none, .slice none 0 0] T)) (a.put (some s) (.pointer (some ⟨w.heap.size, 0, none⟩))) where
  base := R.put (.junk _) _
  below := (Below.refl _ _).alloc (Nat.le_refl _) _
  bld := .inl ⟨Nat.le_refl _, .slice none 0 0, heap_alloc_new w _, ⟨by simp [Lib.byteCells], .inl ⟨rfl, rfl⟩⟩, by simp [Value.ownBlock]⟩
  ptr := by
    have hsz : s < a.tmps.size := by have := R.size; simp only at this; omega
    simp only [Act.put]; rw [Array.getD_eq_getD_getElem?]; simp [Array.set!_eq_setIfInBounds, Array.getElem?_setIfInBounds, hsz]

theorem AWp.bstart {E : Env} {r : Option Nat} {st : St} {Q : Exit → St → Prop} {id : Nat} {ty : TypeId} {pos : String} {after : Array Edge} {T e : TypeId} {s : Nat} {rest : Code} (hiz : (E.P.info? T).map (·.zero) = some (some (.agg #[.pointer none, .slice none 0 0]))) (hs : s < st.tmps.length)
    (hk : ∀ (X : Ctx) (I : Nat → Prop) (μ : Nat → Value) (ob : Nat → Option Nat) (wb w : World) (a : Act), E.fits X → Bld X I μ ob st.h wb T e s (putD st.tmps (some s) .junk) [] w a → rest.wpIn (Fw r) 0 E.P (fun e a' w' => ∃ st', Now X I st' w' a' ∧ Q e st') a w) :
    AWp E r (.seq (.region id #[⟨some s, .alloc T, ty, pos, after, none⟩] false) rest) Q st := fun X I w a hE hN => by
  obtain ⟨I', μ', ob', hI, R⟩ := hN; obtain ⟨i, hi, hz⟩ := Option.map_eq_some_iff.1 hiz; refine wpIn_seq (wpIn_region ?_); show wpOpsIn _ _ _ _ _ [0] a w; simp only [wpOpsIn, List.getElem?_toArray, List.getElem?_cons_zero]; rw [if_pos (by simp [Region.wanted])]; refine Oper.wpIn_of (by simp) ?_; have hrun : (execOp a.eval ⟨some s, .alloc T, ty, pos, after, none⟩).run E.P w = .ok (.value (.pointer (some ⟨w.heap.size, 0, none⟩))) (w.alloc (.cells #[.pointer none, .slice none 0 0] T)) := by
    simp [execOp, Instr.alloc, zeroValue, typeInfo, hi, hz, newVar, newRow, Value.cells]
  rw [hrun]; exact wpIn_mono (hk X I' μ' ob' w _ _ hE (Bld.start R hs)) fun e a' w' ⟨st', h1, h2⟩ => ⟨st', h1.trans hI, h2⟩

theorem Zf1 {ops : Array Oper} {rest : List Nat} {k t : Nat} {d : Nat} {fW : FuncId} {ats : Array TypeId} {ty : TypeId} {pos : String} {after : Array Edge} {u : List UInt8}
    (hop : ops[k]? = some ⟨some d, .call { callee := .value (.func fW), args := #[.tmp s, .tmp t], argTypes := ats }, ty, pos, after, none⟩) (hent : Z2l E.P fW)
    (HW : ∀ (B b : Nat) (bs : List Value) (z : ByteArray) (w : World), Lib.IsBuilder T e B b bs w → bs.length + z.size ≤ 140737488355328 → B ≤ w.heap.size →
      Calls E.P fW #[.pointer (some ⟨b, 0, none⟩), .string z] w fun x w' => x = .returned (.tuple #[.int .i64 z.size, .nilIface]) ∧ (Lib.BuilderAt T e B b (.pointer (some ⟨b, 0, none⟩)) (bs ++ Lib.strCells z) w' ∧ Below B w w'))
    (B : Bld X I μ ob h wb T e s tm l w a) (hd : d ≠ s) (ht : ev tm (.tmp t) = .p (.str u)) (hlen : l.length + u.length ≤ 140737488355328)
    (hq : ∀ a' w', Bld X I μ ob h wb T e s (putD tm (some d) .junk) (l ++ u) w' a' → a'.defers = a.defers → wpOpsIn (Fw r) 0 E.P ops Q rest a' w') : wpOpsIn (Fw r) 0 E.P ops Q (k :: rest) a w := by
  have hv := B.rep.evs (.tmp t); rw [ht] at hv; obtain ⟨z, hz, hzu⟩ : ∃ z : ByteArray, a.eval (.tmp t) = .string z ∧ z.data.toList = u := by
    generalize a.eval (.tmp t) = q at hv
    cases hv with | p _ _ hp => obtain ⟨z, rfl, h⟩ := hp.str_inv; exact ⟨z, rfl, h⟩
  have hp : a.eval (.tmp s) = .pointer (some ⟨wb.heap.size, 0, none⟩) := B.ptr; have hsz : z.size = u.length := by rw [← hzu, ← Lib.strCells_length, Lib.strCells, List.length_map]
  have hbl : (Lib.byteCells l).length = l.length := Lib.byteCells_length l; have hcall := HW wb.heap.size wb.heap.size (Lib.byteCells l) z w B.bld (by omega) B.below.size; simp only [wpOpsIn, hop]; rw [if_pos (by simp [Region.wanted])]; refine Oper.wpIn_of (by simp) ?_; have hrun : (execOp a.eval ⟨some d, .call { callee := .value (.func fW), args := #[.tmp s, .tmp t], argTypes := ats }, ty, pos, after, none⟩).run E.P w = (callFunc fW #[.pointer (some ⟨wb.heap.size, 0, none⟩), .string z]).run E.P w := by
    have hf : a.eval (.func fW) = .func (.func fW) #[] #[] := rfl; simp [execOp, resolve, hf, Deferred.ofValue, invoke, hp, hz]
  rw [hrun, hent]; refine ⟨fun h => by simp [Fw, Fence.wide] at h, ?_⟩; have hc2 := (callsIn_wide (n := 0)).2 hcall; refine ⟨trivial, fun fs hroom => ?_⟩; obtain ⟨x, w', fr, ⟨rfl, hB, hbel⟩, hcom⟩ := hc2.2 fs (room_wide _); refine ⟨_, w', fr, ?_, hcom⟩; refine hq _ w' ⟨B.base.put (.junk _) _, B.below.trans hbel, ?_, by rw [Z7x _ _ hd]; exact B.ptr⟩ (Zl _ _ _); rw [Lib.strCells_eq, hzu] at hB; have : Lib.byteCells (l ++ u) = Lib.byteCells l ++ Lib.byteCells u := by simp [Lib.byteCells]
  rw [this]; exact .inr hB

theorem Zc5 {ops : Array Oper} {rest : List Nat} {k : Nat} {d : Nat} {fS : FuncId} {ats : Array TypeId} {ty : TypeId} {pos : String} {after : Array Edge}
    (hop : ops[k]? = some ⟨some d, .call { callee := .value (.func fS), args := #[.tmp s], argTypes := ats }, ty, pos, after, none⟩) (hent : Z2l E.P fS)
    (HS : ∀ (B b : Nat) (l : List UInt8) (w : World), Lib.IsBuilder T e B b (Lib.byteCells l) w → B ≤ w.heap.size →
      Calls E.P fS #[.pointer (some ⟨b, 0, none⟩)] w fun x w' => x = .returned (.string ⟨l.toArray⟩) ∧ Below B w w')
    (B : Bld X I μ ob h wb T e s tm l w a)
    (hq : ∀ a' w', Rep X I μ ob ⟨putD tm (some d) (.p (.str l)), h⟩ w' a' → a'.defers = a.defers → wpOpsIn (Fw r) 0 E.P ops Q rest a' w') : wpOpsIn (Fw r) 0 E.P ops Q (k :: rest) a w := by
  have hp : a.eval (.tmp s) = .pointer (some ⟨wb.heap.size, 0, none⟩) := B.ptr; have hcall := HS wb.heap.size wb.heap.size l w B.bld B.below.size; simp only [wpOpsIn, hop]; rw [if_pos (by simp [Region.wanted])]; refine Oper.wpIn_of (by simp) ?_; have hrun : (execOp a.eval ⟨some d, .call { callee := .value (.func fS), args := #[.tmp s], argTypes := ats }, ty, pos, after, none⟩).run E.P w = (callFunc fS #[.pointer (some ⟨wb.heap.size, 0, none⟩)]).run E.P w := by
    have hf : a.eval (.func fS) = .func (.func fS) #[] #[] := rfl; simp [execOp, resolve, hf, Deferred.ofValue, invoke, hp]
  rw [hrun, hent]; refine ⟨fun h => by simp [Fw, Fence.wide] at h, ?_⟩; have hc2 := (callsIn_wide (n := 0)).2 hcall; refine ⟨trivial, fun fs hroom => ?_⟩; obtain ⟨x, w', fr, ⟨rfl, hbel⟩, hcom⟩ := hc2.2 fs (room_wide _); refine ⟨_, w', fr, ?_, hcom⟩; refine hq _ w' ?_ (Zl _ _ _); have R := B.base.above (B.below.trans hbel); exact R.put (.p _ _ (by simpa using PR.str (I := I) (w := w') ⟨l.toArray⟩)) _

theorem Zf7 {st : St} {KS : St → Prop} (hΓ : Zo E.P E.Γ) (hE : E.fits X) {ops : Array Oper} {is : List Nat} (k : Nat) (his : is = List.range' k (ops.toList.drop k).length) (R : Rep X I μ ob st w a) (hk : Z12 E ops.toList (ops.toList.drop k) st KS)
    (hQ : ∀ st' a' w', Now X I st' w' a' → KS st' → Q .normal a' w') : wpOpsIn (Fw r) 0 E.P ops Q is a w := by
  rw [his]; exact Z4n (K := KS) hΓ hE _ k (fun j => by rw [List.getElem?_drop, Array.getElem?_toList]) ⟨I, μ, ob, fun _ h => h, R⟩ rfl hk fun a' w' ⟨st', h1, _, h3⟩ => hQ st' a' w' h1 h3
end
end Go.AM
