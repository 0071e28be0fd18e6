/-
  AM 31: a strings.Builder of the function's own, beside the abstract heap: what it writes lies above all that was there when it was made.
  AM 34: a function that gives a row of its own, which may be written.
  AM 35: a nobody's list taken as a pure one; the lowest bit.
  AM 33: a loop whose rounds make things that are forgotten at their end.
-/
import Derived.Test.YtoajffhlbogdaaaGreatJ79731265f946
import Derived.Shelf.Strings.Builder1
import Derived.Test.YtoajffhlbogdaaaGreatJ101667ac9abf

section
namespace Go.AM
open Go.RowKit
set_option linter.unusedSimpArgs false

section
variable {E : Env} {X : Ctx} {I : Nat → Prop} {μ : Nat → Value} {ob : Nat → Option Nat} {h : List AObj} {tm tm' : List AV} {wb w w' : World} {a : Act} {r : Option Nat} {K : List AV → Prop} {Q : Exit → Act → World → Prop}

theorem grown_of_below (hb : Below wb.heap.size wb w) : wb.grownBy w none := ⟨hb.os, hb.tape, hb.output, hb.size, fun k hk _ => hb.block k hk⟩
theorem Rep.above (R : Rep X I μ ob ⟨tm, h⟩ wb a) (hb : Below wb.heap.size wb w) : Rep X I μ ob ⟨tm, h⟩ w a := R.grow (grown_of_below hb) (fun _ h => h) (fun _ h => .inl h)

/-- The state beside a builder: wb is the world in which it was made; s the temporary that points at it; l what it holds. -/
structure Bld (X : Ctx) (I : Nat → Prop) (μ : Nat → Value) (ob : Nat → Option Nat) (h : List AObj) (wb : World) (T e : TypeId) (s : Nat) (tm : List AV) (l : List UInt8) (w : World) (a : Act) : Prop where
  base : Rep X I μ ob ⟨tm, h⟩ wb a
  below : Below wb.heap.size wb w
  bld : Lib.IsBuilder T e wb.heap.size wb.heap.size (Lib.byteCells l) w
  ptr : a.tmps.getD s undef = .pointer (some ⟨wb.heap.size, 0, none⟩)

variable {T e : TypeId} {s : Nat} {l l' : List UInt8}

theorem put_other (a : Act) {d s : Nat} (v : Value) (hd : d ≠ s) : (a.put (some d) v).tmps.getD s undef = a.tmps.getD s undef := by
  simp only [Act.put]
  rw [Array.getD_eq_getD_getElem?, Array.getD_eq_getD_getElem?]
  simp [Array.set!_eq_setIfInBounds, Array.getElem?_setIfInBounds, hd]

theorem Bld.put (B : Bld X I μ ob h wb T e s tm l w a) {v : AV} {cv : Value} (hv : VR h.length μ I w v cv) {d : Nat} (hd : d ≠ s) : Bld X I μ ob h wb T e s (putD tm (some d) v) l w (a.put (some d) cv) where
  base := B.base.put (hv.mono (Nat.le_refl _) (fun _ _ => rfl) (fun _ h => h) (fun g hg => (B.below.block g (B.base.imm g hg)).symm)) _
  below := B.below
  bld := B.bld
  ptr := by rw [put_other _ _ hd]; exact B.ptr

theorem Bld.weak (B : Bld X I μ ob h wb T e s tm l w a) (hw : weakT tm tm') : Bld X I μ ob h wb T e s tm' l w a where
  base := by
    obtain ⟨t1, t2⟩ := weakT_ok hw
    refine { toRepH := B.base.toRepH, size := t1.trans B.base.size, marks := B.base.marks, tmps := fun i hi => ?_ }
    rcases t2 i (by simp only at hi; omega) with h | h
    · simp only; rw [h]; exact .junk _
    · simp only; rw [h]; exact B.base.tmps i (by simp only at hi ⊢; omega)
  below := B.below
  bld := B.bld
  ptr := B.ptr

theorem Bld.rep (B : Bld X I μ ob h wb T e s tm l w a) : Rep X I μ ob ⟨tm, h⟩ w a := B.base.above B.below

/-- Operations whose run leaves the world as it is. -/
def simpO (o : Oper) : Bool := match o.op with
  | .move _ | .assign _ | .binOp _ _ _ _ _ | .fieldAddr _ _ _ | .indexAddr _ _ _ | .load _ _ => true
  | .call c => (match c.callee with | .builtin .len => true | _ => false)
  | _ => false

theorem simp_run (hΓ : GamOK E.P E.Γ) (R : Rep X I μ ob ⟨tm, h⟩ w a) {o : Oper} (hs : simpO o = true) {K : AV → Prop} (hk : pureK E o.op h (ev tm) K) :
    ∃ v cv, (execOp a.eval o).run E.P w = .ok (.value cv) w ∧ VR h.length μ I w v cv ∧ K v := by
  have hev := R.evs
  obtain ⟨dst, op, ty, pos, after, guard⟩ := o
  cases op with
  | move x => exact ⟨_, _, by simp [execOp], hev _, hk⟩
  | assign x => exact ⟨_, _, by simp [execOp], hev _, hk⟩
  | binOp op t x y u =>
    have hk : binA E.Γ op t (ev tm x) (ev tm y) K := hk
    rcases binA_or hk with hk | hk
    · obtain ⟨v, cv, hr, hv, hK⟩ := aggK_ok (P := E.P) (w := w) hΓ x y (hev _) (hev _) hk
      exact ⟨v, cv, by simp only [execOp, Sem.run_bind] at hr ⊢; rw [hr]; rfl, hv, hK⟩
    · obtain ⟨v, cv, hr, hv, hK⟩ := binK_ok (P := E.P) (w := w) hΓ x y (hev _) (hev _) hk
      exact ⟨v, cv, by simp only [execOp, Sem.run_bind] at hr ⊢; rw [hr]; rfl, hv, hK⟩
  | fieldAddr t x f =>
    obtain ⟨v, cv, hr, hv, hK⟩ := fa_ok (P := E.P) (w := w) hΓ (hev _) hk
    exact ⟨v, cv, by simp [execOp, hr], hv, hK⟩
  | indexAddr t x i =>
    obtain ⟨v, cv, hr, hv, hK⟩ := ia_ok (P := E.P) (w := w) hΓ (hev _) (hev _) R.objs hk
    exact ⟨v, cv, by simp [execOp, hr], hv, hK⟩
  | load t x =>
    obtain ⟨v, cv, hr, hv, hK⟩ := load_ok (P := E.P) (w := w) hΓ (hev _) R.objs hk
    exact ⟨v, cv, by simp [execOp, hr], hv, hK⟩
  | call c =>
    obtain ⟨callee, args, ats⟩ := c
    have hk : callPK E h ⟨callee, args, ats⟩ (ev tm) K := hk
    unfold callPK at hk
    cases callee with
    | builtin b =>
      cases b with
      | len =>
        simp only at hk
        split at hk
        · rename_i x t _ ha ht
          obtain ⟨y, rfl, rfl⟩ : ∃ y, args = #[y] ∧ ev tm y = x := by
            obtain ⟨l⟩ := args
            cases l with
            | nil => simp at ha
            | cons y l => cases l with
              | nil => exact ⟨y, rfl, by simpa using ha⟩
              | cons z l => simp at ha
          have ht : ats = #[t] := by simpa using congrArg List.toArray ht
          subst ht
          obtain ⟨v, cv, hr, hv, hK⟩ := len_ok (P := E.P) (w := w) (ty := ty) hΓ (hev y) R.objs hk
          exact ⟨v, cv, by simp [execOp, resolve, invoke, builtin, hr], hv, hK⟩
        · rename_i hb _; cases hb
        · exact hk.elim
      | _ => simp [simpO] at hs
    | value f => simp [simpO] at hs
    | invoke r m => simp [simpO] at hs
  | _ => simp [simpO] at hs

/-- Such an operation that is always carried out, and doesn't write the builder's temporary. -/
def simpC (s : Nat) (o : Oper) : Bool := simpO o && (o.guard.isNone && (match o.dst with | some d => !(Nat.beq d s) | none => false))

theorem simpL_ok (hΓ : GamOK E.P E.Γ) {ops : Array Oper} {rest : List Nat} {os : List Oper} : ∀ (ls : List Oper) (k : Nat), (∀ j, j < ls.length → ls[j]? = ops[k + j]?) → ls.all (simpC s) = true → ∀ {tm : List AV} {a : Act},
    Bld X I μ ob h wb T e s tm l w a → lexK E os h ls tm K → (∀ tm' a', Bld X I μ ob h wb T e s tm' l w a' → a'.defers = a.defers → K tm' → wpOpsIn (Fw r) 0 E.P ops Q rest a' w) →
    wpOpsIn (Fw r) 0 E.P ops Q (List.range' k ls.length ++ rest) a w
  | [], k, _, _, tm, a, B, hk, hq => hq tm a B rfl hk
  | o :: ls, k, hl, hc, tm, a, B, hk, hq => by
    have h0 : ops[k]? = some o := by simpa using (hl 0 (by simp)).symm
    have hl' : ∀ j, j < ls.length → ls[j]? = ops[k + 1 + j]? := fun j hj => by have := hl (j + 1) (by simpa using hj); simpa [Nat.add_assoc, Nat.add_comm 1 j] using this
    simp only [List.all_cons, Bool.and_eq_true, simpC] at hc
    obtain ⟨⟨h1, h2, h3⟩, hc⟩ := hc
    have h2 : o.guard = none := by cases hg : o.guard with
      | none => rfl
      | some x => rw [hg] at h2; cases h2
    have hk : pureK E o.op h (ev tm) fun v => lexK E os h ls (putD tm o.dst v) K := by
      unfold lexK at hk
      rw [h2] at hk
      exact hk
    obtain ⟨v, cv, hr, hv, hK⟩ := simp_run hΓ B.rep h1 hk
    simp only [List.length_cons, List.range'_succ, List.cons_append, wpOpsIn, h0]
    rw [if_pos (by simp [Region.wanted, h2])]
    cases hd : o.dst with
    | none => rw [hd] at h3; cases h3
    | some d =>
      rw [hd] at h3 hK
      have h3 : d ≠ s := fun e => by subst e; simp at h3
      refine Oper.wpIn_of (fun c hc => by rw [simpO, hc] at h1; cases h1) ?_
      rw [hr]
      show wpOpsIn _ _ _ _ _ _ (a.put o.dst cv) w
      rw [hd]
      exact simpL_ok hΓ ls (k + 1) hl' (by simpa [simpC] using hc) (B.put hv h3) hK fun tm' a' B' hd' hK' => hq tm' a' B' (hd'.trans (put_defers _ _ _)) hK'

theorem simp_at (hΓ : GamOK E.P E.Γ) {ops : Array Oper} {rest is : List Nat} (k n : Nat) (his : is = List.range' k n ++ rest) (hn : (ops.toList.drop k).length ≥ n) (hc : ((ops.toList.drop k).take n).all (simpC s) = true) (B : Bld X I μ ob h wb T e s tm l w a)
    (hk : lexK E ops.toList h ((ops.toList.drop k).take n) tm K) (hq : ∀ tm' a', Bld X I μ ob h wb T e s tm' l w a' → a'.defers = a.defers → K tm' → wpOpsIn (Fw r) 0 E.P ops Q rest a' w) : wpOpsIn (Fw r) 0 E.P ops Q is a w := by
  have hlen : ((ops.toList.drop k).take n).length = n := by rw [List.length_take]; omega
  have := simpL_ok (r := r) (Q := Q) (rest := rest) hΓ ((ops.toList.drop k).take n) k (fun j hj => by
    rw [hlen] at hj
    rw [List.getElem?_take, if_pos hj, List.getElem?_drop, Array.getElem?_toList]) hc B hk hq
  rw [hlen] at this
  rw [his]; exact this

/-! ### It is made, written, read -/
theorem Bld.start (R : Rep X I μ ob ⟨tm, h⟩ w a) (hs : s < tm.length) : Bld X I μ ob h w T e s (putD tm (some s) .junk) [] (w.alloc (.cells #[.pointer none, .slice none 0 0] T)) (a.put (some s) (.pointer (some ⟨w.heap.size, 0, none⟩))) where
  base := R.put (.junk _) _
  below := (Below.refl _ _).alloc (Nat.le_refl _) _
  bld := .inl ⟨Nat.le_refl _, .slice none 0 0, heap_alloc_new w _, ⟨by simp [Lib.byteCells], .inl ⟨rfl, rfl⟩⟩, by simp [Value.ownBlock]⟩
  ptr := by
    have hsz : s < a.tmps.size := by have := R.size; simp only at this; omega
    simp only [Act.put]
    rw [Array.getD_eq_getD_getElem?]
    simp [Array.set!_eq_setIfInBounds, Array.getElem?_setIfInBounds, hsz]

theorem AWp.bstart {E : Env} {r : Option Nat} {st : St} {Q : Exit → St → Prop} {id : Nat} {ty : TypeId} {pos : String} {after : Array Edge} {T e : TypeId} {s : Nat} {rest : Code} (hiz : (E.P.info? T).map (·.zero) = some (some (.agg #[.pointer none, .slice none 0 0]))) (hs : s < st.tmps.length)
    (hk : ∀ (X : Ctx) (I : Nat → Prop) (μ : Nat → Value) (ob : Nat → Option Nat) (wb w : World) (a : Act), E.fits X → Bld X I μ ob st.h wb T e s (putD st.tmps (some s) .junk) [] w a → rest.wpIn (Fw r) 0 E.P (fun e a' w' => ∃ st', Now X I st' w' a' ∧ Q e st') a w) :
    AWp E r (.seq (.region id #[⟨some s, .alloc T, ty, pos, after, none⟩] false) rest) Q st := fun X I w a hE hN => by
  obtain ⟨I', μ', ob', hI, R⟩ := hN
  obtain ⟨i, hi, hz⟩ := Option.map_eq_some_iff.1 hiz
  refine wpIn_seq (wpIn_region ?_)
  show wpOpsIn _ _ _ _ _ [0] a w
  simp only [wpOpsIn, List.getElem?_toArray, List.getElem?_cons_zero]
  rw [if_pos (by simp [Region.wanted])]
  refine Oper.wpIn_of (by simp) ?_
  have hrun : (execOp a.eval ⟨some s, .alloc T, ty, pos, after, none⟩).run E.P w = .ok (.value (.pointer (some ⟨w.heap.size, 0, none⟩))) (w.alloc (.cells #[.pointer none, .slice none 0 0] T)) := by
    simp [execOp, Instr.alloc, zeroValue, typeInfo, hi, hz, newVar, newRow, Value.cells]
  rw [hrun]
  exact wpIn_mono (hk X I' μ' ob' w _ _ hE (Bld.start R hs)) fun e a' w' ⟨st', h1, h2⟩ => ⟨st', h1.trans hI, h2⟩

theorem write_ok {ops : Array Oper} {rest : List Nat} {k t : Nat} {d : Nat} {fW : FuncId} {ats : Array TypeId} {ty : TypeId} {pos : String} {after : Array Edge} {u : List UInt8}
    (hop : ops[k]? = some ⟨some d, .call { callee := .value (.func fW), args := #[.tmp s, .tmp t], argTypes := ats }, ty, pos, after, none⟩) (hent : EntersF E.P fW)
    (HW : ∀ (B b : Nat) (bs : List Value) (z : ByteArray) (w : World), Lib.IsBuilder T e B b bs w → bs.length + z.size ≤ 140737488355328 → B ≤ w.heap.size →
      Calls E.P fW #[.pointer (some ⟨b, 0, none⟩), .string z] w fun x w' => x = .returned (.tuple #[.int .i64 z.size, .nilIface]) ∧ (Lib.BuilderAt T e B b (.pointer (some ⟨b, 0, none⟩)) (bs ++ Lib.strCells z) w' ∧ Below B w w'))
    (B : Bld X I μ ob h wb T e s tm l w a) (hd : d ≠ s) (ht : ev tm (.tmp t) = .p (.str u)) (hlen : l.length + u.length ≤ 140737488355328)
    (hq : ∀ a' w', Bld X I μ ob h wb T e s (putD tm (some d) .junk) (l ++ u) w' a' → a'.defers = a.defers → wpOpsIn (Fw r) 0 E.P ops Q rest a' w') : wpOpsIn (Fw r) 0 E.P ops Q (k :: rest) a w := by
  have hv := B.rep.evs (.tmp t)
  rw [ht] at hv
  obtain ⟨z, hz, hzu⟩ : ∃ z : ByteArray, a.eval (.tmp t) = .string z ∧ z.data.toList = u := by
    generalize a.eval (.tmp t) = q at hv
    cases hv with | p _ _ hp => obtain ⟨z, rfl, h⟩ := hp.str_inv; exact ⟨z, rfl, h⟩
  have hp : a.eval (.tmp s) = .pointer (some ⟨wb.heap.size, 0, none⟩) := B.ptr
  have hsz : z.size = u.length := by rw [← hzu, ← Lib.strCells_length, Lib.strCells, List.length_map]
  have hbl : (Lib.byteCells l).length = l.length := Lib.byteCells_length l
  have hcall := HW wb.heap.size wb.heap.size (Lib.byteCells l) z w B.bld (by omega) B.below.size
  simp only [wpOpsIn, hop]
  rw [if_pos (by simp [Region.wanted])]
  refine Oper.wpIn_of (by simp) ?_
  have hrun : (execOp a.eval ⟨some d, .call { callee := .value (.func fW), args := #[.tmp s, .tmp t], argTypes := ats }, ty, pos, after, none⟩).run E.P w = (callFunc fW #[.pointer (some ⟨wb.heap.size, 0, none⟩), .string z]).run E.P w := by
    have hf : a.eval (.func fW) = .func (.func fW) #[] #[] := rfl
    simp [execOp, resolve, hf, Deferred.ofValue, invoke, hp, hz]
  rw [hrun, hent]
  refine ⟨fun h => by simp [Fw, Fence.wide] at h, ?_⟩
  have hc2 := (callsIn_wide (n := 0)).2 hcall
  refine ⟨trivial, fun fs hroom => ?_⟩
  obtain ⟨x, w', fr, ⟨rfl, hB, hbel⟩, hcom⟩ := hc2.2 fs (room_wide _)
  refine ⟨_, w', fr, ?_, hcom⟩
  refine hq _ w' ⟨B.base.put (.junk _) _, B.below.trans hbel, ?_, by rw [put_other _ _ hd]; exact B.ptr⟩ (put_defers _ _ _)
  rw [Lib.strCells_eq, hzu] at hB
  have : Lib.byteCells (l ++ u) = Lib.byteCells l ++ Lib.byteCells u := by simp [Lib.byteCells]
  rw [this]
  exact .inr hB

theorem string_ok {ops : Array Oper} {rest : List Nat} {k : Nat} {d : Nat} {fS : FuncId} {ats : Array TypeId} {ty : TypeId} {pos : String} {after : Array Edge}
    (hop : ops[k]? = some ⟨some d, .call { callee := .value (.func fS), args := #[.tmp s], argTypes := ats }, ty, pos, after, none⟩) (hent : EntersF E.P fS)
    (HS : ∀ (B b : Nat) (l : List UInt8) (w : World), Lib.IsBuilder T e B b (Lib.byteCells l) w → B ≤ w.heap.size →
      Calls E.P fS #[.pointer (some ⟨b, 0, none⟩)] w fun x w' => x = .returned (.string ⟨l.toArray⟩) ∧ Below B w w')
    (B : Bld X I μ ob h wb T e s tm l w a)
    (hq : ∀ a' w', Rep X I μ ob ⟨putD tm (some d) (.p (.str l)), h⟩ w' a' → a'.defers = a.defers → wpOpsIn (Fw r) 0 E.P ops Q rest a' w') : wpOpsIn (Fw r) 0 E.P ops Q (k :: rest) a w := by
  have hp : a.eval (.tmp s) = .pointer (some ⟨wb.heap.size, 0, none⟩) := B.ptr
  have hcall := HS wb.heap.size wb.heap.size l w B.bld B.below.size
  simp only [wpOpsIn, hop]
  rw [if_pos (by simp [Region.wanted])]
  refine Oper.wpIn_of (by simp) ?_
  have hrun : (execOp a.eval ⟨some d, .call { callee := .value (.func fS), args := #[.tmp s], argTypes := ats }, ty, pos, after, none⟩).run E.P w = (callFunc fS #[.pointer (some ⟨wb.heap.size, 0, none⟩)]).run E.P w := by
    have hf : a.eval (.func fS) = .func (.func fS) #[] #[] := rfl
    simp [execOp, resolve, hf, Deferred.ofValue, invoke, hp]
  rw [hrun, hent]
  refine ⟨fun h => by simp [Fw, Fence.wide] at h, ?_⟩
  have hc2 := (callsIn_wide (n := 0)).2 hcall
  refine ⟨trivial, fun fs hroom => ?_⟩
  obtain ⟨x, w', fr, ⟨rfl, hbel⟩, hcom⟩ := hc2.2 fs (room_wide _)
  refine ⟨_, w', fr, ?_, hcom⟩
  refine hq _ w' ?_ (put_defers _ _ _)
  have R := B.base.above (B.below.trans hbel)
  exact R.put (.p _ _ (by simpa using PR.str (I := I) (w := w') ⟨l.toArray⟩)) _

/-- The rest of a statement, in the layer's own way. -/
theorem steps_at {st : St} {KS : St → Prop} (hΓ : GamOK E.P E.Γ) (hE : E.fits X) {ops : Array Oper} {is : List Nat} (k : Nat) (his : is = List.range' k (ops.toList.drop k).length) (R : Rep X I μ ob st w a) (hk : stepsK E ops.toList (ops.toList.drop k) st KS)
    (hQ : ∀ st' a' w', Now X I st' w' a' → KS st' → Q .normal a' w') : wpOpsIn (Fw r) 0 E.P ops Q is a w := by
  rw [his]
  exact steps_ok (K := KS) hΓ hE _ k (fun j => by rw [List.getElem?_drop, Array.getElem?_toList]) ⟨I, μ, ob, fun _ h => h, R⟩ rfl hk fun a' w' ⟨st', h1, _, h3⟩ => hQ st' a' w' h1 h3
end
end Go.AM
end

section
namespace Go.AM
open Go.RowKit

def PRowO (P : Program) (f : FuncId) (args : List PV) (E : TypeId) (s : Nat) (xs : List PV) : Prop :=
  AC P f (args.map .p) [] [] (fun v h' => ∃ b, v = .own b xs.length ∧ h'[b]? = some (.row E s xs .own))

theorem PRowO.row {P : Program} {f : FuncId} {args : List PV} {E : TypeId} {s : Nat} {xs : List PV} (h : PRowO P f args E s xs) : PRow P f args E s xs :=
  AC.monoR h fun _ _ ⟨b, h1, h2⟩ => ⟨b, .own, h1, h2, by decide⟩
theorem PFn.of_rowO {P : Program} {f : FuncId} {args xs : List PV} {E : TypeId} {s : Nat} (hf : PRowO P f args E s xs) : PFn P f args [.sl xs] := .of_row hf.row

theorem AC.of_rowO {P : Program} {h : List AObj} {f : FuncId} {args : List AV} {pargs xs : List PV} {E : TypeId} {s : Nat} (hf : PRowO P f pargs E s xs) (hp : AV.pures args = some pargs ∨ AV.purL [] args = some pargs) :
    AC P f args h [] (fun v h' => v = .own h.length xs.length ∧ h' = h ++ [.row E s xs .own]) := by
  refine ⟨hf.1, fun X I μ ob w cargs R hlen hargs _ => ?_⟩
  have key : args.length = pargs.length ∧ ∀ i, i < args.length → PR I w (pargs.getD i default) (cargs.getD i undef) := by
    rcases hp with hp | hp
    · obtain ⟨e1, e2⟩ := AV.pures_get hp
      exact ⟨e1, fun i hi => (hargs i hi).pure1 (e2 i hi)⟩
    · obtain ⟨e1, e2⟩ := AV.purL_get hp
      refine ⟨e1, fun i hi => ?_⟩
      have := (hargs i hi).pur (h := []) (ob := fun _ => none) (fun b o hb => by simp at hb) (e2 i hi)
      exact this.mono (fun g hg => hg.elim id (fun ⟨b, hb⟩ => by cases hb)) (fun _ _ => rfl)
  let X0 : Ctx := { B0 := w.heap.size, w0 := w, I0 := I, μ0 := fun _ => undef, n0 := 0, ks := [], fz := fun _ => False, w1 := w }
  have R0 : RepH X0 I (fun _ => undef) (fun _ => none) [] w := {
      below := Below.refl _ _, base := Nat.le_refl _, imm := R.imm, ctx := fun _ h => h, frz := fun _ h => h.elim, inew := fun _ h => .inl h, may := fun _ _ => rfl, names := Nat.zero_le _
      own := fun b g h => (by cases h), sep := fun b b' g h => (by cases h), past := fun _ _ => rfl, objs := fun b o h => (by simp at h) }
  refine (hf.2 X0 I _ _ w cargs R0 (by simp; omega) (fun i hi => by
    rw [List.length_map] at hi
    rw [getD_map_p _ _ hi]; exact .p _ _ (key.2 i (by omega))) (by simp)).mono ?_
  rintro e w' ⟨cv, v, h', I', μ', ob', rfl, R', hv, hI, _, _, hinew, hobn, _, b, rfl, hrow⟩
  have hg : w.grownBy w' none := ⟨R'.below.os, R'.below.tape, R'.below.output, R'.below.size, fun k hk _ => R'.below.block k hk⟩
  have hI2 : ∀ g, I' g → I g ∨ (w.heap.size ≤ g ∧ g < w'.heap.size) := fun g hg => (hinew g hg).elim .inl (fun h => h.elim (fun ⟨b, hb⟩ => by cases hb) (fun h => .inr ⟨h, R'.imm g hg⟩))
  obtain ⟨a, c, rfl, hbn, hbm⟩ := hv.own_inv
  have hobj := R'.objs b _ hrow
  have hfr : ∀ k, ob' b = some k → X.mine k ∧ k < w'.heap.size ∧ ¬ I' k ∧ ∀ c, ob c ≠ some k := fun k hk => by
    have h1 := R'.own b k hk
    have h2 : w.heap.size ≤ k := (hobn b k hk).elim (fun ⟨c, hc⟩ => by cases hc) id
    exact ⟨R.fresh h2, h1.2.2, h1.1, fun c hc => by have := (R.own c k hc).2.2; omega⟩
  have R1 := R.grow hg hI hI2
  have R2 : RepH X I' (upd μ h.length (.slice a xs.length c)) (upd ob h.length (ob' b)) (h ++ [.row E s xs .own]) w' := by
    refine R1.nameOld hfr ⟨hobj.1, ?_⟩
    rcases hobj.2 with ⟨g, hg, hin⟩ | ⟨h0, _⟩
    · left
      refine ⟨g, by rw [upd_same]; exact hg, ?_⟩
      rw [upd_same, ← hbm]
      exact hin
    · cases h0
  refine ⟨_, .own h.length xs.length, _, I', _, _, rfl, R2, .own _ _ _ _ (by simp) (upd_same _ _ _), hI, fun c hc _ => upd_other _ _ (by omega), by simp, fun g hg => (hI2 g hg).imp id (fun h => .inr h.1), fun c g hc => ?_, fun g hlt _ => hg.block g hlt (by simp), rfl, rfl⟩
  by_cases e : c = h.length
  · subst e
    rw [upd_same] at hc
    exact .inr ((hobn b g hc).elim (fun ⟨c, hc⟩ => by cases hc) id)
  · rw [upd_other _ _ e] at hc; exact .inl ⟨c, hc⟩

/-- What lies between two statements, said once. -/
theorem AWp.seqM {E : Env} {r : Option Nat} {Q : Exit → St → Prop} {st : St} {x y : Code} {α : Type} (fr : α → St) (Inv : α → Prop) (h1 : AWp E r x (fun e st => e = .normal ∧ ∃ a, Weak st (fr a) ∧ Inv a) st)
    (h2 : ∀ a, Inv a → AWp E r y Q (fr a)) : AWp E r (.seq x y) Q st :=
  AWp.seq (h1.mono fun e st ⟨he, a, hw, hi⟩ => by subst he; exact AWp.weak hw (h2 a hi))
end Go.AM
end

section
namespace Go.AM
open Go.RowKit

/-- A nobody's list is a pure one. -/
theorem AWp.fullP {E : Env} {r : Option Nat} {Q : Exit → St → Prop} {c : Code} {tm : List AV} {h : List AObj} {l : List PV} (i : Nat) (hi : tm.getD i .junk = .full l) (hw : AWp E r c Q ⟨tm.set i (.p (.sl l)), h⟩) : AWp E r c Q ⟨tm, h⟩ := by
  intro X I w a hE hN
  obtain ⟨I', μ', ob', hI, R⟩ := hN
  refine hw X I w a hE ⟨I', μ', ob', hI, { toRepH := R.toRepH, marks := R.marks, size := (by simpa using R.size), tmps := ?_ }⟩
  intro j hj
  have hj' : j < tm.length := by simpa using hj
  have h1 := R.tmps j hj'
  show VR _ _ _ _ ((tm.set i (.p (.sl l))).getD j .junk) _
  by_cases e : i = j
  · subst e
    have e2 : (tm.set i (.p (.sl l))).getD i .junk = .p (.sl l) := by simp [List.getD_eq_getElem?_getD, hj']
    rw [e2]
    simp only at h1
    rw [hi] at h1
    generalize a.tmps.getD i undef = v at h1 ⊢
    cases h1 with
    | full _ _ h => exact .p _ _ h
  · have e2 : (tm.set i (.p (.sl l))).getD j .junk = tm.getD j .junk := by simp [List.getD_eq_getElem?_getD, e]
    rw [e2]; exact h1

theorem and_one (m : Nat) (hm : m < 9223372036854775808) : bitsV .and .i64 (m : Int) 1 = ((m % 2 : Nat) : Int) := by
  have h1 : (BitVec.ofInt 64 (m : Int) &&& BitVec.ofInt 64 1).toNat = m % 2 := by
    rw [BitVec.toNat_and, BitVec.ofInt_natCast, BitVec.toNat_ofNat, Nat.mod_eq_of_lt (by omega)]
    have : (BitVec.ofInt 64 1).toNat = 1 := by decide
    rw [this, Nat.and_one_is_mod]
  show IntKind.wrap .i64 ((BitVec.ofInt 64 (m : Int) &&& BitVec.ofInt 64 1).toNat : Nat) = _
  rw [h1]
  exact InR.wrap (k := .i64) (by simp only [InR]; omega)
end Go.AM
end

section
namespace Go.AM
open Go.RowKit
set_option linter.unusedSimpArgs false

/-- Less is known, and what lies behind is forgotten. -/
def weakD : List AObj → List AObj → Prop
  | _, [] => True
  | x :: l, y :: l' => (y = .dead ∨ y = x ∨ laxer x y) ∧ weakD l l'
  | [], _ :: _ => False
def WeakD (st st' : St) : Prop := weakT st.tmps st'.tmps ∧ weakD st.h st'.h
theorem weakD_of : ∀ {h h' : List AObj}, weakD h h' → ∃ h1 h2, h = h1 ++ h2 ∧ weakH h1 h' ∧ h1.length = h'.length
  | h, [], _ => ⟨[], h, rfl, trivial, rfl⟩
  | x :: l, y :: l', h => by
    obtain ⟨h1, h2, e, hw, hl⟩ := weakD_of h.2
    exact ⟨x :: h1, h2, by rw [e]; rfl, ⟨h.1, hw⟩, by simp [hl]⟩
theorem weakD_refl (l : List AObj) : weakD l l := by
  induction l with
  | nil => trivial
  | cons x l ih => exact ⟨.inr (.inl rfl), ih⟩
theorem weakD_nil (m : List AObj) : weakD m [] = True := by cases m <;> rfl
theorem weakD_app (l m : List AObj) : weakD (l ++ m) l := by
  induction l with
  | nil => rw [List.nil_append, weakD_nil]; trivial
  | cons x l ih => exact ⟨.inr (.inl rfl), ih⟩
theorem weakH_app : ∀ {h1 h' : List AObj} (h2 : List AObj), weakH h1 h' → weakH (h1 ++ h2) (h' ++ h2)
  | [], [], _, _ => weakH_refl _
  | _ :: _, _ :: _, h2, h => ⟨h.1, weakH_app h2 h.2⟩

/-- Every name lies below. -/
def BelowAll (n0 : Nat) (st : St) : Prop := n0 ≤ st.h.length ∧ AV.blw.blwL st.h.length st.tmps = true ∧ blwH st.h.length st.h = true

theorem Now.weakD {X : Ctx} {I : Nat → Prop} {w : World} {a : Act} {st st' : St} (h : WeakD st st') (hb : BelowAll X.n0 st') (hN : Now X I st w a) : Now X I st' w a := by
  obtain ⟨h1, h2, e, hw, _⟩ := weakD_of h.2
  have hN2 : Now X I ⟨st'.tmps, st'.h ++ h2⟩ w a := Now.weak (st := st) ⟨h.1, by rw [e]; exact weakH_app h2 hw⟩ hN
  obtain ⟨I', μ', ob', hI, R⟩ := hN2
  obtain ⟨ob2, R'⟩ := R.trim hb.1 hb.2.1 hb.2.2
  exact ⟨I', μ', ob2, hI, R'⟩

theorem AWp.weakD {E : Env} {r : Option Nat} {c : Code} {Q : Exit → St → Prop} {st st' : St} (h : WeakD st st') (hb : BelowAll E.n0 st') (hw : AWp E r c Q st') : AWp E r c Q st :=
  fun X I w a hE hN => hw X I w a hE (hN.weakD h (by rw [hE.1]; exact hb))

theorem AWp.loopJ {E : Env} {r : Option Nat} {Q : Exit → St → Prop} {st : St} {c : Code} {α : Type} (fr : α → St) (Inv : α → Prop) (m : α → Nat) (x0 : α) (hb : ∀ x, BelowAll E.n0 (fr x)) (hw : WeakD st (fr x0)) (h0 : Inv x0)
    (h : ∀ x, Inv x → AWp E r c (thenQ (fun st' => ∃ y, WeakD st' (fr y) ∧ Inv y ∧ m y < m x) Q) (fr x)) : AWp E r (.loop c) Q st := by
  refine AWp.weakD hw (hb x0) (AWp.loopI fr Inv m x0 (Weak.refl _) h0 fun x hx => ?_)
  intro X I w a hE hN
  refine wpIn_mono (h x hx X I w a hE hN) ?_
  rintro e a' w' ⟨st', hN', hq⟩
  cases e with
  | normal =>
    obtain ⟨y, h1, h2, h3⟩ := hq
    exact ⟨fr y, hN'.weakD h1 (by rw [hE.1]; exact hb y), y, Weak.refl _, h2, h3⟩
  | _ => exact ⟨st', hN', hq⟩

attribute [go_sem] weakD_nil weakD WeakD
end Go.AM
end

