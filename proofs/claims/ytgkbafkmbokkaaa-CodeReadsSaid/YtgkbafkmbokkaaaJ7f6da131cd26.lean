/-
  AM 31: a strings.Builder of the function's own, beside the abstract heap: what it writes lies above all that was there when it was made.
  AM 32: a list that nobody owns, in a cell of a box, taken as a row to append to; the names behind a place forgotten; a box given to everybody.
  AM 33: a loop whose rounds make things that are forgotten at their end.
-/
import Derived.Test.YtgkbafkmbokkaaaJ16a1c712b009
import Derived.Shelf.Strings.Builder1

section
namespace Go.AM
open Go.RowKit
set_option linter.unusedSimpArgs false

section
variable {E : Env} {X : Ctx} {I : Nat → Prop} {μ : Nat → Value} {ob : Nat → Option Nat} {h : List AObj} {tm tm' : List AV} {wb w w' : World} {a : Act} {r : Option Nat} {K : List AV → Prop} {Q : Exit → Act → World → Prop}

theorem grown_of_below (hb : Below wb.heap.size wb w) : wb.grownBy w none := ⟨hb.os, hb.tape, hb.output, hb.size, fun k hk _ => hb.block k hk⟩
theorem Rep.above (R : Rep X I μ ob ⟨tm, h⟩ wb a) (hb : Below wb.heap.size wb w) : Rep X I μ ob ⟨tm, h⟩ w a := R.grow (grown_of_below hb) (fun _ h => h) (fun _ h => .inl h)

/-- The state beside a builder: wb is the world in which it was made; s the temporary that points at it; l what it holds. -/
structure Bld (X : Ctx) (I : Nat → Prop) (μ : Nat → Value) (ob : Nat → Option Nat) (h : List AObj) (wb : World) (T e : TypeId) (s : Nat) (tm : List AV) (l : List UInt8) (w : World) (a : Act) : Prop where
  base : Rep X I μ ob ⟨tm, h⟩ wb a
  below : Below wb.heap.size wb w
  bld : Lib.IsBuilder T e wb.heap.size wb.heap.size (Lib.byteCells l) w
  ptr : a.tmps.getD s undef = .pointer (some ⟨wb.heap.size, 0, none⟩)

variable {T e : TypeId} {s : Nat} {l l' : List UInt8}

theorem put_other (a : Act) {d s : Nat} (v : Value) (hd : d ≠ s) : (a.put (some d) v).tmps.getD s undef = a.tmps.getD s undef := by
  simp only [Act.put]
  rw [Array.getD_eq_getD_getElem?, Array.getD_eq_getD_getElem?]
  simp [Array.set!_eq_setIfInBounds, Array.getElem?_setIfInBounds, hd]

theorem Bld.put (B : Bld X I μ ob h wb T e s tm l w a) {v : AV} {cv : Value} (hv : VR h.length μ I w v cv) {d : Nat} (hd : d ≠ s) : Bld X I μ ob h wb T e s (putD tm (some d) v) l w (a.put (some d) cv) where
  base := B.base.put (hv.mono (Nat.le_refl _) (fun _ _ => rfl) (fun _ h => h) (fun g hg => (B.below.block g (B.base.imm g hg)).symm)) _
  below := B.below
  bld := B.bld
  ptr := by rw [put_other _ _ hd]; exact B.ptr

theorem Bld.weak (B : Bld X I μ ob h wb T e s tm l w a) (hw : weakT tm tm') : Bld X I μ ob h wb T e s tm' l w a where
  base := by
    obtain ⟨t1, t2⟩ := weakT_ok hw
    refine { toRepH := B.base.toRepH, size := t1.trans B.base.size, marks := B.base.marks, tmps := fun i hi => ?_ }
    rcases t2 i (by simp only at hi; omega) with h | h
    · simp only; rw [h]; exact .junk _
    · simp only; rw [h]; exact B.base.tmps i (by simp only at hi ⊢; omega)
  below := B.below
  bld := B.bld
  ptr := B.ptr

theorem Bld.rep (B : Bld X I μ ob h wb T e s tm l w a) : Rep X I μ ob ⟨tm, h⟩ w a := B.base.above B.below

/-- Operations whose run leaves the world as it is. -/
def simpO (o : Oper) : Bool := match o.op with
  | .move _ | .assign _ | .binOp _ _ _ _ _ | .fieldAddr _ _ _ | .indexAddr _ _ _ | .load _ _ => true
  | .call c => (match c.callee with | .builtin .len => true | _ => false)
  | _ => false

theorem simp_run (hΓ : GamOK E.P E.Γ) (R : Rep X I μ ob ⟨tm, h⟩ w a) {o : Oper} (hs : simpO o = true) {K : AV → Prop} (hk : pureK E o.op h (ev tm) K) :
    ∃ v cv, (execOp a.eval o).run E.P w = .ok (.value cv) w ∧ VR h.length μ I w v cv ∧ K v := by
  have hev := R.evs
  obtain ⟨dst, op, ty, pos, after, guard⟩ := o
  cases op with
  | move x => exact ⟨_, _, by simp [execOp], hev _, hk⟩
  | assign x => exact ⟨_, _, by simp [execOp], hev _, hk⟩
  | binOp op t x y u =>
    have hk : binA E.Γ op t (ev tm x) (ev tm y) K := hk
    rcases binA_or hk with hk | hk
    · obtain ⟨v, cv, hr, hv, hK⟩ := aggK_ok (P := E.P) (w := w) hΓ x y (hev _) (hev _) hk
      exact ⟨v, cv, by simp only [execOp, Sem.run_bind] at hr ⊢; rw [hr]; rfl, hv, hK⟩
    · obtain ⟨v, cv, hr, hv, hK⟩ := binK_ok (P := E.P) (w := w) hΓ x y (hev _) (hev _) hk
      exact ⟨v, cv, by simp only [execOp, Sem.run_bind] at hr ⊢; rw [hr]; rfl, hv, hK⟩
  | fieldAddr t x f =>
    obtain ⟨v, cv, hr, hv, hK⟩ := fa_ok (P := E.P) (w := w) hΓ (hev _) hk
    exact ⟨v, cv, by simp [execOp, hr], hv, hK⟩
  | indexAddr t x i =>
    obtain ⟨v, cv, hr, hv, hK⟩ := ia_ok (P := E.P) (w := w) hΓ (hev _) (hev _) R.objs hk
    exact ⟨v, cv, by simp [execOp, hr], hv, hK⟩
  | load t x =>
    obtain ⟨v, cv, hr, hv, hK⟩ := load_ok (P := E.P) (w := w) hΓ (hev _) R.objs hk
    exact ⟨v, cv, by simp [execOp, hr], hv, hK⟩
  | call c =>
    obtain ⟨callee, args, ats⟩ := c
    have hk : callPK E h ⟨callee, args, ats⟩ (ev tm) K := hk
    unfold callPK at hk
    cases callee with
    | builtin b =>
      cases b with
      | len =>
        simp only at hk
        split at hk
        · rename_i x t _ ha ht
          obtain ⟨y, rfl, rfl⟩ : ∃ y, args = #[y] ∧ ev tm y = x := by
            obtain ⟨l⟩ := args
            cases l with
            | nil => simp at ha
            | cons y l => cases l with
              | nil => exact ⟨y, rfl, by simpa using ha⟩
              | cons z l => simp at ha
          have ht : ats = #[t] := by simpa using congrArg List.toArray ht
          subst ht
          obtain ⟨v, cv, hr, hv, hK⟩ := len_ok (P := E.P) (w := w) (ty := ty) hΓ (hev y) R.objs hk
          exact ⟨v, cv, by simp [execOp, resolve, invoke, builtin, hr], hv, hK⟩
        · rename_i hb _; cases hb
        · exact hk.elim
      | _ => simp [simpO] at hs
    | value f => simp [simpO] at hs
    | invoke r m => simp [simpO] at hs
  | _ => simp [simpO] at hs

/-- Such an operation that is always carried out, and doesn't write the builder's temporary. -/
def simpC (s : Nat) (o : Oper) : Bool := simpO o && (o.guard.isNone && (match o.dst with | some d => !(Nat.beq d s) | none => false))

theorem simpL_ok (hΓ : GamOK E.P E.Γ) {ops : Array Oper} {rest : List Nat} {os : List Oper} : ∀ (ls : List Oper) (k : Nat), (∀ j, j < ls.length → ls[j]? = ops[k + j]?) → ls.all (simpC s) = true → ∀ {tm : List AV} {a : Act},
    Bld X I μ ob h wb T e s tm l w a → lexK E os h ls tm K → (∀ tm' a', Bld X I μ ob h wb T e s tm' l w a' → a'.defers = a.defers → K tm' → wpOpsIn (Fw r) 0 E.P ops Q rest a' w) →
    wpOpsIn (Fw r) 0 E.P ops Q (List.range' k ls.length ++ rest) a w
  | [], k, _, _, tm, a, B, hk, hq => hq tm a B rfl hk
  | o :: ls, k, hl, hc, tm, a, B, hk, hq => by
    have h0 : ops[k]? = some o := by simpa using (hl 0 (by simp)).symm
    have hl' : ∀ j, j < ls.length → ls[j]? = ops[k + 1 + j]? := fun j hj => by have := hl (j + 1) (by simpa using hj); simpa [Nat.add_assoc, Nat.add_comm 1 j] using this
    simp only [List.all_cons, Bool.and_eq_true, simpC] at hc
    obtain ⟨⟨h1, h2, h3⟩, hc⟩ := hc
    have h2 : o.guard = none := by cases hg : o.guard with
      | none => rfl
      | some x => rw [hg] at h2; cases h2
    have hk : pureK E o.op h (ev tm) fun v => lexK E os h ls (putD tm o.dst v) K := by
      unfold lexK at hk
      rw [h2] at hk
      exact hk
    obtain ⟨v, cv, hr, hv, hK⟩ := simp_run hΓ B.rep h1 hk
    simp only [List.length_cons, List.range'_succ, List.cons_append, wpOpsIn, h0]
    rw [if_pos (by simp [Region.wanted, h2])]
    cases hd : o.dst with
    | none => rw [hd] at h3; cases h3
    | some d =>
      rw [hd] at h3 hK
      have h3 : d ≠ s := fun e => by subst e; simp at h3
      refine Oper.wpIn_of (fun c hc => by rw [simpO, hc] at h1; cases h1) ?_
      rw [hr]
      show wpOpsIn _ _ _ _ _ _ (a.put o.dst cv) w
      rw [hd]
      exact simpL_ok hΓ ls (k + 1) hl' (by simpa [simpC] using hc) (B.put hv h3) hK fun tm' a' B' hd' hK' => hq tm' a' B' (hd'.trans (put_defers _ _ _)) hK'

theorem simp_at (hΓ : GamOK E.P E.Γ) {ops : Array Oper} {rest is : List Nat} (k n : Nat) (his : is = List.range' k n ++ rest) (hn : (ops.toList.drop k).length ≥ n) (hc : ((ops.toList.drop k).take n).all (simpC s) = true) (B : Bld X I μ ob h wb T e s tm l w a)
    (hk : lexK E ops.toList h ((ops.toList.drop k).take n) tm K) (hq : ∀ tm' a', Bld X I μ ob h wb T e s tm' l w a' → a'.defers = a.defers → K tm' → wpOpsIn (Fw r) 0 E.P ops Q rest a' w) : wpOpsIn (Fw r) 0 E.P ops Q is a w := by
  have hlen : ((ops.toList.drop k).take n).length = n := by rw [List.length_take]; omega
  have := simpL_ok (r := r) (Q := Q) (rest := rest) hΓ ((ops.toList.drop k).take n) k (fun j hj => by
    rw [hlen] at hj
    rw [List.getElem?_take, if_pos hj, List.getElem?_drop, Array.getElem?_toList]) hc B hk hq
  rw [hlen] at this
  rw [his]; exact this

/-! ### It is made, written, read -/
theorem Bld.start (R : Rep X I μ ob ⟨tm, h⟩ w a) (hs : s < tm.length) : Bld X I μ ob h w T e s (putD tm (some s) .junk) [] (w.alloc (.cells #[.pointer none, .slice none 0 0] T)) (a.put (some s) (.pointer (some ⟨w.heap.size, 0, none⟩))) where
  base := R.put (.junk _) _
  below := (Below.refl _ _).alloc (Nat.le_refl _) _
  bld := .inl ⟨Nat.le_refl _, .slice none 0 0, heap_alloc_new w _, ⟨by simp [Lib.byteCells], .inl ⟨rfl, rfl⟩⟩, by simp [Value.ownBlock]⟩
  ptr := by
    have hsz : s < a.tmps.size := by have := R.size; simp only at this; omega
    simp only [Act.put]
    rw [Array.getD_eq_getD_getElem?]
    simp [Array.set!_eq_setIfInBounds, Array.getElem?_setIfInBounds, hsz]

theorem AWp.bstart {E : Env} {r : Option Nat} {st : St} {Q : Exit → St → Prop} {id : Nat} {ty : TypeId} {pos : String} {after : Array Edge} {T e : TypeId} {s : Nat} {rest : Code} (hiz : (E.P.info? T).map (·.zero) = some (some (.agg #[.pointer none, .slice none 0 0]))) (hs : s < st.tmps.length)
    (hk : ∀ (X : Ctx) (I : Nat → Prop) (μ : Nat → Value) (ob : Nat → Option Nat) (wb w : World) (a : Act), E.fits X → Bld X I μ ob st.h wb T e s (putD st.tmps (some s) .junk) [] w a → rest.wpIn (Fw r) 0 E.P (fun e a' w' => ∃ st', Now X I st' w' a' ∧ Q e st') a w) :
    AWp E r (.seq (.region id #[⟨some s, .alloc T, ty, pos, after, none⟩] false) rest) Q st := fun X I w a hE hN => by
  obtain ⟨I', μ', ob', hI, R⟩ := hN
  obtain ⟨i, hi, hz⟩ := Option.map_eq_some_iff.1 hiz
  refine wpIn_seq (wpIn_region ?_)
  show wpOpsIn _ _ _ _ _ [0] a w
  simp only [wpOpsIn, List.getElem?_toArray, List.getElem?_cons_zero]
  rw [if_pos (by simp [Region.wanted])]
  refine Oper.wpIn_of (by simp) ?_
  have hrun : (execOp a.eval ⟨some s, .alloc T, ty, pos, after, none⟩).run E.P w = .ok (.value (.pointer (some ⟨w.heap.size, 0, none⟩))) (w.alloc (.cells #[.pointer none, .slice none 0 0] T)) := by
    simp [execOp, Instr.alloc, zeroValue, typeInfo, hi, hz, newVar, newRow, Value.cells]
  rw [hrun]
  exact wpIn_mono (hk X I' μ' ob' w _ _ hE (Bld.start R hs)) fun e a' w' ⟨st', h1, h2⟩ => ⟨st', h1.trans hI, h2⟩

theorem write_ok {ops : Array Oper} {rest : List Nat} {k t : Nat} {d : Nat} {fW : FuncId} {ats : Array TypeId} {ty : TypeId} {pos : String} {after : Array Edge} {u : List UInt8}
    (hop : ops[k]? = some ⟨some d, .call { callee := .value (.func fW), args := #[.tmp s, .tmp t], argTypes := ats }, ty, pos, after, none⟩) (hent : EntersF E.P fW)
    (HW : ∀ (B b : Nat) (bs : List Value) (z : ByteArray) (w : World), Lib.IsBuilder T e B b bs w → bs.length + z.size ≤ 140737488355328 → B ≤ w.heap.size →
      Calls E.P fW #[.pointer (some ⟨b, 0, none⟩), .string z] w fun x w' => x = .returned (.tuple #[.int .i64 z.size, .nilIface]) ∧ (Lib.BuilderAt T e B b (.pointer (some ⟨b, 0, none⟩)) (bs ++ Lib.strCells z) w' ∧ Below B w w'))
    (B : Bld X I μ ob h wb T e s tm l w a) (hd : d ≠ s) (ht : ev tm (.tmp t) = .p (.str u)) (hlen : l.length + u.length ≤ 140737488355328)
    (hq : ∀ a' w', Bld X I μ ob h wb T e s (putD tm (some d) .junk) (l ++ u) w' a' → a'.defers = a.defers → wpOpsIn (Fw r) 0 E.P ops Q rest a' w') : wpOpsIn (Fw r) 0 E.P ops Q (k :: rest) a w := by
  have hv := B.rep.evs (.tmp t)
  rw [ht] at hv
  obtain ⟨z, hz, hzu⟩ : ∃ z : ByteArray, a.eval (.tmp t) = .string z ∧ z.data.toList = u := by
    generalize a.eval (.tmp t) = q at hv
    cases hv with | p _ _ hp => obtain ⟨z, rfl, h⟩ := hp.str_inv; exact ⟨z, rfl, h⟩
  have hp : a.eval (.tmp s) = .pointer (some ⟨wb.heap.size, 0, none⟩) := B.ptr
  have hsz : z.size = u.length := by rw [← hzu, ← Lib.strCells_length, Lib.strCells, List.length_map]
  have hbl : (Lib.byteCells l).length = l.length := Lib.byteCells_length l
  have hcall := HW wb.heap.size wb.heap.size (Lib.byteCells l) z w B.bld (by omega) B.below.size
  simp only [wpOpsIn, hop]
  rw [if_pos (by simp [Region.wanted])]
  refine Oper.wpIn_of (by simp) ?_
  have hrun : (execOp a.eval ⟨some d, .call { callee := .value (.func fW), args := #[.tmp s, .tmp t], argTypes := ats }, ty, pos, after, none⟩).run E.P w = (callFunc fW #[.pointer (some ⟨wb.heap.size, 0, none⟩), .string z]).run E.P w := by
    have hf : a.eval (.func fW) = .func (.func fW) #[] #[] := rfl
    simp [execOp, resolve, hf, Deferred.ofValue, invoke, hp, hz]
  rw [hrun, hent]
  refine ⟨fun h => by simp [Fw, Fence.wide] at h, ?_⟩
  have hc2 := (callsIn_wide (n := 0)).2 hcall
  refine ⟨trivial, fun fs hroom => ?_⟩
  obtain ⟨x, w', fr, ⟨rfl, hB, hbel⟩, hcom⟩ := hc2.2 fs (room_wide _)
  refine ⟨_, w', fr, ?_, hcom⟩
  refine hq _ w' ⟨B.base.put (.junk _) _, B.below.trans hbel, ?_, by rw [put_other _ _ hd]; exact B.ptr⟩ (put_defers _ _ _)
  rw [Lib.strCells_eq, hzu] at hB
  have : Lib.byteCells (l ++ u) = Lib.byteCells l ++ Lib.byteCells u := by simp [Lib.byteCells]
  rw [this]
  exact .inr hB

theorem string_ok {ops : Array Oper} {rest : List Nat} {k : Nat} {d : Nat} {fS : FuncId} {ats : Array TypeId} {ty : TypeId} {pos : String} {after : Array Edge}
    (hop : ops[k]? = some ⟨some d, .call { callee := .value (.func fS), args := #[.tmp s], argTypes := ats }, ty, pos, after, none⟩) (hent : EntersF E.P fS)
    (HS : ∀ (B b : Nat) (l : List UInt8) (w : World), Lib.IsBuilder T e B b (Lib.byteCells l) w → B ≤ w.heap.size →
      Calls E.P fS #[.pointer (some ⟨b, 0, none⟩)] w fun x w' => x = .returned (.string ⟨l.toArray⟩) ∧ Below B w w')
    (B : Bld X I μ ob h wb T e s tm l w a)
    (hq : ∀ a' w', Rep X I μ ob ⟨putD tm (some d) (.p (.str l)), h⟩ w' a' → a'.defers = a.defers → wpOpsIn (Fw r) 0 E.P ops Q rest a' w') : wpOpsIn (Fw r) 0 E.P ops Q (k :: rest) a w := by
  have hp : a.eval (.tmp s) = .pointer (some ⟨wb.heap.size, 0, none⟩) := B.ptr
  have hcall := HS wb.heap.size wb.heap.size l w B.bld B.below.size
  simp only [wpOpsIn, hop]
  rw [if_pos (by simp [Region.wanted])]
  refine Oper.wpIn_of (by simp) ?_
  have hrun : (execOp a.eval ⟨some d, .call { callee := .value (.func fS), args := #[.tmp s], argTypes := ats }, ty, pos, after, none⟩).run E.P w = (callFunc fS #[.pointer (some ⟨wb.heap.size, 0, none⟩)]).run E.P w := by
    have hf : a.eval (.func fS) = .func (.func fS) #[] #[] := rfl
    simp [execOp, resolve, hf, Deferred.ofValue, invoke, hp]
  rw [hrun, hent]
  refine ⟨fun h => by simp [Fw, Fence.wide] at h, ?_⟩
  have hc2 := (callsIn_wide (n := 0)).2 hcall
  refine ⟨trivial, fun fs hroom => ?_⟩
  obtain ⟨x, w', fr, ⟨rfl, hbel⟩, hcom⟩ := hc2.2 fs (room_wide _)
  refine ⟨_, w', fr, ?_, hcom⟩
  refine hq _ w' ?_ (put_defers _ _ _)
  have R := B.base.above (B.below.trans hbel)
  exact R.put (.p _ _ (by simpa using PR.str (I := I) (w := w') ⟨l.toArray⟩)) _

/-- The rest of a statement, in the layer's own way. -/
theorem steps_at {st : St} {KS : St → Prop} (hΓ : GamOK E.P E.Γ) (hE : E.fits X) {ops : Array Oper} {is : List Nat} (k : Nat) (his : is = List.range' k (ops.toList.drop k).length) (R : Rep X I μ ob st w a) (hk : stepsK E ops.toList (ops.toList.drop k) st KS)
    (hQ : ∀ st' a' w', Now X I st' w' a' → KS st' → Q .normal a' w') : wpOpsIn (Fw r) 0 E.P ops Q is a w := by
  rw [his]
  exact steps_ok (K := KS) hΓ hE _ k (fun j => by rw [List.getElem?_drop, Array.getElem?_toList]) ⟨I, μ, ob, fun _ h => h, R⟩ rfl hk fun a' w' ⟨st', h1, _, h3⟩ => hQ st' a' w' h1 h3
end
end Go.AM
end

section
namespace Go.AM
open Go.RowKit
set_option linter.unusedSimpArgs false

theorem Rep.adoptCell {X : Ctx} {I : Nat → Prop} {μ : Nat → Value} {ob : Nat → Option Nat} {w : World} {st : St} {a : Act} {l : List PV} {cs : List AV} (R : Rep X I μ ob st w a) (c k : Nat) (E : TypeId) (s : Nat)
    (hc : st.h[c]? = some (.box cs)) (hk : cs[k]? = some (.full l)) (hs : ∀ x ∈ l, x.cells.length = s) : ∃ v, Rep X I (upd μ st.h.length v) (upd ob st.h.length none) ⟨st.tmps, st.h.set c (.box (cs.set k (.own st.h.length l.length))) ++ [.row E s l .lax]⟩ w a := by
  have hlt : c < st.h.length := (List.getElem?_eq_some_iff.1 hc).1
  have hkl : k < cs.length := (List.getElem?_eq_some_iff.1 hk).1
  obtain ⟨g, T, cur, h1, h2, h3, h4, h5⟩ := R.objs _ _ hc
  have hv := h5 k hkl
  rw [List.getD_eq_getElem?_getD, hk, Option.getD_some] at hv
  generalize hcv : cur.getD k undef = cv at hv
  cases hv with
  | full _ ad h =>
    have R1 := R.toRepH.name (World.grownBy.refl w none) (v := .slice ad l.length l.length) (g := none) (o := .row E s l .lax) (by simp) ⟨hs, .inr ⟨rfl, upd_same _ _ _, ad, upd_same _ _ _, by rw [upd_same]; exact h⟩⟩
    have hne : c ≠ st.h.length := by omega
    have R2 := R1.write (b0 := c) (g0 := g) (o := .box (cs.set k (.own st.h.length l.length))) (by simp; omega) (by rw [upd_other _ _ hne]; exact h1) (World.grownBy.refl w (some g))
      ⟨g, T, cur, by rw [upd_other _ _ hne]; exact h1, by rw [upd_other _ _ hne]; exact h2, h3, by simpa using h4, fun i hi => by
        simp only [List.length_set] at hi
        by_cases e : k = i
        · subst e
          rw [List.getD_eq_getElem?_getD, List.getElem?_set_self hkl, hcv]
          exact .own _ _ _ _ (by simp) (upd_same _ _ _)
        · rw [List.getD_eq_getElem?_getD, List.getElem?_set_ne e, ← List.getD_eq_getElem?_getD]
          exact (h5 i hi).mono (by simp) (fun b hb => upd_other _ _ (by omega)) (fun _ h => h) (fun _ _ => rfl)⟩
    rw [List.set_append_left _ _ hlt] at R2
    refine ⟨_, { toRepH := R2, size := R.size, tmps := fun j hj => (R.tmps j hj).mono (by simp) (fun b hb => upd_other _ _ (by omega)) (fun _ h => h) (fun _ _ => rfl), marks := ?_ }⟩
    obtain ⟨rs, m1, m2, m3⟩ := R.marks
    refine ⟨rs, m1, m2, fun q hq => ?_⟩
    obtain ⟨e1, e2, e3, e4⟩ := m3 q hq
    refine ⟨e1, e2, e3, fun b hb => ?_⟩
    by_cases e : b = st.h.length
    · subst e; rw [upd_same] at hb; cases hb
    · rw [upd_other _ _ e] at hb; exact e4 b hb

theorem AWp.adoptCell {E : Env} {r : Option Nat} {c : Code} {Q : Exit → St → Prop} {tm : List AV} {h : List AObj} {l : List PV} {cs : List AV} (b k : Nat) (t : TypeId) (s : Nat) (hb : h[b]? = some (.box cs)) (hk : cs[k]? = some (.full l)) (hs : ∀ x ∈ l, x.cells.length = s)
    (hw : AWp E r c Q ⟨tm, h.set b (.box (cs.set k (.own h.length l.length))) ++ [.row t s l .lax]⟩) : AWp E r c Q ⟨tm, h⟩ := fun X I w a hE ⟨I', μ', ob', hI, R⟩ => by
  obtain ⟨v, R'⟩ := R.adoptCell b k t s hb hk hs
  exact hw X I w a hE ⟨I', _, _, hI, R'⟩

/-! ### Names forgotten -/
/-- No name from n on. -/
def AV.blw (n : Nat) : AV → Bool
  | .own b _ => decide (b < n)
  | .ptr b _ => decide (b < n)
  | .eptr b _ _ _ => decide (b < n)
  | .map b => decide (b < n)
  | .yld b => decide (b < n)
  | .fn _ caps => blwL n caps
  | .agg l => blwL n l
  | .tup l => blwL n l
  | _ => true
where blwL (n : Nat) : List AV → Bool
  | [] => true
  | v :: l => v.blw n && blwL n l
def AObj.blw (n : Nat) : AObj → Bool
  | .box cs => AV.blw.blwL n cs
  | .it m _ _ _ => decide (m < n)
  | .lp tm _ _ _ _ => AV.blw.blwL n tm
  | _ => true
def blwH (n : Nat) : List AObj → Bool
  | [] => true
  | o :: l => o.blw n && blwH n l

theorem blwL_get {n : Nat} : ∀ {l : List AV}, AV.blw.blwL n l = true → ∀ i, (l.getD i .junk).blw n = true
  | [], _, i => by simp [AV.blw]
  | v :: l, h, i => by
    simp only [AV.blw.blwL, Bool.and_eq_true] at h
    cases i with
    | zero => exact h.1
    | succ i => rw [List.getD_cons_succ]; exact blwL_get h.2 i
theorem blwH_get {n : Nat} : ∀ {l : List AObj}, blwH n l = true → ∀ (i : Nat) (o : AObj), l[i]? = some o → o.blw n = true
  | v :: l, h, i, o, ho => by
    simp only [blwH, Bool.and_eq_true] at h
    cases i with
    | zero => injection ho with ho; subst ho; exact h.1
    | succ i => exact blwH_get h.2 i o ho

theorem VR.blw {n m : Nat} {μ : Nat → Value} {I : Nat → Prop} {w : World} {x : AV} {v : Value} (hx : VR n μ I w x v) (hu : x.blw m = true) : VR m μ I w x v := by
  induction hx with
  | junk v => exact .junk v
  | cell v h => exact .cell v h
  | p x v h => exact .p x v h
  | full l a h => exact .full l a h
  | own b k a c hb h => exact .own b k a c (of_decide_eq_true hu) h
  | ptr b off g hb h => exact .ptr b off g (of_decide_eq_true hu) h
  | eptr b s i f g k c hb h => exact .eptr b s i f g k c (of_decide_eq_true hu) h
  | ipt l g off cur E fz vs hg hb hv hr => exact .ipt l g off cur E fz vs hg hb hv hr
  | map b r hb h => exact .map b r (of_decide_eq_true hu) h
  | yld b l hb h => exact .yld b l (of_decide_eq_true hu) h
  | fn f caps cs hl _ ih => exact .fn f caps cs hl fun i hi => ih i hi (blwL_get hu i)
  | agg l cs hl _ ih => exact .agg l cs hl fun i hi => ih i hi (blwL_get hu i)
  | tup l cs hl _ ih => exact .tup l cs hl fun i hi => ih i hi (blwL_get hu i)

theorem Rep.trim {X : Ctx} {I : Nat → Prop} {μ : Nat → Value} {ob : Nat → Option Nat} {w : World} {tm : List AV} {h h2 : List AObj} {a : Act} (R : Rep X I μ ob ⟨tm, h ++ h2⟩ w a) (hn : X.n0 ≤ h.length) (ht : AV.blw.blwL h.length tm = true) (hh : blwH h.length h = true) :
    ∃ ob', Rep X I μ ob' ⟨tm, h⟩ w a := by
  refine ⟨fun b => if b < h.length then ob b else none, {
    below := R.below, base := R.base, imm := R.imm, ctx := R.ctx, frz := R.frz, inew := R.inew, may := R.may, names := hn
    own := fun b g hb => ?_, sep := fun b b' g h1 h2 => ?_, past := fun b hb => ?_, objs := fun b o ho => ?_
    size := R.size, tmps := fun i hi => (R.tmps i hi).blw (blwL_get ht i), marks := ?_ }⟩
  · split at hb
    · exact R.own b g hb
    · cases hb
  · split at h1
    · split at h2
      · exact R.sep b b' g h1 h2
      · cases h2
    · cases h1
  · rw [if_neg (by simp only at hb; omega)]
  · have hlt : b < h.length := (List.getElem?_eq_some_iff.1 ho).1
    have hob : (fun b => if b < h.length then ob b else none) b = ob b := by simp only; rw [if_pos hlt]
    have hO := R.objs b o (by simp only; rw [List.getElem?_append_left hlt]; exact ho)
    have hu := blwH_get hh b o ho
    cases o with
    | dead => trivial
    | box cs =>
      obtain ⟨g, T, cur, h1, h2, h3, h4, h5⟩ := hO
      exact ⟨g, T, cur, hob.trans h1, h2, h3, h4, fun i hi => (h5 i hi).blw (blwL_get hu i)⟩
    | row E s xs k =>
      obtain ⟨h0, hO⟩ := hO
      refine ⟨h0, ?_⟩
      rcases hO with ⟨g, h1, h2⟩ | ⟨h1, h2, a, h3, h4⟩
      · exact .inl ⟨g, hob.trans h1, h2⟩
      · exact .inr ⟨h1, hob.trans h2, a, h3, h4⟩
    | mp es =>
      obtain ⟨r, ents, h1, h2, h3, h4, h5, h6⟩ := hO
      exact ⟨r, ents, hob.trans h1, h2, h3, h4, h5, h6⟩
    | it m since seen last =>
      obtain ⟨r, g, h0, h1, h2, h3, h4, h5⟩ := hO
      exact ⟨r, g, of_decide_eq_true hu, hob.trans h1, h2, h3, h4, h5⟩
    | lp tm ps assign body s =>
      obtain ⟨l, rec, h1, h2, h3, h4, h5, h6⟩ := hO
      exact ⟨l, rec, hob.trans h1, h2, h3, h4, fun i hi => (h5 i hi).blw (blwL_get hu i), h6⟩
  · obtain ⟨rs, m1, m2, m3⟩ := R.marks
    refine ⟨rs, m1, m2, fun q hq => ?_⟩
    obtain ⟨e1, e2, e3, e4⟩ := m3 q hq
    refine ⟨e1, e2, e3, fun b hb => ?_⟩
    simp only at hb
    split at hb
    · exact e4 b hb
    · cases hb

/-- What lies behind is forgotten. -/
theorem AWp.trim {E : Env} {r : Option Nat} {c : Code} {Q : Exit → St → Prop} {tm : List AV} {h h2 : List AObj} (hn : E.n0 ≤ h.length) (ht : AV.blw.blwL h.length tm = true) (hh : blwH h.length h = true)
    (hw : AWp E r c Q ⟨tm, h⟩) : AWp E r c Q ⟨tm, h ++ h2⟩ := fun X I w a hE ⟨I', μ', ob', hI, R⟩ => by
  obtain ⟨ob2, R'⟩ := R.trim (by rw [hE.1]; exact hn) ht hh
  exact hw X I w a hE ⟨I', _, _, hI, R'⟩
/-- .. the same, where the heap is written out. -/
theorem AWp.trimN {E : Env} {r : Option Nat} {c : Code} {Q : Exit → St → Prop} {tm : List AV} {h : List AObj} (n : Nat) (hn : E.n0 ≤ (h.take n).length) (ht : AV.blw.blwL (h.take n).length tm = true) (hh : blwH (h.take n).length (h.take n) = true)
    (hw : AWp E r c Q ⟨tm, h.take n⟩) : AWp E r c Q ⟨tm, h⟩ := by
  rw [← List.take_append_drop n h]
  exact .trim hn ht hh hw

/-! ### Two names exchanged -/
def swN (b c x : Nat) : Nat := if x = b then c else if x = c then b else x
theorem swN_swN (b c x : Nat) : swN b c (swN b c x) = x := by
  unfold swN
  by_cases h1 : x = b
  · subst h1; rw [if_pos rfl]; by_cases h2 : c = x
    · subst h2; simp
    · rw [if_neg h2, if_pos rfl]
  · rw [if_neg h1]
    by_cases h2 : x = c
    · subst h2; rw [if_pos rfl, if_pos rfl]
    · rw [if_neg h2, if_neg h1, if_neg h2]
theorem swN_lt {b c x n : Nat} (hb : b < n) (hc : c < n) (hx : x < n) : swN b c x < n := by
  unfold swN
  split
  · exact hc
  · split
    · exact hb
    · exact hx
def AV.sw (b c : Nat) : AV → AV
  | .own x n => .own (swN b c x) n
  | .ptr x o => .ptr (swN b c x) o
  | .eptr x s i f => .eptr (swN b c x) s i f
  | .map x => .map (swN b c x)
  | .yld x => .yld (swN b c x)
  | .fn f caps => .fn f (swL b c caps)
  | .agg l => .agg (swL b c l)
  | .tup l => .tup (swL b c l)
  | v => v
where swL (b c : Nat) : List AV → List AV
  | [] => []
  | v :: l => v.sw b c :: swL b c l
theorem swL_eq (b c : Nat) (l : List AV) : AV.sw.swL b c l = l.map (AV.sw b c) := by
  induction l with
  | nil => rfl
  | cons v l ih => simp [AV.sw.swL, ih]
def AObj.sw (b c : Nat) : AObj → AObj
  | .box cs => .box (cs.map (AV.sw b c))
  | .it m since seen last => .it (swN b c m) since seen last
  | .lp tm ps assign body s => .lp (tm.map (AV.sw b c)) ps assign body s
  | o => o

theorem VR.sw {n : Nat} {μ : Nat → Value} {I : Nat → Prop} {w : World} {x : AV} {v : Value} {b c : Nat} (hb : b < n) (hc : c < n) (h : VR n μ I w x v) : VR n (fun y => μ (swN b c y)) I w (x.sw b c) v := by
  have e : ∀ y, (fun y => μ (swN b c y)) (swN b c y) = μ y := fun y => by simp only [swN_swN]
  induction h with
  | junk v => exact .junk v
  | cell v h => exact .cell v h
  | p x v h => exact .p x v h
  | full l a h => exact .full l a h
  | own y k a cc hy h => exact .own _ _ _ _ (swN_lt hb hc hy) ((e y).trans h)
  | ptr y off g hy h => exact .ptr _ _ _ (swN_lt hb hc hy) ((e y).trans h)
  | eptr y s i f g k cc hy h => exact .eptr _ _ _ _ _ _ _ (swN_lt hb hc hy) ((e y).trans h)
  | ipt l g off cur E fz vs hg hw hv hr => exact .ipt l g off cur E fz vs hg hw hv hr
  | map y r hy h => exact .map _ _ (swN_lt hb hc hy) ((e y).trans h)
  | yld y l hy h => exact .yld _ _ (swN_lt hb hc hy) ((e y).trans h)
  | fn f caps cs hl _ ih =>
    unfold AV.sw; rw [swL_eq]
    exact .fn f _ cs (by simpa using hl) fun i hi => by rw [getD_map_junk (by simpa using hi)]; exact ih i (by simpa using hi)
  | agg l cs hl _ ih =>
    unfold AV.sw; rw [swL_eq]
    exact .agg _ cs (by simpa using hl) fun i hi => by rw [getD_map_junk (by simpa using hi)]; exact ih i (by simpa using hi)
  | tup l cs hl _ ih =>
    unfold AV.sw; rw [swL_eq]
    exact .tup _ cs (by simpa using hl) fun i hi => by rw [getD_map_junk (by simpa using hi)]; exact ih i (by simpa using hi)

theorem ObjOK.sw {n : Nat} {μ : Nat → Value} {I : Nat → Prop} {ob : Nat → Option Nat} {w : World} {x b c : Nat} {o : AObj} (hb : b < n) (hc : c < n) (h : ObjOK n μ I ob w x o) :
    ObjOK n (fun y => μ (swN b c y)) I (fun y => ob (swN b c y)) w (swN b c x) (o.sw b c) := by
  have e : ∀ y, (fun y => μ (swN b c y)) (swN b c y) = μ y := fun y => by simp only [swN_swN]
  have e2 : ∀ y, (fun y => ob (swN b c y)) (swN b c y) = ob y := fun y => by simp only [swN_swN]
  cases o with
  | dead => trivial
  | box cs =>
    obtain ⟨g, T, cur, h1, h2, h3, h4, h5⟩ := h
    refine ⟨g, T, cur, (e2 x).trans h1, (e x).trans h2, h3, by simpa using h4, fun i hi => ?_⟩
    simp only [List.length_map] at hi
    rw [getD_map_junk hi]; exact (h5 i hi).sw hb hc
  | row E s xs k =>
    obtain ⟨h0, h⟩ := h
    refine ⟨h0, ?_⟩
    have e3 := e x
    rcases h with ⟨g, h1, h2⟩ | ⟨h1, h2, a, h3, h4⟩
    · exact .inl ⟨g, (e2 x).trans h1, by rw [e3]; exact h2⟩
    · exact .inr ⟨h1, (e2 x).trans h2, a, e3.trans h3, by rw [e3]; exact h4⟩
  | mp es =>
    obtain ⟨r, ents, h1, h2, h3, h4, h5, h6⟩ := h
    exact ⟨r, ents, (e2 x).trans h1, (e x).trans h2, h3, h4, h5, h6⟩
  | it m since seen last =>
    obtain ⟨r, g, h0, h1, h2, h3, h4, h5⟩ := h
    exact ⟨r, g, swN_lt hb hc h0, (e2 x).trans h1, (e x).trans h2, (e m).trans h3, h4, h5⟩
  | lp tm ps assign body s =>
    obtain ⟨l, rec, h1, h2, h3, h4, h5, h6⟩ := h
    refine ⟨l, rec, (e2 x).trans h1, (e x).trans h2, h3, by simpa using h4, fun i hi => ?_, h6⟩
    simp only [List.length_map] at hi
    rw [getD_map_junk hi]; exact (h5 i hi).sw hb hc

theorem Rep.sw {X : Ctx} {I : Nat → Prop} {μ : Nat → Value} {ob : Nat → Option Nat} {w : World} {tm : List AV} {h : List AObj} {a : Act} {b c : Nat} {p q : AObj} (R : Rep X I μ ob ⟨tm, h⟩ w a) (hb : h[b]? = some p) (hc : h[c]? = some q) (hnb : X.n0 ≤ b) (hnc : X.n0 ≤ c) :
    Rep X I (fun y => μ (swN b c y)) (fun y => ob (swN b c y)) ⟨tm.map (AV.sw b c), ((h.map (AObj.sw b c)).set b (q.sw b c)).set c (p.sw b c)⟩ w a := by
  have hbl : b < h.length := (List.getElem?_eq_some_iff.1 hb).1
  have hcl : c < h.length := (List.getElem?_eq_some_iff.1 hc).1
  have hget : ∀ (x : Nat) (o : AObj), (((h.map (AObj.sw b c)).set b (q.sw b c)).set c (p.sw b c))[x]? = some o → ∃ o', h[swN b c x]? = some o' ∧ o = o'.sw b c := fun x o ho => by
    unfold swN
    by_cases e1 : c = x
    · subst e1
      rw [List.getElem?_set_self (by simpa using hcl)] at ho
      injection ho with ho
      by_cases e2 : c = b
      · subst e2; rw [if_pos rfl]; rw [hb] at hc; injection hc with hc; subst hc; exact ⟨_, hb, ho.symm⟩
      · rw [if_neg e2, if_pos rfl]; exact ⟨_, hb, ho.symm⟩
    · rw [List.getElem?_set_ne e1] at ho
      by_cases e2 : b = x
      · subst e2
        rw [List.getElem?_set_self (by simpa using hbl)] at ho
        injection ho with ho
        rw [if_pos rfl]; exact ⟨_, hc, ho.symm⟩
      · rw [List.getElem?_set_ne e2, List.getElem?_map] at ho
        rw [if_neg (fun e => e2 e.symm), if_neg (fun e => e1 e.symm)]
        cases hx : h[x]? with
        | none => rw [hx] at ho; cases ho
        | some o' => rw [hx] at ho; simp only [Option.map_some, Option.some.injEq] at ho; exact ⟨o', rfl, ho.symm⟩
  exact {
    below := R.below, base := R.base, imm := R.imm, ctx := R.ctx, frz := R.frz, inew := R.inew
    may := fun y hy => by
      have h1 : y ≠ b := fun e => hy (.inl (by rw [e]; exact hnb))
      have h2 : y ≠ c := fun e => hy (.inl (by rw [e]; exact hnc))
      show μ (swN b c y) = _
      unfold swN; rw [if_neg h1, if_neg h2]; exact R.may y hy
    names := by simpa using R.names
    own := fun y g hy => R.own _ g hy
    sep := fun y y' g h1 h2 => by
      have := R.sep _ _ g h1 h2
      have h3 := congrArg (swN b c) this
      rwa [swN_swN, swN_swN] at h3
    past := fun y hy => by
      simp only [List.length_set, List.length_map] at hy
      show ob (swN b c y) = none
      unfold swN; rw [if_neg (by omega), if_neg (by omega)]; exact R.past y hy
    objs := fun x o ho => by
      obtain ⟨o', h1, rfl⟩ := hget x o ho
      have := (R.objs _ o' h1).sw (b := b) (c := c) hbl hcl
      rw [swN_swN] at this
      simpa using this
    size := by simpa using R.size
    tmps := fun i hi => by
      simp only [List.length_map] at hi
      simp only [List.length_set, List.length_map]
      rw [getD_map_junk hi]; exact (R.tmps i hi).sw hbl hcl
    marks := by
      obtain ⟨rs, m1, m2, m3⟩ := R.marks
      exact ⟨rs, m1, m2, fun q hq => by
        obtain ⟨e1, e2, e3, e4⟩ := m3 q hq
        exact ⟨e1, e2, e3, fun b' => e4 _⟩⟩ }

theorem AWp.swap {E : Env} {r : Option Nat} {k : Code} {Q : Exit → St → Prop} {tm : List AV} {h : List AObj} (b c : Nat) {p q : AObj} (hb : h[b]? = some p) (hc : h[c]? = some q) (hnb : E.n0 ≤ b) (hnc : E.n0 ≤ c)
    (hw : AWp E r k Q ⟨tm.map (AV.sw b c), ((h.map (AObj.sw b c)).set b (q.sw b c)).set c (p.sw b c)⟩) : AWp E r k Q ⟨tm, h⟩ := fun X I w a hE ⟨I', μ', ob', hI, R⟩ =>
  hw X I w a hE ⟨I', _, _, hI, R.sw hb hc (by rw [hE.1]; exact hnb) (by rw [hE.1]; exact hnc)⟩

/-- Two orders that leave the same behind, but for the names of two things. -/
theorem AWp.two {E : Env} {r : Option Nat} {k : Code} {Q : Exit → St → Prop} {s1 : St} {tm : List AV} {h : List AObj} (b c : Nat) {p q : AObj} (st : St) (hb : h[b]? = some p) (hc : h[c]? = some q) (hnb : E.n0 ≤ b) (hnc : E.n0 ≤ c)
    (h1 : Weak s1 st) (h2 : Weak ⟨tm.map (AV.sw b c), ((h.map (AObj.sw b c)).set b (q.sw b c)).set c (p.sw b c)⟩ st) (hw : AWp E r k Q st) : AWp E r k Q s1 ∧ AWp E r k Q ⟨tm, h⟩ :=
  ⟨.weak h1 hw, .swap b c hb hc hnb hnc (.weak h2 hw)⟩
end Go.AM
end

section
namespace Go.AM
open Go.RowKit
set_option linter.unusedSimpArgs false

/-- Less is known, and what lies behind is forgotten. -/
def weakD : List AObj → List AObj → Prop
  | _, [] => True
  | x :: l, y :: l' => (y = .dead ∨ y = x ∨ laxer x y) ∧ weakD l l'
  | [], _ :: _ => False
def WeakD (st st' : St) : Prop := weakT st.tmps st'.tmps ∧ weakD st.h st'.h
theorem weakD_of : ∀ {h h' : List AObj}, weakD h h' → ∃ h1 h2, h = h1 ++ h2 ∧ weakH h1 h' ∧ h1.length = h'.length
  | h, [], _ => ⟨[], h, rfl, trivial, rfl⟩
  | x :: l, y :: l', h => by
    obtain ⟨h1, h2, e, hw, hl⟩ := weakD_of h.2
    exact ⟨x :: h1, h2, by rw [e]; rfl, ⟨h.1, hw⟩, by simp [hl]⟩
theorem weakD_refl (l : List AObj) : weakD l l := by
  induction l with
  | nil => trivial
  | cons x l ih => exact ⟨.inr (.inl rfl), ih⟩
theorem weakD_nil (m : List AObj) : weakD m [] = True := by cases m <;> rfl
theorem weakD_app (l m : List AObj) : weakD (l ++ m) l := by
  induction l with
  | nil => rw [List.nil_append, weakD_nil]; trivial
  | cons x l ih => exact ⟨.inr (.inl rfl), ih⟩
theorem weakH_app : ∀ {h1 h' : List AObj} (h2 : List AObj), weakH h1 h' → weakH (h1 ++ h2) (h' ++ h2)
  | [], [], _, _ => weakH_refl _
  | _ :: _, _ :: _, h2, h => ⟨h.1, weakH_app h2 h.2⟩

/-- Every name lies below. -/
def BelowAll (n0 : Nat) (st : St) : Prop := n0 ≤ st.h.length ∧ AV.blw.blwL st.h.length st.tmps = true ∧ blwH st.h.length st.h = true

theorem Now.weakD {X : Ctx} {I : Nat → Prop} {w : World} {a : Act} {st st' : St} (h : WeakD st st') (hb : BelowAll X.n0 st') (hN : Now X I st w a) : Now X I st' w a := by
  obtain ⟨h1, h2, e, hw, _⟩ := weakD_of h.2
  have hN2 : Now X I ⟨st'.tmps, st'.h ++ h2⟩ w a := Now.weak (st := st) ⟨h.1, by rw [e]; exact weakH_app h2 hw⟩ hN
  obtain ⟨I', μ', ob', hI, R⟩ := hN2
  obtain ⟨ob2, R'⟩ := R.trim hb.1 hb.2.1 hb.2.2
  exact ⟨I', μ', ob2, hI, R'⟩

theorem AWp.weakD {E : Env} {r : Option Nat} {c : Code} {Q : Exit → St → Prop} {st st' : St} (h : WeakD st st') (hb : BelowAll E.n0 st') (hw : AWp E r c Q st') : AWp E r c Q st :=
  fun X I w a hE hN => hw X I w a hE (hN.weakD h (by rw [hE.1]; exact hb))

theorem AWp.loopJ {E : Env} {r : Option Nat} {Q : Exit → St → Prop} {st : St} {c : Code} {α : Type} (fr : α → St) (Inv : α → Prop) (m : α → Nat) (x0 : α) (hb : ∀ x, BelowAll E.n0 (fr x)) (hw : WeakD st (fr x0)) (h0 : Inv x0)
    (h : ∀ x, Inv x → AWp E r c (thenQ (fun st' => ∃ y, WeakD st' (fr y) ∧ Inv y ∧ m y < m x) Q) (fr x)) : AWp E r (.loop c) Q st := by
  refine AWp.weakD hw (hb x0) (AWp.loopI fr Inv m x0 (Weak.refl _) h0 fun x hx => ?_)
  intro X I w a hE hN
  refine wpIn_mono (h x hx X I w a hE hN) ?_
  rintro e a' w' ⟨st', hN', hq⟩
  cases e with
  | normal =>
    obtain ⟨y, h1, h2, h3⟩ := hq
    exact ⟨fr y, hN'.weakD h1 (by rw [hE.1]; exact hb y), y, Weak.refl _, h2, h3⟩
  | _ => exact ⟨st', hN', hq⟩

attribute [go_sem] weakD_nil weakD WeakD
end Go.AM
end

