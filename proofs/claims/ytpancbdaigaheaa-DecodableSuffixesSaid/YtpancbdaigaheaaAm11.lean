/-
  AM 11: functions: a contract out of a body; a contract at a call.
-/
import Derived.Test.YtpancbdaigaheaaAm10
import Derived.RangeFuncRecord
namespace Go.AM
open Go.RowKit

def viewD : TypeDesc → TD
  | .bool => .bool
  | .int k => .int k
  | .string => .str
  | .slice e => .slice e
  | .map k e => .map k e
  | .struct a => .struct (a.toList.map fun f => (f.offset, f.type))
  | _ => .other

theorem viewD_ok (d : TypeDesc) : descOK (viewD d) d := by
  cases d <;> first | rfl | trivial | exact ⟨_, rfl, rfl⟩

theorem tyOK_of {P : Program} {t : TypeId} {td : TD} {cells bytes : Nat} {agg : Bool} {zv : Value} (h1 : (P.underlying t).map (fun d => (viewD d, aggDesc d)) = some (td, agg))
    (h2 : (P.info? t).map (fun i => (i.size, i.bytes, i.zero)) = some (cells, bytes, some zv)) (h3 : zv.cells.size = cells) : TyOK P t { td := td, cells := cells, bytes := bytes, zero := some (AV.ofValue zv), isAgg := agg } := by
  refine ⟨?_, ?_⟩
  · cases hd : P.underlying t with
    | none => rw [hd] at h1; cases h1
    | some d =>
      rw [hd] at h1
      simp only [Option.map_some, Option.some.injEq, Prod.mk.injEq] at h1
      obtain ⟨rfl, rfl⟩ := h1
      exact ⟨d, rfl, viewD_ok d, rfl⟩
  · cases hi : P.info? t with
    | none => rw [hi] at h2; cases h2
    | some i =>
      rw [hi] at h2
      simp only [Option.map_some, Option.some.injEq, Prod.mk.injEq] at h2
      obtain ⟨e1, e2, e3⟩ := h2
      refine ⟨i, rfl, e1, e2, fun z hz => ⟨zv, e3, ?_, h3⟩⟩
      simp only [Option.some.injEq] at hz
      subst hz
      exact fun _ _ _ _ => VR.ofValue zv

/-- Read now, through the heap: what an abstract value is as a pure one. -/
def AV.pur1 (h : List AObj) : AV → Option PV
  | .p v => some v
  | .full l => some (.sl l)
  | .own b _ => (match h[b]? with
    | some (.row _ _ xs _) => some (.sl xs)
    | _ => none)
  | _ => none
def AV.purL1 (h : List AObj) : List AV → Option (List PV)
  | [] => some []
  | v :: l => match v.pur1 h, AV.purL1 h l with
    | some x, some xs => some (x :: xs)
    | _, _ => none
def AV.pur (h : List AObj) : AV → Option PV
  | .agg l => (AV.purL1 h l).map .agg
  | v => v.pur1 h
def AV.purL (h : List AObj) : List AV → Option (List PV)
  | [] => some []
  | v :: l => match v.pur h, AV.purL h l with
    | some x, some xs => some (x :: xs)
    | _, _ => none

def Owned (ob : Nat → Option Nat) (g : Nat) : Prop := ∃ b, ob b = some g

section
variable {P : Program} {X : Ctx} {I : Nat → Prop} {μ : Nat → Value} {ob : Nat → Option Nat} {w w' : World} {h : List AObj} {n : Nat}

theorem VR.pur1 {x : AV} {v : Value} {p : PV} (hx : VR n μ I w x v) (hobj : ∀ b o, h[b]? = some o → ObjOK n μ I ob w b o) (hp : x.pur1 h = some p) : PR (fun g => I g ∨ Owned ob g) w p v := by
  unfold AV.pur1 at hp
  split at hp
  · injection hp with hp; subst hp
    cases hx with | p _ _ h => exact h.mono (fun _ h => .inl h) (fun _ _ => rfl)
  · injection hp with hp; subst hp
    cases hx with | full _ _ h => exact h.mono (fun _ h => .inl h) (fun _ _ => rfl)
  · rename_i b k
    split at hp
    · rename_i E s xs rk hb
      injection hp with hp; subst hp
      obtain ⟨hall, hrow⟩ := hobj _ _ hb
      obtain ⟨a, c, rfl, hbn, hbm⟩ := hx.own_inv
      rcases hrow with ⟨g, hg, hin⟩ | ⟨_, _, a', h1, h2⟩
      · rw [hbm] at hin
        exact hin.pr hall (fun _ h => .inl h) (.inr ⟨_, hg⟩)
      · rw [hbm] at h2
        exact h2.mono (fun _ h => .inl h) (fun _ _ => rfl)
    · cases hp
  · cases hp

theorem AV.purL1_get : ∀ {l : List AV} {ps : List PV}, AV.purL1 h l = some ps → l.length = ps.length ∧ ∀ i, i < l.length → (l.getD i .junk).pur1 h = some (ps.getD i default)
  | [], ps, e => by simp only [AV.purL1, Option.some.injEq] at e; subst e; simp
  | v :: l, ps, e => by
    simp only [AV.purL1] at e
    split at e
    · rename_i x xs h1 h2
      simp only [Option.some.injEq] at e; subst e
      obtain ⟨e1, e2⟩ := AV.purL1_get h2
      refine ⟨by simp [e1], fun i hi => ?_⟩
      cases i with
      | zero => simpa using h1
      | succ i => simpa using e2 i (by simpa using hi)
    · cases e
theorem AV.purL_get : ∀ {l : List AV} {ps : List PV}, AV.purL h l = some ps → l.length = ps.length ∧ ∀ i, i < l.length → (l.getD i .junk).pur h = some (ps.getD i default)
  | [], ps, e => by simp only [AV.purL, Option.some.injEq] at e; subst e; simp
  | v :: l, ps, e => by
    simp only [AV.purL] at e
    split at e
    · rename_i x xs h1 h2
      simp only [Option.some.injEq] at e; subst e
      obtain ⟨e1, e2⟩ := AV.purL_get h2
      refine ⟨by simp [e1], fun i hi => ?_⟩
      cases i with
      | zero => simpa using h1
      | succ i => simpa using e2 i (by simpa using hi)
    · cases e

theorem VR.pur {x : AV} {v : Value} {p : PV} (hx : VR n μ I w x v) (hobj : ∀ b o, h[b]? = some o → ObjOK n μ I ob w b o) (hp : x.pur h = some p) : PR (fun g => I g ∨ Owned ob g) w p v := by
  unfold AV.pur at hp
  split at hp
  · rename_i l
    obtain ⟨cs, rfl, hl, hr⟩ := hx.agg_inv
    cases hps : AV.purL1 h l with
    | none => rw [hps] at hp; simp at hp
    | some ps =>
      rw [hps] at hp; simp only [Option.map_some, Option.some.injEq] at hp; subst hp
      obtain ⟨e1, e2⟩ := AV.purL1_get hps
      exact .agg _ _ (by omega) (fun i hi => (hr i (by omega)).pur1 hobj (e2 i (by omega)))
  · exact hx.pur1 hobj hp

/-- A pure function: its results out of what its arguments read as; nothing that was there turns. -/
def PFn (P : Program) (f : FuncId) (args vs : List PV) : Prop :=
  EntersF P f ∧ ∀ (I : Nat → Prop) (w : World) (cargs : List Value), (∀ g, I g → g < w.heap.size) → args.length = cargs.length → (∀ i, i < args.length → PR I w (args.getD i default) (cargs.getD i undef)) →
    Calls P f cargs.toArray w fun e w' => ∃ cv I', e = .returned cv ∧ w.grownBy w' none ∧ (∀ g, I g → I' g) ∧ (∀ g, I' g → I g ∨ (w.heap.size ≤ g ∧ g < w'.heap.size)) ∧
      VR 0 (fun _ => undef) I' w' (packAV (vs.map .p)) cv

/-- How a body must be left. -/
def Ends (e : Exit) : Prop := e = .normal ∨ e = .ret

theorem leave_ok {R : Ending → World → Prop} {fn : Func} {tmps : Array Value} : ∀ (rs : List Nat) {ds : List Deferred} {w : World}, ds.map (·.target) = rs.map Target.collected → rs.Nodup → (∀ r ∈ rs, w.heap[r]? = some (.deferred (some []))) →
    (∀ w', w'.os = w.os → w'.tape = w.tape → w'.output = w.output → w'.heap.size = w.heap.size → (∀ k, k ∉ rs → w'.heap[k]? = w.heap[k]?) → ∃ v, (results fn tmps).run P w' = .ok v w' ∧ R (.returned v) w') → LeavesInM (Fw none) 0 P fn tmps R ds .returning w
  | [], ds, w, h1, _, _, hR => by
    have : ds = [] := by simpa using h1
    subst this
    obtain ⟨v, e1, e2⟩ := hR w rfl rfl rfl rfl (fun _ _ => rfl)
    exact ⟨v, e1, e2⟩
  | r :: rs, ds, w, h1, h2, h3, hR => by
    cases ds with
    | nil => simp at h1
    | cons d ds =>
      simp only [List.map_cons, List.cons.injEq] at h1
      have hr := h3 r (by simp)
      have hlt : r < w.heap.size := (Array.getElem?_eq_some_iff.1 hr).1
      refine ⟨by simp, .inl ⟨r, _, h1.1, run_takeDeferred hr, ?_⟩⟩
      refine leave_ok rs h1.2 (List.nodup_cons.1 h2).2 (fun q hq => ?_) (fun w' a1 a2 a3 a4 a5 => ?_)
      · have : q ≠ r := fun e => (List.nodup_cons.1 h2).1 (e ▸ hq)
        rw [World.putObj_heap_other this]; exact h3 q (by simp [hq])
      · refine hR w' a1 a2 a3 (a4.trans (by simp [World.putObj])) (fun k hk => ?_)
        rw [a5 k (fun h => hk (by simp [h])), World.putObj_heap_other (fun e => hk (by simp [e]))]

/-- The same memory, but for blocks that nobody reads. -/
theorem RepH.put {r : List Nat} (R : RepH X I μ ob h w) (h1 : w'.os = w.os) (h2 : w'.tape = w.tape) (h3 : w'.output = w.output) (h4 : w'.heap.size = w.heap.size) (h5 : ∀ k, k ∉ r → w'.heap[k]? = w.heap[k]?)
    (hr : ∀ k ∈ r, X.mine k ∧ ¬ I k ∧ ∀ b, ob b ≠ some k) : RepH X I μ ob h w' := by
  have hw : ∀ g, I g → w'.heap[g]? = w.heap[g]? := fun g hg => h5 g (fun hk => (hr g hk).2.1 hg)
  exact {
    below := R.below.trans ⟨h1, h2, h3, by omega, fun k hk => h5 k (fun hm => by have := (hr k hm).1.1; omega)⟩
    base := by have := R.base; omega
    frz := fun g hf => ⟨by have := (R.frz g hf).1; omega, (h5 g (fun hm => (hr g hm).1.2 hf)).trans (R.frz g hf).2⟩
    imm := fun g h => by rw [h4]; exact R.imm g h
    ctx := R.ctx, inew := R.inew, may := R.may, names := R.names
    own := fun b g h => by rw [h4]; exact R.own b g h
    sep := R.sep, past := R.past
    objs := fun b o ho => (R.objs b o ho).keep (Nat.le_refl _) (fun _ _ => rfl) rfl rfl (fun _ h => h) hw (fun g hg => h5 g (fun hm => (hr g hm).2.2 b hg)) }

theorem PFn.of_body {Γ : Gam} {f : FuncId} {fn : Func} {c : Code} {args vs : List PV} (hΓ : GamOK P Γ) (hf : P.funcs[f]? = some fn) (hname : (fn.name == "runtime.NumGoroutine") = false) (hb : fn.body = some c)
    (hw : AWp ⟨P, Γ, 0, []⟩ none c (fun e st => Ends e ∧ resK Γ st fn.results.toList fun l => AV.purL st.h l = some vs) ⟨args.map .p ++ List.replicate (fn.ntmps - args.length) .junk, []⟩) : PFn P f args vs := by
  refine ⟨entersF_of hf hname hb, fun I w cargs himm hlen hargs => ?_⟩
  let X : Ctx := { B0 := w.heap.size, w0 := w, I0 := I, μ0 := fun _ => undef, n0 := 0, ks := [], fz := fun _ => False, w1 := w }
  refine callsIn_wide.1 (?_ : CallsIn (Fw none) 0 P f cargs.toArray w _)
  refine callsIn_of_wp_marks hf hb trivial ?_
  have hN : Now X I ⟨args.map .p ++ List.replicate (fn.ntmps - args.length) .junk, []⟩ w { tmps := cargs.toArray ++ Array.replicate (fn.ntmps - cargs.toArray.size) undef, defers := [] } := by
    refine ⟨I, fun _ => undef, fun _ => none, fun _ h => h, {
      below := Below.refl _ _, base := Nat.le_refl _, imm := himm, ctx := fun _ h => h, frz := fun _ h => h.elim, inew := fun _ h => .inl h, may := fun _ _ => rfl, names := Nat.zero_le _
      own := fun b g h => (by cases h), sep := fun b b' g h => (by cases h), past := fun _ _ => rfl, objs := fun b o h => (by simp at h)
      size := by simp [hlen], tmps := fun i hi => ?_, marks := ⟨[], rfl, List.nodup_nil, by simp⟩ }⟩
    by_cases h1 : i < args.length
    · have e1 : (args.map AV.p ++ List.replicate (fn.ntmps - args.length) AV.junk).getD i AV.junk = .p (args.getD i default) := by
        rw [← getD_map_p _ _ h1]
        simp only [List.getD_eq_getElem?_getD, List.getElem?_append_left (show i < (args.map AV.p).length by simpa using h1)]
      have e2 : (cargs.toArray ++ Array.replicate (fn.ntmps - cargs.toArray.size) undef).getD i undef = cargs.getD i undef := by
        rw [agetD, Array.toList_append]
        simp only [List.getD_eq_getElem?_getD]
        rw [List.getElem?_append_left (by simpa using (show i < cargs.length by omega))]
      rw [e1, e2]; exact .p _ _ (hargs i h1)
    · have e1 : (args.map AV.p ++ List.replicate (fn.ntmps - args.length) AV.junk).getD i AV.junk = .junk := by
        simp only [List.getD_eq_getElem?_getD, List.getElem?_append_right (show (args.map AV.p).length ≤ i by simp; omega), List.getElem?_replicate]
        split <;> rfl
      rw [e1]; exact .junk _
  refine wpIn_mono (hw X I w _ ⟨rfl, rfl⟩ hN) ?_
  rintro e a' w' ⟨st', ⟨I', μ', ob', hI, R⟩, he, hres⟩
  obtain ⟨rs, m1, m2, m3⟩ := R.marks
  have hleave : LeavesInM (Fw none) 0 P fn a'.tmps (fun e w' => ∃ cv I', e = .returned cv ∧ w.grownBy w' none ∧ (∀ g, I g → I' g) ∧ (∀ g, I' g → I g ∨ (w.heap.size ≤ g ∧ g < w'.heap.size)) ∧
      VR 0 (fun _ => undef) I' w' (packAV (vs.map .p)) cv) a'.defers .returning w' := by
    refine leave_ok rs m1 m2 (fun r hr => (m3 r hr).1) (fun w'' a1 a2 a3 a4 a5 => ?_)
    have R2 := R.toRepH.put a1 a2 a3 a4 a5 (fun k hk => ⟨(m3 k hk).2.1, (m3 k hk).2.2.1, (m3 k hk).2.2.2⟩)
    have htm : ∀ i, i < st'.tmps.length → VR st'.h.length μ' I' w'' (st'.tmps.getD i .junk) (a'.tmps.getD i undef) := fun i hi =>
      (R.tmps i hi).mono (Nat.le_refl _) (fun _ _ => rfl) (fun _ h => h) (fun g hg => a5 g (fun hm => (m3 g hm).2.2.1 hg))
    obtain ⟨l, cs, r1, r2, r3, r4⟩ := resK_ok (E := ⟨P, Γ, 0, []⟩) (a := a') hΓ R2 htm _ hres
    have hm : (fn.results.mapM (readRes a'.tmps)).run P w'' = .ok cs.toArray w'' := by
      have h5 : fn.results.mapM (readRes a'.tmps) = Functor.map List.toArray (fn.results.toList.mapM (readRes a'.tmps)) := by
        conv => lhs; rw [← Array.toArray_toList (xs := fn.results)]
        exact List.mapM_toArray
      rw [h5]; simp [r1]
    refine ⟨_, by rw [results_eq]; simp only [Sem.run_bind]; rw [hm]; rfl, _, fun g => I' g ∨ Owned ob' g, rfl, ?_, fun g h => .inl (hI g h), fun g hg => ?_, ?_⟩
    · exact ⟨R2.below.os, R2.below.tape, R2.below.output, R2.below.size, fun k hk _ => R2.below.block k hk⟩
    · rcases hg with hg | ⟨b, hb⟩
      · rcases R2.inew g hg with h | h
        · exact .inl h
        · exact .inr ⟨h.1, R2.imm g hg⟩
      · exact .inr ⟨(R2.own b g hb).2.1.1, (R2.own b g hb).2.2⟩
    · obtain ⟨e1, e2⟩ := AV.purL_get r4
      have hv : ∀ i, i < l.length → VR 0 (fun _ => undef) (fun g => I' g ∨ Owned ob' g) w'' ((vs.map .p).getD i .junk) (cs.getD i undef) := fun i hi => by
        rw [getD_map_p _ _ (by omega)]
        exact .p _ _ ((r3 i hi).pur R2.objs (e2 i hi))
      match l, cs, vs, r2, e1, hv with
      | [x], [c], [v], _, _, hv => exact hv 0 (by simp)
      | [], [], [], _, _, hv => exact .tup [] [] rfl (by simp)
      | x :: y :: l, c :: d :: cs, v :: u :: vs, h2, h3, hv => exact .tup _ (c :: d :: cs) (by simp at h2 h3 ⊢; omega) (fun i hi => hv i (by simp at hi h3 ⊢; omega))
  rcases he with rfl | rfl
  · exact hleave
  · exact hleave

/-- A pure function's contract at a call, where no argument is owned. -/
theorem AC.of_fn {f : FuncId} {args : List AV} {pargs vs : List PV} (hfn : PFn P f pargs vs) (hp : AV.pures args = some pargs ∨ AV.purL [] args = some pargs) : AC P f args h [] (fun v h' => v = packAV (vs.map .p) ∧ h' = h) := by
  refine ⟨hfn.1, fun X I μ ob w cargs R hlen hargs _ => ?_⟩
  have key : args.length = pargs.length ∧ ∀ i, i < args.length → PR I w (pargs.getD i default) (cargs.getD i undef) := by
    rcases hp with hp | hp
    · obtain ⟨e1, e2⟩ := AV.pures_get hp
      exact ⟨e1, fun i hi => (hargs i hi).pure1 (e2 i hi)⟩
    · obtain ⟨e1, e2⟩ := AV.purL_get hp
      refine ⟨e1, fun i hi => ?_⟩
      have := (hargs i hi).pur (h := []) (ob := fun _ => none) (fun b o hb => by simp at hb) (e2 i hi)
      exact this.mono (fun g hg => hg.elim id (fun ⟨b, hb⟩ => by cases hb)) (fun _ _ => rfl)
  have hc := hfn.2 I w cargs R.imm (by omega) (fun i hi => key.2 i (by omega))
  intro fs
  obtain ⟨e, w', fr, ⟨cv, I', rfl, hg, hI, hI2, hv⟩, hcom⟩ := hc fs
  refine ⟨_, w', fr, ⟨cv, _, h, I', μ, ob, rfl, R.grow hg hI hI2, hv.mono (Nat.zero_le _) (fun b hb => absurd hb (Nat.not_lt_zero _)) (fun _ h => h) (fun _ _ => rfl), hI, fun _ _ _ => rfl, Nat.le_refl _, fun g hg => (hI2 g hg).imp id (fun h => .inr h.1), fun b g hb => .inl ⟨b, hb⟩, fun g hlt _ => hg.block g hlt (by simp), rfl, rfl⟩, hcom⟩

/-- Values without an address. -/
def PV.scal : PV → Bool
  | .bool _ | .int _ _ | .str _ => true
  | .agg l => l.all fun
    | .bool _ | .int _ _ | .str _ => true
    | _ => false
  | _ => false

theorem PR.scal {p : PV} {v : Value} {J : Nat → Prop} {w' : World} (hp : PR I w p v) (h : p.scal = true) : PR J w' p v := by
  cases hp with
  | bool b => exact .bool b
  | int k n => exact .int k n
  | str s => exact .str s
  | sl0 a c h' => simp [PV.scal] at h
  | sl l s g off cap cur E fz vs hl hI hw hc hs hv hr => simp [PV.scal] at h
  | agg l cs hl hr =>
    refine .agg l cs hl (fun i hi => ?_)
    have h1 := hr i hi
    simp only [PV.scal, List.all_eq_true] at h
    have h2 := h (l.getD i default) (by rw [List.getD_eq_getElem?_getD, List.getElem?_eq_getElem hi, Option.getD_some]; exact List.getElem_mem _)
    generalize l.getD i default = q at h1 h2
    generalize cs.getD i undef = c at h1
    cases h1 with
    | bool b => exact .bool b
    | int k n => exact .int k n
    | str s => exact .str s
    | _ => simp at h2

/-- A pure function's contract at a call, where arguments may be owned and the results are plain. -/
theorem AC.of_fn_own {f : FuncId} {args : List AV} {pargs vs : List PV} (hfn : PFn P f pargs vs) (hp : AV.purL h args = some pargs) (hs : vs.all PV.scal = true) : AC P f args h [] (fun v h' => v = packAV (vs.map .p) ∧ h' = h) := by
  refine ⟨hfn.1, fun X I μ ob w cargs R hlen hargs _ => ?_⟩
  obtain ⟨e1, e2⟩ := AV.purL_get hp
  have hc := hfn.2 (fun g => I g ∨ Owned ob g) w cargs (fun g hg => hg.elim (R.imm g) (fun ⟨b, hb⟩ => (R.own b g hb).2.2)) (by omega) (fun i hi => (hargs i (by omega)).pur R.objs (e2 i (by omega)))
  intro fs
  obtain ⟨e, w', fr, ⟨cv, I', rfl, hg, hI, hI2, hv⟩, hcom⟩ := hc fs
  have hv2 : VR h.length μ I w' (packAV (vs.map .p)) cv := by
    have one : ∀ i c, i < vs.length → VR 0 (fun _ => undef) I' w' ((vs.map AV.p).getD i .junk) c → VR h.length μ I w' ((vs.map AV.p).getD i .junk) c := by
      intro i c hi hh
      rw [getD_map_p _ _ hi] at hh ⊢
      cases hh with
      | p _ _ h1 => exact .p _ _ (h1.scal (List.all_eq_true.1 hs _ (by rw [List.getD_eq_getElem?_getD, List.getElem?_eq_getElem hi, Option.getD_some]; exact List.getElem_mem _)))
    match vs, hv, one with
    | [], hv, _ => 
      obtain ⟨cs, rfl, hl, _⟩ := hv.tup_inv
      exact .tup [] cs hl (by simp)
    | [x], hv, one => exact one 0 cv (by simp) hv
    | x :: y :: l, hv, one =>
      obtain ⟨cs, rfl, hl, hr⟩ := hv.tup_inv
      exact .tup _ cs hl (fun i hi => one i _ (by simpa using hi) (hr i hi))
  exact ⟨_, w', fr, ⟨cv, _, h, I, μ, ob, rfl, R.grow hg (fun _ h => h) (fun _ h => .inl h), hv2, fun _ h => h, fun _ _ _ => rfl, Nat.le_refl _, fun g hg => .inl hg, fun b g hb => .inl ⟨b, hb⟩, fun g hlt _ => hg.block g hlt (by simp), rfl, rfl⟩, hcom⟩
end
end Go.AM
