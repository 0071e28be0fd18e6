/-
  Texts of this claim, joined.
-/
import Derived.Test.YtnilegembmcelaaDoorJc86bd9ec19e1
import Derived.RangeFuncRecord

section
namespace Go.AM
open Go.RowKit

def Zcz : TypeDesc → TD
  | .bool => .bool
  | .int k => .int k
  | .string => .str
  | .slice e => .slice e
  | .map k e => .map k e
  | .struct a => .struct (a.toList.map fun f => (f.offset, f.type))
  | .array n e => .array n e
  | _ => .other

theorem Zb6 (d : TypeDesc) : Z7 (Zcz d) d := by
  cases d <;> first | rfl | trivial | exact ⟨_, rfl, rfl⟩

theorem Z7r {P : Program} {t : TypeId} {td : TD} {cells bytes : Nat} {agg eq : Bool} {zv : Value} (h1 : (P.underlying t).map (fun d => (Zcz d, Z01 d)) = some (td, agg))
    (h2 : (P.info? t).map (fun i => (i.size, i.bytes, i.zero)) = some (cells, bytes, some zv)) (h3 : zv.cells.size = cells)
    (h4 : eq = true → P.stoodInHeld t = false ∧ P.eqGuardType P.depth t = false ∧ (P.fieldsOf t).toList.all (fun f => f.name != "_") = true) : TyOK P t { td := td, cells := cells, bytes := bytes, zero := some (AV.ofValue zv), isAgg := agg, eqs := eq } := by
  refine ⟨?_, ?_, h4⟩
  · cases hd : P.underlying t with
    | none => rw [hd] at h1; cases h1
    | some d =>
      rw [hd] at h1; simp only [Option.map_some, Option.some.injEq, Prod.mk.injEq] at h1; obtain ⟨rfl, rfl⟩ := h1; exact ⟨d, rfl, Zb6 d, rfl⟩
  · cases hi : P.info? t with
    | none => rw [hi] at h2; cases h2
    | some i =>
      rw [hi] at h2; simp only [Option.map_some, Option.some.injEq, Prod.mk.injEq] at h2; obtain ⟨e1, e2, e3⟩ := h2; refine ⟨i, rfl, e1, e2, fun z hz => ⟨zv, e3, ?_, h3⟩⟩; simp only [Option.some.injEq] at hz; subst hz; exact fun _ _ _ _ => VR.ofValue zv

theorem Z1 {P : Program} {t : TypeId} {td : TD} {cells bytes : Nat} {agg : Bool} {zv : Value} (h1 : (P.underlying t).map (fun d => (Zcz d, Z01 d)) = some (td, agg))
    (h2 : (P.info? t).map (fun i => (i.size, i.bytes, i.zero)) = some (cells, bytes, some zv)) (h3 : zv.cells.size = cells) : TyOK P t { td := td, cells := cells, bytes := bytes, zero := some (AV.ofValue zv), isAgg := agg } :=
  Z7r h1 h2 h3 (fun h => by cases h)

def AV.pur1 (h : List AObj) : AV → Option PV
  | .p v => some v
  | .full l => some (.sl l)
  | .nil => some (.sl [])
  | .own b _ => (match h[b]? with
    | some (.row _ _ xs _) => some (.sl xs)
    | _ => none)
  | _ => none
def AV.purL1 (h : List AObj) : List AV → Option (List PV)
  | [] => some []
  | v :: l => match v.pur1 h, AV.purL1 h l with
    | some x, some xs => some (x :: xs)
    | _, _ => none
def AV.pur (h : List AObj) : AV → Option PV
  | .agg l => (AV.purL1 h l).map .agg
  | v => v.pur1 h
def AV.purL (h : List AObj) : List AV → Option (List PV)
  | [] => some []
  | v :: l => match v.pur h, AV.purL h l with
    | some x, some xs => some (x :: xs)
    | _, _ => none

def Zax (ob : Nat → Option Nat) (g : Nat) : Prop := ∃ b, ob b = some g

section
variable {P : Program} {X : Ctx} {I : Nat → Prop} {μ : Nat → Value} {ob : Nat → Option Nat} {w w' : World} {h : List AObj} {n : Nat}

theorem VR.pur1 {x : AV} {v : Value} {p : PV} (hx : VR n μ I w x v) (hobj : ∀ b o, h[b]? = some o → ObjOK n μ I ob w b o) (hp : x.pur1 h = some p) : PR (fun g => I g ∨ Zax ob g) w p v := by
  unfold AV.pur1 at hp
  split at hp
  · injection hp with hp; subst hp
    cases hx with | p _ _ h => exact h.mono (fun _ h => .inl h) (fun _ _ => rfl)
  · injection hp with hp; subst hp
    cases hx with | full _ _ h => exact h.mono (fun _ h => .inl h) (fun _ _ => rfl)
  · injection hp with hp; subst hp
    cases hx with | nil => exact .sl0 none 0 (fun _ => rfl)
  · rename_i b k
    split at hp
    · rename_i E s xs rk hb
      injection hp with hp; subst hp
      obtain ⟨hall, hrow⟩ := hobj _ _ hb; obtain ⟨a, c, rfl, hbn, hbm⟩ := hx.own_inv; rcases hrow with ⟨g, hg, hin⟩ | ⟨_, _, a', h1, h2⟩
      · rw [hbm] at hin
        exact hin.pr hall (fun _ h => .inl h) (.inr ⟨_, hg⟩)
      · rw [hbm] at h2
        exact h2.mono (fun _ h => .inl h) (fun _ _ => rfl)
    · cases hp
  · cases hp

theorem AV.purL1_get : ∀ {l : List AV} {ps : List PV}, AV.purL1 h l = some ps → l.length = ps.length ∧ ∀ i, i < l.length → (l.getD i .junk).pur1 h = some (ps.getD i default)
  | [], ps, e => by simp only [AV.purL1, Option.some.injEq] at e; subst e; simp
  | v :: l, ps, e => by
    simp only [AV.purL1] at e
    split at e
    · rename_i x xs h1 h2
      simp only [Option.some.injEq] at e; subst e; obtain ⟨e1, e2⟩ := AV.purL1_get h2; refine ⟨by simp [e1], fun i hi => ?_⟩
      cases i with
      | zero => simpa using h1
      | succ i => simpa using e2 i (by simpa using hi)
    · cases e
theorem AV.purL_get : ∀ {l : List AV} {ps : List PV}, AV.purL h l = some ps → l.length = ps.length ∧ ∀ i, i < l.length → (l.getD i .junk).pur h = some (ps.getD i default)
  | [], ps, e => by simp only [AV.purL, Option.some.injEq] at e; subst e; simp
  | v :: l, ps, e => by
    simp only [AV.purL] at e
    split at e
    · rename_i x xs h1 h2
      simp only [Option.some.injEq] at e; subst e; obtain ⟨e1, e2⟩ := AV.purL_get h2; refine ⟨by simp [e1], fun i hi => ?_⟩
      cases i with
      | zero => simpa using h1
      | succ i => simpa using e2 i (by simpa using hi)
    · cases e

theorem VR.pur {x : AV} {v : Value} {p : PV} (hx : VR n μ I w x v) (hobj : ∀ b o, h[b]? = some o → ObjOK n μ I ob w b o) (hp : x.pur h = some p) : PR (fun g => I g ∨ Zax ob g) w p v := by
  unfold AV.pur at hp
  split at hp
  · rename_i l
    obtain ⟨cs, rfl, hl, hr⟩ := hx.agg_inv
    cases hps : AV.purL1 h l with
    | none => rw [hps] at hp; simp at hp
    | some ps =>
      rw [hps] at hp; simp only [Option.map_some, Option.some.injEq] at hp; subst hp; obtain ⟨e1, e2⟩ := AV.purL1_get hps; exact .agg _ _ (by omega) (fun i hi => (hr i (by omega)).pur1 hobj (e2 i (by omega)))
  · exact hx.pur1 hobj hp

def PFn (P : Program) (f : FuncId) (args vs : List PV) : Prop :=
  Z5p P f ∧ ∀ (I : Nat → Prop) (w : World) (cargs : List Value), (∀ g, I g → g < w.heap.size) → Laid I w → args.length = cargs.length → (∀ i, i < args.length → PR I w (args.getD i default) (cargs.getD i undef)) →
    Calls P f cargs.toArray w fun e w' => ∃ cv I', e = .returned cv ∧ w.grownBy w' none ∧ (∀ g, I g → I' g) ∧ (∀ g, I' g → I g ∨ (w.heap.size ≤ g ∧ g < w'.heap.size)) ∧
      VR 0 (fun _ => undef) I' w' (Z0a (vs.map .p)) cv

def Ends (e : Exit) : Prop := e = .normal ∨ e = .ret

theorem Z3n {R : Ending → World → Prop} {fn : Func} {tmps : Array Value} : ∀ (rs : List Nat) {ds : List Deferred} {w : World}, ds.map (·.target) = rs.map Target.collected → rs.Nodup → (∀ r ∈ rs, w.heap[r]? = some (.deferred (some []))) →
    (∀ w', w'.os = w.os → w'.tape = w.tape → w'.output = w.output → w'.heap.size = w.heap.size → (∀ k, k ∉ rs → w'.heap[k]? = w.heap[k]?) → ∃ v, (results fn tmps).run P w' = .ok v w' ∧ R (.returned v) w') → LeavesInM (Fw none) 0 P fn tmps R ds .returning w
  | [], ds, w, h1, _, _, hR => by
    have : ds = [] := by simpa using h1
    subst this; obtain ⟨v, e1, e2⟩ := hR w rfl rfl rfl rfl (fun _ _ => rfl); exact ⟨v, e1, e2⟩
  | r :: rs, ds, w, h1, h2, h3, hR => by
    cases ds with
    | nil => simp at h1
    | cons d ds =>
      simp only [List.map_cons, List.cons.injEq] at h1; have hr := h3 r (by simp); have hlt : r < w.heap.size := (Array.getElem?_eq_some_iff.1 hr).1; refine ⟨by simp, .inl ⟨r, _, h1.1, run_takeDeferred hr, ?_⟩⟩; refine Z3n rs h1.2 (List.nodup_cons.1 h2).2 (fun q hq => ?_) (fun w' a1 a2 a3 a4 a5 => ?_)
      · have : q ≠ r := fun e => (List.nodup_cons.1 h2).1 (e ▸ hq)
        rw [World.putObj_heap_other this]; exact h3 q (by simp [hq])
      · refine hR w' a1 a2 a3 (a4.trans (by simp [World.putObj])) (fun k hk => ?_)
        rw [a5 k (fun h => hk (by simp [h])), World.putObj_heap_other (fun e => hk (by simp [e]))]

theorem RepH.put {r : List Nat} (R : RepH X I μ ob h w) (h1 : w'.os = w.os) (h2 : w'.tape = w.tape) (h3 : w'.output = w.output) (h4 : w'.heap.size = w.heap.size) (h5 : ∀ k, k ∉ r → w'.heap[k]? = w.heap[k]?)
    (hr : ∀ k ∈ r, X.mine k ∧ ¬ I k ∧ ∀ b, ob b ≠ some k) : RepH X I μ ob h w' := by
  have hw : ∀ g, I g → w'.heap[g]? = w.heap[g]? := fun g hg => h5 g (fun hk => (hr g hk).2.1 hg)
  exact {
    laid := R.laid.mono (fun _ h => h) hw
    below := R.below.trans ⟨h1, h2, h3, by omega, fun k hk => h5 k (fun hm => by have := (hr k hm).1.1; omega)⟩
    base := by have := R.base; omega
    frz := fun g hf => ⟨by have := (R.frz g hf).1; omega, (h5 g (fun hm => (hr g hm).1.2 hf)).trans (R.frz g hf).2⟩
    imm := fun g h => by rw [h4]; exact R.imm g h
    ctx := R.ctx, inew := R.inew, may := R.may, names := R.names
    own := fun b g h => by rw [h4]; exact R.own b g h
    sep := R.sep, past := R.past
    objs := fun b o ho => (R.objs b o ho).keep (Nat.le_refl _) (fun _ _ => rfl) rfl rfl (fun _ h => h) hw (fun g hg => h5 g (fun hm => (hr g hm).2.2 b hg)) }

theorem PFn.of_body {Γ : Gam} {f : FuncId} {fn : Func} {c : Code} {args vs : List PV} (hΓ : Zg P Γ) (hf : P.funcs[f]? = some fn) (hname : (fn.name == "runtime.NumGoroutine") = false) (hb : fn.body = some c)
    (hw : AWp ⟨P, Γ, 0, []⟩ none c (fun e st => Ends e ∧ resK Γ st fn.results.toList fun l => AV.purL st.h l = some vs) ⟨args.map .p ++ List.replicate (fn.ntmps - args.length) .junk, []⟩) : PFn P f args vs := by
  refine ⟨Z06 hf hname hb, fun I w cargs himm hL hlen hargs => ?_⟩
  let X : Ctx := { B0 := w.heap.size, w0 := w, I0 := I, μ0 := fun _ => undef, n0 := 0, ks := [], fz := fun _ => False, w1 := w }
  refine callsIn_wide.1 (?_ : CallsIn (Fw none) 0 P f cargs.toArray w _); refine callsIn_of_wp_marks hf hb trivial ?_; have hN : Now X I ⟨args.map .p ++ List.replicate (fn.ntmps - args.length) .junk, []⟩ w { tmps := cargs.toArray ++ Array.replicate (fn.ntmps - cargs.toArray.size) undef, defers := [] } := by
    refine ⟨I, fun _ => undef, fun _ => none, fun _ h => h, {
      below := Below.refl _ _, laid := hL, base := Nat.le_refl _, imm := himm, ctx := fun _ h => h, frz := fun _ h => h.elim, inew := fun _ h => .inl h, may := fun _ _ => rfl, names := Nat.zero_le _
      own := fun b g h => (by cases h), sep := fun b b' g h => (by cases h), past := fun _ _ => rfl, objs := fun b o h => (by simp at h)
      size := by simp [hlen], tmps := fun i hi => ?_, marks := ⟨[], rfl, List.nodup_nil, by simp⟩ }⟩
    by_cases h1 : i < args.length
    · have e1 : (args.map AV.p ++ List.replicate (fn.ntmps - args.length) AV.junk).getD i AV.junk = .p (args.getD i default) := by
        rw [← Z0n _ _ h1]; simp only [List.getD_eq_getElem?_getD, List.getElem?_append_left (show i < (args.map AV.p).length by simpa using h1)]
      have e2 : (cargs.toArray ++ Array.replicate (fn.ntmps - cargs.toArray.size) undef).getD i undef = cargs.getD i undef := by
        rw [Z5m, Array.toList_append]; simp only [List.getD_eq_getElem?_getD]; rw [List.getElem?_append_left (by simpa using (show i < cargs.length by omega))]
      rw [e1, e2]; exact .p _ _ (hargs i h1)
    · have e1 : (args.map AV.p ++ List.replicate (fn.ntmps - args.length) AV.junk).getD i AV.junk = .junk := by
        simp only [List.getD_eq_getElem?_getD, List.getElem?_append_right (show (args.map AV.p).length ≤ i by simp; omega), List.getElem?_replicate]
        split <;> rfl
      rw [e1]; exact .junk _
  refine wpIn_mono (hw X I w _ ⟨rfl, rfl⟩ hN) ?_; rintro e a' w' ⟨st', ⟨I', μ', ob', hI, R⟩, he, hres⟩; obtain ⟨rs, m1, m2, m3⟩ := R.marks
  have hleave : LeavesInM (Fw none) 0 P fn a'.tmps (fun e w' => ∃ cv I', e = .returned cv ∧ w.grownBy w' none ∧ (∀ g, I g → I' g) ∧ (∀ g, I' g → I g ∨ (w.heap.size ≤ g ∧ g < w'.heap.size)) ∧
      VR 0 (fun _ => undef) I' w' (Z0a (vs.map .p)) cv) a'.defers .returning w' := by
    refine Z3n rs m1 m2 (fun r hr => (m3 r hr).1) (fun w'' a1 a2 a3 a4 a5 => ?_); have R2 := R.toRepH.put a1 a2 a3 a4 a5 (fun k hk => ⟨(m3 k hk).2.1, (m3 k hk).2.2.1, (m3 k hk).2.2.2⟩)
    have htm : ∀ i, i < st'.tmps.length → VR st'.h.length μ' I' w'' (st'.tmps.getD i .junk) (a'.tmps.getD i undef) := fun i hi =>
      (R.tmps i hi).mono (Nat.le_refl _) (fun _ _ => rfl) (fun _ h => h) (fun g hg => a5 g (fun hm => (m3 g hm).2.2.1 hg))
    obtain ⟨l, cs, r1, r2, r3, r4⟩ := Z3y (E := ⟨P, Γ, 0, []⟩) (a := a') hΓ R2 htm _ hres; have hm : (fn.results.mapM (Z0d a'.tmps)).run P w'' = .ok cs.toArray w'' := by
      have h5 : fn.results.mapM (Z0d a'.tmps) = Functor.map List.toArray (fn.results.toList.mapM (Z0d a'.tmps)) := by
        conv => lhs; rw [← Array.toArray_toList (xs := fn.results)]
        exact List.mapM_toArray
      rw [h5]; simp [r1]
    refine ⟨_, by rw [Z2z]; simp only [Sem.run_bind]; rw [hm]; rfl, _, fun g => I' g ∨ Zax ob' g, rfl, ?_, fun g h => .inl (hI g h), fun g hg => ?_, ?_⟩
    · exact ⟨R2.below.os, R2.below.tape, R2.below.output, R2.below.size, fun k hk _ => R2.below.block k hk⟩
    · rcases hg with hg | ⟨b, hb⟩
      · rcases R2.inew g hg with h | h
        · exact .inl h
        · exact .inr ⟨h.1, R2.imm g hg⟩
      · exact .inr ⟨(R2.own b g hb).2.1.1, (R2.own b g hb).2.2⟩
    · obtain ⟨e1, e2⟩ := AV.purL_get r4
      have hv : ∀ i, i < l.length → VR 0 (fun _ => undef) (fun g => I' g ∨ Zax ob' g) w'' ((vs.map .p).getD i .junk) (cs.getD i undef) := fun i hi => by
        rw [Z0n _ _ (by omega)]; exact .p _ _ ((r3 i hi).pur R2.objs (e2 i hi))
      match l, cs, vs, r2, e1, hv with
      | [x], [c], [v], _, _, hv => exact hv 0 (by simp)
      | [], [], [], _, _, hv => exact .tup [] [] rfl (by simp)
      | x :: y :: l, c :: d :: cs, v :: u :: vs, h2, h3, hv => exact .tup _ (c :: d :: cs) (by simp at h2 h3 ⊢; omega) (fun i hi => hv i (by simp at hi h3 ⊢; omega))
  rcases he with rfl | rfl
  · exact hleave
  · exact hleave

theorem AC.of_fn {f : FuncId} {args : List AV} {pargs vs : List PV} (hfn : PFn P f pargs vs) (hp : AV.pures args = some pargs ∨ AV.purL [] args = some pargs) : AC P f args h [] (fun v h' => v = Z0a (vs.map .p) ∧ h' = h) := by
  refine ⟨hfn.1, fun X I μ ob w cargs R hlen hargs _ => ?_⟩; have key : args.length = pargs.length ∧ ∀ i, i < args.length → PR I w (pargs.getD i default) (cargs.getD i undef) := by
    rcases hp with hp | hp
    · obtain ⟨e1, e2⟩ := AV.pures_get hp
      exact ⟨e1, fun i hi => (hargs i hi).pure1 (e2 i hi)⟩
    · obtain ⟨e1, e2⟩ := AV.purL_get hp
      refine ⟨e1, fun i hi => ?_⟩; have := (hargs i hi).pur (h := []) (ob := fun _ => none) (fun b o hb => by simp at hb) (e2 i hi); exact this.mono (fun g hg => hg.elim id (fun ⟨b, hb⟩ => by cases hb)) (fun _ _ => rfl)
  have hc := hfn.2 I w cargs R.imm R.laid (by omega) (fun i hi => key.2 i (by omega)); intro fs; obtain ⟨e, w', fr, ⟨cv, I', rfl, hg, hI, hI2, hv⟩, hcom⟩ := hc fs; refine ⟨_, w', fr, ⟨cv, _, h, I', μ, ob, rfl, R.grow hg hI hI2, hv.mono (Nat.zero_le _) (fun b hb => absurd hb (Nat.not_lt_zero _)) (fun _ h => h) (fun _ _ => rfl), hI, fun _ _ _ => rfl, Nat.le_refl _, fun g hg => (hI2 g hg).imp id (fun h => .inr h.1), fun b g hb => .inl ⟨b, hb⟩, fun g hlt _ => hg.block g hlt (by simp), rfl, rfl⟩, hcom⟩

theorem AC.of_fn_own {f : FuncId} {args : List AV} {pargs vs : List PV} (hfn : PFn P f pargs vs) (hp : AV.purL h args = some pargs) (hs : vs.all PV.scal = true) : AC P f args h [] (fun v h' => v = Z0a (vs.map .p) ∧ h' = h) := by
  refine ⟨hfn.1, fun X I μ ob w cargs R hlen hargs _ => ?_⟩; obtain ⟨e1, e2⟩ := AV.purL_get hp; have hc := hfn.2 (fun g => I g ∨ Zax ob g) w cargs (fun g hg => hg.elim (R.imm g) (fun ⟨b, hb⟩ => (R.own b g hb).2.2)) (R.laid.mono (fun _ h => .inl h) (fun _ _ => rfl)) (by omega) (fun i hi => (hargs i (by omega)).pur R.objs (e2 i (by omega))); intro fs; obtain ⟨e, w', fr, ⟨cv, I', rfl, hg, hI, hI2, hv⟩, hcom⟩ := hc fs; have hv2 : VR h.length μ I w' (Z0a (vs.map .p)) cv := by
    have one : ∀ i c, i < vs.length → VR 0 (fun _ => undef) I' w' ((vs.map AV.p).getD i .junk) c → VR h.length μ I w' ((vs.map AV.p).getD i .junk) c := by
      intro i c hi hh; rw [Z0n _ _ hi] at hh ⊢
      cases hh with
      | p _ _ h1 => exact .p _ _ (h1.scal (List.all_eq_true.1 hs _ (by rw [List.getD_eq_getElem?_getD, List.getElem?_eq_getElem hi, Option.getD_some]; exact List.getElem_mem _)))
    match vs, hv, one with
    | [], hv, _ => 
      obtain ⟨cs, rfl, hl, _⟩ := hv.tup_inv; exact .tup [] cs hl (by simp)
    | [x], hv, one => exact one 0 cv (by simp) hv
    | x :: y :: l, hv, one =>
      obtain ⟨cs, rfl, hl, hr⟩ := hv.tup_inv; exact .tup _ cs hl (fun i hi => one i _ (by simpa using hi) (hr i hi))
  exact ⟨_, w', fr, ⟨cv, _, h, I, μ, ob, rfl, R.grow hg (fun _ h => h) (fun _ h => .inl h), hv2, fun _ h => h, fun _ _ _ => rfl, Nat.le_refl _, fun g hg => .inl hg, fun b g hb => .inl ⟨b, hb⟩, fun g hlt _ => hg.block g hlt (by simp), rfl, rfl⟩, hcom⟩
end
end Go.AM
end

section
namespace Go.AM
open Go.RowKit

def awp (E : Env) (r : Option Nat) : Code → (Exit → St → Prop) → St → Prop
  | .skip, Q, st => Q .normal st
  | .label _, Q, st => Q .normal st
  | .ret, Q, st => Q .ret st
  | .exit id, Q, st => Q (.exit id) st
  | .region id ops draw, Q, st => if draw then AWp E r (.region id ops true) Q st else Z0p E ops.toList ops.toList st (Q .normal)
  | .seq x y, Q, st => awp E r x (Z3f (awp E r y Q) Q) st
  | .cond c x y, Q, st => Z11 (ev st.tmps c) (awp E r x Q st) (awp E r y Q st)
  | .block id c, Q, st => awp E r c (Z2v id Q) st
  | c, Q, st => AWp E r c Q st

def cvY (Γ : Gam) (tm : List AV) (h : List AObj) (d : Option Nat) (s t : TypeId) (v : AV) (K : St → Prop) : Prop := cvZ Γ ⟨tm, h⟩ d s t v K
def stZ (Γ : Gam) (tm : List AV) (h : List AObj) (t : TypeId) (x y : Operand) (vx vy : AV) (K : St → Prop) : Prop := match vx with
  | .eptr _ _ _ _ => Z2h Γ (fzL [vy] ⟨tm, h⟩) t x y K
  | _ => Z2h Γ ⟨tm, h⟩ t x y K
def slY (E : Env) (tm : List AV) (h : List AObj) (d : Option Nat) (t : TypeId) (x : Operand) (lo hi mx : Option Operand) (v : AV) (K : St → Prop) : Prop := slZ E.Γ E.n0 E.ks ⟨tm, h⟩ d t x lo hi mx v K
section
variable {E : Env} {tm : List AV} {h : List AObj} {K : St → Prop} {d : Option Nat} {t : TypeId} {x : Operand} {lo hi mx : Option Operand}
@[go_sem] theorem slY_p (v : PV) : slY E tm h d t x lo hi mx (.p v) K = Zw E.Γ t (ev tm x) (lo.map (ev tm)) (hi.map (ev tm)) (mx.map (ev tm)) fun u => K ⟨putD tm d u, h⟩ := rfl
@[go_sem] theorem slY_full (l : List PV) : slY E tm h d t x lo hi mx (.full l) K = Zw E.Γ t (ev tm x) (lo.map (ev tm)) (hi.map (ev tm)) (mx.map (ev tm)) fun u => K ⟨putD tm d u, h⟩ := rfl
@[go_sem] theorem Zgv (b m : Nat) (y : Operand) : slY E tm h d t x (some y) none none (.own b m) K = if queB h (.own b m) then Z99 E.Γ E.n0 E.ks tm h d t b m (ev tm y) K else slFz E.Γ ⟨tm, h⟩ d t x (some y) none none (.own b m) K := rfl
@[go_sem] theorem queB_own (b m : Nat) : queB h (.own b m) = (match h[b]? with
    | some (.row _ _ _ .que) => true
    | some (.row _ _ _ .laq) => true
    | _ => false) := rfl
@[go_sem] theorem Zgw (b m : Nat) (y : Operand) : slY E tm h d t x none (some y) none (.own b m) K = Z5x E.Γ E.n0 E.ks tm h d t b m (some (ev tm y)) K := rfl
end
def Z7t (Γ : Gam) (s : St) (t : TypeId) (x y : Operand) (K : St → Prop) : Prop := Z2h Γ s t x y K
def bsY (Γ : Gam) (s : St) (d : Option Nat) (t : TypeId) (len : Nat) (parts : List (Nat × Operand)) (K : St → Prop) : Prop := bsZ Γ s d t len parts K
def updY (Γ : Gam) (s : St) (t : TypeId) (x i y : Operand) (K : St → Prop) : Prop := updZ Γ s t x i y K
section
variable {Γ : Gam} {tm : List AV} {h : List AObj} {K : St → Prop} {t : TypeId} {x y i : Operand} {vy : AV}
@[go_sem] theorem stZ_ptr (b o : Nat) : stZ Γ tm h t x y (.ptr b o) vy K = Z18 Γ tm h t (ev tm x) (ev tm y) K := rfl
@[go_sem] theorem stZ_eptr (b s j f : Nat) : stZ Γ tm h t x y (.eptr b s j f) vy K = Z7t Γ (fzL [vy] ⟨tm, h⟩) t x y K := rfl
@[go_sem] theorem Zgs : Z7t Γ ⟨tm, h⟩ t x y K = Z18 Γ tm h t (ev tm x) (ev tm y) K := rfl
@[go_sem] theorem bsY_st (d : Option Nat) (len : Nat) (parts : List (Nat × Operand)) : bsY Γ ⟨tm, h⟩ d t len parts K = bsK Γ tm h d t len (parts.map fun p => (p.1, ev tm p.2)) K := rfl
@[go_sem] theorem updY_st : updY Γ ⟨tm, h⟩ t x i y K = updK Γ tm h t (ev tm x) (ev tm i) (ev tm y) K := rfl
@[go_sem] theorem fzL_nil (st : St) : fzL [] st = st := rfl
@[go_sem] theorem fzL_p (v : PV) (l : List AV) (st : St) : fzL (.p v :: l) st = fzL l st := rfl
@[go_sem] theorem fzL_full (v : List PV) (l : List AV) (st : St) : fzL (.full v :: l) st = fzL l st := rfl
@[go_sem] theorem fzL_agg (v : List AV) (l : List AV) (st : St) : fzL (.agg v :: l) st = fzL l st := rfl
@[go_sem] theorem fzL_own (b n : Nat) (l : List AV) : fzL (.own b n :: l) ⟨tm, h⟩ = fzL l (match h[b]? with
    | some (.row _ _ xs _) => Z0c ⟨tm, h⟩ b xs
    | _ => ⟨tm, h⟩) := rfl
end
section
variable {E : Env} {r : Option Nat} {Q : Exit → St → Prop} {tm : List AV} {h : List AObj} {K : St → Prop}

@[go_sem] theorem awp_skip : awp E r .skip Q ⟨tm, h⟩ = Q .normal ⟨tm, h⟩ := rfl
@[go_sem] theorem Zjm (l : Nat) : awp E r (.label l) Q ⟨tm, h⟩ = Q .normal ⟨tm, h⟩ := rfl
@[go_sem] theorem awp_ret : awp E r .ret Q ⟨tm, h⟩ = Q .ret ⟨tm, h⟩ := rfl
@[go_sem] theorem awp_exit (id : Nat) : awp E r (.exit id) Q ⟨tm, h⟩ = Q (.exit id) ⟨tm, h⟩ := rfl
@[go_sem] theorem Zas (id : Nat) (ops : List Oper) : awp E r (.region id ops.toArray true) Q ⟨tm, h⟩ = AWp E r (.region id ops.toArray true) Q ⟨tm, h⟩ := rfl
@[go_sem] theorem awp_seq (x y : Code) : awp E r (.seq x y) Q ⟨tm, h⟩ = awp E r x (Z3f (awp E r y Q) Q) ⟨tm, h⟩ := rfl
@[go_sem] theorem awp_cond (c : Operand) (x y : Code) : awp E r (.cond c x y) Q ⟨tm, h⟩ = Z11 (ev tm c) (awp E r x Q ⟨tm, h⟩) (awp E r y Q ⟨tm, h⟩) := rfl
@[go_sem] theorem Zjo (id : Nat) (c : Code) : awp E r (.block id c) Q ⟨tm, h⟩ = awp E r c (Z2v id Q) ⟨tm, h⟩ := rfl
@[go_sem] theorem awp_loop (c : Code) : awp E r (.loop c) Q ⟨tm, h⟩ = AWp E r (.loop c) Q ⟨tm, h⟩ := rfl
@[go_sem] theorem Zc0 (f : Operand) (ps : Array Tmp) (a b : Code) : awp E r (.rangeFunc f ps a b) Q ⟨tm, h⟩ = AWp E r (.rangeFunc f ps a b) Q ⟨tm, h⟩ := rfl
@[go_sem] theorem Zc5 (N : St → Prop) (st : St) : Z3f N Q .normal st = N st := rfl
@[go_sem] theorem Zf2 (N : St → Prop) (st : St) (i : Nat) : Z3f N Q (.exit i) st = Q (.exit i) st := rfl
@[go_sem] theorem Zgr (N : St → Prop) (st : St) : Z3f N Q .ret st = Q .ret st := rfl
@[go_sem] theorem Zby (id : Nat) (st : St) : Z2v id Q .normal st = Q .normal st := rfl
@[go_sem] theorem Zgg (id : Nat) (st : St) : Z2v id Q .ret st = Q .ret st := rfl
@[go_sem] theorem Zer (id i : Nat) (st : St) : Z2v id Q (.exit i) st = if i = id then Q .normal st else Q (.exit i) st := rfl
variable (dst : Option Tmp) (ty : TypeId) (pos : String) (after : Array Edge) (g : Option (Nat × Bool))
@[go_sem] theorem opK_move (x : Operand) : opK E ⟨dst, .move x, ty, pos, after, g⟩ ⟨tm, h⟩ K = K ⟨putD tm dst (ev tm x), h⟩ := rfl
@[go_sem] theorem Zfj (x : Operand) : opK E ⟨dst, .assign x, ty, pos, after, g⟩ ⟨tm, h⟩ K = K ⟨putD tm dst (ev tm x), h⟩ := rfl
@[go_sem] theorem opK_pick (c x y : Operand) : opK E ⟨dst, .pick c x y, ty, pos, after, g⟩ ⟨tm, h⟩ K = Z28 (ev tm c) (ev tm x) (ev tm y) fun v => K ⟨putD tm dst v, h⟩ := rfl
@[go_sem] theorem Zds (op : BinOp) (t u : TypeId) (x : Operand) (y : Nat) : opK E ⟨dst, .binOp op t x (.tmp y) u, ty, pos, after, g⟩ ⟨tm, h⟩ K = binA E.Γ op t (ev tm x) (ev tm (.tmp y)) fun v => K ⟨putD tm dst v, h⟩ := rfl
@[go_sem] theorem Zdu (op : BinOp) (t u : TypeId) (x : Operand) (k : IntKind) (y : Int) : opK E ⟨dst, .binOp op t x (.const (.int k y)) u, ty, pos, after, g⟩ ⟨tm, h⟩ K = binA E.Γ op t (ev tm x) (ev tm (.const (.int k y))) fun v => K ⟨putD tm dst v, h⟩ := rfl
@[go_sem] theorem Zdt (op : BinOp) (t u : TypeId) (x : Operand) (y : List UInt8) : opK E ⟨dst, .binOp op t x (.const (.string ⟨y.toArray⟩)) u, ty, pos, after, g⟩ ⟨tm, h⟩ K = binA E.Γ op t (ev tm x) (ev tm (.const (.string ⟨y.toArray⟩))) fun v => K ⟨putD tm dst v, h⟩ := rfl
@[go_sem] theorem Zdv (op : BinOp) (t u : TypeId) (x : Operand) (y : Bool) : opK E ⟨dst, .binOp op t x (.const (.bool y)) u, ty, pos, after, g⟩ ⟨tm, h⟩ K = binA E.Γ op t (ev tm x) (ev tm (.const (.bool y))) fun v => K ⟨putD tm dst v, h⟩ := rfl
@[go_sem] theorem Zfi (t u : TypeId) (x : Operand) : opK E ⟨dst, .binOp .eql t x (.const (.slice none 0 0)) u, ty, pos, after, g⟩ ⟨tm, h⟩ K = Z0b E.Γ t false (ev tm x) h fun v => K ⟨putD tm dst v, h⟩ := rfl
@[go_sem] theorem Zff (t u : TypeId) (x : Operand) : opK E ⟨dst, .binOp .neq t x (.const (.slice none 0 0)) u, ty, pos, after, g⟩ ⟨tm, h⟩ K = Z0b E.Γ t true (ev tm x) h fun v => K ⟨putD tm dst v, h⟩ := rfl
@[go_sem] theorem Zcg (x : Operand) : opK E ⟨dst, .nilCheck x, ty, pos, after, g⟩ ⟨tm, h⟩ K = nilK (ev tm x) fun v => K ⟨putD tm dst v, h⟩ := rfl
@[go_sem] theorem Zhv (t : TypeId) (parts : List (Nat × Operand)) : opK E ⟨dst, .build t parts.toArray, ty, pos, after, g⟩ ⟨tm, h⟩ K = bldK E.Γ t (parts.map fun p => (p.1, ev tm p.2)) fun v => K ⟨putD tm dst v, h⟩ := rfl
@[go_sem] theorem Zbi (t : TypeId) (x y : Operand) : opK E ⟨dst, .makeSlice t x y, ty, pos, after, g⟩ ⟨tm, h⟩ K = mkSK E.Γ tm h dst t (ev tm x) (ev tm y) K := rfl
@[go_sem] theorem Zdp (t : TypeId) : opK E ⟨dst, .makeMap t none, ty, pos, after, g⟩ ⟨tm, h⟩ K = K ⟨putD tm dst (.map h.length), h ++ [.mp []]⟩ := rfl
@[go_sem] theorem Zfg (t : TypeId) (x y : Operand) (ok : Bool) : opK E ⟨dst, .lookup t x y ok, ty, pos, after, g⟩ ⟨tm, h⟩ K = Z20 E.Γ h t (ev tm x) (ev tm y) ok fun v => K ⟨putD tm dst v, h⟩ := rfl
@[go_sem] theorem Zbh (t : TypeId) (x i y : Operand) : opK E ⟨dst, .mapUpdate t x i y, ty, pos, after, g⟩ ⟨tm, h⟩ K = updY E.Γ (fzL [ev tm y] ⟨tm, h⟩) t x i y fun st' => K ⟨putD st'.tmps dst (.tup []), st'.h⟩ := rfl
@[go_sem] theorem Zfh (t : TypeId) (x i y : Operand) : opK E ⟨dst, .insert t x i y, ty, pos, after, g⟩ ⟨tm, h⟩ K = updY E.Γ (fzL [ev tm y] ⟨tm, h⟩) t x i y fun st' => K ⟨putD st'.tmps dst (.tup []), st'.h⟩ := rfl
@[go_sem] theorem Zho (t : TypeId) (x : Operand) : opK E ⟨dst, .range t x, ty, pos, after, g⟩ ⟨tm, h⟩ K = rngK E.Γ tm h dst t (ev tm x) K := rfl
@[go_sem] theorem Zhp (x : Operand) : opK E ⟨dst, .next x true, ty, pos, after, g⟩ ⟨tm, h⟩ K = Z76 tm h dst (ev tm x) K := rfl
@[go_sem] theorem opK_next (x : Operand) : opK E ⟨dst, .next x false, ty, pos, after, g⟩ ⟨tm, h⟩ K = nxtK tm h dst (ev tm x) K := rfl
@[go_sem] theorem opK_min (x y : Operand) (ts : Array TypeId) : opK E ⟨dst, .call { callee := .builtin .min, args := #[x, y], argTypes := ts }, ty, pos, after, g⟩ ⟨tm, h⟩ K = minK (ev tm x) (ev tm y) fun v => K ⟨putD tm dst v, h⟩ := rfl
@[go_sem] theorem opK_max (x : Operand) (l : List Operand) (ts : Array TypeId) : opK E ⟨dst, .call { callee := .builtin .max, args := (x :: l).toArray, argTypes := ts }, ty, pos, after, g⟩ ⟨tm, h⟩ K = maxK (ev tm x) (l.map (ev tm)) fun v => K ⟨putD tm dst v, h⟩ := rfl
@[go_sem] theorem opK_unOp (op : UnOp) (t : TypeId) (x : Operand) : opK E ⟨dst, .unOp op t x, ty, pos, after, g⟩ ⟨tm, h⟩ K = unK op (ev tm x) fun v => K ⟨putD tm dst v, h⟩ := rfl
@[go_sem] theorem Zdr (s t : TypeId) (x : Operand) : opK E ⟨dst, .convert s t x, ty, pos, after, g⟩ ⟨tm, h⟩ K = cvY E.Γ tm h dst s t (ev tm x) K := rfl
@[go_sem] theorem Zbk (t : TypeId) (x : Operand) (f : Nat) : opK E ⟨dst, .fieldAddr t x f, ty, pos, after, g⟩ ⟨tm, h⟩ K = faK E.Γ t (ev tm x) f fun v => K ⟨putD tm dst v, h⟩ := rfl
@[go_sem] theorem Zhs (t : TypeId) (x : Operand) (f : Nat) : opK E ⟨dst, .field t x f, ty, pos, after, g⟩ ⟨tm, h⟩ K = Z1b E.Γ t (ev tm x) f fun v => K ⟨putD tm dst v, h⟩ := rfl
@[go_sem] theorem Zbj (t : TypeId) (x i : Operand) : opK E ⟨dst, .indexAddr t x i, ty, pos, after, g⟩ ⟨tm, h⟩ K = iaK E.Γ h t (ev tm x) (ev tm i) fun v => K ⟨putD tm dst v, h⟩ := rfl
@[go_sem] theorem Zhr (t : TypeId) (x i : Operand) : opK E ⟨dst, .index t x i, ty, pos, after, g⟩ ⟨tm, h⟩ K = idxK E.Γ t (ev tm x) (ev tm i) fun v => K ⟨putD tm dst v, h⟩ := rfl
@[go_sem] theorem opK_load (t : TypeId) (x : Operand) : opK E ⟨dst, .load t x, ty, pos, after, g⟩ ⟨tm, h⟩ K = Z1k E.Γ h t (ev tm x) fun v => K ⟨putD tm dst v, h⟩ := rfl
@[go_sem] theorem Zhn (t : TypeId) (x : Operand) (lo hi mx : Option Operand) : opK E ⟨dst, .slice t x lo hi mx, ty, pos, after, g⟩ ⟨tm, h⟩ K = slY E tm h dst t x lo hi mx (ev tm x) K := rfl
@[go_sem] theorem Zht (x : Operand) : opK E ⟨dst, .entry x, ty, pos, after, g⟩ ⟨tm, h⟩ K = entK h (ev tm x) fun v => K ⟨putD tm dst v, h⟩ := rfl
@[go_sem] theorem Zdq (x : Operand) (i : Nat) : opK E ⟨dst, .extract x i, ty, pos, after, g⟩ ⟨tm, h⟩ K = extK (ev tm x) i fun v => K ⟨putD tm dst v, h⟩ := rfl
@[go_sem] theorem Zch (f : FuncId) (caps : List Operand) : opK E ⟨dst, .makeFunc (.func f) #[] caps.toArray, ty, pos, after, g⟩ ⟨tm, h⟩ K = K ⟨putD tm dst (.fn f (caps.map (ev tm))), h⟩ := rfl
@[go_sem] theorem opK_box (t : TypeId) (x : Operand) : opK E ⟨dst, .box t x, ty, pos, after, g⟩ ⟨tm, h⟩ K = boxK tm h dst (ev tm x) K := rfl
@[go_sem] theorem Zhw (t : TypeId) : opK E ⟨dst, .alloc t, ty, pos, after, g⟩ ⟨tm, h⟩ K = allocK E.Γ tm h dst t K := rfl
@[go_sem] theorem Zhm (t : TypeId) (x y : Operand) : opK E ⟨dst, .store t x y, ty, pos, after, g⟩ ⟨tm, h⟩ K = stZ E.Γ tm h t x y (ev tm x) (ev tm y) fun st' => K ⟨putD st'.tmps dst (.tup []), st'.h⟩ := rfl
@[go_sem] theorem Zb2 (t : TypeId) (len : Nat) (parts : List (Nat × Operand)) : opK E ⟨dst, .buildSlice t len parts.toArray, ty, pos, after, g⟩ ⟨tm, h⟩ K = bsY E.Γ (fzL (parts.map fun p => ev tm p.2) ⟨tm, h⟩) dst t len parts K := rfl
@[go_sem] theorem opK_len (x : Operand) (t : TypeId) : opK E ⟨dst, .call { callee := .builtin .len, args := #[x], argTypes := #[t] }, ty, pos, after, g⟩ ⟨tm, h⟩ K = lenK E.Γ t (ev tm x) h fun v => K ⟨putD tm dst v, h⟩ := rfl
@[go_sem] theorem Zfk (x y : Operand) (t t' : TypeId) : opK E ⟨dst, .call { callee := .builtin .append, args := #[x, y], argTypes := #[t, t'] }, ty, pos, after, g⟩ ⟨tm, h⟩ K = (t = t' ∧ appK E.Γ E.n0 E.ks tm h dst t (ev tm x) (ev tm y) K) := rfl
@[go_sem] theorem opK_call (f : Operand) (args : List Operand) (ts : Array TypeId) : opK E ⟨dst, .call { callee := .value f, args := args.toArray, argTypes := ts }, ty, pos, after, g⟩ ⟨tm, h⟩ K = Z2u E ⟨tm, h⟩ dst (ev tm f) (args.map (ev tm)) K := rfl

@[go_sem] theorem ev_tmp (t : Nat) : ev tm (.tmp t) = tm.getD t .junk := rfl
@[go_sem] theorem Zis (g : Nat) : ev tm (.global g) = gAV g := rfl
@[go_sem] theorem ev_func (f : FuncId) : ev tm (.func f) = .fn f [] := rfl
@[go_sem] theorem ev_int (k : IntKind) (n : Int) : ev tm (.const (.int k n)) = .p (.int k n) := rfl
@[go_sem] theorem ev_bool (b : Bool) : ev tm (.const (.bool b)) = .p (.bool b) := rfl
@[go_sem] theorem Zir (l : List UInt8) : ev tm (.const (.string ⟨l.toArray⟩)) = .p (.str l) := rfl
@[go_sem] theorem Zec : ev tm (.const (.slice none 0 0)) = .full [] := rfl
@[go_sem] theorem ev_agg (l : List Value) : ev tm (.const (.agg l.toArray)) = .agg (l.map AV.ofCell) := rfl
@[go_sem] theorem Zh3 (d : Nat) (v : AV) : putD tm (some d) v = tm.set d v := rfl
@[go_sem] theorem Zh4 (v : AV) : putD tm none v = tm := rfl
end

section
variable {E : Env} {Q : Exit → St → Prop} {tm : List AV} {h : List AObj} {K : AV → Prop} {KS : St → Prop} {Γ : Gam}
@[go_sem] theorem binA_int (op : BinOp) (t : TypeId) (k : IntKind) (a : Int) (y : AV) : binA Γ op t (.p (.int k a)) y K = binK Γ op t (.p (.int k a)) y K := rfl
@[go_sem] theorem binA_str (op : BinOp) (t : TypeId) (a : List UInt8) (y : AV) : binA Γ op t (.p (.str a)) y K = binK Γ op t (.p (.str a)) y K := rfl
@[go_sem] theorem Zjk (op : BinOp) (t : TypeId) (a : Bool) (y : AV) : binA Γ op t (.p (.bool a)) y K = binK Γ op t (.p (.bool a)) y K := rfl
@[go_sem] theorem binA_agg (op : BinOp) (t : TypeId) (l : List AV) (y : AV) : binA Γ op t (.agg l) y K = aggK Γ op t (.agg l) y K := rfl
@[go_sem] theorem Zjj (op : BinOp) (t : TypeId) (l : List PV) (y : AV) : binA Γ op t (.p (.agg l)) y K = aggK Γ op t (.p (.agg l)) y K := rfl
@[go_sem] theorem binK_add (t : TypeId) (k k' : IntKind) (a b : Int) : binK Γ .add t (.p (.int k a)) (.p (.int k' b)) K = (k = k' ∧ intK .add k a b K) := rfl
@[go_sem] theorem binK_sub (t : TypeId) (k k' : IntKind) (a b : Int) : binK Γ .sub t (.p (.int k a)) (.p (.int k' b)) K = (k = k' ∧ intK .sub k a b K) := rfl
@[go_sem] theorem binK_mul (t : TypeId) (k k' : IntKind) (a b : Int) : binK Γ .mul t (.p (.int k a)) (.p (.int k' b)) K = (k = k' ∧ intK .mul k a b K) := rfl
@[go_sem] theorem binK_quo (t : TypeId) (k k' : IntKind) (a b : Int) : binK Γ .quo t (.p (.int k a)) (.p (.int k' b)) K = (k = k' ∧ intK .quo k a b K) := rfl
@[go_sem] theorem binK_rem (t : TypeId) (k k' : IntKind) (a b : Int) : binK Γ .rem t (.p (.int k a)) (.p (.int k' b)) K = (k = k' ∧ intK .rem k a b K) := rfl
@[go_sem] theorem binK_and (t : TypeId) (k k' : IntKind) (a b : Int) : binK Γ .and t (.p (.int k a)) (.p (.int k' b)) K = (k = k' ∧ intK .and k a b K) := rfl
@[go_sem] theorem binK_or (t : TypeId) (k k' : IntKind) (a b : Int) : binK Γ .or t (.p (.int k a)) (.p (.int k' b)) K = (k = k' ∧ intK .or k a b K) := rfl
@[go_sem] theorem binK_xor (t : TypeId) (k k' : IntKind) (a b : Int) : binK Γ .xor t (.p (.int k a)) (.p (.int k' b)) K = (k = k' ∧ intK .xor k a b K) := rfl
@[go_sem] theorem Zet (t : TypeId) (k k' : IntKind) (a b : Int) : binK Γ .andNot t (.p (.int k a)) (.p (.int k' b)) K = (k = k' ∧ intK .andNot k a b K) := rfl
@[go_sem] theorem binK_eql (t : TypeId) (k k' : IntKind) (a b : Int) : binK Γ .eql t (.p (.int k a)) (.p (.int k' b)) K = (k = k' ∧ intK .eql k a b K) := rfl
@[go_sem] theorem binK_neq (t : TypeId) (k k' : IntKind) (a b : Int) : binK Γ .neq t (.p (.int k a)) (.p (.int k' b)) K = (k = k' ∧ intK .neq k a b K) := rfl
@[go_sem] theorem binK_lss (t : TypeId) (k k' : IntKind) (a b : Int) : binK Γ .lss t (.p (.int k a)) (.p (.int k' b)) K = (k = k' ∧ intK .lss k a b K) := rfl
@[go_sem] theorem binK_leq (t : TypeId) (k k' : IntKind) (a b : Int) : binK Γ .leq t (.p (.int k a)) (.p (.int k' b)) K = (k = k' ∧ intK .leq k a b K) := rfl
@[go_sem] theorem binK_gtr (t : TypeId) (k k' : IntKind) (a b : Int) : binK Γ .gtr t (.p (.int k a)) (.p (.int k' b)) K = (k = k' ∧ intK .gtr k a b K) := rfl
@[go_sem] theorem binK_geq (t : TypeId) (k k' : IntKind) (a b : Int) : binK Γ .geq t (.p (.int k a)) (.p (.int k' b)) K = (k = k' ∧ intK .geq k a b K) := rfl
@[go_sem] theorem binK_shl (t : TypeId) (k k' : IntKind) (a b : Int) : binK Γ .shl t (.p (.int k a)) (.p (.int k' b)) K = intK .shl k a b K := rfl
@[go_sem] theorem binK_shr (t : TypeId) (k k' : IntKind) (a b : Int) : binK Γ .shr t (.p (.int k a)) (.p (.int k' b)) K = intK .shr k a b K := rfl
@[go_sem] theorem binK_str (op : BinOp) (t : TypeId) (a b : List UInt8) : binK Γ op t (.p (.str a)) (.p (.str b)) K = strK op a b K := rfl
@[go_sem] theorem binK_eqb (t : TypeId) (a b : Bool) : binK Γ .eql t (.p (.bool a)) (.p (.bool b)) K = (tdAt Γ t .bool ∧ K (.p (.bool (a == b)))) := rfl
@[go_sem] theorem binK_neb (t : TypeId) (a b : Bool) : binK Γ .neq t (.p (.bool a)) (.p (.bool b)) K = (tdAt Γ t .bool ∧ K (.p (.bool (a != b)))) := rfl
@[go_sem] theorem unK_not (b : Bool) : unK .not (.p (.bool b)) K = K (.p (.bool (!b))) := rfl
@[go_sem] theorem unK_neg (k : IntKind) (a : Int) : unK .neg (.p (.int k a)) K = (InR k (-a) ∧ K (.p (.int k (-a)))) := rfl
@[go_sem] theorem Zfe (c p q : Bool) : Z28 (.p (.bool c)) (.p (.bool p)) (.p (.bool q)) K = K (.p (.bool (bif c then p else q))) := rfl
@[go_sem] theorem Z8l (x y : AV) : Z28 (.p (.bool true)) x y K = K x := by
  unfold Z28; simp only
  split <;> simp
@[go_sem] theorem Z74 (x y : AV) : Z28 (.p (.bool false)) x y K = K y := by
  unfold Z28; simp only
  split <;> simp
@[go_sem] theorem extK_tup (l : List AV) (i : Nat) : extK (.tup l) i K = (i < l.length ∧ K (l.getD i .junk)) := rfl
@[go_sem] theorem lenK_str (t : TypeId) (s : List UInt8) : lenK Γ t (.p (.str s)) h K = (tdAt Γ t .str ∧ K (.p (.int .i64 s.length))) := rfl
@[go_sem] theorem lenK_sl (t : TypeId) (l : List PV) : lenK Γ t (.p (.sl l)) h K = ((∃ e, tdAt Γ t (.slice e)) ∧ K (.p (.int .i64 l.length))) := rfl
@[go_sem] theorem Zig (t : TypeId) (l : List PV) : lenK Γ t (.full l) h K = ((∃ e, tdAt Γ t (.slice e)) ∧ K (.p (.int .i64 l.length))) := rfl
@[go_sem] theorem lenK_own (t : TypeId) (b n : Nat) : lenK Γ t (.own b n) h K = ((∃ e, tdAt Γ t (.slice e)) ∧ K (.p (.int .i64 n))) := rfl
@[go_sem] theorem idxK_str (t : TypeId) (s : List UInt8) (k : IntKind) (j : Int) : idxK Γ t (.p (.str s)) (.p (.int k j)) K = (tdAt Γ t .str ∧ (0 ≤ j ∧ j < s.length) ∧ K (.p (.int .u8 (s.getD j.toNat 0).toNat))) := rfl
@[go_sem] theorem idxK_arr (t : TypeId) (l : List AV) (k : IntKind) (j : Int) : idxK Γ t (.agg l) (.p (.int k j)) K = tyAt Γ t fun te => (match te.td with
    | .array m e => tyAt Γ e fun ee => (0 ≤ j ∧ j < m) ∧ (if ee.isAgg then j.toNat * ee.cells + ee.cells ≤ l.length ∧ K (.agg ((l.drop (j.toNat * ee.cells)).take ee.cells)) else j.toNat * ee.cells < l.length ∧ K (l.getD (j.toNat * ee.cells) .junk))
    | _ => False) := rfl
@[go_sem] theorem iaK_ptr (t : TypeId) (b off : Nat) (k : IntKind) (j : Int) : iaK Γ h t (.ptr b off) (.p (.int k j)) K = tyAt Γ t fun te => (match te.td with
    | .array m e => tyAt Γ e fun ee => (0 ≤ j ∧ j < m) ∧ K (.ptr b (off + j.toNat * ee.cells))
    | _ => False) := rfl
@[go_sem] theorem iaK_ipt (t : TypeId) (l : List PV) (k : IntKind) (j : Int) : iaK Γ h t (.ipt l) (.p (.int k j)) K = tyAt Γ t fun te => (match te.td with
    | .array m e => tyAt Γ e fun ee => (0 ≤ j ∧ j < m) ∧ K (.ipt (l.drop (j.toNat * ee.cells)))
    | _ => False) := rfl
@[go_sem] theorem nilK_ptr (b o : Nat) : nilK (.ptr b o) K = K (.ptr b o) := rfl
@[go_sem] theorem nilK_ipt (l : List PV) : nilK (.ipt l) K = K (.ipt l) := rfl
@[go_sem] theorem minK_int (k k' : IntKind) (a b : Int) : minK (.p (.int k a)) (.p (.int k' b)) K = K (.p (.int k (if b < a then b else a))) := rfl
@[go_sem] theorem maxK_nil (x : AV) : maxK x [] K = K x := rfl
@[go_sem] theorem maxK_int (k k' : IntKind) (a b : Int) (l : List AV) : maxK (.p (.int k a)) (.p (.int k' b) :: l) K = maxK (.p (.int k (if a < b then b else a))) l K := rfl
@[go_sem] theorem Zia (t : TypeId) (b : Nat) (s : List UInt8) (ok : Bool) : Z20 Γ h t (.map b) (.p (.str s)) ok K = tyAt Γ t fun te => (match te.td with
    | .map k e => tdAt Γ k .str ∧ tyAt Γ e fun ee => (match ee.zero.bind AV.pure, h[b]? with
      | some z, some (.mp es) => if ok then K (.tup [.p ((mget s es).getD z), .p (.bool (mget s es).isSome)]) else K (.p ((mget s es).getD z))
      | _, _ => False)
    | _ => False) := rfl
@[go_sem] theorem Zib (t : TypeId) (b : Nat) (kd : IntKind) (s : Int) (ok : Bool) : Z20 Γ h t (.map b) (.p (.int kd s)) ok K = (kd = .i64 ∧ tyAt Γ t fun te => (match te.td with
    | .map k e => tdAt Γ k (.int .i64) ∧ tyAt Γ e fun ee => (match ee.zero.bind AV.pure, h[b]?.bind AObj.asI with
      | some z, some es => if ok then K (.tup [.p ((Z3j s es).getD z), .p (.bool (Z3j s es).isSome)]) else K (.p ((Z3j s es).getD z))
      | _, _ => False)
    | _ => False)) := rfl
@[go_sem] theorem updK_int (t : TypeId) (b : Nat) (kd : IntKind) (s : Int) (y : AV) : updK Γ tm h t (.map b) (.p (.int kd s)) y KS = (match y.pure1 with
    | some v => kd = .i64 ∧ tyAt Γ t fun te => (match te.td with
      | .map k _ => tdAt Γ k (.int .i64) ∧ (match h[b]?.bind AObj.asI with
        | some es => KS ⟨tm, h.set b (.mpi (Z1c s v es))⟩
        | _ => False)
      | _ => False)
    | none => False) := by
  unfold updK; cases y.pure1 <;> rfl
@[go_sem] theorem rngK_str (d : Option Nat) (t : TypeId) (s : List UInt8) : rngK Γ tm h d t (.p (.str s)) KS = (tdAt Γ t .str ∧ KS ⟨putD tm d (.ptr h.length 0), h ++ [.sit s 0]⟩) := rfl
@[go_sem] theorem Zi1 (d : Option Nat) (b : Nat) : Z76 tm h d (.ptr b 0) KS = (match h[b]? with
    | some (.sit s pos) => (pos < s.length → (s.getD pos 0).toNat < 128 ∧ KS ⟨putD tm d (.tup [.p (.bool true), .p (.int .i64 pos), .p (.int .i32 (s.getD pos 0).toNat)]), h.set b (.sit s (pos + 1))⟩) ∧
        (¬ pos < s.length → KS ⟨putD tm d (.tup [.p (.bool false)]), h⟩)
    | _ => False) := rfl
@[go_sem] theorem asI_mp : AObj.asI (.mp []) = some [] := rfl
@[go_sem] theorem asI_mpi (es : List (Int × PV)) : AObj.asI (.mpi es) = some es := rfl
@[go_sem] theorem updK_str (t : TypeId) (b : Nat) (s : List UInt8) (y : AV) : updK Γ tm h t (.map b) (.p (.str s)) y KS = (match y.pure1 with
    | some v => tyAt Γ t fun te => (match te.td with
      | .map k _ => tdAt Γ k .str ∧ (match h[b]? with
        | some (.mp es) => KS ⟨tm, h.set b (.mp (mset s v es))⟩
        | _ => False)
      | _ => False)
    | none => False) := by
  unfold updK; cases y.pure1 <;> rfl
@[go_sem] theorem rngK_map (d : Option Nat) (t : TypeId) (b : Nat) : rngK Γ tm h d t (.map b) KS = ((∃ k e, tdAt Γ t (.map k e)) ∧ (match h[b]? with
    | some (.mp es) => KS ⟨putD tm d (.ptr h.length 0), h ++ [.it b es.length [] es.length]⟩
    | _ => False)) := rfl
@[go_sem] theorem mkSK_int (d : Option Nat) (t : TypeId) (k k' : IntKind) (n m : Int) : mkSK Γ tm h d t (.p (.int k n)) (.p (.int k' m)) KS = tyAt Γ t fun te => (match te.td with
    | .slice e => tyAt Γ e fun ee => (match ee.zero.bind AV.pure with
      | some p => (0 ≤ n ∧ n ≤ m ∧ m * ee.bytes ≤ 140737488355328 ∧ m ≤ 9223372036854775807 ∧ p.cells.length = ee.cells ∧ 0 < ee.cells) ∧ KS ⟨putD tm d (.own h.length n.toNat), h ++ [.row e ee.cells (List.replicate n.toNat p) .own]⟩
      | none => False)
    | _ => False) := rfl
def iaS (Γ : Gam) (t : TypeId) (l : List PV) (j : Int) (K : AV → Prop) : Prop := tyAt Γ t fun te => (match te.td with
    | .slice e => tyAt Γ e fun ee => (0 ≤ j ∧ j < l.length) ∧ (l.getD j.toNat default).cells.length = ee.cells ∧ K (.ipt (l.getD j.toNat default).cells)
    | _ => False)
@[go_sem] theorem iaK_sl (t : TypeId) (l : List PV) (k : IntKind) (j : Int) : iaK Γ h t (.p (.sl l)) (.p (.int k j)) K = iaS Γ t l j K := rfl
@[go_sem] theorem iaK_full (t : TypeId) (l : List PV) (k : IntKind) (j : Int) : iaK Γ h t (.full l) (.p (.int k j)) K = iaS Γ t l j K := rfl
def iaO (Γ : Gam) (h : List AObj) (t : TypeId) (b m : Nat) (j : Int) (K : AV → Prop) : Prop := tyAt Γ t fun te => (match te.td with
    | .slice e => tyAt Γ e fun ee => (0 ≤ j ∧ j < m) ∧ (match h[b]? with | some (.row _ s _ _) => s = ee.cells ∧ K (.eptr b s j.toNat 0) | _ => False)
    | _ => False)
@[go_sem] theorem iaK_own (t : TypeId) (b m : Nat) (k : IntKind) (j : Int) : iaK Γ h t (.own b m) (.p (.int k j)) K = iaO Γ h t b m j K := rfl
@[go_sem] theorem faK_ptr (t : TypeId) (b off f : Nat) : faK Γ t (.ptr b off) f K = fldOff Γ t f fun o fe => fe.cells ≠ 0 ∧ K (.ptr b (off + o)) := rfl
@[go_sem] theorem faK_eptr (t : TypeId) (b s i g f : Nat) : faK Γ t (.eptr b s i g) f K = fldOff Γ t f fun o fe => fe.cells ≠ 0 ∧ K (.eptr b s i (g + o)) := rfl
@[go_sem] theorem faK_ipt (t : TypeId) (l : List PV) (f : Nat) : faK Γ t (.ipt l) f K = fldOff Γ t f fun o fe => fe.cells ≠ 0 ∧ o ≤ l.length ∧ K (.ipt (l.drop o)) := rfl
@[go_sem] theorem Zid (t : TypeId) (l : List PV) : Z1k Γ h t (.ipt l) K = tyAt Γ t fun te => if te.isAgg then te.cells ≤ l.length ∧ K (.p (.agg (l.take te.cells))) else 0 < l.length ∧ K (.p (l.getD 0 default)) := rfl
@[go_sem] theorem Zic (t : TypeId) (b off : Nat) : Z1k Γ h t (.ptr b off) K = tyAt Γ t fun te => (match h[b]? with
      | some (.box cs) => if te.isAgg then off + te.cells ≤ cs.length ∧ K (.agg ((cs.drop off).take te.cells)) else off < cs.length ∧ K (cs.getD off .junk)
      | _ => False) := rfl
@[go_sem] theorem Zfs (t : TypeId) (b s i f : Nat) : Z1k Γ h t (.eptr b s i f) K = tyAt Γ t fun te => (match h[b]? with
      | some (.row _ s' xs _) => s' = s ∧ i < xs.length ∧
        (if te.isAgg then f + te.cells ≤ s ∧ K (.p (.agg ((((xs.getD i default).cells).drop f).take te.cells))) else f < s ∧ K (.p (((xs.getD i default).cells).getD f default)))
      | _ => False) := rfl
@[go_sem] theorem Zg1 (t : TypeId) (l : List AV) (f : Nat) : Z1b Γ t (.agg l) f K = fldOff Γ t f fun o fe => if fe.isAgg then o + fe.cells ≤ l.length ∧ K (.agg ((l.drop o).take fe.cells)) else o < l.length ∧ K (l.getD o .junk) := rfl
@[go_sem] theorem Zea (t : TypeId) (l : List PV) (f : Nat) : Z1b Γ t (.p (.agg l)) f K = fldOff Γ t f fun o fe => if fe.isAgg then o + fe.cells ≤ l.length ∧ K (.p (.agg ((l.drop o).take fe.cells))) else o < l.length ∧ K (.p (l.getD o default)) := rfl
@[go_sem] theorem Zgz (t : TypeId) (s : List UInt8) (k : IntKind) (j : Int) : Zw Γ t (.p (.str s)) none (some (.p (.int k j))) none K = (tdAt Γ t .str ∧ (0 ≤ j ∧ j ≤ s.length) ∧ K (.p (.str (s.take j.toNat)))) := rfl
@[go_sem] theorem Zgy (t : TypeId) (s : List UInt8) (k : IntKind) (j : Int) : Zw Γ t (.p (.str s)) (some (.p (.int k j))) none none K = (tdAt Γ t .str ∧ (0 ≤ j ∧ j ≤ s.length) ∧ K (.p (.str (s.drop j.toNat)))) := rfl
@[go_sem] theorem Zf6 (t : TypeId) (s : List UInt8) (k k' : IntKind) (l j : Int) : Zw Γ t (.p (.str s)) (some (.p (.int k l))) (some (.p (.int k' j))) none K = (tdAt Γ t .str ∧ (0 ≤ l ∧ l ≤ j ∧ j ≤ s.length) ∧ K (.p (.str ((s.drop l.toNat).take (j.toNat - l.toNat))))) := rfl
def slS (Γ : Gam) (t : TypeId) (L : List PV) (K : Prop) : Prop := tyAt Γ t fun te => (match te.td with
      | .slice e => tyAt Γ e fun ee => Zp L ee.cells ∧ K
      | _ => False)
@[go_sem] theorem slK_sl_h (t : TypeId) (L : List PV) (k : IntKind) (j : Int) : Zw Γ t (.p (.sl L)) none (some (.p (.int k j))) none K = slS Γ t L ((0 ≤ j ∧ j ≤ L.length) ∧ K (.p (.sl (L.take j.toNat)))) := rfl
@[go_sem] theorem slK_sl_l (t : TypeId) (L : List PV) (k : IntKind) (j : Int) : Zw Γ t (.p (.sl L)) (some (.p (.int k j))) none none K = slS Γ t L ((0 ≤ j ∧ j ≤ L.length) ∧ K (.p (.sl (L.drop j.toNat)))) := rfl
@[go_sem] theorem Zh0 (t : TypeId) (L : List PV) (k k' : IntKind) (l j : Int) : Zw Γ t (.p (.sl L)) (some (.p (.int k l))) (some (.p (.int k' j))) none K = slS Γ t L ((0 ≤ l ∧ l ≤ j ∧ j ≤ L.length) ∧ K (.p (.sl ((L.drop l.toNat).take (j.toNat - l.toNat))))) := rfl
@[go_sem] theorem Zh1 (t : TypeId) (L : List PV) (k k' : IntKind) (j m : Int) : Zw Γ t (.p (.sl L)) none (some (.p (.int k j))) (some (.p (.int k' m))) K = slS Γ t L ((0 ≤ j ∧ j = m ∧ j ≤ L.length) ∧ K (.full (L.take j.toNat))) := rfl
@[go_sem] theorem cvY_int (d : Option Nat) (s t : TypeId) (k : IntKind) (a : Int) : cvY Γ tm h d s t (.p (.int k a)) KS = tyAt Γ t fun te => cvZ1 Γ ⟨tm, h⟩ d s t te.td (.p (.int k a)) KS := rfl
@[go_sem] theorem cvY_str (d : Option Nat) (s t : TypeId) (a : List UInt8) : cvY Γ tm h d s t (.p (.str a)) KS = tyAt Γ t fun te => cvZ1 Γ ⟨tm, h⟩ d s t te.td (.p (.str a)) KS := rfl
@[go_sem] theorem cvY_own (d : Option Nat) (s t : TypeId) (b n : Nat) : cvY Γ tm h d s t (.own b n) KS = tyAt Γ t fun te => cvZ1 Γ ⟨tm, h⟩ d s t te.td (.own b n) KS := rfl
@[go_sem] theorem cvY_sl (d : Option Nat) (s t : TypeId) (l : List PV) : cvY Γ tm h d s t (.p (.sl l)) KS = tyAt Γ t fun te => cvZ1 Γ ⟨tm, h⟩ d s t te.td (.p (.sl l)) KS := rfl
@[go_sem] theorem Zg4 (st : St) (d : Option Nat) (s t e : TypeId) (a : List UInt8) : cvZ1 Γ st d s t (.slice e) (.p (.str a)) KS = (tdAt Γ s .str ∧ tdAt Γ e (.int .u8) ∧ a.length ≤ 140737488355327 ∧ KS ⟨putD st.tmps d (.own st.h.length a.length), st.h ++ [.row e 1 (a.map u8V) .raw]⟩) := rfl
@[go_sem] theorem cvZ1_own (st : St) (d : Option Nat) (s t : TypeId) (b n : Nat) : cvZ1 Γ st d s t .str (.own b n) KS = ((∃ e, tdAt Γ s (.slice e) ∧ tdAt Γ e (.int .u8)) ∧ (match st.h[b]? with
    | some (.row _ _ xs _) => ∃ l, xs = l.map u8V ∧ KS ⟨putD st.tmps d (.p (.str l)), st.h⟩
    | _ => False)) := rfl
@[go_sem] theorem cvZ1_sl (st : St) (d : Option Nat) (s t : TypeId) (xs : List PV) : cvZ1 Γ st d s t .str (.p (.sl xs)) KS = ((∃ e, tdAt Γ s (.slice e) ∧ tdAt Γ e (.int .u8)) ∧ ∃ l, xs = l.map u8V ∧ KS ⟨putD st.tmps d (.p (.str l)), st.h⟩) := rfl
@[go_sem] theorem cvZ1_str (st : St) (d : Option Nat) (s t : TypeId) (a : List UInt8) : cvZ1 Γ st d s t .str (.p (.str a)) KS = Z1q Γ s t (.p (.str a)) fun v => KS ⟨putD st.tmps d v, st.h⟩ := rfl
@[go_sem] theorem cvZ1_int (st : St) (d : Option Nat) (s t : TypeId) (k k' : IntKind) (a : Int) : cvZ1 Γ st d s t (.int k') (.p (.int k a)) KS = Z1q Γ s t (.p (.int k a)) fun v => KS ⟨putD st.tmps d v, st.h⟩ := rfl
@[go_sem] theorem Ziw (s t : TypeId) (k : IntKind) (a : Int) : Z1q Γ s t (.p (.int k a)) K = ((Γ s).isSome = true ∧ (match Γ t with | some te => (match te.td with | .int k' => K (.p (.int k' (k'.wrap a))) | _ => False) | none => False)) := rfl
@[go_sem] theorem Ziv (s t : TypeId) (a : List UInt8) : Z1q Γ s t (.p (.str a)) K = (tdAt Γ s .str ∧ tdAt Γ t .str ∧ K (.p (.str a))) := rfl
@[go_sem] theorem Zgc (k : IntKind) (a : Int) (d : Option Nat) : boxK tm h d (.p (.int k a)) KS = KS ⟨putD tm d (.ptr h.length 0), h ++ [.box [.p (.int k a)]]⟩ := rfl
@[go_sem] theorem Zeo (b : Bool) (d : Option Nat) : boxK tm h d (.p (.bool b)) KS = KS ⟨putD tm d (.ptr h.length 0), h ++ [.box [.p (.bool b)]]⟩ := rfl
@[go_sem] theorem Zgb (s : List UInt8) (d : Option Nat) : boxK tm h d (.p (.str s)) KS = KS ⟨putD tm d (.ptr h.length 0), h ++ [.box [.p (.str s)]]⟩ := rfl
@[go_sem] theorem Zjd (l : List PV) (d : Option Nat) : boxK tm h d (.p (.sl l)) KS = KS ⟨putD tm d (.ptr h.length 0), h ++ [.box [.p (.sl l)]]⟩ := rfl
@[go_sem] theorem Zgd (l : List PV) (d : Option Nat) : boxK tm h d (.p (.agg l)) KS = KS ⟨putD tm d (.ptr h.length 0), h ++ [.box (l.map .p)]⟩ := rfl
@[go_sem] theorem boxK_agg (l : List AV) (d : Option Nat) : boxK tm h d (.agg l) KS = KS ⟨putD tm d (.ptr h.length 0), h ++ [.box l]⟩ := rfl
@[go_sem] theorem Zje (l : List PV) (d : Option Nat) : boxK tm h d (.full l) KS = KS ⟨putD tm d (.ptr h.length 0), h ++ [.box [.full l]]⟩ := rfl
@[go_sem] theorem boxK_own (b n : Nat) (d : Option Nat) : boxK tm h d (.own b n) KS = KS ⟨putD tm d (.ptr h.length 0), h ++ [.box [.own b n]]⟩ := rfl
@[go_sem] theorem boxK_ptr (b n : Nat) (d : Option Nat) : boxK tm h d (.ptr b n) KS = KS ⟨putD tm d (.ptr h.length 0), h ++ [.box [.ptr b n]]⟩ := rfl
@[go_sem] theorem boxK_map (b : Nat) (d : Option Nat) : boxK tm h d (.map b) KS = KS ⟨putD tm d (.ptr h.length 0), h ++ [.box [.map b]]⟩ := rfl
@[go_sem] theorem boxK_fn (f : FuncId) (l : List AV) (d : Option Nat) : boxK tm h d (.fn f l) KS = KS ⟨putD tm d (.ptr h.length 0), h ++ [.box [.fn f l]]⟩ := rfl
@[go_sem] theorem Zjf  (d : Option Nat) : boxK tm h d .cell KS = KS ⟨putD tm d (.ptr h.length 0), h ++ [.box [.cell]]⟩ := rfl
@[go_sem] theorem boxK_yld (b : Nat) (d : Option Nat) : boxK tm h d (.yld b) KS = KS ⟨putD tm d (.ptr h.length 0), h ++ [.box [.yld b]]⟩ := rfl
@[go_sem] theorem Zf3 (t : TypeId) (b off : Nat) (y : AV) : Z18 Γ tm h t (.ptr b off) y KS = tyAt Γ t fun te => (match h[b]?, y.cellL with
    | some (.box cs), some l => (l.length = te.cells ∧ off + l.length ≤ cs.length ∧ l.all AV.one = true) ∧ KS ⟨tm, h.set b (.box (setL cs off l))⟩
    | _, _ => False) := rfl
@[go_sem] theorem Zd5 (t : TypeId) (b s i f : Nat) (y : AV) : Z18 Γ tm h t (.eptr b s i f) y KS = tyAt Γ t fun te => (match h[b]?, y.pv with
    | some (.row E s' xs k), some v => (k.hard = true ∧ s' = s ∧ f = 0 ∧ i < xs.length ∧ v.cells.length = s ∧ te.cells = s ∧ v.cells.all (AV.one ∘ AV.p) = true) ∧ KS ⟨tm, h.set b (.row E s (xs.set i v) k)⟩
    | _, _ => False) := rfl
@[go_sem] theorem Zj0 (s : List UInt8) : (PV.str s).cells = [.str s] := rfl
@[go_sem] theorem Zj1 (k : IntKind) (a : Int) : (PV.int k a).cells = [.int k a] := rfl
@[go_sem] theorem Zg5 (b : Bool) : (PV.bool b).cells = [.bool b] := rfl
@[go_sem] theorem cells_sl (l : List PV) : (PV.sl l).cells = [.sl l] := rfl
@[go_sem] theorem Zj2 (l : List PV) : (PV.agg l).cells = l := rfl
@[go_sem] theorem ends_ret : Ends .ret = True := by simp [Ends]
@[go_sem] theorem Zed : Ends .normal = True := by simp [Ends]
@[go_sem] theorem pv_agg (l : List AV) : (AV.agg l).pv = (AV.pvL l).map .agg := rfl
@[go_sem] theorem pvL_nil : AV.pvL [] = some [] := rfl
@[go_sem] theorem pvL_p (v : PV) (l : List AV) : AV.pvL (.p v :: l) = (AV.pvL l).map (v :: ·) := rfl
@[go_sem] theorem pv_p (v : PV) : (AV.p v).pv = some v := rfl
@[go_sem] theorem Zj3 (s : List UInt8) : (AV.p (.str s)).cellL = some [.p (.str s)] := rfl
@[go_sem] theorem Zj7 (k : IntKind) (a : Int) : (AV.p (.int k a)).cellL = some [.p (.int k a)] := rfl
@[go_sem] theorem Zg9 (b : Bool) : (AV.p (.bool b)).cellL = some [.p (.bool b)] := rfl
@[go_sem] theorem cellL_sl (l : List PV) : (AV.p (.sl l)).cellL = some [.p (.sl l)] := rfl
@[go_sem] theorem Zg6 (l : List PV) : (AV.p (.agg l)).cellL = some (l.map .p) := rfl
@[go_sem] theorem Zj8 (l : List AV) : (AV.agg l).cellL = some l := rfl
@[go_sem] theorem Zg7 (l : List PV) : (AV.full l).cellL = some [.full l] := rfl
@[go_sem] theorem Zj5 (b n : Nat) : (AV.own b n).cellL = some [.own b n] := rfl
@[go_sem] theorem Zj4 (b n : Nat) : (AV.ptr b n).cellL = some [.ptr b n] := rfl
@[go_sem] theorem Zj6 (b : Nat) : (AV.map b).cellL = some [.map b] := rfl
@[go_sem] theorem cellL_fn (f : FuncId) (l : List AV) : (AV.fn f l).cellL = some [.fn f l] := rfl
@[go_sem] theorem Zg8 : AV.cell.cellL = some [.cell] := rfl
theorem Z3 {α β : Type} (f : α → β) (l : List α) (i : Nat) (d : β) (h : i < l.length) : (l.map f).getD i d = f l[i] := by
  simp [List.getD_eq_getElem?_getD, h]
end

section
variable {Γ : Gam} {t : TypeId} {neg : Bool} {h : List AObj} {K : AV → Prop}
@[go_sem] theorem Zfn : Z0b Γ t neg .nil h K = ((∃ e, tdAt Γ t (.slice e)) ∧ K (.p (.bool (!neg)))) := rfl
@[go_sem] theorem nilSlK_p (v : PV) : Z0b Γ t neg (.p v) h K = ((∃ e, tdAt Γ t (.slice e)) ∧ match AV.listH h (.p v) with
    | some (_ :: _) => K (.p (.bool neg))
    | some [] => K (.p (.bool neg)) ∧ K (.p (.bool (!neg)))
    | none => False) := rfl
@[go_sem] theorem Zdz (l : List PV) : Z0b Γ t neg (.full l) h K = ((∃ e, tdAt Γ t (.slice e)) ∧ match AV.listH h (.full l) with
    | some (_ :: _) => K (.p (.bool neg))
    | some [] => K (.p (.bool neg)) ∧ K (.p (.bool (!neg)))
    | none => False) := rfl
@[go_sem] theorem Zfm (b k : Nat) : Z0b Γ t neg (.own b k) h K = ((∃ e, tdAt Γ t (.slice e)) ∧ match AV.listH h (.own b k) with
    | some (_ :: _) => K (.p (.bool neg))
    | some [] => K (.p (.bool neg)) ∧ K (.p (.bool (!neg)))
    | none => False) := rfl
end
attribute [go_sem] RK.hard
attribute [go_sem] Z99 Z5x bldK.eq_1 bldL List.all_cons List.all_nil Bool.and_self AV.ofCell intK AddR addW strK fldOff.eq_1 iaS.eq_1 iaO.eq_1 slS.eq_1 allocK.eq_1 bsK.eq_1 Z29 appK.eq_1 Z5l AV.listH AV.list tdAt
  AV.pure AV.pure1 AV.pures setL AV.one AV.kill AV.kill.killL AObj.kill Zc resK Z0a Option.map_none
  List.set_cons_succ List.set_cons_zero List.getD_cons_succ List.getD_cons_zero List.length_map List.length_cons List.length_nil List.map_cons List.map_nil List.getElem?_cons_succ List.getElem?_cons_zero
  List.replicate_succ List.replicate_zero List.cons_append List.nil_append List.take_zero List.take_succ_cons List.drop_zero List.drop_succ_cons
  true_and and_true if_true if_false Option.bind_some Option.map_some Int.toNat_natCast Option.isSome_some decide_eq_true_eq decide_eq_false_iff_not Int.ofNat_lt Int.ofNat_le
  Bool.not_eq_true Bool.not_eq_false Int.natCast_nonneg exists_eq' Bool.cond_true Bool.cond_false decide_true decide_false Bool.not_true Bool.not_false

@[go_sem] theorem pur_p (h : List AObj) (v : PV) : AV.pur h (.p v) = some v := rfl
@[go_sem] theorem pur_full (h : List AObj) (l : List PV) : AV.pur h (.full l) = some (.sl l) := rfl
@[go_sem] theorem pur_own (h : List AObj) (b n : Nat) : AV.pur h (.own b n) = (match h[b]? with | some (.row _ _ xs _) => some (.sl xs) | _ => none) := rfl
@[go_sem] theorem pur1_p (h : List AObj) (v : PV) : AV.pur1 h (.p v) = some v := rfl
@[go_sem] theorem Zha (h : List AObj) (l : List PV) : AV.pur1 h (.full l) = some (.sl l) := rfl
@[go_sem] theorem pur1_own (h : List AObj) (b n : Nat) : AV.pur1 h (.own b n) = (match h[b]? with | some (.row _ _ xs _) => some (.sl xs) | _ => none) := rfl
@[go_sem] theorem pur_agg (h : List AObj) (l : List AV) : AV.pur h (.agg l) = (AV.purL1 h l).map .agg := rfl
@[go_sem] theorem purL_nil (h : List AObj) : AV.purL h [] = some [] := rfl
@[go_sem] theorem Zh9 (h : List AObj) : AV.purL1 h [] = some [] := rfl
@[go_sem] theorem Zh8 (h : List AObj) (v : AV) (l : List AV) : AV.purL h (v :: l) = (v.pur h).bind fun x => (AV.purL h l).map (x :: ·) := by
  simp only [AV.purL]; cases v.pur h <;> cases AV.purL h l <;> rfl
@[go_sem] theorem Zfd (h : List AObj) (v : AV) (l : List AV) : AV.purL1 h (v :: l) = (v.pur1 h).bind fun x => (AV.purL1 h l).map (x :: ·) := by
  simp only [AV.purL1]; cases v.pur1 h <;> cases AV.purL1 h l <;> rfl

def mkF (n : Nat) : List (Nat × AV) → List AV
  | [] => List.replicate n .junk
  | (i, v) :: l => (mkF n l).set i v

attribute [go_sem] Z0c AV.thaw AV.thaw.thawL AObj.thaw mkF TD.slice.injEq TD.map.injEq exists_eq' Bool.false_eq_true reduceCtorEq Nat.zero_add Nat.lt_add_one Option.some.injEq List.cons.injEq PV.bool.injEq PV.int.injEq PV.str.injEq PV.sl.injEq PV.agg.injEq AV.p.injEq AV.full.injEq
  AV.own.injEq AV.ptr.injEq AV.agg.injEq AV.tup.injEq AV.map.injEq Z6v Z4j Z8r Weak AObj.row.injEq AObj.box.injEq or_true true_or false_or or_false Nat.le_refl Int.le_refl eq_self ne_eq not_false_eq_true not_true_eq_false implies_true forall_const

theorem AWp.loopI {E : Env} {r : Option Nat} {Q : Exit → St → Prop} {st : St} {c : Code} {α : Type} (fr : α → St) (Inv : α → Prop) (m : α → Nat) (x0 : α) (hw : Weak st (fr x0)) (h0 : Inv x0)
    (h : ∀ x, Inv x → AWp E r c (Z3f (fun st' => ∃ y, Weak st' (fr y) ∧ Inv y ∧ m y < m x) Q) (fr x)) : AWp E r (.loop c) Q st := by
  let J : St → Prop := fun s => ∃ x, Inv x ∧ s = fr x
  have hmin : ∀ s n, (∃ x, Inv x ∧ s = fr x ∧ m x = n) → ∃ x, Inv x ∧ s = fr x ∧ ∀ y, Inv y → s = fr y → m x ≤ m y := by
    intro s n
    induction n using Nat.strongRecOn with
    | _ n ih =>
      rintro ⟨x, hx, hs, hm⟩; by_cases hy : ∃ y, Inv y ∧ s = fr y ∧ m y < m x
      · obtain ⟨y, h1, h2, h3⟩ := hy
        exact ih (m y) (by omega) ⟨y, h1, h2, rfl⟩
      · exact ⟨x, hx, hs, fun y h1 h2 => Nat.le_of_not_lt fun h3 => hy ⟨y, h1, h2, h3⟩⟩
  let μ : St → Nat := fun s => @dite Nat (J s) (Classical.propDecidable _) (fun hs => m (hmin s (m hs.choose) ⟨hs.choose, hs.choose_spec.1, hs.choose_spec.2, rfl⟩).choose) (fun _ => 0)
  have hμ : ∀ s, J s → ∃ x, Inv x ∧ s = fr x ∧ μ s = m x ∧ ∀ y, Inv y → s = fr y → m x ≤ m y := by
    intro s hs; have e : μ s = m (hmin s (m hs.choose) ⟨hs.choose, hs.choose_spec.1, hs.choose_spec.2, rfl⟩).choose := dif_pos hs; have := (hmin s (m hs.choose) ⟨hs.choose, hs.choose_spec.1, hs.choose_spec.2, rfl⟩).choose_spec; exact ⟨_, this.1, this.2.1, e, this.2.2⟩
  refine AWp.loop J μ hw ⟨x0, h0, rfl⟩ ?_; rintro s hs; obtain ⟨x, hx, rfl, hmx, _⟩ := hμ s hs; refine (h x hx).mono ?_; intro e st' hq
  cases e with
  | normal =>
    obtain ⟨y, h1, h2, h3⟩ := hq; obtain ⟨z, hz1, hz2, hz3, hz4⟩ := hμ (fr y) ⟨y, h2, rfl⟩; exact ⟨fr y, h1, ⟨y, h2, rfl⟩, by have := hz4 y h2 rfl; omega⟩
  | _ => exact hq

end Go.AM
end

section
namespace Go.AM
open Go.RowKit

def Detm (F : (AV → Prop) → Prop) : Prop := ∀ K, F K → ∃ v, K v ∧ ∀ K', K' v → F K'

theorem Detm.ret (v : AV) : Detm (fun K => K v) := fun _ h => ⟨v, h, fun _ hk => hk⟩
theorem Detm.and {F : (AV → Prop) → Prop} {p : Prop} (h : Detm F) : Detm (fun K => p ∧ F K) := fun K ⟨hp, hk⟩ => let ⟨v, h1, h2⟩ := h K hk; ⟨v, h1, fun K' hk => ⟨hp, h2 K' hk⟩⟩
theorem Detm.no : Detm (fun _ => False) := fun _ h => h.elim

theorem Z47 (op : BinOp) (k : IntKind) (a b : Int) : Detm (intK op k a b) := by
  cases op <;> first | exact Detm.ret _ | exact Detm.and (Detm.ret _) | exact Detm.no
theorem Z96 (op : BinOp) (a b : List UInt8) : Detm (strK op a b) := by
  cases op <;> first | exact Detm.ret _ | exact Detm.and (Detm.ret _) | exact Detm.no
theorem Zao (Γ : Gam) (op : BinOp) (t : TypeId) (x y : AV) : Detm (binK Γ op t x y) := by
  intro K h; unfold binK at h
  split at h
  · cases op with
    | shl => exact Z47 .shl _ _ _ K h
    | shr => exact Z47 .shr _ _ _ K h
    | _ =>
      obtain ⟨rfl, h⟩ := h; obtain ⟨v, h1, h2⟩ := Z47 _ _ _ _ K h; exact ⟨v, h1, fun K' hk => ⟨rfl, h2 K' hk⟩⟩
  · obtain ⟨v, h1, h2⟩ := Z96 op _ _ K h
    exact ⟨v, h1, h2⟩
  · obtain ⟨ht, h⟩ := h
    cases op <;> first | exact h.elim | exact ⟨_, h, fun _ hk => ⟨ht, hk⟩⟩
  · exact h.elim
theorem Z8m (c x y : AV) : Detm (Z28 c x y) := by
  intro K h; unfold Z28 at h
  split at h
  · rename_i b
    split at h
    · exact ⟨_, h, fun _ hk => hk⟩
    · rename_i hno
      cases b with
      | true => exact ⟨x, h.1 rfl, fun K' hk => by rw [Z8l]; exact hk⟩
      | false => exact ⟨y, h.2 rfl, fun K' hk => by rw [Z74]; exact hk⟩
  · exact h.elim
theorem Zb8 (op : UnOp) (x : AV) : Detm (unK op x) := by
  intro K h; unfold unK at h
  split at h
  · exact ⟨_, h, fun _ hk => hk⟩
  · exact ⟨_, h.2, fun _ hk => ⟨h.1, hk⟩⟩
  · exact h.elim
theorem Zae (x : AV) (i : Nat) : Detm (extK x i) := by
  intro K h; unfold extK at h
  split at h
  · exact ⟨_, h.2, fun _ hk => ⟨h.1, hk⟩⟩
  · exact h.elim
theorem Za8 (Γ : Gam) (t : TypeId) (x i : AV) : Detm (idxK Γ t x i) := by
  intro K h; unfold idxK at h
  split at h
  · exact ⟨_, h.2.2, fun _ hk => ⟨h.1, h.2.1, hk⟩⟩
  · obtain ⟨te, hte, h⟩ := h.get
    split at h
    · rename_i m e he
      obtain ⟨ee, hee, hj, h⟩ := h.get
      split at h
      · rename_i hA
        exact ⟨_, h.2, fun K' hk => by simp only [idxK, tyAt, hte, he, hee, hA, if_true]; exact ⟨hj, h.1, hk⟩⟩
      · rename_i hA
        exact ⟨_, h.2, fun K' hk => by simp only [idxK, tyAt, hte, he, hee]; exact ⟨hj, by rw [if_neg hA]; exact ⟨h.1, hk⟩⟩⟩
    · exact h.elim
  · exact h.elim
theorem Za1 (Γ : Gam) (t : TypeId) (x : AV) (hp : List AObj) : Detm (lenK Γ t x hp) := by
  intro K h; unfold lenK at h
  split at h
  · exact ⟨_, h.2, fun _ hk => ⟨h.1, hk⟩⟩
  · exact ⟨_, h.2, fun _ hk => ⟨h.1, hk⟩⟩
  · exact ⟨_, h.2, fun _ hk => ⟨h.1, hk⟩⟩
  · exact ⟨_, h.2, fun _ hk => ⟨h.1, hk⟩⟩
  · obtain ⟨ht, h⟩ := h
    split at h
    · rename_i es hes
      exact ⟨_, h, fun K' hk => by simp only [lenK, hes]; exact ⟨ht, hk⟩⟩
    · exact h.elim
  · exact h.elim
theorem Z2d (Γ : Gam) (t : TypeId) (f : Nat) {F : Nat → TE → (AV → Prop) → Prop} (hF : ∀ o te, Detm (F o te)) : Detm (fun K => fldOff Γ t f fun o te => F o te K) := by
  intro K h; unfold fldOff at h; obtain ⟨te, hte, h⟩ := h.get
  split at h
  · rename_i fs hfs
    split at h
    · rename_i o ft hft
      obtain ⟨fe, hfe, h⟩ := h.get; obtain ⟨v, h1, h2⟩ := hF o fe K h; refine ⟨v, h1, fun K' hk => ?_⟩; simp only [fldOff, tyAt, hte, hfs, hft, hfe]; exact h2 K' hk
    · exact h.elim
  · exact h.elim
theorem Zbr (Γ : Gam) (hp : List AObj) (t : TypeId) (x i : AV) : Detm (iaK Γ hp t x i) := by
  intro K h; unfold iaK at h
  split at h
  · split at h
    · unfold iaA at h
      obtain ⟨te, hte, h⟩ := h.get
      split at h
      · rename_i m e he
        obtain ⟨ee, hee, hj, h⟩ := h.get; exact ⟨_, h, fun K' hk => by simp only [iaK, iaA, tyAt, hte, he, hee]; exact ⟨hj, hk⟩⟩
      · exact h.elim
    · unfold iaT at h
      obtain ⟨te, hte, h⟩ := h.get
      split at h
      · rename_i m e he
        obtain ⟨ee, hee, hj, h⟩ := h.get; exact ⟨_, h, fun K' hk => by simp only [iaK, iaT, tyAt, hte, he, hee]; exact ⟨hj, hk⟩⟩
      · exact h.elim
    obtain ⟨te, hte, h⟩ := h.get
    split at h
    · rename_i e he
      obtain ⟨ee, hee, h⟩ := h.get
      split at h
      · refine ⟨_, h.2.2, fun K' hk => ?_⟩
        simp only [iaK, tyAt, hte, he, hee]; exact ⟨h.1, h.2.1, hk⟩
      · refine ⟨_, h.2.2, fun K' hk => ?_⟩
        simp only [iaK, tyAt, hte, he, hee]; exact ⟨h.1, h.2.1, hk⟩
      · obtain ⟨hj, h⟩ := h
        split at h
        · rename_i hb
          refine ⟨_, h.2, fun K' hk => ?_⟩; simp only [iaK, tyAt, hte, he, hee, hb]; exact ⟨hj, h.1, hk⟩
        · exact h.elim
      · exact h.elim
    · exact h.elim
  · exact h.elim
theorem Zbt (Γ : Gam) (t : TypeId) (x : AV) (f : Nat) : Detm (faK Γ t x f) := by
  refine Z2d Γ t f (F := fun o fe K => fe.cells ≠ 0 ∧ (match x with
    | .ptr b off => K (.ptr b (off + o))
    | .eptr b s i g => K (.eptr b s i (g + o))
    | .ipt l => o ≤ l.length ∧ K (.ipt (l.drop o))
    | _ => False)) (fun o fe => Detm.and ?_)
  intro K h
  split at h
  · exact ⟨_, h, fun _ hk => hk⟩
  · exact ⟨_, h, fun _ hk => hk⟩
  · exact ⟨_, h.2, fun _ hk => ⟨h.1, hk⟩⟩
  · exact h.elim
theorem Z9r (x : AV) : Detm (nilK x) := by
  intro K h; unfold nilK at h
  split at h <;> first | exact ⟨_, h, fun K' hk => hk⟩ | exact h.elim

theorem Z6o (Γ : Gam) (fs : List (Nat × TypeId)) : ∀ (ps : List (Nat × AV)) (cs : List AV) (K : List AV → Prop), bldL Γ fs cs ps K → ∃ v, K v ∧ ∀ K' : List AV → Prop, K' v → bldL Γ fs cs ps K'
  | [], cs, K, h => ⟨cs, h, fun _ hk => hk⟩
  | (f, v) :: ps, cs, K, h => by
    unfold bldL at h
    split at h
    · rename_i o ft l hf hl
      obtain ⟨fe, hfe, hc, hk⟩ := h.get; obtain ⟨u, h1, h2⟩ := Z6o Γ fs ps _ K hk; refine ⟨u, h1, fun K' hk' => ?_⟩; unfold bldL; simp only [hf, hl, tyAt, hfe]; exact ⟨hc, h2 K' hk'⟩
    · exact h.elim
theorem Zam (Γ : Gam) (t : TypeId) (ps : List (Nat × AV)) : Detm (bldK Γ t ps) := by
  intro K h; unfold bldK at h; obtain ⟨te, hte, h⟩ := h.get
  split at h
  · rename_i fs zs h1 h2
    obtain ⟨ha, h⟩ := h; obtain ⟨u, hu, hk⟩ := Z6o Γ fs ps _ _ h; refine ⟨_, hu, fun K' hk' => ?_⟩; simp only [bldK, tyAt, hte, h1, h2]; exact ⟨ha, hk _ hk'⟩
  · exact h.elim
theorem Z8o (Γ : Gam) (h : List AObj) (t : TypeId) (x i : AV) (ok : Bool) : Detm (Z20 Γ h t x i ok) := by
  intro K hk; unfold Z20 at hk
  split at hk
  · rename_i b s
    obtain ⟨te, hte, hk⟩ := hk.get
    split at hk
    · rename_i k e h1
      obtain ⟨h2, hk⟩ := hk; obtain ⟨ee, hee, hk⟩ := hk.get
      split at hk
      · rename_i z es hz hb
        cases ok with
        | true => exact ⟨_, hk, fun K' hk' => by simp only [Z20, tyAt, hte, h1, hee, hz, hb]; exact ⟨h2, hk'⟩⟩
        | false => exact ⟨_, hk, fun K' hk' => by simp only [Z20, tyAt, hte, h1, hee, hz, hb]; exact ⟨h2, hk'⟩⟩
      · exact hk.elim
    · exact hk.elim
  · rename_i b kd s
    unfold Z6b at hk; obtain ⟨rfl, hk⟩ := hk; obtain ⟨te, hte, hk⟩ := hk.get
    split at hk
    · rename_i k e h1
      obtain ⟨h2, hk⟩ := hk; obtain ⟨ee, hee, hk⟩ := hk.get
      split at hk
      · rename_i z es hz hb
        cases ok with
        | true => exact ⟨_, hk, fun K' hk' => by simp only [Z20, Z6b, tyAt, hte, h1, hee, hz, hb]; exact ⟨trivial, h2, hk'⟩⟩
        | false => exact ⟨_, hk, fun K' hk' => by simp only [Z20, Z6b, tyAt, hte, h1, hee, hz, hb]; exact ⟨trivial, h2, hk'⟩⟩
      · exact hk.elim
    · exact hk.elim
  · exact hk.elim

theorem Z2r (b : Bool) {F G : (AV → Prop) → Prop} (hF : Detm F) (hG : Detm G) : Detm (fun K => if b then F K else G K) := by
  cases b with
  | true => exact hF
  | false => exact hG
theorem Z7f (Γ : Gam) (t : TypeId) (x : AV) (f : Nat) : Detm (Z1b Γ t x f) := by
  intro K h; unfold Z1b at h
  split at h
  · exact Z2d Γ t f (fun o fe => Z2r fe.isAgg (Detm.and (Detm.ret _)) (Detm.and (Detm.ret _))) K h
  · exact Z2d Γ t f (fun o fe => Z2r fe.isAgg (Detm.and (Detm.ret _)) (Detm.and (Detm.ret _))) K h
  · exact h.elim
theorem Z8q (Γ : Gam) (hp : List AObj) (t : TypeId) (x : AV) : Detm (Z1k Γ hp t x) := by
  intro K h; unfold Z1k at h; obtain ⟨te, hte, h⟩ := h.get
  split at h
  · obtain ⟨v, h1, h2⟩ := Z2r te.isAgg (Detm.and (Detm.ret _)) (Detm.and (Detm.ret _)) K h
    refine ⟨v, h1, fun K' hk => ?_⟩; simp only [Z1k, tyAt, hte]; exact h2 K' hk
  · split at h
    · rename_i hb
      obtain ⟨v, h1, h2⟩ := Z2r te.isAgg (Detm.and (Detm.ret _)) (Detm.and (Detm.ret _)) K h; refine ⟨v, h1, fun K' hk => ?_⟩; simp only [Z1k, tyAt, hte, hb]; exact h2 K' hk
    · exact h.elim
  · split at h
    · rename_i hb
      obtain ⟨v, h1, h2⟩ := Detm.and (Detm.and (Z2r te.isAgg (Detm.and (Detm.ret _)) (Detm.and (Detm.ret _)))) K h; refine ⟨v, h1, fun K' hk => ?_⟩; simp only [Z1k, tyAt, hte, hb]; exact h2 K' hk
    · exact h.elim
  · exact h.elim
theorem Z8v (Γ : Gam) (s t : TypeId) (x : AV) : Detm (Z1q Γ s t x) := by
  intro K h; unfold Z1q at h
  split at h
  · obtain ⟨hs, h⟩ := h
    split at h
    · rename_i te hte
      split at h
      · rename_i k' hk'
        refine ⟨_, h, fun K' hk => ?_⟩; simp only [Z1q, hte, hk']; exact ⟨hs, hk⟩
      · exact h.elim
    · exact h.elim
  · exact ⟨_, h.2.2, fun _ hk => ⟨h.1, h.2.1, hk⟩⟩
  · exact h.elim
def slBK (L : List PV) (bl bh bm : Option (Option Int)) (K : AV → Prop) : Prop :=
  match bl, bh, bm with
  | some none, some (some h), some none => (0 ≤ h ∧ h ≤ L.length) ∧ K (.p (.sl (L.take h.toNat)))
  | some (some l), some none, some none => (0 ≤ l ∧ l ≤ L.length) ∧ K (.p (.sl (L.drop l.toNat)))
  | some (some l), some (some h), some none => (0 ≤ l ∧ l ≤ h ∧ h ≤ L.length) ∧ K (.p (.sl ((L.drop l.toNat).take (h.toNat - l.toNat))))
  | some none, some (some h), some (some m) => (0 ≤ h ∧ h = m ∧ h ≤ L.length) ∧ K (.full (L.take h.toNat))
  | _, _, _ => False
theorem Z9a (L : List PV) (bl bh bm : Option (Option Int)) : Detm (slBK L bl bh bm) := by
  intro K h; unfold slBK at h
  split at h
  · exact ⟨_, h.2, fun _ hk => ⟨h.1, hk⟩⟩
  · exact ⟨_, h.2, fun _ hk => ⟨h.1, hk⟩⟩
  · exact ⟨_, h.2, fun _ hk => ⟨h.1, hk⟩⟩
  · exact ⟨_, h.2, fun _ hk => ⟨h.1, hk⟩⟩
  · exact h.elim
def slTK (Γ : Gam) (t : TypeId) (L : List PV) (bl bh bm : Option (Option Int)) (K : AV → Prop) : Prop :=
  tyAt Γ t fun te => (match te.td with
      | .slice e => tyAt Γ e fun ee => Zp L ee.cells ∧ slBK L bl bh bm K
      | _ => False)
theorem Z3w (Γ : Gam) (t : TypeId) (L : List PV) (bl bh bm : Option (Option Int)) : Detm (slTK Γ t L bl bh bm) := by
  intro K h; unfold slTK at h; obtain ⟨te, hte, h⟩ := h.get
  split at h
  · rename_i e he
    obtain ⟨ee, hee, hsz, h⟩ := h.get; obtain ⟨v, h1, h2⟩ := Z9a L bl bh bm K h; refine ⟨v, h1, fun K' hk => ?_⟩; simp only [slTK, tyAt, hte, he, hee]; exact ⟨hsz, h2 K' hk⟩
  · exact h.elim
theorem Z6y (Γ : Gam) (t : TypeId) (x : AV) (lo hi mx : Option AV) : Detm (Zw Γ t x lo hi mx) := by
  intro K h; have hno : ∀ {x : AV}, x.list = none → (∀ s, x ≠ .p (.str s)) → Zw Γ t x lo hi mx K → False := by
    intro x hx hs h; unfold Zw at h
    split at h
    · exact hs _ rfl
    · exact hs _ rfl
    · exact hs _ rfl
    · rw [hx] at h; exact h
  cases x with
  | full l => exact Z3w Γ t l (bnd lo) (bnd hi) (bnd mx) K h
  | nil => exact Z3w Γ t [] (bnd lo) (bnd hi) (bnd mx) K h
  | p v =>
    cases v with
    | sl l => exact Z3w Γ t l (bnd lo) (bnd hi) (bnd mx) K h
    | str s =>
      have hg : ∀ bl bh bm, bnd lo = bl → bnd hi = bh → bnd mx = bm → ∃ v, K v ∧ ∀ K', K' v → Zw Γ t (.p (.str s)) lo hi mx K' := by
        intro bl bh bm e1 e2 e3; unfold Zw at h ⊢; simp only [e1, e2, e3] at h ⊢
        split at h
        · exact ⟨_, h.2.2, fun _ hk => ⟨h.1, h.2.1, hk⟩⟩
        · exact ⟨_, h.2.2, fun _ hk => ⟨h.1, h.2.1, hk⟩⟩
        · exact ⟨_, h.2.2, fun _ hk => ⟨h.1, h.2.1, hk⟩⟩
        · exact h.elim
      exact hg _ _ _ rfl rfl rfl
    | _ => exact (hno rfl (by simp) h).elim
  | _ => exact (hno rfl (by simp) h).elim
end Go.AM
end

