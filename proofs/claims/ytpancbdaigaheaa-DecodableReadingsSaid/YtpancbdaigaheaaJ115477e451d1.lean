/-
  AM 26: a pure function's contract out of the reckoner; the model's own functions; when the reckoner may be believed.
  AM 27: a pure function whose result is a row of its own, at a call.
  AM 28: a list that nobody owns, in a box, taken as a row to append to.
-/
import Derived.Test.YtpancbdaigaheaaJd363543c4c2e
import Derived.Lib.Bytealg
import Derived.KernelRfl

section
namespace Go.AM
open Go.RowKit

/-- A struct that was read out of a box, as a plain value. -/
def AV.pvO (v : AV) : Option AV := match v with
  | .agg l => (AV.pvL l).bind fun ps => some (.p (.agg ps))
  | v => some v
def AV.pvTL : List AV → Option (List AV)
  | [] => some []
  | v :: l => match v.pvO with
    | some u => (match AV.pvTL l with | some m => some (u :: m) | none => none)
    | none => none
def AV.pvT (v : AV) : Option AV := match v with
  | .tup l => (AV.pvTL l).bind fun m => some (.tup m)
  | v => v.pvO
section
variable {n : Nat} {μ : Nat → Value} {I : Nat → Prop} {w : World}
theorem VR.pvO {x u : AV} {v : Value} (hx : VR n μ I w x v) (h : x.pvO = some u) : VR n μ I w u v := by
  unfold AV.pvO at h
  split at h
  · rename_i l
    obtain ⟨ps, h1, h2⟩ := Option.bind_eq_some_iff.1 h; injection h2 with h2; subst h2
    exact hx.pvp (by show (AV.pvL l).map PV.agg = _; rw [h1]; rfl)
  · injection h with h; subst h; exact hx
theorem AV.pvTL_get : ∀ {l m : List AV}, AV.pvTL l = some m → l.length = m.length ∧ ∀ i, i < l.length → (l.getD i .junk).pvO = some (m.getD i .junk)
  | [], m, h => by injection h with h; subst h; simp
  | v :: l, m, h => by
    unfold AV.pvTL at h
    split at h
    · rename_i u hu
      split at h
      · rename_i m' hm
        injection h with h; subst h
        obtain ⟨e1, e2⟩ := AV.pvTL_get hm
        refine ⟨by simp [e1], fun i hi => ?_⟩
        cases i with
        | zero => simpa using hu
        | succ i => simpa using e2 i (by simpa using hi)
      · cases h
    · cases h
theorem VR.pvT {x u : AV} {v : Value} (hx : VR n μ I w x v) (h : x.pvT = some u) : VR n μ I w u v := by
  unfold AV.pvT at h
  split at h
  · rename_i l
    obtain ⟨m, h1, h2⟩ := Option.bind_eq_some_iff.1 h; injection h2 with h2; subst h2
    obtain ⟨cs, rfl, hl, hr⟩ := hx.tup_inv
    obtain ⟨e1, e2⟩ := AV.pvTL_get h1
    exact .tup _ _ (by omega) (fun i hi => (hr i (by omega)).pvO (e2 i (by omega)))
  · exact hx.pvO h
end

theorem PFn.of_acP {P : Program} {f : FuncId} {args vs : List PV} (h : AC P f (args.map .p) [] [] (fun v h' => v.pvT = some (packAV (vs.map .p)) ∧ h' = [])) : PFn P f args vs := by
  refine ⟨h.1, fun I w cargs himm hlen hargs => ?_⟩
  let X : Ctx := { B0 := w.heap.size, w0 := w, I0 := I, μ0 := fun _ => undef, n0 := 0, ks := [], fz := fun _ => False, w1 := w }
  have R : RepH X I (fun _ => undef) (fun _ => none) [] w := {
      below := Below.refl _ _, base := Nat.le_refl _, imm := himm, ctx := fun _ h => h, frz := fun _ h => h.elim, inew := fun _ h => .inl h, may := fun _ _ => rfl, names := Nat.zero_le _
      own := fun b g h => (by cases h), sep := fun b b' g h => (by cases h), past := fun _ _ => rfl, objs := fun b o h => (by simp at h) }
  refine (h.2 X I _ _ w cargs R (by simpa using hlen) (fun i hi => by
    rw [List.length_map] at hi
    rw [getD_map_p _ _ hi]; exact .p _ _ (hargs i hi)) (by simp)).mono ?_
  rintro e w' ⟨cv, v, h', I', μ', ob', rfl, R', hv, hI, _, _, hinew, _, _, hp, rfl⟩
  replace hv := hv.pvT hp
  exact ⟨cv, I', rfl, ⟨R'.below.os, R'.below.tape, R'.below.output, R'.below.size, fun k hk _ => R'.below.block k hk⟩, hI,
    fun g hg => (hinew g hg).elim .inl (fun h => h.elim (fun ⟨b, hb⟩ => by cases hb) (fun h => .inr ⟨h, R'.imm g hg⟩)), hv.mono (Nat.le_refl _) (fun b hb => absurd hb (Nat.not_lt_zero b)) (fun _ h => h) (fun _ _ => rfl)⟩

theorem AC.monoR {P : Program} {f : FuncId} {args : List AV} {h : List AObj} {ks : List Nat} {R R' : AV → List AObj → Prop} (hf : AC P f args h ks R) (hi : ∀ v h', R v h' → R' v h') : AC P f args h ks R' :=
  ⟨hf.1, fun X I μ ob w cargs a b c d => (hf.2 X I μ ob w cargs a b c d).mono fun _ _ ⟨cv, v, h', I', μ', ob', x1, x2, x3, x4, x5, x6, x7, x8, x9, x10⟩ => ⟨cv, v, h', I', μ', ob', x1, x2, x3, x4, x5, x6, x7, x8, x9, hi _ _ x10⟩⟩

/-- A list that nobody else knows, where a list is asked. -/
theorem AC.full0 {P : Program} {f : FuncId} {l : List PV} {args : List AV} {h : List AObj} {ks : List Nat} {R : AV → List AObj → Prop} (hf : AC P f (.p (.sl l) :: args) h ks R) : AC P f (.full l :: args) h ks R :=
  ⟨hf.1, fun X I μ ob w cargs a b c d => hf.2 X I μ ob w cargs a (by simpa using b) (fun i hi => by
    have := c i (by simpa using hi)
    cases i with
    | zero =>
      simp only [List.getD_cons_zero] at this ⊢
      exact .p _ _ (this.pure1 rfl)
    | succ i => simpa using this) d⟩

/-- A pure function's contract, reckoned. -/
theorem PFn.of_runE {C : EC} (hC : ECOK C) {fuel : Nat} {f : FuncId} {args vs : List PV} (hv : (runE C fuel f (args.map .p)).bind AV.pvT = some (packAV (vs.map .p))) : PFn C.P f args vs := by
  obtain ⟨v, h1, h2⟩ := Option.bind_eq_some_iff.1 hv
  exact .of_acP ((runE_ok hC h1).monoR fun u h' ⟨e1, e2⟩ => ⟨by rw [e1]; exact h2, e2⟩)

/-! ### The model's own functions -/
/-- Where a byte is first, or -1. -/
def ixB (c : UInt8) : List UInt8 → Nat → Int
  | [], _ => -1
  | a :: l, k => match Nat.beq a.toNat c.toNat with | true => k | false => ixB c l (k + 1)
theorem ixB_eq (c : UInt8) : ∀ (l : List UInt8) (k : Nat), ixB c l k = if Lib.indexByte l c = -1 then -1 else Lib.indexByte l c + k
  | [], k => by simp [ixB, Lib.indexByte]
  | a :: l, k => by
    have ih := ixB_eq c l (k + 1)
    have hge := Lib.indexByte_ge l c
    unfold ixB Lib.indexByte
    split
    · rename_i h
      have : a = c := UInt8.toNat_inj.1 (Nat.eq_of_beq_eq_true h)
      subst this; simp
    · rename_i h
      have : ¬ a = c := fun e => by subst e; simp at h
      rw [ih]
      simp only [beq_iff_eq, this, if_false]
      split
      · rfl
      · rw [if_neg (by omega)]; omega
/-- -1, 0 or 1, as bytes compare. -/
def cmpB (a b : List UInt8) : Int := match bLt a b with
  | true => -1
  | false => match bEq a b with | true => 0 | false => 1
theorem cmpB_eq : ∀ a b : List UInt8, cmpB a b = Lib.compareBytes a b
  | [], [] => rfl
  | [], _ :: _ => rfl
  | _ :: _, [] => rfl
  | x :: a, y :: b => by
    have ih := cmpB_eq a b
    unfold Lib.compareBytes
    rw [← ih]
    have e1 : bLt (x :: a) (y :: b) = (match Nat.blt x.toNat y.toNat with | true => true | false => (match Nat.beq x.toNat y.toNat with | true => bLt a b | false => false)) := rfl
    have e2 : bEq (x :: a) (y :: b) = (match Nat.beq x.toNat y.toNat with | true => bEq a b | false => false) := rfl
    have e3 : ∀ u v : List UInt8, cmpB u v = (match bLt u v with | true => -1 | false => match bEq u v with | true => 0 | false => 1) := fun _ _ => rfl
    rw [e3 (x :: a), e1, e2]
    rcases Nat.lt_trichotomy x.toNat y.toNat with h | h | h
    · have h1 : Nat.blt x.toNat y.toNat = true := (Nat.blt_eq (x := x.toNat)).symm.mp h
      have h2 : x < y := h
      rw [h1, if_pos h2]
    · have h1 : Nat.blt x.toNat y.toNat = false := Bool.eq_false_iff.2 fun e => by have := (Nat.blt_eq (x := x.toNat)).mp e; omega
      have h2 : Nat.beq x.toNat y.toNat = true := by rw [h]; simp
      have h3 : ¬ x < y := fun e => by have : x.toNat < y.toNat := e; omega
      have h4 : ¬ y < x := fun e => by have : y.toNat < x.toNat := e; omega
      rw [h1, h2, if_neg h3, if_neg h4]; rfl
    · have h1 : Nat.blt x.toNat y.toNat = false := Bool.eq_false_iff.2 fun e => by have := (Nat.blt_eq (x := x.toNat)).mp e; omega
      have h2 : Nat.beq x.toNat y.toNat = false := Bool.eq_false_iff.2 fun e => by have := Nat.eq_of_beq_eq_true e; omega
      have h3 : ¬ x < y := fun e => by have : x.toNat < y.toNat := e; omega
      have h4 : y < x := h
      rw [h1, h2, if_neg h3, if_pos h4]

theorem ax_index {P : Program} {f : FuncId} {fn : Func} (hf : P.funcs[f]? = some fn) (hname : (fn.name == "runtime.NumGoroutine") = false) (hb : fn.body.isNone = true) (hn : Extern.findNext fn = none)
    (he : Extern.find fn = some Extern.BytealgIndexByte.indexByte) (s : List UInt8) (c : Int) : AX P f [.p (.str s), .p (.int .u8 c)] (.p (.int .i64 (ixB c.toNat.toUInt8 s 0))) := by
  intro n μ I w cargs hl hr
  obtain ⟨a, b, rfl⟩ : ∃ a b, cargs = [a, b] := by
    match cargs, hl with
    | [a, b], _ => exact ⟨a, b, rfl⟩
  obtain ⟨sb, rfl, rfl⟩ : ∃ sb : ByteArray, a = .string sb ∧ s = sb.data.toList := by
    have h0 := hr 0 (by simp)
    cases h0 with | p _ _ h => cases h with | str s => exact ⟨s, rfl, rfl⟩
  have hb' : b = .int .u8 c := by
    have h0 := hr 1 (by simp)
    cases h0 with | p _ _ h => cases h; rfl
  subst hb'
  refine ⟨_, by rw [run_callFunc_extern hf hname hb hn he]; exact congrArg (fun r => Result.andThen r fun v w' => Result.ok (Next.value v) w') (Lib.run_indexByteString sb c w), ?_⟩
  rw [ixB_eq]
  have hge := Lib.indexByte_ge sb.data.toList c.toNat.toUInt8
  have : (if Lib.indexByte sb.data.toList c.toNat.toUInt8 = -1 then -1 else Lib.indexByte sb.data.toList c.toNat.toUInt8 + ((0 : Nat) : Int)) = Lib.indexByte sb.data.toList c.toNat.toUInt8 := by
    split
    · omega
    · simp
  rw [this]
  exact .mkInt _ _

theorem ax_compare {P : Program} {f : FuncId} {fn : Func} (hf : P.funcs[f]? = some fn) (hname : (fn.name == "runtime.NumGoroutine") = false) (hb : fn.body.isNone = true) (hn : Extern.findNext fn = none)
    (he : Extern.find fn = some Extern.BytealgCompare.compare) (s t : List UInt8) : AX P f [.p (.str s), .p (.str t)] (.p (.int .i64 (cmpB s t))) := by
  intro n μ I w cargs hl hr
  obtain ⟨a, b, rfl⟩ : ∃ a b, cargs = [a, b] := by
    match cargs, hl with
    | [a, b], _ => exact ⟨a, b, rfl⟩
  obtain ⟨sa, rfl, rfl⟩ : ∃ sb : ByteArray, a = .string sb ∧ s = sb.data.toList := by
    have h0 := hr 0 (by simp)
    cases h0 with | p _ _ h => cases h with | str s => exact ⟨s, rfl, rfl⟩
  obtain ⟨sb, rfl, rfl⟩ : ∃ sb : ByteArray, b = .string sb ∧ t = sb.data.toList := by
    have h0 := hr 1 (by simp)
    cases h0 with | p _ _ h => cases h with | str s => exact ⟨s, rfl, rfl⟩
  refine ⟨_, by rw [run_callFunc_extern hf hname hb hn he]; exact congrArg (fun r => Result.andThen r fun v w' => Result.ok (Next.value v) w') (Lib.run_compareString sa sb w), ?_⟩
  rw [cmpB_eq]
  exact .mkInt _ _

/-- The names of a program's functions, asked once. -/
theorem names_ok {P : Program} (h : P.funcs.toList.all (fun fn => !(fn.name == "runtime.NumGoroutine")) = true) (f : FuncId) (fn : Func) (hf : P.funcs[f]? = some fn) : (fn.name == "runtime.NumGoroutine") = false := by
  rw [List.all_eq_true] at h
  have := h fn (by rw [← Array.getElem?_toList] at hf; exact List.mem_of_getElem? hf)
  simpa using this
end Go.AM
end

section
namespace Go.AM
open Go.RowKit

section
variable {P : Program} {X : Ctx} {I I' : Nat → Prop} {μ : Nat → Value} {ob : Nat → Option Nat} {w w' : World} {h : List AObj} {o : AObj}

/-- A name for a block that nobody names yet. -/
theorem RepH.nameOld (R : RepH X I μ ob h w) {v : Value} {g : Option Nat} (hgn : ∀ k, g = some k → X.mine k ∧ k < w.heap.size ∧ ¬ I k ∧ ∀ b, ob b ≠ some k)
    (ho : ObjOK (h.length + 1) (upd μ h.length v) I (upd ob h.length g) w h.length o) : RepH X I (upd μ h.length v) (upd ob h.length g) (h ++ [o]) w := by
  have hlt : ∀ c, c < h.length → c ≠ h.length := fun c hc => by omega
  exact {
    below := R.below, base := R.base, imm := R.imm, ctx := R.ctx, frz := R.frz, inew := R.inew
    may := fun b hb => by
      have : b ≠ h.length := fun e => hb (.inl (by rw [e]; exact R.names))
      rw [upd_other _ _ this]; exact R.may b hb
    names := by simpa using Nat.le_succ_of_le R.names
    own := fun b k hb => by
      by_cases e : b = h.length
      · subst e; rw [upd_same] at hb
        have := hgn k hb
        exact ⟨this.2.2.1, this.1, this.2.1⟩
      · rw [upd_other _ _ e] at hb
        exact R.own b k hb
    sep := fun b b' k hb hb' => by
      by_cases e : b = h.length <;> by_cases e' : b' = h.length
      · omega
      · subst e; rw [upd_same] at hb; rw [upd_other _ _ e'] at hb'
        exact absurd hb' ((hgn k hb).2.2.2 b')
      · subst e'; rw [upd_same] at hb'; rw [upd_other _ _ e] at hb
        exact absurd hb ((hgn k hb').2.2.2 b)
      · rw [upd_other _ _ e] at hb; rw [upd_other _ _ e'] at hb'; exact R.sep b b' k hb hb'
    past := fun b hb => by
      simp only [List.length_append, List.length_singleton] at hb
      rw [upd_other _ _ (by omega)]; exact R.past b (by omega)
    objs := fun b o' hb => by
      simp only [List.length_append, List.length_singleton]
      by_cases e : b < h.length
      · rw [List.getElem?_append_left e] at hb
        exact (R.objs b o' hb).keep (Nat.le_succ _) (fun c hc => upd_other _ _ (hlt c hc)) (upd_other _ _ (hlt b e)) (upd_other _ _ (hlt b e)) (fun _ h => h) (fun _ _ => rfl) (fun _ _ => rfl)
      · have hb2 : b = h.length := by
          have := (List.getElem?_eq_some_iff.1 hb).1; simp only [List.length_append, List.length_singleton] at this; omega
        subst hb2
        simp only [List.getElem?_append_right (Nat.le_refl _), Nat.sub_self, List.getElem?_cons_zero, Option.some.injEq] at hb
        subst hb; exact ho }

/-- A pure function that gives a row of its own. -/
def PRow (P : Program) (f : FuncId) (args : List PV) (E : TypeId) (s : Nat) (xs : List PV) : Prop :=
  AC P f (args.map .p) [] [] (fun v h' => ∃ b rk, v = .own b xs.length ∧ h'[b]? = some (.row E s xs rk) ∧ rk ≠ .raw)

theorem AC.of_row {f : FuncId} {args : List AV} {pargs xs : List PV} {E : TypeId} {s : Nat} (hf : PRow P f pargs E s xs) (hp : AV.pures args = some pargs ∨ AV.purL [] args = some pargs) :
    AC P f args h [] (fun v h' => v = .own h.length xs.length ∧ h' = h ++ [.row E s xs .lax]) := by
  refine ⟨hf.1, fun X I μ ob w cargs R hlen hargs _ => ?_⟩
  have key : args.length = pargs.length ∧ ∀ i, i < args.length → PR I w (pargs.getD i default) (cargs.getD i undef) := by
    rcases hp with hp | hp
    · obtain ⟨e1, e2⟩ := AV.pures_get hp
      exact ⟨e1, fun i hi => (hargs i hi).pure1 (e2 i hi)⟩
    · obtain ⟨e1, e2⟩ := AV.purL_get hp
      refine ⟨e1, fun i hi => ?_⟩
      have := (hargs i hi).pur (h := []) (ob := fun _ => none) (fun b o hb => by simp at hb) (e2 i hi)
      exact this.mono (fun g hg => hg.elim id (fun ⟨b, hb⟩ => by cases hb)) (fun _ _ => rfl)
  let X0 : Ctx := { B0 := w.heap.size, w0 := w, I0 := I, μ0 := fun _ => undef, n0 := 0, ks := [], fz := fun _ => False, w1 := w }
  have R0 : RepH X0 I (fun _ => undef) (fun _ => none) [] w := {
      below := Below.refl _ _, base := Nat.le_refl _, imm := R.imm, ctx := fun _ h => h, frz := fun _ h => h.elim, inew := fun _ h => .inl h, may := fun _ _ => rfl, names := Nat.zero_le _
      own := fun b g h => (by cases h), sep := fun b b' g h => (by cases h), past := fun _ _ => rfl, objs := fun b o h => (by simp at h) }
  refine (hf.2 X0 I _ _ w cargs R0 (by simp; omega) (fun i hi => by
    rw [List.length_map] at hi
    rw [getD_map_p _ _ hi]; exact .p _ _ (key.2 i (by omega))) (by simp)).mono ?_
  rintro e w' ⟨cv, v, h', I', μ', ob', rfl, R', hv, hI, _, _, hinew, hobn, _, b, rk, rfl, hrow, hraw⟩
  have hg : w.grownBy w' none := ⟨R'.below.os, R'.below.tape, R'.below.output, R'.below.size, fun k hk _ => R'.below.block k hk⟩
  have hI2 : ∀ g, I' g → I g ∨ (w.heap.size ≤ g ∧ g < w'.heap.size) := fun g hg => (hinew g hg).elim .inl (fun h => h.elim (fun ⟨b, hb⟩ => by cases hb) (fun h => .inr ⟨h, R'.imm g hg⟩))
  obtain ⟨a, c, rfl, hbn, hbm⟩ := hv.own_inv
  have hobj := R'.objs b _ hrow
  have hfr : ∀ k, ob' b = some k → X.mine k ∧ k < w'.heap.size ∧ ¬ I' k ∧ ∀ c, ob c ≠ some k := fun k hk => by
    have h1 := R'.own b k hk
    have h2 : w.heap.size ≤ k := (hobn b k hk).elim (fun ⟨c, hc⟩ => by cases hc) id
    exact ⟨R.fresh h2, h1.2.2, h1.1, fun c hc => by have := (R.own c k hc).2.2; omega⟩
  have R1 := R.grow hg hI hI2
  have R2 : RepH X I' (upd μ h.length (.slice a xs.length c)) (upd ob h.length (ob' b)) (h ++ [.row E s xs .lax]) w' := by
    refine R1.nameOld hfr ⟨hobj.1, ?_⟩
    rcases hobj.2 with ⟨g, hg, hin⟩ | ⟨_, hn, a', h1, h2⟩
    · left
      refine ⟨g, by rw [upd_same]; exact hg, ?_⟩
      rw [upd_same, ← hbm]
      have : (rk != .raw) = true := by simpa using hraw
      rw [this] at hin
      exact hin
    · right
      exact ⟨rfl, by rw [upd_same]; exact hn, a', by rw [upd_same, ← hbm]; exact h1, by rw [upd_same, ← hbm]; exact h2⟩
  refine ⟨_, .own h.length xs.length, _, I', _, _, rfl, R2, .own _ _ _ _ (by simp) (upd_same _ _ _), hI, fun c hc _ => upd_other _ _ (by omega), by simp, fun g hg => (hI2 g hg).imp id (fun h => .inr h.1), fun c g hc => ?_, fun g hlt _ => hg.block g hlt (by simp), rfl, rfl⟩
  by_cases e : c = h.length
  · subst e
    rw [upd_same] at hc
    exact .inr ((hobn b g hc).elim (fun ⟨c, hc⟩ => by cases hc) id)
  · rw [upd_other _ _ e] at hc; exact .inl ⟨c, hc⟩

theorem PFn.of_row {f : FuncId} {args xs : List PV} {E : TypeId} {s : Nat} (hf : PRow P f args E s xs) : PFn P f args [.sl xs] := by
  refine ⟨hf.1, fun I w cargs himm hlen hargs => ?_⟩
  let X : Ctx := { B0 := w.heap.size, w0 := w, I0 := I, μ0 := fun _ => undef, n0 := 0, ks := [], fz := fun _ => False, w1 := w }
  have R : RepH X I (fun _ => undef) (fun _ => none) [] w := {
      below := Below.refl _ _, base := Nat.le_refl _, imm := himm, ctx := fun _ h => h, frz := fun _ h => h.elim, inew := fun _ h => .inl h, may := fun _ _ => rfl, names := Nat.zero_le _
      own := fun b g h => (by cases h), sep := fun b b' g h => (by cases h), past := fun _ _ => rfl, objs := fun b o h => (by simp at h) }
  refine (hf.2 X I _ _ w cargs R (by simpa using hlen) (fun i hi => by
    rw [List.length_map] at hi
    rw [getD_map_p _ _ hi]; exact .p _ _ (hargs i hi)) (by simp)).mono ?_
  rintro e w' ⟨cv, v, h', I', μ', ob', rfl, R', hv, hI, _, _, hinew, hobn, _, b, rk, rfl, hrow, hraw⟩
  refine ⟨cv, fun g => I' g ∨ Owned ob' g, rfl, ⟨R'.below.os, R'.below.tape, R'.below.output, R'.below.size, fun k hk _ => R'.below.block k hk⟩, fun g h => .inl (hI g h), fun g hg => ?_, .p _ _ (hv.pur R'.objs ?_)⟩
  · rcases hg with hg | ⟨b, hb⟩
    · exact (hinew g hg).elim .inl (fun h => h.elim (fun ⟨b, hb⟩ => by cases hb) (fun h => .inr ⟨h, R'.imm g hg⟩))
    · exact .inr ⟨(hobn b g hb).elim (fun ⟨c, hc⟩ => by cases hc) id, (R'.own b g hb).2.2⟩
  · show AV.pur1 h' (.own b xs.length) = _
    unfold AV.pur1
    simp only [hrow]
end
end Go.AM
end

section
namespace Go.AM
open Go.RowKit

theorem Rep.adoptBox {X : Ctx} {I : Nat → Prop} {μ : Nat → Value} {ob : Nat → Option Nat} {w : World} {st : St} {a : Act} {l : List PV} (R : Rep X I μ ob st w a) (c : Nat) (E : TypeId) (s : Nat)
    (hc : st.h[c]? = some (.box [.full l])) (hs : ∀ x ∈ l, x.cells.length = s) : ∃ v, Rep X I (upd μ st.h.length v) (upd ob st.h.length none) ⟨st.tmps, st.h.set c (.box [.own st.h.length l.length]) ++ [.row E s l .lax]⟩ w a := by
  have hlt : c < st.h.length := (List.getElem?_eq_some_iff.1 hc).1
  obtain ⟨g, T, cur, h1, h2, h3, h4, h5⟩ := R.objs _ _ hc
  have hv := h5 0 (by simp)
  simp only [List.getD_cons_zero] at hv
  generalize hcv : cur.getD 0 undef = cv at hv
  cases hv with
  | full _ ad h =>
    have R1 := R.toRepH.name (World.grownBy.refl w none) (v := .slice ad l.length l.length) (g := none) (o := .row E s l .lax) (by simp) ⟨hs, .inr ⟨rfl, upd_same _ _ _, ad, upd_same _ _ _, by rw [upd_same]; exact h⟩⟩
    have hne : c ≠ st.h.length := by omega
    have R2 := R1.write (b0 := c) (g0 := g) (o := .box [.own st.h.length l.length]) (by simp; omega) (by rw [upd_other _ _ hne]; exact h1) (World.grownBy.refl w (some g))
      ⟨g, T, cur, by rw [upd_other _ _ hne]; exact h1, by rw [upd_other _ _ hne]; exact h2, h3, by simpa using h4, fun i hi => by
        have : i = 0 := by simpa using hi
        subst this
        rw [hcv]
        exact .own _ _ _ _ (by simp) (upd_same _ _ _)⟩
    rw [List.set_append_left _ _ hlt] at R2
    refine ⟨_, { toRepH := R2, size := R.size, tmps := fun j hj => (R.tmps j hj).mono (by simp) (fun b hb => upd_other _ _ (by omega)) (fun _ h => h) (fun _ _ => rfl), marks := ?_ }⟩
    obtain ⟨rs, m1, m2, m3⟩ := R.marks
    refine ⟨rs, m1, m2, fun q hq => ?_⟩
    obtain ⟨e1, e2, e3, e4⟩ := m3 q hq
    refine ⟨e1, e2, e3, fun b hb => ?_⟩
    by_cases e : b = st.h.length
    · subst e; rw [upd_same] at hb; cases hb
    · rw [upd_other _ _ e] at hb; exact e4 b hb

theorem AWp.adoptBox {E : Env} {r : Option Nat} {c : Code} {Q : Exit → St → Prop} {tm : List AV} {h : List AObj} {l : List PV} (b : Nat) (t : TypeId) (s : Nat) (hb : h[b]? = some (.box [.full l])) (hs : ∀ x ∈ l, x.cells.length = s)
    (hw : AWp E r c Q ⟨tm, h.set b (.box [.own h.length l.length]) ++ [.row t s l .lax]⟩) : AWp E r c Q ⟨tm, h⟩ := fun X I w a hE ⟨I', μ', ob', hI, R⟩ => by
  obtain ⟨v, R'⟩ := R.adoptBox b t s hb hs
  exact hw X I w a hE ⟨I', _, _, hI, R'⟩

/-- Nothing in these is struck. -/
theorem killAll_keep {tm : List AV} : ∀ {ks : List Nat}, (∀ k ∈ ks, ∀ v ∈ tm, v.kill k = v) → killAll ks tm = tm
  | [], _ => rfl
  | k :: ks, h => by
    show killAll ks (tm.map (AV.kill k)) = tm
    have e : tm.map (AV.kill k) = tm := by
      conv => rhs; rw [← List.map_id tm]
      exact List.map_congr_left (fun v hv => h k (by simp) v hv)
    rw [e]; exact killAll_keep (fun k' hk' => h k' (by simp [hk']))

theorem weakH_self (h : List AObj) : weakH h h := (Weak.refl ⟨[], h⟩).2

/-- Given away, if it is held. -/
theorem AWp.freezeIf {E' : Env} {r : Option Nat} {c : Code} {Q : Exit → St → Prop} {st : St} {E : TypeId} {s : Nat} {xs : List PV} {k : RK} (o : Bool) (b : Nat) (hb : o = true → st.h[b]? = some (.row E s xs k))
    (hw : AWp E' r c Q (if o = true then Frozen st b xs else st)) : AWp E' r c Q st := by
  cases o
  · exact hw
  · exact AWp.freeze b (hb rfl) hw
end Go.AM
end

