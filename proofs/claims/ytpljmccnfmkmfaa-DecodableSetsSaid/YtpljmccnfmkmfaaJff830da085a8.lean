/-
  Texts of this claim, joined.
-/
import Derived.Test.YtpljmccnfmkmfaaJ1d9878fc6957
import Derived.Lib.Bytealg
import Derived.KernelRfl
import Derived.Test.YtpljmccnfmkmfaaJ63cda10a6497
import Derived.Test.YtpljmccnfmkmfaaJad41afcb2056

set_option linter.unusedSimpArgs false
set_option linter.unusedVariables false
section
namespace Go.AM
open Go.RowKit

def AV.pvO (v : AV) : Option AV := match v with
  | .agg l => (AV.pvL l).bind fun ps => some (.p (.agg ps))
  | v => some v
def AV.pvTL : List AV → Option (List AV)
  | [] => some []
  | v :: l => match v.pvO with
    | some u => (match AV.pvTL l with | some m => some (u :: m) | none => none)
    | none => none
def AV.pvT (v : AV) : Option AV := match v with
  | .tup l => (AV.pvTL l).bind fun m => some (.tup m)
  | v => v.pvO
section
variable {n : Nat} {μ : Nat → Value} {I : Nat → Prop} {w : World}
theorem VR.pvO {x u : AV} {v : Value} (hx : VR n μ I w x v) (h : x.pvO = some u) : VR n μ I w u v := by
  unfold AV.pvO at h
  split at h
  · rename_i l
    obtain ⟨ps, h1, h2⟩ := Option.bind_eq_some_iff.1 h; injection h2 with h2; subst h2
    exact hx.pvp (by show (AV.pvL l).map PV.agg = _; rw [h1]; rfl)
  · injection h with h; subst h; exact hx
theorem AV.pvTL_get : ∀ {l m : List AV}, AV.pvTL l = some m → l.length = m.length ∧ ∀ i, i < l.length → (l.getD i .junk).pvO = some (m.getD i .junk)
  | [], m, h => by injection h with h; subst h; simp
  | v :: l, m, h => by
    unfold AV.pvTL at h
    split at h
    · rename_i u hu
      split at h
      · rename_i m' hm
        injection h with h; subst h
        obtain ⟨e1, e2⟩ := AV.pvTL_get hm; refine ⟨by simp [e1], fun i hi => ?_⟩
        cases i with
        | zero => simpa using hu
        | succ i => simpa using e2 i (by simpa using hi)
      · cases h
    · cases h
theorem VR.pvT {x u : AV} {v : Value} (hx : VR n μ I w x v) (h : x.pvT = some u) : VR n μ I w u v := by
  unfold AV.pvT at h
  split at h
  · rename_i l
    obtain ⟨m, h1, h2⟩ := Option.bind_eq_some_iff.1 h; injection h2 with h2; subst h2
    obtain ⟨cs, rfl, hl, hr⟩ := hx.tup_inv; obtain ⟨e1, e2⟩ := AV.pvTL_get h1; exact .tup _ _ (by omega) (fun i hi => (hr i (by omega)).pvO (e2 i (by omega)))
  · exact hx.pvO h
end

theorem PFn.of_acP {P : Program} {f : FuncId} {args vs : List PV} (h : AC P f (args.map .p) [] [] (fun v h' => v.pvT = some (Z07 (vs.map .p)) ∧ h' = [])) : PFn P f args vs := by
  refine ⟨h.1, fun I w cargs himm hlen hargs => ?_⟩
  let X : Ctx := { B0 := w.heap.size, w0 := w, I0 := I, μ0 := fun _ => undef, n0 := 0, ks := [], fz := fun _ => False, w1 := w }
  have R : RepH X I (fun _ => undef) (fun _ => none) [] w := {
      below := Below.refl _ _, base := Nat.le_refl _, imm := himm, ctx := fun _ h => h, frz := fun _ h => h.elim, inew := fun _ h => .inl h, may := fun _ _ => rfl, names := Nat.zero_le _
      own := fun b g h => (by cases h), sep := fun b b' g h => (by cases h), past := fun _ _ => rfl, objs := fun b o h => (by simp at h) }
  refine (h.2 X I _ _ w cargs R (by simpa using hlen) (fun i hi => by
    rw [List.length_map] at hi; rw [Z0d _ _ hi]; exact .p _ _ (hargs i hi)) (by simp)).mono ?_
  rintro e w' ⟨cv, v, h', I', μ', ob', rfl, R', hv, hI, _, _, hinew, _, _, hp, rfl⟩
  replace hv := hv.pvT hp
  exact ⟨cv, I', rfl, ⟨R'.below.os, R'.below.tape, R'.below.output, R'.below.size, fun k hk _ => R'.below.block k hk⟩, hI,
    fun g hg => (hinew g hg).elim .inl (fun h => h.elim (fun ⟨b, hb⟩ => by cases hb) (fun h => .inr ⟨h, R'.imm g hg⟩)), hv.mono (Nat.le_refl _) (fun b hb => absurd hb (Nat.not_lt_zero b)) (fun _ h => h) (fun _ _ => rfl)⟩

theorem AC.monoR {P : Program} {f : FuncId} {args : List AV} {h : List AObj} {ks : List Nat} {R R' : AV → List AObj → Prop} (hf : AC P f args h ks R) (hi : ∀ v h', R v h' → R' v h') : AC P f args h ks R' :=
  ⟨hf.1, fun X I μ ob w cargs a b c d => (hf.2 X I μ ob w cargs a b c d).mono fun _ _ ⟨cv, v, h', I', μ', ob', x1, x2, x3, x4, x5, x6, x7, x8, x9, x10⟩ => ⟨cv, v, h', I', μ', ob', x1, x2, x3, x4, x5, x6, x7, x8, x9, hi _ _ x10⟩⟩

theorem PFn.of_runE {C : EC} (hC : ECOK C) {fuel : Nat} {f : FuncId} {args vs : List PV} (hv : (runE C fuel f (args.map .p)).bind AV.pvT = some (Z07 (vs.map .p))) : PFn C.P f args vs := by
  obtain ⟨v, h1, h2⟩ := Option.bind_eq_some_iff.1 hv; exact .of_acP ((Zil hC h1).monoR fun u h' ⟨e1, e2⟩ => ⟨by rw [e1]; exact h2, e2⟩)

/-! ### The model's own functions -/
def ixB (c : UInt8) : List UInt8 → Nat → Int
  | [], _ => -1
  | a :: l, k => match Nat.beq a.toNat c.toNat with | true => k | false => ixB c l (k + 1)
theorem Ze2 (c : UInt8) : ∀ (l : List UInt8) (k : Nat), ixB c l k = if Lib.indexByte l c = -1 then -1 else Lib.indexByte l c + k
  | [], k => by simp [ixB, Lib.indexByte]
  | a :: l, k => by
    have ih := Ze2 c l (k + 1); have hge := Lib.indexByte_ge l c; unfold ixB Lib.indexByte
    split
    · rename_i h
      have : a = c := UInt8.toNat_inj.1 (Nat.eq_of_beq_eq_true h); subst this; simp
    · rename_i h
      have : ¬ a = c := fun e => by subst e; simp at h
      rw [ih]; simp only [beq_iff_eq, this, if_false]
      split
      · rfl
      · rw [if_neg (by omega)]; omega
def cmpB (a b : List UInt8) : Int := match bLt a b with
  | true => -1
  | false => match bEq a b with | true => 0 | false => 1
theorem Za8 : ∀ a b : List UInt8, cmpB a b = Lib.compareBytes a b
  | [], [] => rfl
  | [], _ :: _ => rfl
  | _ :: _, [] => rfl
  | x :: a, y :: b => by
    have ih := Za8 a b; unfold Lib.compareBytes; rw [← ih]; have e1 : bLt (x :: a) (y :: b) = (match Nat.blt x.toNat y.toNat with | true => true | false => (match Nat.beq x.toNat y.toNat with | true => bLt a b | false => false)) := rfl; have e2 : bEq (x :: a) (y :: b) = (match Nat.beq x.toNat y.toNat with | true => bEq a b | false => false) := rfl; have e3 : ∀ u v : List UInt8, cmpB u v = (match bLt u v with | true => -1 | false => match bEq u v with | true => 0 | false => 1) := fun _ _ => rfl
    rw [e3 (x :: a), e1, e2]; rcases Nat.lt_trichotomy x.toNat y.toNat with h | h | h
    · have h1 : Nat.blt x.toNat y.toNat = true := (Nat.blt_eq (x := x.toNat)).symm.mp h
      have h2 : x < y := h; rw [h1, if_pos h2]
    · have h1 : Nat.blt x.toNat y.toNat = false := Bool.eq_false_iff.2 fun e => by have := (Nat.blt_eq (x := x.toNat)).mp e; omega
      have h2 : Nat.beq x.toNat y.toNat = true := by rw [h]; simp
      have h3 : ¬ x < y := fun e => by have : x.toNat < y.toNat := e; omega
      have h4 : ¬ y < x := fun e => by have : y.toNat < x.toNat := e; omega
      rw [h1, h2, if_neg h3, if_neg h4]; rfl
    · have h1 : Nat.blt x.toNat y.toNat = false := Bool.eq_false_iff.2 fun e => by have := (Nat.blt_eq (x := x.toNat)).mp e; omega
      have h2 : Nat.beq x.toNat y.toNat = false := Bool.eq_false_iff.2 fun e => by have := Nat.eq_of_beq_eq_true e; omega
      have h3 : ¬ x < y := fun e => by have : x.toNat < y.toNat := e; omega
      have h4 : y < x := h; rw [h1, h2, if_neg h3, if_pos h4]

theorem Zh5 {P : Program} {f : FuncId} {fn : Func} (hf : P.funcs[f]? = some fn) (hname : (fn.name == "runtime.NumGoroutine") = false) (hb : fn.body.isNone = true) (hn : Extern.findNext fn = none)
    (he : Extern.find fn = some Extern.BytealgIndexByte.indexByte) (s : List UInt8) (c : Int) : AX P f [.p (.str s), .p (.int .u8 c)] (.p (.int .i64 (ixB c.toNat.toUInt8 s 0))) := by
  intro n μ I w cargs hl hr; obtain ⟨a, b, rfl⟩ : ∃ a b, cargs = [a, b] := by
    match cargs, hl with
    | [a, b], _ => exact ⟨a, b, rfl⟩
  obtain ⟨sb, rfl, rfl⟩ : ∃ sb : ByteArray, a = .string sb ∧ s = sb.data.toList := by
    have h0 := hr 0 (by simp)
    cases h0 with | p _ _ h => cases h with | str s => exact ⟨s, rfl, rfl⟩
  have hb' : b = .int .u8 c := by
    have h0 := hr 1 (by simp)
    cases h0 with | p _ _ h => cases h; rfl
  subst hb'; refine ⟨_, by rw [run_callFunc_extern hf hname hb hn he]; exact congrArg (fun r => Result.andThen r fun v w' => Result.ok (Next.value v) w') (Lib.run_indexByteString sb c w), ?_⟩; rw [Ze2]; have hge := Lib.indexByte_ge sb.data.toList c.toNat.toUInt8; have : (if Lib.indexByte sb.data.toList c.toNat.toUInt8 = -1 then -1 else Lib.indexByte sb.data.toList c.toNat.toUInt8 + ((0 : Nat) : Int)) = Lib.indexByte sb.data.toList c.toNat.toUInt8 := by
    split
    · omega
    · simp
  rw [this]; exact .mkInt _ _

theorem Zc8 {P : Program} {f : FuncId} {fn : Func} (hf : P.funcs[f]? = some fn) (hname : (fn.name == "runtime.NumGoroutine") = false) (hb : fn.body.isNone = true) (hn : Extern.findNext fn = none)
    (he : Extern.find fn = some Extern.BytealgCompare.compare) (s t : List UInt8) : AX P f [.p (.str s), .p (.str t)] (.p (.int .i64 (cmpB s t))) := by
  intro n μ I w cargs hl hr; obtain ⟨a, b, rfl⟩ : ∃ a b, cargs = [a, b] := by
    match cargs, hl with
    | [a, b], _ => exact ⟨a, b, rfl⟩
  obtain ⟨sa, rfl, rfl⟩ : ∃ sb : ByteArray, a = .string sb ∧ s = sb.data.toList := by
    have h0 := hr 0 (by simp)
    cases h0 with | p _ _ h => cases h with | str s => exact ⟨s, rfl, rfl⟩
  obtain ⟨sb, rfl, rfl⟩ : ∃ sb : ByteArray, b = .string sb ∧ t = sb.data.toList := by
    have h0 := hr 1 (by simp)
    cases h0 with | p _ _ h => cases h with | str s => exact ⟨s, rfl, rfl⟩
  refine ⟨_, by rw [run_callFunc_extern hf hname hb hn he]; exact congrArg (fun r => Result.andThen r fun v w' => Result.ok (Next.value v) w') (Lib.run_compareString sa sb w), ?_⟩; rw [Za8]; exact .mkInt _ _

theorem Zgg {P : Program} (h : P.funcs.toList.all (fun fn => !(fn.name == "runtime.NumGoroutine")) = true) (f : FuncId) (fn : Func) (hf : P.funcs[f]? = some fn) : (fn.name == "runtime.NumGoroutine") = false := by
  rw [List.all_eq_true] at h; have := h fn (by rw [← Array.getElem?_toList] at hf; exact List.mem_of_getElem? hf)
  simpa using this
end Go.AM
end

section
namespace Go.AM
open Go.RowKit

section
variable {P : Program} {X : Ctx} {I I' : Nat → Prop} {μ : Nat → Value} {ob : Nat → Option Nat} {w w' : World} {h : List AObj} {o : AObj}

theorem RepH.nameOld (R : RepH X I μ ob h w) {v : Value} {g : Option Nat} (hgn : ∀ k, g = some k → X.mine k ∧ k < w.heap.size ∧ ¬ I k ∧ ∀ b, ob b ≠ some k)
    (ho : ObjOK (h.length + 1) (upd μ h.length v) I (upd ob h.length g) w h.length o) : RepH X I (upd μ h.length v) (upd ob h.length g) (h ++ [o]) w := by
  have hlt : ∀ c, c < h.length → c ≠ h.length := fun c hc => by omega
  exact {
    below := R.below, base := R.base, imm := R.imm, ctx := R.ctx, frz := R.frz, inew := R.inew
    may := fun b hb => by
      have : b ≠ h.length := fun e => hb (.inl (by rw [e]; exact R.names))
      rw [Z3 _ _ this]; exact R.may b hb
    names := by simpa using Nat.le_succ_of_le R.names
    own := fun b k hb => by
      by_cases e : b = h.length
      · subst e; rw [Z6] at hb
        have := hgn k hb; exact ⟨this.2.2.1, this.1, this.2.1⟩
      · rw [Z3 _ _ e] at hb
        exact R.own b k hb
    sep := fun b b' k hb hb' => by
      by_cases e : b = h.length <;> by_cases e' : b' = h.length
      · omega
      · subst e; rw [Z6] at hb; rw [Z3 _ _ e'] at hb'
        exact absurd hb' ((hgn k hb).2.2.2 b')
      · subst e'; rw [Z6] at hb'; rw [Z3 _ _ e] at hb
        exact absurd hb ((hgn k hb').2.2.2 b)
      · rw [Z3 _ _ e] at hb; rw [Z3 _ _ e'] at hb'; exact R.sep b b' k hb hb'
    past := fun b hb => by
      simp only [List.length_append, List.length_singleton] at hb; rw [Z3 _ _ (by omega)]; exact R.past b (by omega)
    objs := fun b o' hb => by
      simp only [List.length_append, List.length_singleton]; by_cases e : b < h.length
      · rw [List.getElem?_append_left e] at hb
        exact (R.objs b o' hb).keep (Nat.le_succ _) (fun c hc => Z3 _ _ (hlt c hc)) (Z3 _ _ (hlt b e)) (Z3 _ _ (hlt b e)) (fun _ h => h) (fun _ _ => rfl) (fun _ _ => rfl)
      · have hb2 : b = h.length := by
          have := (List.getElem?_eq_some_iff.1 hb).1; simp only [List.length_append, List.length_singleton] at this; omega
        subst hb2; simp only [List.getElem?_append_right (Nat.le_refl _), Nat.sub_self, List.getElem?_cons_zero, Option.some.injEq] at hb; subst hb; exact ho }

def PRow (P : Program) (f : FuncId) (args : List PV) (E : TypeId) (s : Nat) (xs : List PV) : Prop :=
  AC P f (args.map .p) [] [] (fun v h' => ∃ b rk, v = .own b xs.length ∧ h'[b]? = some (.row E s xs rk) ∧ rk ≠ .raw)

theorem AC.of_row {f : FuncId} {args : List AV} {pargs xs : List PV} {E : TypeId} {s : Nat} (hf : PRow P f pargs E s xs) (hp : AV.pures args = some pargs ∨ AV.purL [] args = some pargs) :
    AC P f args h [] (fun v h' => v = .own h.length xs.length ∧ h' = h ++ [.row E s xs .lax]) := by
  refine ⟨hf.1, fun X I μ ob w cargs R hlen hargs _ => ?_⟩; have key : args.length = pargs.length ∧ ∀ i, i < args.length → PR I w (pargs.getD i default) (cargs.getD i undef) := by
    rcases hp with hp | hp
    · obtain ⟨e1, e2⟩ := AV.pures_get hp
      exact ⟨e1, fun i hi => (hargs i hi).pure1 (e2 i hi)⟩
    · obtain ⟨e1, e2⟩ := AV.purL_get hp
      refine ⟨e1, fun i hi => ?_⟩; have := (hargs i hi).pur (h := []) (ob := fun _ => none) (fun b o hb => by simp at hb) (e2 i hi); exact this.mono (fun g hg => hg.elim id (fun ⟨b, hb⟩ => by cases hb)) (fun _ _ => rfl)
  let X0 : Ctx := { B0 := w.heap.size, w0 := w, I0 := I, μ0 := fun _ => undef, n0 := 0, ks := [], fz := fun _ => False, w1 := w }
  have R0 : RepH X0 I (fun _ => undef) (fun _ => none) [] w := {
      below := Below.refl _ _, base := Nat.le_refl _, imm := R.imm, ctx := fun _ h => h, frz := fun _ h => h.elim, inew := fun _ h => .inl h, may := fun _ _ => rfl, names := Nat.zero_le _
      own := fun b g h => (by cases h), sep := fun b b' g h => (by cases h), past := fun _ _ => rfl, objs := fun b o h => (by simp at h) }
  refine (hf.2 X0 I _ _ w cargs R0 (by simp; omega) (fun i hi => by
    rw [List.length_map] at hi; rw [Z0d _ _ hi]; exact .p _ _ (key.2 i (by omega))) (by simp)).mono ?_
  rintro e w' ⟨cv, v, h', I', μ', ob', rfl, R', hv, hI, _, _, hinew, hobn, _, b, rk, rfl, hrow, hraw⟩; have hg : w.grownBy w' none := ⟨R'.below.os, R'.below.tape, R'.below.output, R'.below.size, fun k hk _ => R'.below.block k hk⟩; have hI2 : ∀ g, I' g → I g ∨ (w.heap.size ≤ g ∧ g < w'.heap.size) := fun g hg => (hinew g hg).elim .inl (fun h => h.elim (fun ⟨b, hb⟩ => by cases hb) (fun h => .inr ⟨h, R'.imm g hg⟩))
  obtain ⟨a, c, rfl, hbn, hbm⟩ := hv.own_inv; have hobj := R'.objs b _ hrow; have hfr : ∀ k, ob' b = some k → X.mine k ∧ k < w'.heap.size ∧ ¬ I' k ∧ ∀ c, ob c ≠ some k := fun k hk => by
    have h1 := R'.own b k hk; have h2 : w.heap.size ≤ k := (hobn b k hk).elim (fun ⟨c, hc⟩ => by cases hc) id; exact ⟨R.fresh h2, h1.2.2, h1.1, fun c hc => by have := (R.own c k hc).2.2; omega⟩
  have R1 := R.grow hg hI hI2; have R2 : RepH X I' (upd μ h.length (.slice a xs.length c)) (upd ob h.length (ob' b)) (h ++ [.row E s xs .lax]) w' := by
    refine R1.nameOld hfr ⟨hobj.1, ?_⟩; rcases hobj.2 with ⟨g, hg, hin⟩ | ⟨_, hn, a', h1, h2⟩
    · left
      refine ⟨g, by rw [Z6]; exact hg, ?_⟩; rw [Z6, ← hbm]; have : (rk != .raw) = true := by simpa using hraw
      rw [this] at hin; exact hin
    · right
      exact ⟨rfl, by rw [Z6]; exact hn, a', by rw [Z6, ← hbm]; exact h1, by rw [Z6, ← hbm]; exact h2⟩
  refine ⟨_, .own h.length xs.length, _, I', _, _, rfl, R2, .own _ _ _ _ (by simp) (Z6 _ _ _), hI, fun c hc _ => Z3 _ _ (by omega), by simp, fun g hg => (hI2 g hg).imp id (fun h => .inr h.1), fun c g hc => ?_, fun g hlt _ => hg.block g hlt (by simp), rfl, rfl⟩; by_cases e : c = h.length
  · subst e
    rw [Z6] at hc; exact .inr ((hobn b g hc).elim (fun ⟨c, hc⟩ => by cases hc) id)
  · rw [Z3 _ _ e] at hc; exact .inl ⟨c, hc⟩

theorem PFn.of_row {f : FuncId} {args xs : List PV} {E : TypeId} {s : Nat} (hf : PRow P f args E s xs) : PFn P f args [.sl xs] := by
  refine ⟨hf.1, fun I w cargs himm hlen hargs => ?_⟩
  let X : Ctx := { B0 := w.heap.size, w0 := w, I0 := I, μ0 := fun _ => undef, n0 := 0, ks := [], fz := fun _ => False, w1 := w }
  have R : RepH X I (fun _ => undef) (fun _ => none) [] w := {
      below := Below.refl _ _, base := Nat.le_refl _, imm := himm, ctx := fun _ h => h, frz := fun _ h => h.elim, inew := fun _ h => .inl h, may := fun _ _ => rfl, names := Nat.zero_le _
      own := fun b g h => (by cases h), sep := fun b b' g h => (by cases h), past := fun _ _ => rfl, objs := fun b o h => (by simp at h) }
  refine (hf.2 X I _ _ w cargs R (by simpa using hlen) (fun i hi => by
    rw [List.length_map] at hi; rw [Z0d _ _ hi]; exact .p _ _ (hargs i hi)) (by simp)).mono ?_
  rintro e w' ⟨cv, v, h', I', μ', ob', rfl, R', hv, hI, _, _, hinew, hobn, _, b, rk, rfl, hrow, hraw⟩; refine ⟨cv, fun g => I' g ∨ Zcb ob' g, rfl, ⟨R'.below.os, R'.below.tape, R'.below.output, R'.below.size, fun k hk _ => R'.below.block k hk⟩, fun g h => .inl (hI g h), fun g hg => ?_, .p _ _ (hv.pur R'.objs ?_)⟩
  · rcases hg with hg | ⟨b, hb⟩
    · exact (hinew g hg).elim .inl (fun h => h.elim (fun ⟨b, hb⟩ => by cases hb) (fun h => .inr ⟨h, R'.imm g hg⟩))
    · exact .inr ⟨(hobn b g hb).elim (fun ⟨c, hc⟩ => by cases hc) id, (R'.own b g hb).2.2⟩
  · show AV.pur1 h' (.own b xs.length) = _
    unfold AV.pur1; simp only [hrow]
end
end Go.AM
end

section
namespace Go.AM
open Go.RowKit

theorem Rep.adoptBox {X : Ctx} {I : Nat → Prop} {μ : Nat → Value} {ob : Nat → Option Nat} {w : World} {st : St} {a : Act} {l : List PV} (R : Rep X I μ ob st w a) (c : Nat) (E : TypeId) (s : Nat)
    (hc : st.h[c]? = some (.box [.full l])) (hs : ∀ x ∈ l, x.cells.length = s) : ∃ v, Rep X I (upd μ st.h.length v) (upd ob st.h.length none) ⟨st.tmps, st.h.set c (.box [.own st.h.length l.length]) ++ [.row E s l .lax]⟩ w a := by
  have hlt : c < st.h.length := (List.getElem?_eq_some_iff.1 hc).1; obtain ⟨g, T, cur, h1, h2, h3, h4, h5⟩ := R.objs _ _ hc; have hv := h5 0 (by simp); simp only [List.getD_cons_zero] at hv; generalize hcv : cur.getD 0 undef = cv at hv
  cases hv with
  | full _ ad h =>
    have R1 := R.toRepH.name (World.grownBy.refl w none) (v := .slice ad l.length l.length) (g := none) (o := .row E s l .lax) (by simp) ⟨hs, .inr ⟨rfl, Z6 _ _ _, ad, Z6 _ _ _, by rw [Z6]; exact h⟩⟩; have hne : c ≠ st.h.length := by omega
    have R2 := R1.write (b0 := c) (g0 := g) (o := .box [.own st.h.length l.length]) (by simp; omega) (by rw [Z3 _ _ hne]; exact h1) (World.grownBy.refl w (some g))
      ⟨g, T, cur, by rw [Z3 _ _ hne]; exact h1, by rw [Z3 _ _ hne]; exact h2, h3, by simpa using h4, fun i hi => by
        have : i = 0 := by simpa using hi
        subst this; rw [hcv]; exact .own _ _ _ _ (by simp) (Z6 _ _ _)⟩
    rw [List.set_append_left _ _ hlt] at R2; refine ⟨_, { toRepH := R2, size := R.size, tmps := fun j hj => (R.tmps j hj).mono (by simp) (fun b hb => Z3 _ _ (by omega)) (fun _ h => h) (fun _ _ => rfl), marks := ?_ }⟩; obtain ⟨rs, m1, m2, m3⟩ := R.marks; refine ⟨rs, m1, m2, fun q hq => ?_⟩; obtain ⟨e1, e2, e3, e4⟩ := m3 q hq; refine ⟨e1, e2, e3, fun b hb => ?_⟩; by_cases e : b = st.h.length
    · subst e; rw [Z6] at hb; cases hb
    · rw [Z3 _ _ e] at hb; exact e4 b hb

theorem AWp.adoptBox {E : Env} {r : Option Nat} {c : Code} {Q : Exit → St → Prop} {tm : List AV} {h : List AObj} {l : List PV} (b : Nat) (t : TypeId) (s : Nat) (hb : h[b]? = some (.box [.full l])) (hs : ∀ x ∈ l, x.cells.length = s)
    (hw : AWp E r c Q ⟨tm, h.set b (.box [.own h.length l.length]) ++ [.row t s l .lax]⟩) : AWp E r c Q ⟨tm, h⟩ := fun X I w a hE ⟨I', μ', ob', hI, R⟩ => by
  obtain ⟨v, R'⟩ := R.adoptBox b t s hb hs; exact hw X I w a hE ⟨I', _, _, hI, R'⟩

theorem Z0i {tm : List AV} : ∀ {ks : List Nat}, (∀ k ∈ ks, ∀ v ∈ tm, v.kill k = v) → Z8 ks tm = tm
  | [], _ => rfl
  | k :: ks, h => by
    show Z8 ks (tm.map (AV.kill k)) = tm; have e : tm.map (AV.kill k) = tm := by
      conv => rhs; rw [← List.map_id tm]
      exact List.map_congr_left (fun v hv => h k (by simp) v hv)
    rw [e]; exact Z0i (fun k' hk' => h k' (by simp [hk']))

theorem Zf (h : List AObj) : weakH h h := (Weak.refl ⟨[], h⟩).2


/-! ### What is struck before an operation is struck behind it -/
def jkO : List Oper → List AV → List AV
  | [], tm => tm
  | o :: l, tm => jkO l (putD tm o.dst .junk)

theorem Zir (tm : List AV) (d d' : Option Nat) : putD (putD tm d .junk) d' .junk = putD (putD tm d' .junk) d .junk := by
  cases d with
  | none => rfl
  | some d => cases d' with
    | none => rfl
    | some d' =>
      by_cases e : d = d'
      · subst e; rfl
      · exact List.set_comm _ _ e
theorem Z5e : ∀ (l : List Oper) (tm : List AV) (d : Option Nat), jkO l (putD tm d .junk) = putD (jkO l tm) d .junk
  | [], _, _ => rfl
  | o :: l, tm, d => by
    show jkO l (putD (putD tm d .junk) o.dst .junk) = putD (jkO l (putD tm o.dst .junk)) d .junk; rw [Zir, Z5e l]
theorem Z5f {t : Nat} : ∀ {l : List Oper} {tm : List AV}, (∀ o ∈ l, o.dst ≠ some t) → (jkO l tm).getD t .junk = tm.getD t .junk
  | [], _, _ => rfl
  | o :: l, tm, h => by
    show (jkO l (putD tm o.dst .junk)).getD t .junk = _; rw [Z5f (fun x hx => h x (by simp [hx])), Z57 (fun x hx e => h o (by simp) (by rw [hx, e]))]
theorem Z8c (tm : List AV) (d : Option Nat) (v w : AV) : putD (putD tm d v) d w = putD tm d w := by
  cases d with
  | none => rfl
  | some d => simp [putD]
theorem Zd0 {tm : List AV} {d : Nat} {v : AV} (h : tm.getD d .junk = v) : putD tm (some d) v = tm := by
  apply List.ext_getElem?
  intro i; simp only [putD, List.getElem?_set]
  split
  · subst_vars
    split
    · rename_i hl
      rw [List.getD_eq_getElem?_getD, List.getElem?_eq_getElem hl]; rfl
    · rename_i hl; rw [List.getElem?_eq_none (by omega)]
  · rfl
theorem Zae : ∀ (d : Option Nat) (tm : List AV), Z99 tm (putD tm d .junk)
  | none, tm => Z4b tm
  | some _, [] => trivial
  | some 0, _ :: l => ⟨.inl rfl, Z4b l⟩
  | some (d + 1), _ :: l => ⟨.inr rfl, Zae (some d) l⟩
theorem Z15 {tm : List AV} {d : Option Nat} {v : AV} {x : Operand} (h : ∀ t, x = .tmp t → d ≠ some t) : ev (putD tm d v) x = ev tm x := by
  cases x with
  | tmp t => exact Z57 (fun y hy e => h t rfl (by rw [hy, e]))
  | _ => rfl
theorem Z7n {f : AV → AV} (hf : f .junk = .junk) (tm : List AV) (d : Option Nat) : (putD tm d .junk).map f = putD (tm.map f) d .junk := by
  cases d with
  | none => rfl
  | some d => simp only [putD, List.map_set, hf]
theorem Z2w (d : Option Nat) : ∀ (ks : List Nat) (tm : List AV), Z8 ks (putD tm d .junk) = putD (Z8 ks tm) d .junk
  | [], _ => rfl
  | k :: ks, tm => by
    show Z8 ks ((putD tm d .junk).map (AV.kill k)) = putD (Z8 ks (tm.map (AV.kill k))) d .junk; rw [Z7n rfl, Z2w d ks]

def natO (o : Oper) : Bool := match o.op with
  | .call c => (match c.callee with | .value _ => true | .builtin .append => true | _ => false)
  | .store _ _ _ => true
  | .alloc _ => true
  | .makeSlice _ _ _ => true
  | .box _ _ => true
  | .buildSlice _ _ _ => true
  | .binOp _ _ _ _ _ => true
  | _ => false

section
variable {E : Env} {tm tm' : List AV} {h : List AObj} {K K' : St → Prop} {d j : Option Nat} {Γ : Gam} {t : TypeId}

theorem Zgx {f : AV} {args : List AV} (hd : ∀ x, j = some x → d ≠ some x) (hk : Z3e E ⟨tm, h⟩ d f args K) : Z3e E ⟨putD tm j .junk, h⟩ d f args (fun s => ∃ s', K s' ∧ s = ⟨putD s'.tmps j .junk, s'.h⟩) := by
  unfold Z3e at hk ⊢
  split at hk
  · rcases hk with ⟨ks, R, h1, h2, h3⟩ | ⟨v, h1, h2⟩
    · exact .inl ⟨ks, R, h1, h2, fun v h' hr => ⟨_, h3 v h' hr, by simp only [Z2w]; rw [Z0n _ _ hd]⟩⟩
    · exact .inr ⟨v, h1, _, h2, by simp only; rw [Z0n _ _ hd]⟩
  · obtain ⟨ks, R, h1, h2, h3⟩ := hk
    exact ⟨ks, R, h1, h2, fun v h' hr => ⟨_, h3 v h' hr, by simp only [Z2w]; rw [Z0n _ _ hd]⟩⟩
  · exact hk.elim

theorem Zh8 {n0 : Nat} {ks : List Nat} {x y : AV} (h1 : ∀ b v h', K ⟨putD (tm.map (AV.kill b)) d v, h'⟩ → K' ⟨putD (tm'.map (AV.kill b)) d v, h'⟩) (h2 : ∀ v h', K ⟨putD tm d v, h'⟩ → K' ⟨putD tm' d v, h'⟩)
    (hk : appK Γ n0 ks tm h d t x y K) : appK Γ n0 ks tm' h d t x y K' := by
  unfold appK at hk ⊢; obtain ⟨te, ht, hk⟩ := hk.get; rw [Zz ht]
  split at hk
  · rename_i e he
    obtain ⟨ee, hee, hk⟩ := hk.get
    try simp only [he]
    rw [Zz hee]
    split at hk
    · rename_i ys hys
      try simp only [hys]
      obtain ⟨h0, hk⟩ := hk; refine ⟨h0, ?_⟩
      split at hk
      · split at hk
        · rename_i hb
          try simp only [hb]
          exact ⟨hk.1, h1 _ _ _ hk.2⟩
        · exact hk.elim
      · exact ⟨hk.1, h2 _ _ hk.2⟩
      · exact hk.elim
    · exact hk.elim
  · exact hk.elim

theorem Zbl {x y : AV} (h1 : ∀ h', K ⟨tm, h'⟩ → K' ⟨tm', h'⟩) (hk : Z25 Γ tm h t x y K) : Z25 Γ tm' h t x y K' := by
  unfold Z25 at hk ⊢; obtain ⟨te, ht, hk⟩ := hk.get; rw [Zz ht]
  split at hk
  · split at hk
    · rename_i hb hl
      try simp only [hb, hl]
      exact ⟨hk.1, h1 _ hk.2⟩
    · exact hk.elim
  · split at hk
    · rename_i hb hl
      try simp only [hb, hl]
      exact ⟨hk.1, h1 _ hk.2⟩
    · exact hk.elim
  · exact hk.elim

theorem Zbc {x : AV} (h2 : ∀ v h', K ⟨putD tm d v, h'⟩ → K' ⟨putD tm' d v, h'⟩) (hk : boxK tm h d x K) : boxK tm' h d x K' := by
  unfold boxK at hk ⊢
  split at hk
  · rename_i hl; (try simp only [hl]); exact h2 _ _ hk
  · exact hk.elim
theorem Zc9 (h2 : ∀ v h', K ⟨putD tm d v, h'⟩ → K' ⟨putD tm' d v, h'⟩) (hk : allocK Γ tm h d t K) : allocK Γ tm' h d t K' := by
  unfold allocK at hk ⊢; obtain ⟨te, ht, hk⟩ := hk.get; rw [Zz ht]
  split at hk
  · rename_i hz; (try simp only [hz]); exact Zbc h2 hk
  · exact hk.elim
theorem Zgi {l c : AV} (h2 : ∀ v h', K ⟨putD tm d v, h'⟩ → K' ⟨putD tm' d v, h'⟩) (hk : mkSK Γ tm h d t l c K) : mkSK Γ tm' h d t l c K' := by
  unfold mkSK at hk ⊢
  split at hk
  · obtain ⟨te, ht, hk⟩ := hk.get
    rw [Zz ht]
    split at hk
    · rename_i e he
      obtain ⟨ee, hee, hk⟩ := hk.get
      try simp only [he]
      rw [Zz hee]
      split at hk
      · rename_i hz; (try simp only [hz]); exact ⟨hk.1, h2 _ _ hk.2⟩
      · exact hk.elim
    · exact hk.elim
  · exact hk.elim

theorem Zoj (v : AV) (s : St) : fz1 v ⟨putD s.tmps j .junk, s.h⟩ = ⟨putD (fz1 v s).tmps j .junk, (fz1 v s).h⟩ := by
  unfold fz1
  split
  · simp only
    split
    · simp only [Z1j]; rw [Z7n rfl]
    · rfl
  · rfl
theorem Zea : ∀ (l : List AV) (s : St), fzL l ⟨putD s.tmps j .junk, s.h⟩ = ⟨putD (fzL l s).tmps j .junk, (fzL l s).h⟩
  | [], _ => rfl
  | v :: l, s => by
    show fzL l (fz1 v _) = _; rw [Zoj, Zea l]; rfl

theorem Z82 {s : St} {x y : Operand} {K K' : St → Prop} (hx : ∀ t, x = .tmp t → j ≠ some t) (hy : ∀ t, y = .tmp t → j ≠ some t) (h1 : ∀ h', K ⟨s.tmps, h'⟩ → K' ⟨putD s.tmps j .junk, h'⟩) (hk : Z3u Γ s t x y K) : Z3u Γ ⟨putD s.tmps j .junk, s.h⟩ t x y K' := by
  unfold Z3u at hk ⊢; simp only [Z15 hx, Z15 hy]; exact Zbl h1 hk

theorem Z6v {neg : Bool} {x : AV} {K K' : AV → Prop} (h1 : ∀ v, K v → K' v) (hk : Z0x Γ t neg x h K) : Z0x Γ t neg x h K' := by
  unfold Z0x at hk ⊢; refine ⟨hk.1, ?_⟩; have hk := hk.2
  split at hk
  · exact h1 _ hk
  · split at hk
    · rename_i hl; (try simp only [hl]); exact h1 _ hk
    · rename_i hl; (try simp only [hl]); exact ⟨h1 _ hk.1, h1 _ hk.2⟩
    · exact hk.elim
theorem Zc7 (P : Program) {op : BinOp} {x ey : AV} {y : Operand} {K K' : AV → Prop} (h1 : ∀ v, K v → K' v) (hk : Z6d Γ op t x y ey h K) : Z6d Γ op t x y ey h K' := by
  have hA : ∀ {K K' : AV → Prop}, (∀ v, K v → K' v) → binA Γ op t x ey K → binA Γ op t x ey K' := fun {K K'} h1 hk => by
    have hd := Z4f { P := P, Γ := Γ, n0 := 0, ks := [] } (.binOp op t (.tmp 0) (.tmp 1) 0) h (ev [x, ey]); obtain ⟨v, hv, hF⟩ := hd K hk; exact hF K' (h1 v hv)
  unfold Z6d at hk ⊢
  split at hk
  · exact Z6v h1 hk
  · exact Z6v h1 hk
  · exact hA h1 hk

theorem Zns {o : Oper} (hn : natO o = true) (hd : ∀ x, j = some x → o.dst ≠ some x) (hx : ∀ x ∈ o.op.operands, ∀ t, x = .tmp t → j ≠ some t) (hk : opK E o ⟨tm, h⟩ K) :
    opK E o ⟨putD tm j .junk, h⟩ (fun s => ∃ s', K s' ∧ s = ⟨putD s'.tmps j .junk, s'.h⟩) := by
  obtain ⟨dst, op, ty, pos, after, guard⟩ := o; simp only at hd hx; have put : ∀ v h', K ⟨putD tm dst v, h'⟩ → ∃ s', K s' ∧ (⟨putD (putD tm j .junk) dst v, h'⟩ : St) = ⟨putD s'.tmps j .junk, s'.h⟩ := fun v h' hk => ⟨_, hk, by simp only; rw [Z0n _ _ hd]⟩
  cases op with
  | call c =>
    obtain ⟨callee, args, ats⟩ := c
    have ha : args.toList.map (ev (putD tm j .junk)) = args.toList.map (ev tm) := List.map_congr_left (fun x hm => Z15 (hx x (by
      simp only [Op.operands, Call.operands, Array.mem_append]; exact .inr (by simpa using hm))))
    simp only [opK, Z7u] at hk ⊢
    cases callee with
    | value f =>
      simp only at hk ⊢; rw [ha, Z15 (hx f (by simp [Op.operands, Call.operands]))]; exact Zgx hd hk
    | builtin b =>
      cases b <;> first | (simp [natO] at hn; done) | skip
      simp only at hk ⊢; rw [ha]; unfold Z5i at hk ⊢
      split at hk
      · cases ‹Builtin.append = Builtin.len›
      · rename_i x y t t' _ e1 e2
        simp only [e1, e2]; refine ⟨hk.1, Zh8 (fun b v h' hk => ⟨_, hk, ?_⟩) put hk.2⟩; simp only; rw [Z7n rfl, Z0n _ _ hd]
      · cases ‹Builtin.append = Builtin.min›
      · cases ‹Builtin.append = Builtin.max›
      · exact hk.elim
    | invoke r m => exact hk.elim
  | store t x y =>
    have hx1 := hx x (by simp [Op.operands]); have hy1 := hx y (by simp [Op.operands]); simp only [opK] at hk ⊢; have e1 : ev (putD tm j .junk) x = ev tm x := Z15 hx1; have e2 : ev (putD tm j .junk) y = ev tm y := Z15 hy1; rw [e1, e2]
    split at hk
    · rename_i b s i f he
      try simp only [he]
      rw [show fzL [ev tm y] ⟨putD tm j .junk, h⟩ = ⟨putD (fzL [ev tm y] ⟨tm, h⟩).tmps j .junk, (fzL [ev tm y] ⟨tm, h⟩).h⟩ from Zea _ ⟨tm, h⟩]; refine Z82 (K := fun st' => K ⟨putD st'.tmps dst (.tup []), st'.h⟩) hx1 hy1 (fun h' hk => ⟨_, hk, ?_⟩) hk; simp only; rw [Z0n _ _ hd]
    · rename_i hne
      have := Z82 (s := ⟨tm, h⟩) (K := fun st' => K ⟨putD st'.tmps dst (.tup []), st'.h⟩) (K' := fun st' => ∃ s', K s' ∧ (⟨putD st'.tmps dst (.tup []), st'.h⟩ : St) = ⟨putD s'.tmps j .junk, s'.h⟩) hx1 hy1 (fun h' hk => ⟨_, hk, by simp only; rw [Z0n _ _ hd]⟩) hk; exact this
  | alloc t => exact Zc9 put hk
  | makeSlice t l c =>
    simp only [opK] at hk ⊢; rw [Z15 (hx l (by simp [Op.operands])), Z15 (hx c (by simp [Op.operands]))]; exact Zgi put hk
  | box t x =>
    simp only [opK] at hk ⊢; rw [Z15 (hx x (by simp [Op.operands]))]; exact Zbc put hk
  | binOp op t x y u =>
    simp only [opK] at hk ⊢; rw [Z15 (hx x (by simp [Op.operands])), Z15 (hx y (by simp [Op.operands]))]; exact Zc7 E.P (fun v hv => put v h hv) hk
  | buildSlice t len parts =>
    have hj : ∀ p ∈ parts.toList, ∀ x, p.2 = .tmp x → j ≠ some x := fun p hp => hx p.2 (by simp only [Op.operands, List.mem_toArray, List.mem_map]; exact ⟨p, hp, rfl⟩)
    have ha : parts.toList.map (fun p => ev (putD tm j .junk) p.2) = parts.toList.map (fun p => ev tm p.2) := List.map_congr_left (fun p hp => Z15 (hj p hp)); simp only [opK] at hk ⊢; rw [ha, show fzL (parts.toList.map fun p => ev tm p.2) ⟨putD tm j .junk, h⟩ = ⟨putD (fzL (parts.toList.map fun p => ev tm p.2) ⟨tm, h⟩).tmps j .junk, (fzL (parts.toList.map fun p => ev tm p.2) ⟨tm, h⟩).h⟩ from Zea _ ⟨tm, h⟩]; generalize fzL (parts.toList.map fun p => ev tm p.2) ⟨tm, h⟩ = s at hk ⊢; have hb : parts.toList.map (fun p => (p.1, ev (putD s.tmps j .junk) p.2)) = parts.toList.map (fun p => (p.1, ev s.tmps p.2)) := List.map_congr_left (fun p hp => by rw [Z15 (hj p hp)]); unfold bsZ bsK at hk ⊢; simp only; rw [hb]; obtain ⟨te, ht, hk⟩ := hk.get; rw [Zz ht]
    split at hk
    · rename_i e he
      obtain ⟨ee, hee, hk⟩ := hk.get
      try simp only [he]
      rw [Zz hee]
      split at hk
      · rename_i ps hps
        try simp only [hps]
        exact ⟨hk.1, _, hk.2, by simp only; rw [Z0n _ _ hd]⟩
      · exact hk.elim
    · exact hk.elim
  | _ => simp [natO] at hn

theorem Zdd {o : Oper} (hn : natO o = true) : ∀ {l : List Oper} {tm : List AV} {K : St → Prop}, (∀ x ∈ l, ∀ d, x.dst = some d → o.dst ≠ some d) → (∀ x ∈ l, ∀ y ∈ o.op.operands, ∀ t, y = .tmp t → x.dst ≠ some t) → opK E o ⟨tm, h⟩ K →
    opK E o ⟨jkO l tm, h⟩ (fun s => ∃ s', K s' ∧ s = ⟨jkO l s'.tmps, s'.h⟩)
  | [], tm, K, _, _, hk => by
    have e : (fun s : St => ∃ s' : St, K s' ∧ s = ⟨jkO [] s'.tmps, s'.h⟩) = K := by
      funext s
      apply propext
      constructor
      · rintro ⟨s', h1, rfl⟩; exact h1
      · exact fun h => ⟨s, h, rfl⟩
    rw [e]; exact hk
  | x :: l, tm, K, hd, hx, hk => by
    have h1 := Zns (j := x.dst) hn (fun y hy => hd x (by simp) y hy) (fun y hy => hx x (by simp) y hy) hk; have h2 := Zdd hn (l := l) (fun y hy => hd y (by simp [hy])) (fun y hy => hx y (by simp [hy])) h1; have e : (fun s : St => ∃ s' : St, (∃ s'' : St, K s'' ∧ s' = ⟨putD s''.tmps x.dst .junk, s''.h⟩) ∧ s = ⟨jkO l s'.tmps, s'.h⟩) = (fun s => ∃ s' : St, K s' ∧ s = ⟨jkO (x :: l) s'.tmps, s'.h⟩) := by
      funext s
      apply propext
      constructor
      · rintro ⟨s', ⟨s'', h1, rfl⟩, rfl⟩; exact ⟨s'', h1, rfl⟩
      · rintro ⟨s', h1, rfl⟩; exact ⟨_, ⟨s', h1, rfl⟩, rfl⟩
    rw [e] at h2; exact h2
end

/-! ### The chosen orders: q: it writes nothing; e: it changes the heap, then so, or else another one changes it first; s: asked again. -/
inductive PT where
  | fin | nil
  | q (i : Nat) (t : PT) | s (i : Nat) (t : PT) | e (i : Nat) (t r : PT)
  deriving Inhabited

def okV (tm : List AV) (d : Option Nat) (v : AV) : Prop := match d with
  | some d => tm.getD d .junk = v
  | none => False

def Z0o (E : Env) (ops : List Oper) : PT → St → (St → Prop) → Prop
  | .fin, st, K => K st
  | .nil, _, _ => True
  | .q i l, st, K => (match ops[i]? with
    | some o => Z08 ops o.guard st.tmps (Zd E o.op st.h (ev st.tmps) fun v => Z0o E ops l ⟨putD st.tmps o.dst v, st.h⟩ K) (Z0o E ops l ⟨putD st.tmps o.dst (.tup []), st.h⟩ K)
    | none => False)
  | .e i l r, st, K => (match ops[i]? with
    | some o => Z08 ops o.guard st.tmps (opK E o st fun st' => Z0o E ops l st' K) (Z0o E ops l ⟨putD st.tmps o.dst (.tup []), st.h⟩ K)
    | none => False) ∧ Z0o E ops r st K
  | .s i l, st, K => (match ops[i]? with
    | some o => Z08 ops o.guard st.tmps (Zd E o.op st.h (ev st.tmps) (okV st.tmps o.dst)) (okV st.tmps o.dst (.tup []))
    | none => False) ∧ Z0o E ops l st K

def Z3q (ops : List Oper) : List Nat → Bool
  | [] => true
  | i :: l => (match ops[i]? with
    | some o => (match o.dst with
      | some d => !(o.looksAt ops.toArray).contains d
      | none => false) &&
      l.all (fun j => match ops[j]? with
        | some oj => (match oj.dst with
          | some d => !(o.looksAt ops.toArray).contains d && o.dst != some d
          | none => false)
        | none => false)
    | none => false) && Z3q ops l

def PT.heads : PT → List Nat
  | .e i _ r => i :: r.heads
  | _ => []

def Z5n (ops : List Oper) (b : List (List Nat)) (D : List Nat) (i : Nat) (o : Oper) : Bool :=
  !D.contains i && (b.getD i []).all (D.contains ·) && D.all (fun j => (b.getD i []).contains j || (match ops[j]? with | some oj => oj.apart ops.toArray o && o.apart ops.toArray oj | none => false))

def opn (b : List (List Nat)) (D F : List Nat) (i : Nat) : List Nat := D.filter fun j => !(b.getD i []).contains j && !F.contains j

def goOK (ops : List Oper) (b : List (List Nat)) : Bool → List Nat → List Nat → List Nat → PT → Bool
  | false, D, _, [], .fin => Nat.beq D.length ops.length
  | true, _, _, [], .nil => true
  | false, D, F, [], .q i l => (match ops[i]? with
    | some o => Z5n ops b D i o && goOK ops b false (D ++ [i]) F [] l
    | none => false)
  | m, D, F, [], .e i l r => (m || (List.range ops.length).all fun k => D.contains k || (i :: r.heads).contains k || !(b.getD k []).all (D.contains ·)) && ((match ops[i]? with
    | some o => Z5n ops b D i o && (natO o && (Z3q ops (opn b D F i) && goOK ops b false (D ++ [i]) (F ++ [i]) (opn b D F i) l))
    | none => false) && goOK ops b true D F [] r)
  | false, D, F, p :: ex, .s i l => Nat.beq p i && goOK ops b false D F ex l
  | _, _, _, _, _ => false

def Z93 (ops : List Oper) : Bool := (List.range ops.length).all fun i => match ops[i]? with
  | some o => o.after.toList.all (fun e => !Region.binds .any e || Nat.blt e.on i)
  | none => true
def Zd4 (ops : List Oper) (codes : PT) : Bool := Z93 ops && goOK ops (befs ops []) false [] [] [] codes

section
variable {E : Env} {ops : List Oper} {h : List AObj} {KT KT' : List AV → Prop}

theorem Z8o : ∀ {l : List Oper} {tm : List AV}, (∀ tm', KT tm' → KT' tm') → lexR E ops h l tm KT → lexR E ops h l tm KT'
  | [], _, hi, hk => hi _ hk
  | o :: l, tm, hi, ⟨v, h1, h2⟩ => ⟨v, h1, Z8o hi h2⟩
theorem Z8n {o : Oper} : ∀ {l : List Oper} {tm : List AV}, lexR E ops h l tm (fun tm' => ∃ v, Z3h E ops h o tm' v ∧ KT (putD tm' o.dst v)) → lexR E ops h (l ++ [o]) tm KT
  | [], _, hk => hk
  | x :: l, tm, ⟨v, h1, h2⟩ => ⟨v, h1, Z8n h2⟩
theorem Zaz : ∀ {l : List Oper} {tm : List AV}, lexR E ops h l tm KT → ∃ tm', KT tm' ∧ jkO l tm' = jkO l tm
  | [], tm, hk => ⟨tm, hk, rfl⟩
  | o :: l, tm, ⟨v, h1, h2⟩ => by
    obtain ⟨tm', h3, h4⟩ := Zaz h2; refine ⟨tm', h3, ?_⟩; show jkO l (putD tm' o.dst .junk) = jkO l (putD tm o.dst .junk); rw [Z5e, h4, ← Z5e, Z8c]

def Zf9 (ops : List Oper) : List Oper → Prop
  | [] => True
  | o :: l => (∃ d, o.dst = some d ∧ d ∉ o.looksAt ops.toArray) ∧ (∀ x ∈ l, ∀ d, x.dst = some d → d ∉ o.looksAt ops.toArray ∧ o.dst ≠ some d) ∧ Zf9 ops l

theorem Z8p {tm : List AV} : ∀ {l : List Oper}, Zf9 ops l → (∀ o ∈ l, ∃ d, o.dst = some d ∧ Z3h E ops h o tm (tm.getD d .junk)) → KT tm → lexR E ops h l (jkO l tm) KT
  | [], _, _, hk => hk
  | o :: l, ⟨⟨d, hd, hself⟩, hcl, hc⟩, hs, hk => by
    obtain ⟨d', hd', hr⟩ := hs o (by simp); have : d' = d := by rw [hd] at hd'; injection hd' with h; exact h.symm
    subst this; refine ⟨tm.getD d' .junk, Z2q (fun t ht => (Z5f (l := o :: l) (fun x hx e => ?_)).symm) hr, ?_⟩
    · rcases List.mem_cons.1 hx with rfl | hx
      · rw [hd] at e; injection e with e; subst e; exact hself ht
      · exact (hcl x hx t e).1 ht
    · have e : putD (jkO (o :: l) tm) o.dst (tm.getD d' .junk) = jkO l tm := by
        show putD (jkO l (putD tm o.dst .junk)) o.dst _ = _; rw [Z5e, Z8c, hd]; exact Zd0 (Z5f (fun x hx e => (hcl x hx d' e).2 hd))
      rw [e]; exact Z8p hc (fun x hx => hs x (by simp [hx])) hk
end

theorem Z6c {ops : List Oper} : ∀ {P : List Nat} {pl : List (Nat × Oper)}, Z3q ops P = true → (pl.map (·.1)).Sublist P → (∀ p ∈ pl, ops[p.1]? = some p.2) → Zf9 ops (pl.map (·.2))
  | [], [], _, _, _ => trivial
  | [], p :: pl, _, hs, _ => by simp at hs
  | i :: P, pl, hc, hs, ho => by
    simp only [Z3q, Bool.and_eq_true] at hc
    cases pl with
    | nil => trivial
    | cons p pl =>
      simp only [List.map_cons] at hs
      cases hs with
      | cons _ hs => exact Z6c (pl := p :: pl) hc.2 hs ho
      | cons_cons _ hs =>
        have hp := ho p (by simp); simp only [hp, Bool.and_eq_true] at hc; obtain ⟨⟨h1, h2⟩, h3⟩ := hc; refine ⟨?_, fun x hx d hd => ?_, Z6c h3 hs (fun q hq => ho q (by simp [hq]))⟩
        · split at h1
          · rename_i d hd; exact ⟨d, hd, by simpa using h1⟩
          · cases h1
        · obtain ⟨q, hq, rfl⟩ := List.mem_map.1 hx
          have hm : q.1 ∈ P := hs.subset (List.mem_map.2 ⟨q, hq, rfl⟩); have h4 := List.all_eq_true.1 h2 q.1 hm; simp only [ho q (by simp [hq]), hd, Bool.and_eq_true, Bool.not_eq_true', List.contains_eq_mem, decide_eq_false_iff_not, bne_iff_ne, ne_eq] at h4; exact h4

structure PSt (ops : List Oper) (b : List (List Nat)) (D : List Nat) (pl : List (Nat × Oper)) : Prop where
  nodup : D.Nodup
  lt : ∀ i ∈ D, i < ops.length
  sub : (pl.map (·.1)).Sublist D
  opr : ∀ p ∈ pl, ops[p.1]? = some p.2
  pair : D.Pairwise fun x y => x ∈ b.getD y [] ∨ ∀ ox oy, ops[x]? = some ox → ops[y]? = some oy → ox.apart ops.toArray oy = true ∧ oy.apart ops.toArray ox = true

theorem Za0 {ops : List Oper} {b : List (List Nat)} {D : List Nat} {i : Nat} {o : Oper} (hg : Z5n ops b D i o = true) :
    i ∉ D ∧ (∀ j ∈ b.getD i [], j ∈ D) ∧ (∀ j ∈ D, j ∈ b.getD i [] ∨ ∀ oj, ops[j]? = some oj → oj.apart ops.toArray o = true ∧ o.apart ops.toArray oj = true) := by
  simp only [Z5n, Bool.and_eq_true, Bool.not_eq_true', List.contains_eq_mem, decide_eq_false_iff_not, List.all_eq_true, decide_eq_true_eq, Bool.or_eq_true] at hg; obtain ⟨⟨h1, h2⟩, h4⟩ := hg; refine ⟨h1, h2, fun j hj => (h4 j hj).imp id fun h oj hoj => ?_⟩; rw [hoj] at h
  simpa using h

theorem Z41 : ∀ {l m : List Nat}, l.Nodup → l ⊆ m → l.length ≤ m.length
  | [], _, _, _ => Nat.zero_le _
  | a :: l, m, h, hs => by
    obtain ⟨h1, h2⟩ := List.nodup_cons.1 h; have ha : a ∈ m := hs (by simp); have := Z41 (m := m.erase a) h2 (fun x hx => (List.mem_erase_of_ne (fun e : x = a => h1 (e ▸ hx))).2 (hs (by simp [hx]))); rw [List.length_erase_of_mem ha] at this; have := List.length_pos_of_mem ha; simp only [List.length_cons]; omega

theorem Ze8 {E : Env} {ops : List Oper} {b : List (List Nat)} {D F : List Nat} {st : St} {K : St → Prop} {i : Nat} : ∀ {t : PT} {m : Bool}, goOK ops b m D F [] t = true → Z0o E ops t st K → i ∈ t.heads →
    ∃ o l, ops[i]? = some o ∧ Z5n ops b D i o = true ∧ natO o = true ∧ Z3q ops (opn b D F i) = true ∧ goOK ops b false (D ++ [i]) (F ++ [i]) (opn b D F i) l = true ∧
      Z08 ops o.guard st.tmps (opK E o st fun st' => Z0o E ops l st' K) (Z0o E ops l ⟨putD st.tmps o.dst (.tup []), st.h⟩ K)
  | .fin, _, _, _, hi => by simp [PT.heads] at hi
  | .nil, _, _, _, hi => by simp [PT.heads] at hi
  | .q _ _, _, _, _, hi => by simp [PT.heads] at hi
  | .s _ _, _, _, _, hi => by simp [PT.heads] at hi
  | .e k l r, m, hg, hk, hi => by
    have hg : ((m || (List.range ops.length).all fun k' => D.contains k' || (k :: r.heads).contains k' || !(b.getD k' []).all (D.contains ·)) && ((match ops[k]? with
      | some o => Z5n ops b D k o && (natO o && (Z3q ops (opn b D F k) && goOK ops b false (D ++ [k]) (F ++ [k]) (opn b D F k) l))
      | none => false) && goOK ops b true D F [] r)) = true := by cases m <;> exact hg
    simp only [Bool.and_eq_true] at hg; obtain ⟨_, h1, h2⟩ := hg; simp only [Z0o] at hk; simp only [PT.heads, List.mem_cons] at hi; rcases hi with rfl | hi
    · cases ho : ops[i]? with
      | none => rw [ho] at h1; cases h1
      | some o =>
        have hk1 := hk.1; rw [ho] at h1 hk1; simp only [Bool.and_eq_true] at h1; exact ⟨o, l, rfl, h1.1, h1.2.1, h1.2.2.1, h1.2.2.2, hk1⟩
    · exact Ze8 h2 hk.2 hi

theorem Zi0 {ops : List Oper} {b : List (List Nat)} {D F : List Nat} {i : Nat} {l r : PT} (hg : goOK ops b false D F [] (.e i l r) = true) : (∀ k, k < ops.length → k ∉ D → (∀ j ∈ b.getD k [], j ∈ D) → k ∈ (PT.e i l r).heads) ∧ ∃ o, ops[i]? = some o ∧ i ∉ D := by
  have hg : ((false || (List.range ops.length).all fun k' => D.contains k' || (i :: r.heads).contains k' || !(b.getD k' []).all (D.contains ·)) && ((match ops[i]? with
      | some o => Z5n ops b D i o && (natO o && (Z3q ops (opn b D F i) && goOK ops b false (D ++ [i]) (F ++ [i]) (opn b D F i) l))
      | none => false) && goOK ops b true D F [] r)) = true := hg
  simp only [Bool.and_eq_true, Bool.false_or] at hg; obtain ⟨h0, h1, _⟩ := hg
  constructor
  · intro k hk hkD hb
    have h2 := List.all_eq_true.1 h0 k (List.mem_range.2 hk); simp only [Bool.or_eq_true, List.contains_eq_mem, decide_eq_true_eq, Bool.not_eq_true'] at h2; rcases h2 with (h2 | h2) | h2
    · exact absurd h2 hkD
    · exact h2
    · exfalso
      rw [Bool.eq_false_iff] at h2; exact h2 (List.all_eq_true.2 fun j hj => by simpa using hb j hj)
  · cases ho : ops[i]? with
    | none => rw [ho] at h1; cases h1
    | some o =>
      rw [ho] at h1; simp only [Bool.and_eq_true] at h1; exact ⟨o, rfl, (Za0 h1.1).1⟩

theorem Z6o {D : List Nat} {i : Nat} (hn : D.Nodup) (h : i ∉ D) : (D ++ [i]).Nodup :=
  List.nodup_append.2 ⟨hn, by simp, fun a ha c hc => by rw [List.mem_singleton] at hc; subst hc; exact fun e => h (e ▸ ha)⟩

theorem PSt.snoc {ops : List Oper} {b : List (List Nat)} {D : List Nat} {pl : List (Nat × Oper)} (hp : PSt ops b D pl) {i : Nat} {o : Oper} (ho : ops[i]? = some o) (hi : i ∉ D)
    (h4 : ∀ j ∈ D, j ∈ b.getD i [] ∨ ∀ oj, ops[j]? = some oj → oj.apart ops.toArray o = true ∧ o.apart ops.toArray oj = true) : PSt ops b (D ++ [i]) pl ∧ PSt ops b (D ++ [i]) (pl ++ [(i, o)]) := by
  have hpair : (D ++ [i]).Pairwise fun x y => x ∈ b.getD y [] ∨ ∀ ox oy, ops[x]? = some ox → ops[y]? = some oy → ox.apart ops.toArray oy = true ∧ oy.apart ops.toArray ox = true := by
    refine List.pairwise_append.2 ⟨hp.pair, by simp, fun x hx y hy => ?_⟩; rw [List.mem_singleton] at hy; subst hy; refine (h4 x hx).imp id fun h ox oy h1 h2 => ?_
    rw [ho] at h2; injection h2 with h2; subst h2
    exact h ox h1
  have hlt : ∀ j ∈ D ++ [i], j < ops.length := fun j hj => by
    rcases List.mem_append.1 hj with hj | hj
    · exact hp.lt j hj
    · rw [List.mem_singleton] at hj; subst hj; exact (List.getElem?_eq_some_iff.1 ho).1
  refine ⟨⟨Z6o hp.nodup hi, hlt, hp.sub.trans (List.sublist_append_left _ _), hp.opr, hpair⟩, ⟨Z6o hp.nodup hi, hlt, ?_, fun p hq => ?_, hpair⟩⟩
  · rw [List.map_append]; exact hp.sub.append (List.Sublist.refl _)
  · rcases List.mem_append.1 hq with hq | hq
    · exact hp.opr p hq
    · rw [List.mem_singleton] at hq; subst hq; exact ho

def Zjd : PT → Prop
  | .fin => True
  | .e _ _ _ => True
  | _ => False

section
variable {E : Env} {ops : List Oper} {b : List (List Nat)} {h : List AObj} {K : St → Prop}

theorem Z3j {F : List Nat} : ∀ {codes : PT} {D : List Nat} {pl : List (Nat × Oper)} {tm : List AV}, goOK ops b false D F [] codes = true → PSt ops b D pl → (∀ p ∈ pl, p.1 ∉ F) → (∀ i ∈ F, i ∈ D) →
    lexR E ops h (pl.map (·.2)) tm (fun tm' => Z0o E ops codes ⟨tm', h⟩ K) →
    ∃ D' pl' codes', Zjd codes' ∧ goOK ops b false D' F [] codes' = true ∧ PSt ops b D' pl' ∧ (∀ p ∈ pl', p.1 ∉ F) ∧ (∀ i ∈ F, i ∈ D') ∧ lexR E ops h (pl'.map (·.2)) tm (fun tm' => Z0o E ops codes' ⟨tm', h⟩ K) ∧
      (∀ i, ((∃ p ∈ pl', p.1 = i) ∨ (i < ops.length ∧ i ∉ D')) ↔ ((∃ p ∈ pl, p.1 = i) ∨ (i < ops.length ∧ i ∉ D))) ∧ pl'.length + (ops.length - D'.length) ≤ pl.length + (ops.length - D.length)
  | .fin, D, pl, tm, hg, hp, hF, hFD, hk => ⟨D, pl, .fin, trivial, hg, hp, hF, hFD, hk, fun _ => Iff.rfl, Nat.le_refl _⟩
  | .nil, D, pl, tm, hg, hp, hF, hFD, hk => by simp [goOK] at hg
  | .e i l r, D, pl, tm, hg, hp, hF, hFD, hk => ⟨D, pl, .e i l r, trivial, hg, hp, hF, hFD, hk, fun _ => Iff.rfl, Nat.le_refl _⟩
  | .s i l, D, pl, tm, hg, hp, hF, hFD, hk => by simp [goOK] at hg
  | .q i l, D, pl, tm, hg, hp, hF, hFD, hk => by
    simp only [goOK] at hg
    split at hg
    · rename_i o ho
      rw [Bool.and_eq_true] at hg; obtain ⟨hg, h5⟩ := hg; obtain ⟨h1, h2, h4⟩ := Za0 hg; have hlt := (List.getElem?_eq_some_iff.1 ho).1; have hk2 : lexR E ops h ((pl ++ [(i, o)]).map (·.2)) tm (fun tm' => Z0o E ops l ⟨tm', h⟩ K) := by
        rw [List.map_append]; refine Z8n (o := o) (Z8o (fun tm' hk => ?_) hk); simp only [Z0o, ho] at hk; obtain ⟨v, h6, h7⟩ := Z4n (K := fun v => Z0o E ops l ⟨putD tm' o.dst v, h⟩ K) hk; exact ⟨v, h7, h6⟩
      obtain ⟨D', pl', codes', g1, g2, g3, g7, g8, g4, g5, g6⟩ := Z3j h5 (hp.snoc ho h1 h4).2 (fun p hp => by
        rcases List.mem_append.1 hp with hp | hp
        · exact hF p hp
        · rw [List.mem_singleton] at hp; subst hp; exact fun h => h1 (hFD _ h)) (fun k hk => by simp [hFD k hk]) hk2
      refine ⟨D', pl', codes', g1, g2, g3, g7, g8, g4, fun k => ?_, ?_⟩
      · rw [g5 k]
        constructor
        · rintro (⟨p, hp, rfl⟩ | ⟨h6, h7⟩)
          · rcases List.mem_append.1 hp with hp | hp
            · exact .inl ⟨p, hp, rfl⟩
            · rw [List.mem_singleton] at hp; subst hp; exact .inr ⟨hlt, h1⟩
          · exact .inr ⟨h6, fun h8 => h7 (by simp [h8])⟩
        · rintro (⟨p, hp, rfl⟩ | ⟨h6, h7⟩)
          · exact .inl ⟨p, by simp [hp], rfl⟩
          · by_cases e : k = i
            · subst e; exact .inl ⟨(k, o), by simp, rfl⟩
            · exact .inr ⟨h6, by simp [h7, e]⟩
      · have h8 : D.length < ops.length := by
          have h9 : (i :: D).Nodup := List.nodup_cons.2 ⟨h1, hp.nodup⟩; have h10 := Z41 (m := List.range ops.length) h9 (fun x hx => by
            rcases List.mem_cons.1 hx with rfl | hx
            · exact List.mem_range.2 hlt
            · exact List.mem_range.2 (hp.lt x hx))
          simp only [List.length_cons, List.length_range] at h10; omega
        simp only [List.length_append, List.length_cons, List.length_nil] at g6; omega
    · cases hg

theorem Z6s {D F : List Nat} {tm : List AV} : ∀ {ex : List Nat} {codes : PT}, goOK ops b false D F ex codes = true → Z0o E ops codes ⟨tm, h⟩ K →
    ∃ codes', goOK ops b false D F [] codes' = true ∧ Z0o E ops codes' ⟨tm, h⟩ K ∧ ∀ i ∈ ex, ∃ o, ops[i]? = some o ∧ ∃ d, o.dst = some d ∧ Z3h E ops h o tm (tm.getD d .junk)
  | [], codes, hg, hk => ⟨codes, hg, hk, by simp⟩
  | p :: ex, .fin, hg, hk => by simp [goOK] at hg
  | p :: ex, .nil, hg, hk => by simp [goOK] at hg
  | p :: ex, .q i l, hg, hk => by simp [goOK] at hg
  | p :: ex, .e i l r, hg, hk => by simp [goOK] at hg
  | p :: ex, .s i l, hg, hk => by
    simp only [goOK, Bool.and_eq_true] at hg; have e : p = i := Nat.eq_of_beq_eq_true hg.1; subst e; simp only [Z0o] at hk; obtain ⟨codes', g1, g2, g3⟩ := Z6s hg.2 hk.2; refine ⟨codes', g1, g2, fun j hj => ?_⟩; rcases List.mem_cons.1 hj with rfl | hj
    · have h1 := hk.1
      split at h1
      · rename_i o ho
        obtain ⟨v, h2, h3⟩ := Z4n (K := okV tm o.dst) h1; unfold okV at h2
        split at h2
        · rename_i d hd; exact ⟨o, ho, d, hd, by rw [h2]; exact h3⟩
        · exact h2.elim
      · exact h1.elim
    · exact g3 j hj
end

theorem Zc1 {ops : List Oper} {g : Option (Nat × Bool)} {tm tm' : List AV} {run run' skip skip' : Prop} (he : ∀ j w, g = some (j, w) → ∀ d, Z3v ops j = some d → tm'.getD d .junk = tm.getD d .junk) (h1 : run → run') (h2 : skip → skip')
    (hk : Z08 ops g tm run skip) : Z08 ops g tm' run' skip' := by
  unfold Z08 at hk ⊢
  split at hk
  · exact h1 hk
  · rename_i j w
    split at hk
    · rename_i d hd
      have e := he j w rfl d hd; simp only [e]
      split at hk
      · exact ⟨fun h => h1 (hk.1 h), fun h => h2 (hk.2 h)⟩
      · exact h2 hk
      · exact hk.elim
    · exact hk.elim

section
variable {E : Env} {X : Ctx} {K : St → Prop} {Q : Exit → Act → World → Prop} {r : Option Nat} {ops : Array Oper} {ds : List Deferred}

theorem Z6e (hb : Z93 ops.toList = true) : ∀ (i : Nat) (o : Oper), ops.toList[i]? = some o → ∀ e ∈ o.after, Region.binds .any e = true → e.on < i := by
  intro i o ho e he hbd; have h1 := List.all_eq_true.1 hb i (List.mem_range.2 (List.getElem?_eq_some_iff.1 ho).1); simp only [ho] at h1; have h2 := List.all_eq_true.1 h1 e (by simpa using he); simp only [hbd, Bool.not_true, Bool.false_or] at h2; exact Nat.le_of_ble_eq_true h2

theorem Left.before' (hb : Z93 ops.toList = true) {un : Nat → Prop} {listed : Array Bool} (L : Left ops un listed) {i j : Nat} {o : Oper} (hi : i ∈ Region.ready .any ops listed) (ho : ops[i]? = some o) (hj : j ∈ (befs ops.toList []).getD i []) : ¬ un j := by
  obtain ⟨h0, o', ho', hall⟩ := mem_ready.1 hi; rw [ho] at ho'; injection ho' with ho'; subst ho'
  refine L.not (Z7x (S := fun j => listed.getD j false = true) (Z6e hb) (fun i o ho => L.down i o (by simpa using ho)) ops.toList [] (by simp) (by simp) i o (by simpa using ho) ?_ hall j hj); have := (Array.getElem?_eq_some_iff.1 ho).1
  simpa using this

theorem Left.some' (hb : Z93 ops.toList = true) {un : Nat → Prop} {listed : Array Bool} (L : Left ops un listed) {i : Nat} (hi : un i) : Region.ready .any ops listed ≠ [] := by
  have key : ∀ n i, i < n → un i → Region.ready .any ops listed ≠ [] := by
    intro n
    induction n with
    | zero => intro i h; omega
    | succ n ih =>
      intro i hin hu hr; by_cases hmin : ∀ j, j < i → ¬ un j
      · have hlt := L.lt hu
        have hm : i ∈ Region.ready .any ops listed := mem_ready.2 ⟨(L.un i).2 hu, ops[i], by simp [hlt], fun e he hbd => by
          have := Z6e hb i ops[i] (by simp [hlt]) e he hbd; exact L.li (by omega) (hmin _ this)⟩
        rw [hr] at hm; cases hm
      · have ⟨j, hj, huj⟩ : ∃ j, j < i ∧ un j := by
          apply Classical.byContradiction
          intro hno; exact hmin fun j hj hu => hno ⟨j, hj, hu⟩
        exact ih j (by omega) huj hr
  exact key (i + 1) i (by omega) hi

theorem Zfy (hb : Z93 ops.toList = true) (hΓ : Zs E.P E.Γ) (hE : E.fits X) : ∀ (fuel : Nat) {D F : List Nat} {codes : PT} {pl : List (Nat × Oper)} {listed : Array Bool} {tm : List AV} {h : List AObj} {a : Act} {w : World} {I : Nat → Prop},
    goOK ops.toList (befs ops.toList []) false D F [] codes = true → Zjd codes → PSt ops.toList (befs ops.toList []) D pl → (∀ p ∈ pl, p.1 ∉ F) → (∀ i ∈ F, i ∈ D) → Left ops (fun i => (∃ p ∈ pl, p.1 = i) ∨ (i < ops.toList.length ∧ i ∉ D)) listed → pl.length + (ops.toList.length - D.length) ≤ fuel →
    Now X I ⟨tm, h⟩ w a → a.defers = ds → lexR E ops.toList h (pl.map (·.2)) tm (fun tm' => Z0o E ops.toList codes ⟨tm', h⟩ K) → (∀ a w, Z3f X I ds K a w → Q .normal a w) → wpAnyIn (Fw r) 0 E.P .any ops Q fuel listed a w := by
  -- nothing is left
  have fin : ∀ {D F : List Nat} {codes : PT} {pl : List (Nat × Oper)} {tm : List AV} {h : List AObj} {a : Act} {w : World} {I : Nat → Prop}, goOK ops.toList (befs ops.toList []) false D F [] codes = true → Zjd codes → (∀ i, ¬ ((∃ p ∈ pl, p.1 = i) ∨ (i < ops.toList.length ∧ i ∉ D))) →
      Now X I ⟨tm, h⟩ w a → a.defers = ds → lexR E ops.toList h (pl.map (·.2)) tm (fun tm' => Z0o E ops.toList codes ⟨tm', h⟩ K) → (∀ a w, Z3f X I ds K a w → Q .normal a w) → Q .normal a w := by
    intro D F codes pl tm h a w I hg hn hno hN hd hk hQ; have hpl : pl = [] := by
      cases pl with
      | nil => rfl
      | cons p pl => exact absurd (.inl ⟨p, by simp, rfl⟩) (hno p.1)
    subst hpl
    cases codes with
    | fin => exact hQ a w ⟨⟨tm, h⟩, hN, hd, hk⟩
    | nil => exact hn.elim
    | q i l => exact hn.elim
    | s i l => exact hn.elim
    | e i l r =>
      obtain ⟨_, o, ho, hi⟩ := Zi0 hg; exact absurd (.inr ⟨(List.getElem?_eq_some_iff.1 ho).1, hi⟩) (hno i)
  intro fuel
  induction fuel with
  | zero =>
    intro D F codes pl listed tm h a w I hg hn hp hF hFD L hf hN hd hk hQ; have hno : ∀ i, ¬ ((∃ p ∈ pl, p.1 = i) ∨ (i < ops.toList.length ∧ i ∉ D)) := by
      rintro i (⟨p, hp, rfl⟩ | ⟨h1, h2⟩)
      · have := List.length_pos_of_mem hp; omega
      · have h9 : (i :: D).Nodup := List.nodup_cons.2 ⟨h2, hp.nodup⟩
        have h10 := Z41 (m := List.range ops.toList.length) h9 (fun x hx => by
          rcases List.mem_cons.1 hx with rfl | hx
          · exact List.mem_range.2 h1
          · exact List.mem_range.2 (hp.lt x hx))
        simp only [List.length_cons, List.length_range] at h10; omega
    refine ⟨List.eq_nil_iff_forall_not_mem.2 fun i hi => hno i ((L.un i).1 (mem_ready.1 hi).1), fin hg hn hno hN hd hk hQ⟩
  | succ fuel ih =>
    intro D F codes pl listed tm h a w I hg hn hp hF hFD L hf hN hd hk hQ; refine ⟨fun hr => fin hg hn (fun i hu => L.some' hb hu hr) hN hd hk hQ, fun i hi => ?_⟩; obtain ⟨hu, o, ho, _⟩ := mem_ready.1 hi; have hu := (L.un i).1 hu; have ho' : ops.toList[i]? = some o := by simpa using ho
    rcases hu with ⟨p, hpm, rfl⟩ | ⟨his, hiD⟩
    · -- one that was open
      have hpo : o = p.2 := by have := hp.opr p hpm; rw [ho'] at this; injection this
      subst hpo; obtain ⟨A, B, rfl⟩ := List.append_of_mem hpm; have hsub := hp.sub; have hap : ∀ x ∈ A.map (·.2), p.2.apart ops.toList.toArray x = true := by
        intro x hx; obtain ⟨q, hq, rfl⟩ := List.mem_map.1 hx; have h1 : [q.1, p.1].Sublist D := by
          have h2 : [q.1, p.1].Sublist ((A ++ p :: B).map (·.1)) := by
            rw [List.map_append, List.map_cons]; have h3 : [q.1].Sublist (A.map (·.1)) := List.singleton_sublist.2 (List.mem_map.2 ⟨q, hq, rfl⟩); exact h3.append (List.Sublist.cons_cons _ (List.nil_sublist _))
          exact h2.trans hsub
        have h4 := (hp.pair.sublist h1); have h5 := (List.pairwise_cons.1 h4).1 p.1 (by simp); rcases h5 with h5 | h5
        · exact absurd (.inl ⟨q, by simp [hq], rfl⟩) (Left.before' hb L hi ho h5)
        · exact (h5 q.2 p.2 (hp.opr q (by simp [hq])) ho').2
      simp only [List.map_append, List.map_cons] at hk; obtain ⟨v, hv, hk⟩ := Z4j _ hk hap; refine wpOpIn_mono ?_ (Zcr hΓ hE ho hN hd hv); rintro a' w' ⟨st', hN', hd', rfl⟩; have hnd : ∀ q ∈ A ++ B, q.1 ≠ p.1 := fun q hq e => by
        have h1 : ((A ++ p :: B).map (·.1)).Nodup := hp.nodup.sublist hsub; rw [List.map_append, List.map_cons] at h1; obtain ⟨h2, h3, h4⟩ := List.nodup_append.1 h1; rcases List.mem_append.1 hq with hq | hq
        · exact h4 q.1 (List.mem_map.2 ⟨q, hq, rfl⟩) p.1 (by simp) e
        · exact (List.nodup_cons.1 h3).1 (e ▸ List.mem_map.2 ⟨q, hq, rfl⟩)
      refine ih (pl := A ++ B) hg hn ⟨hp.nodup, hp.lt, ?_, fun q hq => hp.opr q (by simp only [List.mem_append, List.mem_cons] at hq ⊢; rcases hq with h | h <;> simp [h]), hp.pair⟩ (fun q hq => hF q (by simp only [List.mem_append, List.mem_cons] at hq ⊢; rcases hq with h | h <;> simp [h])) hFD (L.set hi fun j => ?_) ?_ hN' hd' (by simpa using hk) hQ
      · refine List.Sublist.trans ?_ hsub
        rw [List.map_append, List.map_append, List.map_cons]; exact (List.Sublist.refl _).append (List.sublist_cons_self _ _)
      · constructor
        · rintro (⟨q, hq, rfl⟩ | ⟨h1, h2⟩)
          · refine ⟨.inl ⟨q, by simp only [List.mem_append, List.mem_cons] at hq ⊢; rcases hq with h | h <;> simp [h], rfl⟩, hnd q hq⟩
          · exact ⟨.inr ⟨h1, h2⟩, fun e => h2 (e ▸ hsub.subset (by simp))⟩
        · rintro ⟨⟨q, hq, rfl⟩ | h, hne⟩
          · refine .inl ⟨q, ?_, rfl⟩
            simp only [List.mem_append, List.mem_cons] at hq ⊢; rcases hq with h | rfl | h
            · exact .inl h
            · exact absurd rfl hne
            · exact .inr h
          · exact .inr h
      · simp only [List.length_append, List.length_cons] at hf ⊢; omega
    · -- the next one that changes the heap
      have hbD : ∀ j ∈ (befs ops.toList []).getD i [], j ∈ D := fun j hj => by
        have hnu := Left.before' hb L hi ho hj; have hjl : j < ops.toList.length := Z7x (S := fun j => j < ops.toList.length) (Z6e hb) (fun i o ho hi e he hbd => by have := Z6e hb i o ho e he hbd; omega) ops.toList [] (by simp) (by simp) i o ho' (by simpa using his) (fun e he hbd => by have := Z6e hb i o ho' e he hbd; omega) j hj
        apply Classical.byContradiction
        intro hjD; exact hnu (.inr ⟨hjl, hjD⟩)
      cases codes with
      | nil => exact hn.elim
      | q k l => exact hn.elim
      | s k l => exact hn.elim
      | fin =>
        exfalso
        have hlen : D.length = ops.toList.length := Nat.eq_of_beq_eq_true (by simpa [goOK] using hg); have h9 : (i :: D).Nodup := List.nodup_cons.2 ⟨hiD, hp.nodup⟩; have h10 := Z41 (m := List.range ops.toList.length) h9 (fun x hx => by
          rcases List.mem_cons.1 hx with rfl | hx
          · exact List.mem_range.2 his
          · exact List.mem_range.2 (hp.lt x hx))
        simp only [List.length_cons, List.length_range] at h10; omega
      | e k0 l0 r0 =>
              have hhead := (Zi0 hg).1 i his hiD hbD; obtain ⟨tm', hk1, hk2⟩ := Zaz hk; obtain ⟨ok, l, hok, hstep, hnat, hclean, hrest, hk1⟩ := Ze8 hg hk1 hhead; obtain ⟨h1, h2, h4⟩ := Za0 hstep; have hPS := hp.snoc hok h1 h4; rw [ho'] at hok; injection hok with hok; subst hok
              have hpb : ∀ p ∈ pl, p.1 ∉ (befs ops.toList []).getD i [] := fun p hpm hmem => Left.before' hb L hi ho hmem (.inl ⟨p, hpm, rfl⟩)
              have hpD : ∀ p ∈ pl, p.1 ∈ D := fun p hpm => hp.sub.subset (List.mem_map.2 ⟨p, hpm, rfl⟩)
              have hap : ∀ p ∈ pl, p.2.apart ops.toList.toArray o = true ∧ o.apart ops.toList.toArray p.2 = true := fun p hpm => by
                rcases h4 p.1 (hpD p hpm) with h | h
                · exact absurd h (hpb p hpm)
                · exact h p.2 (hp.opr p hpm)
              have hwk : ∀ (l : List Oper) (tm : List AV) (a : Act) (w : World), Now X I ⟨tm, h⟩ w a → Now X I ⟨jkO l tm, h⟩ w a := by
                intro l
                induction l with
                | nil => exact fun _ _ _ h => h
                | cons x l ih => exact fun tm a w hN => ih _ a w (Now.weak (st := ⟨tm, h⟩) (st' := ⟨putD tm x.dst .junk, h⟩) ⟨Zae x.dst tm, Z03 _⟩ hN)
              have hN2 := hwk (pl.map (·.2)) tm a w hN; rw [← hk2] at hN2; have hlook : ∀ x ∈ pl.map (·.2), ∀ t ∈ o.looksAt ops.toList.toArray, x.dst ≠ some t := fun x hx t ht e => by
                obtain ⟨q, hq, rfl⟩ := List.mem_map.1 hx; exact (Oper.apart_spec (hap q hq).1).1 t e ht
              have hg2 : Z08 ops.toList o.guard (jkO (pl.map (·.2)) tm') (opK E o ⟨jkO (pl.map (·.2)) tm', h⟩ (fun s => ∃ s', Z0o E ops.toList l s' K ∧ s = ⟨jkO (pl.map (·.2)) s'.tmps, s'.h⟩))
                  ((fun s : St => ∃ s' : St, Z0o E ops.toList l s' K ∧ s = ⟨jkO (pl.map (·.2)) s'.tmps, s'.h⟩) ⟨putD (jkO (pl.map (·.2)) tm') o.dst (.tup []), h⟩) := by
                refine Zc1 (fun j w hjw d hd => Z5f fun x hx => hlook x hx d ?_) (fun hk => ?_) (fun hk => ⟨_, hk, ?_⟩) hk1
                · simp only [Oper.looksAt, hjw, List.mem_append]
                  refine .inr ?_; have : (ops.toList.toArray[j]?).bind (·.dst) = some d := by simpa [Z3v] using hd
                  rw [this]; simp
                · refine Zdd hnat (fun x hx d hd => ?_) (fun x hx y hy t ht => ?_) hk
                  · obtain ⟨q, hq, rfl⟩ := List.mem_map.1 hx
                    exact (Oper.apart_spec (hap q hq).1).2.1 d hd
                  · refine hlook x hx t ?_
                    simp only [Oper.looksAt, List.mem_append, List.mem_filterMap]; exact .inl ⟨y, by simpa using hy, by rw [ht]⟩
                · have hsw : ∀ (l : List Oper) (tm : List AV), (∀ x ∈ l, ∀ d, x.dst = some d → o.dst ≠ some d) → putD (jkO l tm) o.dst (.tup []) = jkO l (putD tm o.dst (.tup [])) := by
                    intro l
                    induction l with
                    | nil => exact fun _ _ => rfl
                    | cons x l ih =>
                      intro tm hx; show putD (jkO l (putD tm x.dst .junk)) o.dst _ = jkO l (putD (putD tm o.dst (.tup [])) x.dst .junk); rw [ih _ (fun y hy => hx y (by simp [hy])), Z0n (d := x.dst) (d' := o.dst) .junk (.tup []) (fun y hy => hx x (by simp) y hy)]
                  rw [hsw _ _ (fun x hx d hd => by
                    obtain ⟨q, hq, rfl⟩ := List.mem_map.1 hx; exact (Oper.apart_spec (hap q hq).1).2.1 d hd)]
              refine wpOpIn_mono ?_ (Z5g (K := fun s => ∃ s', Z0o E ops.toList l s' K ∧ s = ⟨jkO (pl.map (·.2)) s'.tmps, s'.h⟩) hΓ hE ho hN2 hd hg2); rintro a2 w2 ⟨st2, hN3, hd3, ⟨tm2, h2'⟩, hk3, rfl⟩; obtain ⟨codes', g1, g2, g3⟩ := Z6s hrest hk3; have hsubP : (pl.map (·.1)).Sublist (opn (befs ops.toList []) D F i) := by
                have h6 := hp.sub.filter (fun j => !((befs ops.toList []).getD i []).contains j && !F.contains j)
                rwa [List.filter_eq_self.2 (fun j hj => by
                  obtain ⟨q, hq, rfl⟩ := List.mem_map.1 hj; have h7 := hpb q hq; have h8 := hF q hq; simp only [List.contains_eq_mem, Bool.and_eq_true, Bool.not_eq_true', decide_eq_false_iff_not]; exact ⟨h7, h8⟩)] at h6
              have hk4 : lexR E ops.toList h2' (pl.map (·.2)) (jkO (pl.map (·.2)) tm2) (fun tm' => Z0o E ops.toList codes' ⟨tm', h2'⟩ K) := by
                refine Z8p (Z6c hclean hsubP hp.opr) (fun x hx => ?_) g2; obtain ⟨q, hq, rfl⟩ := List.mem_map.1 hx; obtain ⟨oq, ho1, d, hd1, hr⟩ := g3 q.1 (hsubP.subset (List.mem_map.2 ⟨q, hq, rfl⟩)); rw [hp.opr q hq] at ho1; injection ho1 with ho1; subst ho1
                exact ⟨d, hd1, hr⟩
              obtain ⟨D', pl', codes2, n1, n2, n3, n7, n8, n4, n5, n6⟩ := Z3j g1 hPS.1 (fun p hpm hmem => by
                rcases List.mem_append.1 hmem with hmem | hmem
                · exact hF p hpm hmem
                · rw [List.mem_singleton] at hmem; exact h1 (hmem ▸ hpD p hpm)) (fun k hk => by
                rcases List.mem_append.1 hk with hk | hk
                · simp [hFD k hk]
                · simp [List.mem_singleton.1 hk]) hk4
              refine ih n2 n1 n3 n7 n8 (L.set hi fun j => ?_) ?_ hN3 hd3 n4 hQ
              · rw [n5 j]
                constructor
                · rintro (⟨q, hq, rfl⟩ | ⟨h6, h7⟩)
                  · exact ⟨.inl ⟨q, hq, rfl⟩, fun e => hiD (e ▸ hpD q hq)⟩
                  · exact ⟨.inr ⟨h6, fun h8 => h7 (by simp [h8])⟩, fun e => h7 (by simp [e])⟩
                · rintro ⟨⟨q, hq, rfl⟩ | ⟨h6, h7⟩, hne⟩
                  · exact .inl ⟨q, hq, rfl⟩
                  · exact .inr ⟨h6, by simp [h7, hne]⟩
              · have h8 : D.length < ops.toList.length := by
                  have h9 : (i :: D).Nodup := List.nodup_cons.2 ⟨hiD, hp.nodup⟩; have h10 := Z41 (m := List.range ops.toList.length) h9 (fun x hx => by
                    rcases List.mem_cons.1 hx with rfl | hx
                    · exact List.mem_range.2 his
                    · exact List.mem_range.2 (hp.lt x hx))
                  simp only [List.length_cons, List.length_range] at h10; omega
                simp only [List.length_append, List.length_cons, List.length_nil] at n6; omega
end

theorem AWp.plan {E : Env} {r : Option Nat} {Q : Exit → St → Prop} (codes : PT) (hΓ : Zs E.P E.Γ) (hmix : E.P.follows .mixedOrders = true) {id : Nat} {ops : List Oper} {tm : List AV} {h : List AObj} (hok : Zd4 ops codes = true)
    (hk : Z0o E ops codes ⟨tm, h⟩ (Q .normal)) : AWp E r (.region id ops.toArray true) Q ⟨tm, h⟩ := fun X I w a hE hN => by
  simp only [Zd4, Bool.and_eq_true] at hok; refine wpIn_region_any hmix ?_; obtain ⟨I', μ', ob', hI, R⟩ := hN; have R' : Rep X I' μ' ob' ⟨tm, h⟩ { w with drawn := w.drawn + 1 } a := R.grow ⟨rfl, rfl, rfl, Nat.le_refl _, fun _ _ _ => rfl⟩ (fun _ h => h) (fun _ h => .inl h); obtain ⟨D', pl', codes2, n1, n2, n3, n7, n8, n4, n5, n6⟩ := Z3j (E := E) (h := h) (K := Q .normal) (tm := tm) (pl := []) hok.2 ⟨List.nodup_nil, by simp, by simp, by simp, List.Pairwise.nil⟩ (by simp) (by simp) hk; refine Zfy (K := Q .normal) (ops := ops.toArray) (by simpa using hok.1) hΓ hE _ (by simpa using n2) n1 (by simpa using n3) n7 n8 ⟨by simp, fun i => ?_, fun i o _ hl => ?_⟩ ?_ ⟨I', μ', ob', hI, R'⟩ rfl (by simpa using n4) (fun _ _ ⟨st', h1, _, h3⟩ => ⟨st', h1, h3⟩)
  · show _ ↔ ((∃ p ∈ pl', p.1 = i) ∨ (i < ops.toArray.toList.length ∧ i ∉ D'))
    have := n5 i; simp only [List.not_mem_nil, false_and, exists_false, not_false_eq_true, and_true, false_or] at this; simp only [this]
    constructor
    · intro hi
      rcases Nat.lt_or_ge i ops.length with h' | h'
      · exact h'
      · simp [h'] at hi
    · intro hi
      simp [hi]
  · exfalso
    rcases Nat.lt_or_ge i ops.length with h' | h'
    · simp [h'] at hl
    · simp [h'] at hl
  · simp only [List.length_nil, Nat.zero_add, Nat.sub_zero] at n6
    simp; omega
end Go.AM
end

section
namespace Go.AM
open Go.RowKit

def opQ (E : Env) (sl : List (Option Nat)) : List Oper → Nat → St → (St → Prop) → Prop
  | [], _, _, _ => False
  | o :: _, 0, st, K => (match o.guard with
    | none => Zd E o.op st.h (ev st.tmps) fun v => K ⟨putD st.tmps o.dst v, st.h⟩
    | some (j, w) => gK (Z3c (sl.getD j none) st.tmps) w (Zd E o.op st.h (ev st.tmps) fun v => K ⟨putD st.tmps o.dst v, st.h⟩) (K ⟨putD st.tmps o.dst (.tup []), st.h⟩))
  | _ :: l, i + 1, st, K => opQ E sl l i st K
def opF (E : Env) (sl : List (Option Nat)) : List Oper → Nat → St → (St → Prop) → Prop
  | [], _, _, _ => False
  | o :: _, 0, st, K => (match o.guard with
    | none => opK E o st K
    | some (j, w) => gK (Z3c (sl.getD j none) st.tmps) w (opK E o st K) (K ⟨putD st.tmps o.dst (.tup []), st.h⟩))
  | _ :: l, i + 1, st, K => opF E sl l i st K
def opS (E : Env) (sl : List (Option Nat)) : List Oper → Nat → St → Prop
  | [], _, _ => False
  | o :: _, 0, st => (match o.guard with
    | none => Zd E o.op st.h (ev st.tmps) (okV st.tmps o.dst)
    | some (j, w) => gK (Z3c (sl.getD j none) st.tmps) w (Zd E o.op st.h (ev st.tmps) (okV st.tmps o.dst)) (okV st.tmps o.dst (.tup [])))
  | _ :: l, i + 1, st => opS E sl l i st

def planL (E : Env) (ops : List Oper) (sl : List (Option Nat)) : PT → St → (St → Prop) → Prop
  | .fin, st, K => K st
  | .nil, _, _ => True
  | .q i l, st, K => opQ E sl ops i st fun st' => planL E ops sl l st' K
  | .e i l r, st, K => opF E sl ops i st (fun st' => planL E ops sl l st' K) ∧ planL E ops sl r st K
  | .s i l, st, K => opS E sl ops i st ∧ planL E ops sl l st K

section
variable {E : Env} {ops : List Oper}
theorem Zdc {st : St} {K : St → Prop} : ∀ (l : List Oper) (i : Nat), opQ E (ops.map (·.dst)) l i st K = (match l[i]? with
    | some o => Z08 ops o.guard st.tmps (Zd E o.op st.h (ev st.tmps) fun v => K ⟨putD st.tmps o.dst v, st.h⟩) (K ⟨putD st.tmps o.dst (.tup []), st.h⟩)
    | none => False)
  | [], _ => rfl
  | o :: l, 0 => by
    simp only [opQ, List.getElem?_cons_zero]
    cases hg : o.guard with
    | none => rfl
    | some p => obtain ⟨j, w⟩ := p; rw [Z2y]
  | o :: l, i + 1 => by
    rw [List.getElem?_cons_succ]; exact Zdc l i
theorem Zde {st : St} {K : St → Prop} : ∀ (l : List Oper) (i : Nat), opF E (ops.map (·.dst)) l i st K = (match l[i]? with
    | some o => Z08 ops o.guard st.tmps (opK E o st K) (K ⟨putD st.tmps o.dst (.tup []), st.h⟩)
    | none => False)
  | [], _ => rfl
  | o :: l, 0 => by
    simp only [opF, List.getElem?_cons_zero]
    cases hg : o.guard with
    | none => rfl
    | some p => obtain ⟨j, w⟩ := p; rw [Z2y]
  | o :: l, i + 1 => by
    rw [List.getElem?_cons_succ]; exact Zde l i
theorem Zdb {st : St} : ∀ (l : List Oper) (i : Nat), opS E (ops.map (·.dst)) l i st = (match l[i]? with
    | some o => Z08 ops o.guard st.tmps (Zd E o.op st.h (ev st.tmps) (okV st.tmps o.dst)) (okV st.tmps o.dst (.tup []))
    | none => False)
  | [], _ => rfl
  | o :: l, 0 => by
    simp only [opS, List.getElem?_cons_zero]
    cases hg : o.guard with
    | none => rfl
    | some p => obtain ⟨j, w⟩ := p; rw [Z2y]
  | o :: l, i + 1 => by
    rw [List.getElem?_cons_succ]; exact Zdb l i

theorem Z3z : ∀ (codes : PT) (st : St) (K : St → Prop), Z0o E ops codes st K = planL E ops (ops.map (·.dst)) codes st K
  | .fin, _, _ => rfl
  | .nil, _, _ => rfl
  | .q i l, st, K => by
    have ih := Z3z l
    first
      | (simp only [Z0o, planL, Zdc, ih]; done)
      | (simp only [Z0o, planL, Zdc, ih]; cases ops[i]? <;> rfl)
  | .e i l r, st, K => by
    have ih := Z3z l; have ih2 := Z3z r
    first
      | (simp only [Z0o, planL, Zde, ih, ih2]; done)
      | (simp only [Z0o, planL, Zde, ih, ih2]; cases ops[i]? <;> rfl)
  | .s i l, st, K => by
    have ih := Z3z l
    first
      | (simp only [Z0o, planL, Zdb, ih]; done)
      | (simp only [Z0o, planL, Zdb, ih]; cases ops[i]? <;> rfl)
end

theorem AWp.planL {E : Env} {r : Option Nat} {Q : Exit → St → Prop} (codes : PT) (hΓ : Zs E.P E.Γ) (hmix : E.P.follows .mixedOrders = true) {id : Nat} {ops : List Oper} {tm : List AV} {h : List AObj} (hok : Zd4 ops codes = true)
    (hk : AM.planL E ops (ops.map (·.dst)) codes ⟨tm, h⟩ (Q .normal)) : AWp E r (.region id ops.toArray true) Q ⟨tm, h⟩ := AWp.plan codes hΓ hmix hok (by rw [Z3z]; exact hk)

section
variable {E : Env} {ops l : List Oper} {sl sl' : List (Option Nat)} {tm : List AV} {h : List AObj} {st st' : St} {K : St → Prop} {codes codes' : PT}
@[go_sem] theorem Zng : planL E ops sl .fin ⟨tm, h⟩ K = K ⟨tm, h⟩ := rfl
@[go_sem] theorem planL_q (i : Nat) : planL E ops sl (.q i codes) ⟨tm, h⟩ K = opQ E sl ops i ⟨tm, h⟩ fun st' => planL E ops sl codes st' K := rfl
@[go_sem] theorem planL_e (i : Nat) : planL E ops sl (.e i codes .nil) ⟨tm, h⟩ K = opF E sl ops i ⟨tm, h⟩ fun st' => planL E ops sl codes st' K := and_true _
@[go_sem] theorem planL_e2 (i j : Nat) (l r : PT) : planL E ops sl (.e i codes (.e j l r)) ⟨tm, h⟩ K = (opF E sl ops i ⟨tm, h⟩ (fun st' => planL E ops sl codes st' K) ∧ planL E ops sl (.e j l r) ⟨tm, h⟩ K) := rfl
@[go_sem] theorem planL_s (i : Nat) : planL E ops sl (.s i codes) ⟨tm, h⟩ K = (opS E sl ops i ⟨tm, h⟩ ∧ planL E ops sl codes ⟨tm, h⟩ K) := rfl
@[go_sem] theorem opQ_succ (o : Oper) (i : Nat) : opQ E sl (o :: l) (i + 1) ⟨tm, h⟩ K = opQ E sl l i ⟨tm, h⟩ K := rfl
@[go_sem] theorem Znm (dst : Option Tmp) (op : Op) (ty : TypeId) (pos : String) (after : Array Edge) : opQ E sl (⟨dst, op, ty, pos, after, none⟩ :: l) 0 ⟨tm, h⟩ K = Zd E op h (ev tm) fun v => K ⟨putD tm dst v, h⟩ := rfl
@[go_sem] theorem Znn (dst : Option Tmp) (op : Op) (ty : TypeId) (pos : String) (after : Array Edge) (j : Nat) (w : Bool) : opQ E sl (⟨dst, op, ty, pos, after, some (j, w)⟩ :: l) 0 ⟨tm, h⟩ K =
  gK (Z3c (sl.getD j none) tm) w (Zd E op h (ev tm) fun v => K ⟨putD tm dst v, h⟩) (K ⟨putD tm dst (.tup []), h⟩) := rfl
@[go_sem] theorem opF_succ (o : Oper) (i : Nat) : opF E sl (o :: l) (i + 1) ⟨tm, h⟩ K = opF E sl l i ⟨tm, h⟩ K := rfl
@[go_sem] theorem Znz (dst : Option Tmp) (op : Op) (ty : TypeId) (pos : String) (after : Array Edge) : opF E sl (⟨dst, op, ty, pos, after, none⟩ :: l) 0 ⟨tm, h⟩ K = opK E ⟨dst, op, ty, pos, after, none⟩ ⟨tm, h⟩ K := rfl
@[go_sem] theorem Zo0 (dst : Option Tmp) (op : Op) (ty : TypeId) (pos : String) (after : Array Edge) (j : Nat) (w : Bool) : opF E sl (⟨dst, op, ty, pos, after, some (j, w)⟩ :: l) 0 ⟨tm, h⟩ K =
  gK (Z3c (sl.getD j none) tm) w (opK E ⟨dst, op, ty, pos, after, some (j, w)⟩ ⟨tm, h⟩ K) (K ⟨putD tm dst (.tup []), h⟩) := rfl
@[go_sem] theorem opS_succ (o : Oper) (i : Nat) : opS E sl (o :: l) (i + 1) ⟨tm, h⟩ = opS E sl l i ⟨tm, h⟩ := rfl
@[go_sem] theorem Znj (dst : Option Tmp) (op : Op) (ty : TypeId) (pos : String) (after : Array Edge) : opS E sl (⟨dst, op, ty, pos, after, none⟩ :: l) 0 ⟨tm, h⟩ = Zd E op h (ev tm) (okV tm dst) := rfl
@[go_sem] theorem Znk (dst : Option Tmp) (op : Op) (ty : TypeId) (pos : String) (after : Array Edge) (j : Nat) (w : Bool) : opS E sl (⟨dst, op, ty, pos, after, some (j, w)⟩ :: l) 0 ⟨tm, h⟩ =
  gK (Z3c (sl.getD j none) tm) w (Zd E op h (ev tm) (okV tm dst)) (okV tm dst (.tup [])) := rfl
@[go_sem] theorem okV_some (d : Nat) (v : AV) : okV tm (some d) v = (tm.getD d .junk = v) := rfl
@[congr] theorem Ziy (h1 : hd sl = sl') (h2 : st = st') : planL E ops sl codes st K = planL E ops sl' codes st' K := by rw [Zq] at h1; rw [h1, h2]
@[congr] theorem Zno {i : Nat} (h2 : hd st = st') : opQ E sl l i st K = opQ E sl l i st' K := by rw [Zq] at h2; rw [h2]
@[congr] theorem Zo1 {i : Nat} (h2 : hd st = st') : opF E sl l i st K = opF E sl l i st' K := by rw [Zq] at h2; rw [h2]
@[congr] theorem Znl {i : Nat} (h2 : hd st = st') : opS E sl l i st = opS E sl l i st' := by rw [Zq] at h2; rw [h2]
end
end Go.AM
end

section
namespace Go.AM
open Go.RowKit

def AV.blw (n : Nat) : AV → Bool
  | .own b _ => decide (b < n)
  | .ptr b _ => decide (b < n)
  | .eptr b _ _ _ => decide (b < n)
  | .map b => decide (b < n)
  | .yld b => decide (b < n)
  | .fn _ caps => blwL n caps
  | .agg l => blwL n l
  | .tup l => blwL n l
  | _ => true
where blwL (n : Nat) : List AV → Bool
  | [] => true
  | v :: l => v.blw n && blwL n l
def AObj.blw (n : Nat) : AObj → Bool
  | .box cs => AV.blw.blwL n cs
  | .it m _ _ _ => decide (m < n)
  | .lp tm _ _ _ _ => AV.blw.blwL n tm
  | _ => true
def blwH (n : Nat) : List AObj → Bool
  | [] => true
  | o :: l => o.blw n && blwH n l

theorem Z2i {n : Nat} : ∀ {l : List AV}, AV.blw.blwL n l = true → ∀ i, (l.getD i .junk).blw n = true
  | [], _, i => by simp [AV.blw]
  | v :: l, h, i => by
    simp only [AV.blw.blwL, Bool.and_eq_true] at h
    cases i with
    | zero => exact h.1
    | succ i => rw [List.getD_cons_succ]; exact Z2i h.2 i
theorem Zbe {n : Nat} : ∀ {l : List AObj}, blwH n l = true → ∀ (i : Nat) (o : AObj), l[i]? = some o → o.blw n = true
  | v :: l, h, i, o, ho => by
    simp only [blwH, Bool.and_eq_true] at h
    cases i with
    | zero => injection ho with ho; subst ho; exact h.1
    | succ i => exact Zbe h.2 i o ho

theorem VR.blw {n m : Nat} {μ : Nat → Value} {I : Nat → Prop} {w : World} {x : AV} {v : Value} (hx : VR n μ I w x v) (hu : x.blw m = true) : VR m μ I w x v := by
  induction hx with
  | junk v => exact .junk v
  | cell v h => exact .cell v h
  | p x v h => exact .p x v h
  | full l a h => exact .full l a h
  | own b k a c hb h => exact .own b k a c (of_decide_eq_true hu) h
  | ptr b off g hb h => exact .ptr b off g (of_decide_eq_true hu) h
  | eptr b s i f g off k c hb h => exact .eptr b s i f g off k c (of_decide_eq_true hu) h
  | ipt l g off cur E fz vs hg hb hv hr => exact .ipt l g off cur E fz vs hg hb hv hr
  | map b r hb h => exact .map b r (of_decide_eq_true hu) h
  | yld b l hb h => exact .yld b l (of_decide_eq_true hu) h
  | fn f caps cs hl _ ih => exact .fn f caps cs hl fun i hi => ih i hi (Z2i hu i)
  | agg l cs hl _ ih => exact .agg l cs hl fun i hi => ih i hi (Z2i hu i)
  | tup l cs hl _ ih => exact .tup l cs hl fun i hi => ih i hi (Z2i hu i)
  | nil => exact .nil

theorem Rep.trim {X : Ctx} {I : Nat → Prop} {μ : Nat → Value} {ob : Nat → Option Nat} {w : World} {tm : List AV} {h h2 : List AObj} {a : Act} (R : Rep X I μ ob ⟨tm, h ++ h2⟩ w a) (hn : X.n0 ≤ h.length) (ht : AV.blw.blwL h.length tm = true) (hh : blwH h.length h = true) :
    ∃ ob', Rep X I μ ob' ⟨tm, h⟩ w a := by
  refine ⟨fun b => if b < h.length then ob b else none, {
    below := R.below, base := R.base, imm := R.imm, ctx := R.ctx, frz := R.frz, inew := R.inew, may := R.may, names := hn
    own := fun b g hb => ?_, sep := fun b b' g h1 h2 => ?_, past := fun b hb => ?_, objs := fun b o ho => ?_
    size := R.size, tmps := fun i hi => (R.tmps i hi).blw (Z2i ht i), marks := ?_ }⟩
  · split at hb
    · exact R.own b g hb
    · cases hb
  · split at h1
    · split at h2
      · exact R.sep b b' g h1 h2
      · cases h2
    · cases h1
  · rw [if_neg (by simp only at hb; omega)]
  · have hlt : b < h.length := (List.getElem?_eq_some_iff.1 ho).1
    have hob : (fun b => if b < h.length then ob b else none) b = ob b := by simp only; rw [if_pos hlt]
    have hO := R.objs b o (by simp only; rw [List.getElem?_append_left hlt]; exact ho); have hu := Zbe hh b o ho
    cases o with
    | dead => trivial
    | box cs =>
      obtain ⟨g, T, cur, h1, h2, h3, h4, h5⟩ := hO; exact ⟨g, T, cur, hob.trans h1, h2, h3, h4, fun i hi => (h5 i hi).blw (Z2i hu i)⟩
    | row E s xs k =>
      obtain ⟨h0, hO⟩ := hO; refine ⟨h0, ?_⟩; rcases hO with ⟨g, h1, h2⟩ | ⟨h1, h2, a, h3, h4⟩
      · exact .inl ⟨g, hob.trans h1, h2⟩
      · exact .inr ⟨h1, hob.trans h2, a, h3, h4⟩
    | mp es =>
      obtain ⟨r, ents, h1, h2, h3, h4, h5, h6⟩ := hO; exact ⟨r, ents, hob.trans h1, h2, h3, h4, h5, h6⟩
    | it m since seen last =>
      obtain ⟨r, g, h0, h1, h2, h3, h4, h5⟩ := hO; exact ⟨r, g, of_decide_eq_true hu, hob.trans h1, h2, h3, h4, h5⟩
    | lp tm ps assign body s =>
      obtain ⟨l, rec, h1, h2, h3, h4, h5, h6⟩ := hO; exact ⟨l, rec, hob.trans h1, h2, h3, h4, fun i hi => (h5 i hi).blw (Z2i hu i), h6⟩
  · obtain ⟨rs, m1, m2, m3⟩ := R.marks
    refine ⟨rs, m1, m2, fun q hq => ?_⟩; obtain ⟨e1, e2, e3, e4⟩ := m3 q hq; refine ⟨e1, e2, e3, fun b hb => ?_⟩; simp only at hb
    split at hb
    · exact e4 b hb
    · cases hb

theorem AWp.trim {E : Env} {r : Option Nat} {c : Code} {Q : Exit → St → Prop} {tm : List AV} {h h2 : List AObj} (hn : E.n0 ≤ h.length) (ht : AV.blw.blwL h.length tm = true) (hh : blwH h.length h = true)
    (hw : AWp E r c Q ⟨tm, h⟩) : AWp E r c Q ⟨tm, h ++ h2⟩ := fun X I w a hE ⟨I', μ', ob', hI, R⟩ => by
  obtain ⟨ob2, R'⟩ := R.trim (by rw [hE.1]; exact hn) ht hh; exact hw X I w a hE ⟨I', _, _, hI, R'⟩
def swN (b c x : Nat) : Nat := if x = b then c else if x = c then b else x
theorem Z4d (b c x : Nat) : swN b c (swN b c x) = x := by
  unfold swN; by_cases h1 : x = b
  · subst h1; rw [if_pos rfl]; by_cases h2 : c = x
    · subst h2; simp
    · rw [if_neg h2, if_pos rfl]
  · rw [if_neg h1]
    by_cases h2 : x = c
    · subst h2; rw [if_pos rfl, if_pos rfl]
    · rw [if_neg h2, if_neg h1, if_neg h2]
theorem Z6m {b c x n : Nat} (hb : b < n) (hc : c < n) (hx : x < n) : swN b c x < n := by
  unfold swN
  split
  · exact hc
  · split
    · exact hb
    · exact hx
def AV.sw (b c : Nat) : AV → AV
  | .own x n => .own (swN b c x) n
  | .ptr x o => .ptr (swN b c x) o
  | .eptr x s i f => .eptr (swN b c x) s i f
  | .map x => .map (swN b c x)
  | .yld x => .yld (swN b c x)
  | .fn f caps => .fn f (swL b c caps)
  | .agg l => .agg (swL b c l)
  | .tup l => .tup (swL b c l)
  | v => v
where swL (b c : Nat) : List AV → List AV
  | [] => []
  | v :: l => v.sw b c :: swL b c l
theorem Zch (b c : Nat) (l : List AV) : AV.sw.swL b c l = l.map (AV.sw b c) := by
  induction l with
  | nil => rfl
  | cons v l ih => simp [AV.sw.swL, ih]
def AObj.sw (b c : Nat) : AObj → AObj
  | .box cs => .box (cs.map (AV.sw b c))
  | .it m since seen last => .it (swN b c m) since seen last
  | .lp tm ps assign body s => .lp (tm.map (AV.sw b c)) ps assign body s
  | o => o

theorem VR.sw {n : Nat} {μ : Nat → Value} {I : Nat → Prop} {w : World} {x : AV} {v : Value} {b c : Nat} (hb : b < n) (hc : c < n) (h : VR n μ I w x v) : VR n (fun y => μ (swN b c y)) I w (x.sw b c) v := by
  have e : ∀ y, (fun y => μ (swN b c y)) (swN b c y) = μ y := fun y => by simp only [Z4d]
  induction h with
  | junk v => exact .junk v
  | cell v h => exact .cell v h
  | p x v h => exact .p x v h
  | full l a h => exact .full l a h
  | own y k a cc hy h => exact .own _ _ _ _ (Z6m hb hc hy) ((e y).trans h)
  | ptr y off g hy h => exact .ptr _ _ _ (Z6m hb hc hy) ((e y).trans h)
  | eptr y s i f g off k cc hy h => exact .eptr _ _ _ _ _ _ _ _ (Z6m hb hc hy) ((e y).trans h)
  | ipt l g off cur E fz vs hg hw hv hr => exact .ipt l g off cur E fz vs hg hw hv hr
  | map y r hy h => exact .map _ _ (Z6m hb hc hy) ((e y).trans h)
  | yld y l hy h => exact .yld _ _ (Z6m hb hc hy) ((e y).trans h)
  | fn f caps cs hl _ ih =>
    unfold AV.sw; rw [Zch]; exact .fn f _ cs (by simpa using hl) fun i hi => by rw [Zg (by simpa using hi)]; exact ih i (by simpa using hi)
  | agg l cs hl _ ih =>
    unfold AV.sw; rw [Zch]; exact .agg _ cs (by simpa using hl) fun i hi => by rw [Zg (by simpa using hi)]; exact ih i (by simpa using hi)
  | tup l cs hl _ ih =>
    unfold AV.sw; rw [Zch]; exact .tup _ cs (by simpa using hl) fun i hi => by rw [Zg (by simpa using hi)]; exact ih i (by simpa using hi)
  | nil => exact .nil

theorem ObjOK.sw {n : Nat} {μ : Nat → Value} {I : Nat → Prop} {ob : Nat → Option Nat} {w : World} {x b c : Nat} {o : AObj} (hb : b < n) (hc : c < n) (h : ObjOK n μ I ob w x o) :
    ObjOK n (fun y => μ (swN b c y)) I (fun y => ob (swN b c y)) w (swN b c x) (o.sw b c) := by
  have e : ∀ y, (fun y => μ (swN b c y)) (swN b c y) = μ y := fun y => by simp only [Z4d]
  have e2 : ∀ y, (fun y => ob (swN b c y)) (swN b c y) = ob y := fun y => by simp only [Z4d]
  cases o with
  | dead => trivial
  | box cs =>
    obtain ⟨g, T, cur, h1, h2, h3, h4, h5⟩ := h; refine ⟨g, T, cur, (e2 x).trans h1, (e x).trans h2, h3, by simpa using h4, fun i hi => ?_⟩; simp only [List.length_map] at hi; rw [Zg hi]; exact (h5 i hi).sw hb hc
  | row E s xs k =>
    obtain ⟨h0, h⟩ := h; refine ⟨h0, ?_⟩; have e3 := e x; rcases h with ⟨g, h1, h2⟩ | ⟨h1, h2, a, h3, h4⟩
    · exact .inl ⟨g, (e2 x).trans h1, by rw [e3]; exact h2⟩
    · exact .inr ⟨h1, (e2 x).trans h2, a, e3.trans h3, by rw [e3]; exact h4⟩
  | mp es =>
    obtain ⟨r, ents, h1, h2, h3, h4, h5, h6⟩ := h; exact ⟨r, ents, (e2 x).trans h1, (e x).trans h2, h3, h4, h5, h6⟩
  | it m since seen last =>
    obtain ⟨r, g, h0, h1, h2, h3, h4, h5⟩ := h; exact ⟨r, g, Z6m hb hc h0, (e2 x).trans h1, (e x).trans h2, (e m).trans h3, h4, h5⟩
  | lp tm ps assign body s =>
    obtain ⟨l, rec, h1, h2, h3, h4, h5, h6⟩ := h; refine ⟨l, rec, (e2 x).trans h1, (e x).trans h2, h3, by simpa using h4, fun i hi => ?_, h6⟩; simp only [List.length_map] at hi; rw [Zg hi]; exact (h5 i hi).sw hb hc

theorem Rep.sw {X : Ctx} {I : Nat → Prop} {μ : Nat → Value} {ob : Nat → Option Nat} {w : World} {tm : List AV} {h : List AObj} {a : Act} {b c : Nat} {p q : AObj} (R : Rep X I μ ob ⟨tm, h⟩ w a) (hb : h[b]? = some p) (hc : h[c]? = some q) (hnb : X.n0 ≤ b) (hnc : X.n0 ≤ c) :
    Rep X I (fun y => μ (swN b c y)) (fun y => ob (swN b c y)) ⟨tm.map (AV.sw b c), ((h.map (AObj.sw b c)).set b (q.sw b c)).set c (p.sw b c)⟩ w a := by
  have hbl : b < h.length := (List.getElem?_eq_some_iff.1 hb).1; have hcl : c < h.length := (List.getElem?_eq_some_iff.1 hc).1; have hget : ∀ (x : Nat) (o : AObj), (((h.map (AObj.sw b c)).set b (q.sw b c)).set c (p.sw b c))[x]? = some o → ∃ o', h[swN b c x]? = some o' ∧ o = o'.sw b c := fun x o ho => by
    unfold swN; by_cases e1 : c = x
    · subst e1
      rw [List.getElem?_set_self (by simpa using hcl)] at ho
      injection ho with ho
      by_cases e2 : c = b
      · subst e2; rw [if_pos rfl]; rw [hb] at hc; injection hc with hc; subst hc; exact ⟨_, hb, ho.symm⟩
      · rw [if_neg e2, if_pos rfl]; exact ⟨_, hb, ho.symm⟩
    · rw [List.getElem?_set_ne e1] at ho
      by_cases e2 : b = x
      · subst e2
        rw [List.getElem?_set_self (by simpa using hbl)] at ho
        injection ho with ho
        rw [if_pos rfl]; exact ⟨_, hc, ho.symm⟩
      · rw [List.getElem?_set_ne e2, List.getElem?_map] at ho
        rw [if_neg (fun e => e2 e.symm), if_neg (fun e => e1 e.symm)]
        cases hx : h[x]? with
        | none => rw [hx] at ho; cases ho
        | some o' => rw [hx] at ho; simp only [Option.map_some, Option.some.injEq] at ho; exact ⟨o', rfl, ho.symm⟩
  exact {
    below := R.below, base := R.base, imm := R.imm, ctx := R.ctx, frz := R.frz, inew := R.inew
    may := fun y hy => by
      have h1 : y ≠ b := fun e => hy (.inl (by rw [e]; exact hnb))
      have h2 : y ≠ c := fun e => hy (.inl (by rw [e]; exact hnc))
      show μ (swN b c y) = _; unfold swN; rw [if_neg h1, if_neg h2]; exact R.may y hy
    names := by simpa using R.names
    own := fun y g hy => R.own _ g hy
    sep := fun y y' g h1 h2 => by
      have := R.sep _ _ g h1 h2; have h3 := congrArg (swN b c) this
      rwa [Z4d, Z4d] at h3
    past := fun y hy => by
      simp only [List.length_set, List.length_map] at hy; show ob (swN b c y) = none; unfold swN; rw [if_neg (by omega), if_neg (by omega)]; exact R.past y hy
    objs := fun x o ho => by
      obtain ⟨o', h1, rfl⟩ := hget x o ho; have := (R.objs _ o' h1).sw (b := b) (c := c) hbl hcl; rw [Z4d] at this
      simpa using this
    size := by simpa using R.size
    tmps := fun i hi => by
      simp only [List.length_map] at hi; simp only [List.length_set, List.length_map]; rw [Zg hi]; exact (R.tmps i hi).sw hbl hcl
    marks := by
      obtain ⟨rs, m1, m2, m3⟩ := R.marks; exact ⟨rs, m1, m2, fun q hq => by
        obtain ⟨e1, e2, e3, e4⟩ := m3 q hq; exact ⟨e1, e2, e3, fun b' => e4 _⟩⟩ }

theorem AWp.swap {E : Env} {r : Option Nat} {k : Code} {Q : Exit → St → Prop} {tm : List AV} {h : List AObj} (b c : Nat) {p q : AObj} (hb : h[b]? = some p) (hc : h[c]? = some q) (hnb : E.n0 ≤ b) (hnc : E.n0 ≤ c)
    (hw : AWp E r k Q ⟨tm.map (AV.sw b c), ((h.map (AObj.sw b c)).set b (q.sw b c)).set c (p.sw b c)⟩) : AWp E r k Q ⟨tm, h⟩ := fun X I w a hE ⟨I', μ', ob', hI, R⟩ =>
  hw X I w a hE ⟨I', _, _, hI, R.sw hb hc (by rw [hE.1]; exact hnb) (by rw [hE.1]; exact hnc)⟩


def weakD : List AObj → List AObj → Prop
  | _, [] => True
  | x :: l, y :: l' => (y = .dead ∨ y = x ∨ Z9t x y) ∧ weakD l l'
  | [], _ :: _ => False
def Zf8 (st st' : St) : Prop := Z99 st.tmps st'.tmps ∧ weakD st.h st'.h
theorem Zaf : ∀ {h h' : List AObj}, weakD h h' → ∃ h1 h2, h = h1 ++ h2 ∧ weakH h1 h' ∧ h1.length = h'.length
  | h, [], _ => ⟨[], h, rfl, trivial, rfl⟩
  | x :: l, y :: l', h => by
    obtain ⟨h1, h2, e, hw, hl⟩ := Zaf h.2; exact ⟨x :: h1, h2, by rw [e]; rfl, ⟨h.1, hw⟩, by simp [hl]⟩
theorem Z0l (m : List AObj) : weakD m [] = True := by cases m <;> rfl
theorem Z81 : ∀ {h1 h' : List AObj} (h2 : List AObj), weakH h1 h' → weakH (h1 ++ h2) (h' ++ h2)
  | [], [], _, _ => Z03 _
  | _ :: _, _ :: _, h2, h => ⟨h.1, Z81 h2 h.2⟩

def Z1b (n0 : Nat) (st : St) : Prop := n0 ≤ st.h.length ∧ AV.blw.blwL st.h.length st.tmps = true ∧ blwH st.h.length st.h = true

theorem Now.weakD {X : Ctx} {I : Nat → Prop} {w : World} {a : Act} {st st' : St} (h : Zf8 st st') (hb : Z1b X.n0 st') (hN : Now X I st w a) : Now X I st' w a := by
  obtain ⟨h1, h2, e, hw, _⟩ := Zaf h.2; have hN2 : Now X I ⟨st'.tmps, st'.h ++ h2⟩ w a := Now.weak (st := st) ⟨h.1, by rw [e]; exact Z81 h2 hw⟩ hN; obtain ⟨I', μ', ob', hI, R⟩ := hN2; obtain ⟨ob2, R'⟩ := R.trim hb.1 hb.2.1 hb.2.2; exact ⟨I', μ', ob2, hI, R'⟩

theorem AWp.weakD {E : Env} {r : Option Nat} {c : Code} {Q : Exit → St → Prop} {st st' : St} (h : Zf8 st st') (hb : Z1b E.n0 st') (hw : AWp E r c Q st') : AWp E r c Q st :=
  fun X I w a hE hN => hw X I w a hE (hN.weakD h (by rw [hE.1]; exact hb))

theorem AWp.loopJ {E : Env} {r : Option Nat} {Q : Exit → St → Prop} {st : St} {c : Code} {α : Type} (fr : α → St) (Inv : α → Prop) (m : α → Nat) (x0 : α) (hb : ∀ x, Z1b E.n0 (fr x)) (hw : Zf8 st (fr x0)) (h0 : Inv x0)
    (h : ∀ x, Inv x → AWp E r c (Z5m (fun st' => ∃ y, Zf8 st' (fr y) ∧ Inv y ∧ m y < m x) Q) (fr x)) : AWp E r (.loop c) Q st := by
  refine AWp.weakD hw (hb x0) (AWp.loopI fr Inv m x0 (Weak.refl _) h0 fun x hx => ?_); intro X I w a hE hN; refine wpIn_mono (h x hx X I w a hE hN) ?_; rintro e a' w' ⟨st', hN', hq⟩
  cases e with
  | normal =>
    obtain ⟨y, h1, h2, h3⟩ := hq; exact ⟨fr y, hN'.weakD h1 (by rw [hE.1]; exact hb y), y, Weak.refl _, h2, h3⟩
  | _ => exact ⟨st', hN', hq⟩

attribute [go_sem] Z0l weakD Zf8
section
variable {P : Program} {X : Ctx} {I : Nat → Prop} {μ : Nat → Value} {ob : Nat → Option Nat} {w : World} {h : List AObj} {b : Nat} {E : TypeId} {s : Nat} {xs : List PV} {k : RK}

theorem RepH.freeze (R : RepH X I μ ob h w) (hb : h[b]? = some (.row E s xs k)) : ∃ J, (∀ g, I g → J g) ∧ (∀ g, J g → I g ∨ ob b = some g) ∧ PR J w (.sl xs) (μ b) ∧ RepH X J μ (upd ob b none) ((h.map (AObj.thaw b xs)).set b .dead) w := by
  obtain ⟨hall, hrow⟩ := R.objs b _ hb; have hlt : b < h.length := (List.getElem?_eq_some_iff.1 hb).1
  let J : Nat → Prop := fun g => I g ∨ ob b = some g
  have hIJ : ∀ g, I g → J g := fun _ h => .inl h
  have hr : PR J w (.sl xs) (μ b) := by
    rcases hrow with ⟨g, h1, h2⟩ | ⟨_, _, a, h3, h4⟩
    · exact h2.pr hall hIJ (.inr h1)
    · exact h4.mono hIJ (fun _ _ => rfl)
  refine ⟨J, hIJ, fun _ h => h, hr, {
    below := R.below, base := R.base, imm := fun g hg => hg.elim (R.imm g) (fun h => (R.own b g h).2.2), ctx := fun g hg => .inl (R.ctx g hg), frz := R.frz
    inew := fun g hg => hg.elim (R.inew g) (fun h => .inr (R.own b g h).2.1), may := R.may, names := by simpa using R.names
    own := fun c g hc => ?_, sep := fun c c' g h1 h2 => ?_, past := fun c hc => ?_, objs := fun c o ho => ?_ }⟩
  · by_cases e : c = b
    · subst e; rw [Z6] at hc; cases hc
    · rw [Z3 _ _ e] at hc
      exact ⟨fun h => h.elim (R.own c g hc).1 (fun h => e (R.sep c b g hc h)), (R.own c g hc).2⟩
  · by_cases e : c = b
    · subst e; rw [Z6] at h1; cases h1
    · by_cases e' : c' = b
      · subst e'; rw [Z6] at h2; cases h2
      · rw [Z3 _ _ e] at h1; rw [Z3 _ _ e'] at h2; exact R.sep c c' g h1 h2
  · simp only [List.length_set, List.length_map] at hc
    rw [Z3 _ _ (by omega)]; exact R.past c hc
  · simp only [List.length_set, List.length_map] at ho ⊢
    by_cases e : c = b
    · subst e
      rw [List.getElem?_set_self (by simpa using hlt)] at ho; injection ho with ho; subst ho; trivial
    · rw [List.getElem?_set_ne (fun h => e h.symm), List.getElem?_map] at ho
      cases ho' : h[c]? with
      | none => rw [ho'] at ho; simp at ho
      | some o' =>
        rw [ho'] at ho; simp only [Option.map_some, Option.some.injEq] at ho; subst ho; exact (R.objs c o' ho').thaw hIJ hr e

end

end Go.AM
end

section
namespace Go.AM
open Go.RowKit

def PRowO (P : Program) (f : FuncId) (args : List PV) (E : TypeId) (s : Nat) (xs : List PV) : Prop :=
  AC P f (args.map .p) [] [] (fun v h' => ∃ b, v = .own b xs.length ∧ h'[b]? = some (.row E s xs .own))

theorem PRowO.row {P : Program} {f : FuncId} {args : List PV} {E : TypeId} {s : Nat} {xs : List PV} (h : PRowO P f args E s xs) : PRow P f args E s xs :=
  AC.monoR h fun _ _ ⟨b, h1, h2⟩ => ⟨b, .own, h1, h2, by decide⟩
theorem PFn.of_rowO {P : Program} {f : FuncId} {args xs : List PV} {E : TypeId} {s : Nat} (hf : PRowO P f args E s xs) : PFn P f args [.sl xs] := .of_row hf.row

theorem AC.of_rowO {P : Program} {h : List AObj} {f : FuncId} {args : List AV} {pargs xs : List PV} {E : TypeId} {s : Nat} (hf : PRowO P f pargs E s xs) (hp : AV.pures args = some pargs ∨ AV.purL [] args = some pargs) :
    AC P f args h [] (fun v h' => v = .own h.length xs.length ∧ h' = h ++ [.row E s xs .own]) := by
  refine ⟨hf.1, fun X I μ ob w cargs R hlen hargs _ => ?_⟩; have key : args.length = pargs.length ∧ ∀ i, i < args.length → PR I w (pargs.getD i default) (cargs.getD i undef) := by
    rcases hp with hp | hp
    · obtain ⟨e1, e2⟩ := AV.pures_get hp
      exact ⟨e1, fun i hi => (hargs i hi).pure1 (e2 i hi)⟩
    · obtain ⟨e1, e2⟩ := AV.purL_get hp
      refine ⟨e1, fun i hi => ?_⟩; have := (hargs i hi).pur (h := []) (ob := fun _ => none) (fun b o hb => by simp at hb) (e2 i hi); exact this.mono (fun g hg => hg.elim id (fun ⟨b, hb⟩ => by cases hb)) (fun _ _ => rfl)
  let X0 : Ctx := { B0 := w.heap.size, w0 := w, I0 := I, μ0 := fun _ => undef, n0 := 0, ks := [], fz := fun _ => False, w1 := w }
  have R0 : RepH X0 I (fun _ => undef) (fun _ => none) [] w := {
      below := Below.refl _ _, base := Nat.le_refl _, imm := R.imm, ctx := fun _ h => h, frz := fun _ h => h.elim, inew := fun _ h => .inl h, may := fun _ _ => rfl, names := Nat.zero_le _
      own := fun b g h => (by cases h), sep := fun b b' g h => (by cases h), past := fun _ _ => rfl, objs := fun b o h => (by simp at h) }
  refine (hf.2 X0 I _ _ w cargs R0 (by simp; omega) (fun i hi => by
    rw [List.length_map] at hi; rw [Z0d _ _ hi]; exact .p _ _ (key.2 i (by omega))) (by simp)).mono ?_
  rintro e w' ⟨cv, v, h', I', μ', ob', rfl, R', hv, hI, _, _, hinew, hobn, _, b, rfl, hrow⟩; have hg : w.grownBy w' none := ⟨R'.below.os, R'.below.tape, R'.below.output, R'.below.size, fun k hk _ => R'.below.block k hk⟩; have hI2 : ∀ g, I' g → I g ∨ (w.heap.size ≤ g ∧ g < w'.heap.size) := fun g hg => (hinew g hg).elim .inl (fun h => h.elim (fun ⟨b, hb⟩ => by cases hb) (fun h => .inr ⟨h, R'.imm g hg⟩))
  obtain ⟨a, c, rfl, hbn, hbm⟩ := hv.own_inv; have hobj := R'.objs b _ hrow; have hfr : ∀ k, ob' b = some k → X.mine k ∧ k < w'.heap.size ∧ ¬ I' k ∧ ∀ c, ob c ≠ some k := fun k hk => by
    have h1 := R'.own b k hk; have h2 : w.heap.size ≤ k := (hobn b k hk).elim (fun ⟨c, hc⟩ => by cases hc) id; exact ⟨R.fresh h2, h1.2.2, h1.1, fun c hc => by have := (R.own c k hc).2.2; omega⟩
  have R1 := R.grow hg hI hI2; have R2 : RepH X I' (upd μ h.length (.slice a xs.length c)) (upd ob h.length (ob' b)) (h ++ [.row E s xs .own]) w' := by
    refine R1.nameOld hfr ⟨hobj.1, ?_⟩; rcases hobj.2 with ⟨g, hg, hin⟩ | ⟨h0, _⟩
    · left
      refine ⟨g, by rw [Z6]; exact hg, ?_⟩; rw [Z6, ← hbm]; exact hin
    · cases h0
  refine ⟨_, .own h.length xs.length, _, I', _, _, rfl, R2, .own _ _ _ _ (by simp) (Z6 _ _ _), hI, fun c hc _ => Z3 _ _ (by omega), by simp, fun g hg => (hI2 g hg).imp id (fun h => .inr h.1), fun c g hc => ?_, fun g hlt _ => hg.block g hlt (by simp), rfl, rfl⟩; by_cases e : c = h.length
  · subst e
    rw [Z6] at hc; exact .inr ((hobn b g hc).elim (fun ⟨c, hc⟩ => by cases hc) id)
  · rw [Z3 _ _ e] at hc; exact .inl ⟨c, hc⟩

theorem AWp.seqM {E : Env} {r : Option Nat} {Q : Exit → St → Prop} {st : St} {x y : Code} {α : Type} (fr : α → St) (Inv : α → Prop) (h1 : AWp E r x (fun e st => e = .normal ∧ ∃ a, Weak st (fr a) ∧ Inv a) st)
    (h2 : ∀ a, Inv a → AWp E r y Q (fr a)) : AWp E r (.seq x y) Q st :=
  AWp.seq (h1.mono fun e st ⟨he, a, hw, hi⟩ => by subst he; exact AWp.weak hw (h2 a hi))

section
variable {P : Program} {X : Ctx} {I : Nat → Prop} {μ : Nat → Value} {ob : Nat → Option Nat} {w : World} {h : List AObj} {b : Nat} {E : TypeId} {s : Nat} {xs : List PV} {k : RK}

theorem AC.give {f : FuncId} {args : List AV} {ks : List Nat} {R : AV → List AObj → Prop} (b : Nat) (hb : h[b]? = some (.row E s xs k)) (hf : AC P f (args.map (AV.thaw b xs)) ((h.map (AObj.thaw b xs)).set b .dead) ks R) : AC P f args h ks R := by
  refine ⟨hf.1, fun X I μ ob w cargs R0 hlen hargs hks => ?_⟩; obtain ⟨J, hIJ, hJI, hr, R'⟩ := R0.freeze hb; have hl : ((h.map (AObj.thaw b xs)).set b .dead).length = h.length := by simp
  have h1 := hf.2 X J μ (upd ob b none) w cargs R' (by simpa using hlen) (fun i hi => by
    have hi : i < args.length := by simpa using hi
    rw [Zg hi, hl]; exact (hargs i hi).thaw hIJ hr) hks
  refine h1.mono ?_; rintro e w' ⟨cv, v, h', I', μ', ob', g1, R2, hv, hI, hμ, hle, hinew, hobn, hsame, hR⟩; have up : ∀ c g, upd ob b none c = some g → ob c = some g := fun c g hc => by
    by_cases e : c = b
    · subst e; rw [Z6] at hc; cases hc
    · rwa [Z3 _ _ e] at hc
  refine ⟨cv, v, h', I', μ', ob', g1, R2, hv, fun g hg => hI g (hIJ g hg), fun c hc hn => hμ c (by rw [hl]; exact hc) hn, by rw [hl] at hle; exact hle, fun g hg => ?_, fun c g hc => ?_, fun g hg hno => hsame g hg (fun c hc => hno c (up c g hc)), hR⟩
  · rcases hinew g hg with h1 | ⟨c, h1⟩ | h1
    · rcases hJI g h1 with h2 | h2
      · exact .inl h2
      · exact .inr (.inl ⟨b, h2⟩)
    · exact .inr (.inl ⟨c, up c g h1⟩)
    · exact .inr (.inr h1)
  · rcases hobn c g hc with ⟨d, h1⟩ | h1
    · exact .inl ⟨d, up d g h1⟩
    · exact .inr h1

theorem AC.args {f : FuncId} {args args' : List AV} {ks : List Nat} {R : AV → List AObj → Prop} (hl : args'.length = args.length)
    (ha : ∀ i, args'.getD i .junk = args.getD i .junk ∨ ∃ l, args'.getD i .junk = .full l ∧ args.getD i .junk = .p (.sl l)) (hf : AC P f args h ks R) : AC P f args' h ks R := by
  refine ⟨hf.1, fun X I μ ob w cargs R0 hlen hargs hks => hf.2 X I μ ob w cargs R0 (by rw [← hl]; exact hlen) (fun i hi => ?_) hks⟩; have h1 := hargs i (by rw [hl]; exact hi); rcases ha i with e | ⟨l, e1, e2⟩
  · rw [← e]; exact h1
  · rw [e1] at h1
    rw [e2]; generalize cargs.getD i undef = v at h1 ⊢
    cases h1 with
    | full _ _ h => exact .p _ _ h

theorem AC.adopt {f : FuncId} {args : List AV} {ks : List Nat} {R : AV → List AObj → Prop} {l : List PV} (i : Nat) (E : TypeId) (s : Nat) (hi : args.getD i .junk = .full l) (hs : ∀ x ∈ l, x.cells.length = s)
    (hf : AC P f (args.set i (.own h.length l.length)) (h ++ [.row E s l .lax]) (h.length :: ks) R) : AC P f args h ks R := by
  refine ⟨hf.1, fun X I μ ob w cargs R0 hlen hargs hks => ?_⟩; have hlt : i < args.length := by
    by_cases h : i < args.length
    · exact h
    · rw [List.getD_eq_getElem?_getD, List.getElem?_eq_none (Nat.le_of_not_lt h)] at hi; cases hi
  have hv := hargs i hlt; rw [hi] at hv; generalize hc : cargs.getD i undef = c at hv
  cases hv with
  | full _ ad h0 =>
    have R1 : RepH X I (upd μ h.length (.slice ad l.length l.length)) (upd ob h.length none) (h ++ [.row E s l .lax]) w := R0.name (World.grownBy.refl _ none) (g := none) (by simp) ⟨hs, .inr ⟨rfl, Z6 _ _ _, ad, Z6 _ _ _, by rw [Z6]; exact h0⟩⟩; have h1 := hf.2 X I _ _ w cargs R1 (by simpa using hlen) (fun j hj => by
      simp only [List.length_set, List.length_append, List.length_singleton] at hj ⊢; by_cases e : i = j
      · subst e
        rw [List.getD_eq_getElem?_getD, List.getElem?_set_self hlt, hc]; exact .own _ _ _ _ (Nat.lt_succ_self _) (Z6 _ _ _)
      · rw [List.getD_eq_getElem?_getD, List.getElem?_set_ne e, ← List.getD_eq_getElem?_getD]
        exact (hargs j hj).mono (Nat.le_succ _) (fun b hb => Z3 _ _ (by omega)) (fun _ h => h) (fun _ _ => rfl)) (fun k hk => by
      rcases List.mem_cons.1 hk with rfl | hk
      · exact .inl R0.names
      · exact hks k hk)
    refine h1.mono ?_; rintro e w' ⟨cv, v, h', I', μ', ob', g1, R2, hv, hI, hμ, hle, hinew, hobn, hsame, hR⟩; have up : ∀ c g, upd ob h.length none c = some g → ob c = some g := fun c g hc => by
      by_cases e : c = h.length
      · subst e; rw [Z6] at hc; cases hc
      · rwa [Z3 _ _ e] at hc
    refine ⟨cv, v, h', I', μ', ob', g1, R2, hv, hI, fun c hc hn => ?_, by rw [List.length_append] at hle; omega, fun g hg => ?_, fun c g hc => ?_, fun g hg hno => hsame g hg (fun c hc => hno c (up c g hc)), hR⟩
    · rw [hμ c (by rw [List.length_append]; omega) (fun hm => (List.mem_cons.1 hm).elim (fun e => by omega) hn), Z3 _ _ (by omega)]
    · rcases hinew g hg with h1 | ⟨c, h1⟩ | h1
      · exact .inl h1
      · exact .inr (.inl ⟨c, up c g h1⟩)
      · exact .inr (.inr h1)
    · rcases hobn c g hc with ⟨d, h1⟩ | h1
      · exact .inl ⟨d, up d g h1⟩
      · exact .inr h1
end
end Go.AM
end

