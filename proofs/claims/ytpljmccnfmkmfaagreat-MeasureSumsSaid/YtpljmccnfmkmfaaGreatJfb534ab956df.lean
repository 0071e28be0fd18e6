/-
  Texts of this claim, joined.
-/
import Derived.Test.YtpljmccnfmkmfaaGreatJ1f8845d06104
import Derived.Lib.Bytealg
import Derived.KernelRfl

namespace Go.AM
open Go.RowKit

def AV.pvO (v : AV) : Option AV := match v with
  | .agg l => (AV.pvL l).bind fun ps => some (.p (.agg ps))
  | v => some v
def AV.pvTL : List AV → Option (List AV)
  | [] => some []
  | v :: l => match v.pvO with
    | some u => (match AV.pvTL l with | some m => some (u :: m) | none => none)
    | none => none
def AV.pvT (v : AV) : Option AV := match v with
  | .tup l => (AV.pvTL l).bind fun m => some (.tup m)
  | v => v.pvO
section
variable {n : Nat} {μ : Nat → Value} {I : Nat → Prop} {w : World}
theorem VR.pvO {x u : AV} {v : Value} (hx : VR n μ I w x v) (h : x.pvO = some u) : VR n μ I w u v := by
  unfold AV.pvO at h
  split at h
  · rename_i l
    obtain ⟨ps, h1, h2⟩ := Option.bind_eq_some_iff.1 h; injection h2 with h2; subst h2
    exact hx.pvp (by show (AV.pvL l).map PV.agg = _; rw [h1]; rfl)
  · injection h with h; subst h; exact hx
theorem AV.pvTL_get : ∀ {l m : List AV}, AV.pvTL l = some m → l.length = m.length ∧ ∀ i, i < l.length → (l.getD i .junk).pvO = some (m.getD i .junk)
  | [], m, h => by injection h with h; subst h; simp
  | v :: l, m, h => by
    unfold AV.pvTL at h
    split at h
    · rename_i u hu
      split at h
      · rename_i m' hm
        injection h with h; subst h
        obtain ⟨e1, e2⟩ := AV.pvTL_get hm; refine ⟨by simp [e1], fun i hi => ?_⟩
        cases i with
        | zero => simpa using hu
        | succ i => simpa using e2 i (by simpa using hi)
      · cases h
    · cases h
theorem VR.pvT {x u : AV} {v : Value} (hx : VR n μ I w x v) (h : x.pvT = some u) : VR n μ I w u v := by
  unfold AV.pvT at h
  split at h
  · rename_i l
    obtain ⟨m, h1, h2⟩ := Option.bind_eq_some_iff.1 h; injection h2 with h2; subst h2
    obtain ⟨cs, rfl, hl, hr⟩ := hx.tup_inv; obtain ⟨e1, e2⟩ := AV.pvTL_get h1; exact .tup _ _ (by omega) (fun i hi => (hr i (by omega)).pvO (e2 i (by omega)))
  · exact hx.pvO h
end

theorem PFn.of_acP {P : Program} {f : FuncId} {args vs : List PV} (h : AC P f (args.map .p) [] [] (fun v h' => v.pvT = some (Z06 (vs.map .p)) ∧ h' = [])) : PFn P f args vs := by
  refine ⟨h.1, fun I w cargs himm hlen hargs => ?_⟩
  let X : Ctx := { B0 := w.heap.size, w0 := w, I0 := I, μ0 := fun _ => undef, n0 := 0, ks := [], fz := fun _ => False, w1 := w }
  have R : RepH X I (fun _ => undef) (fun _ => none) [] w := {
      below := Below.refl _ _, base := Nat.le_refl _, imm := himm, ctx := fun _ h => h, frz := fun _ h => h.elim, inew := fun _ h => .inl h, may := fun _ _ => rfl, names := Nat.zero_le _
      own := fun b g h => (by cases h), sep := fun b b' g h => (by cases h), past := fun _ _ => rfl, objs := fun b o h => (by simp at h) }
  refine (h.2 X I _ _ w cargs R (by simpa using hlen) (fun i hi => by
    rw [List.length_map] at hi; rw [Z0d _ _ hi]; exact .p _ _ (hargs i hi)) (by simp)).mono ?_
  rintro e w' ⟨cv, v, h', I', μ', ob', rfl, R', hv, hI, _, _, hinew, _, _, hp, rfl⟩
  replace hv := hv.pvT hp
  exact ⟨cv, I', rfl, ⟨R'.below.os, R'.below.tape, R'.below.output, R'.below.size, fun k hk _ => R'.below.block k hk⟩, hI,
    fun g hg => (hinew g hg).elim .inl (fun h => h.elim (fun ⟨b, hb⟩ => by cases hb) (fun h => .inr ⟨h, R'.imm g hg⟩)), hv.mono (Nat.le_refl _) (fun b hb => absurd hb (Nat.not_lt_zero b)) (fun _ h => h) (fun _ _ => rfl)⟩

theorem AC.monoR {P : Program} {f : FuncId} {args : List AV} {h : List AObj} {ks : List Nat} {R R' : AV → List AObj → Prop} (hf : AC P f args h ks R) (hi : ∀ v h', R v h' → R' v h') : AC P f args h ks R' :=
  ⟨hf.1, fun X I μ ob w cargs a b c d => (hf.2 X I μ ob w cargs a b c d).mono fun _ _ ⟨cv, v, h', I', μ', ob', x1, x2, x3, x4, x5, x6, x7, x8, x9, x10⟩ => ⟨cv, v, h', I', μ', ob', x1, x2, x3, x4, x5, x6, x7, x8, x9, hi _ _ x10⟩⟩

def ixB (c : UInt8) : List UInt8 → Nat → Int
  | [], _ => -1
  | a :: l, k => match Nat.beq a.toNat c.toNat with | true => k | false => ixB c l (k + 1)
theorem Zfi (c : UInt8) : ∀ (l : List UInt8) (k : Nat), ixB c l k = if Lib.indexByte l c = -1 then -1 else Lib.indexByte l c + k
  | [], k => by simp [ixB, Lib.indexByte]
  | a :: l, k => by
    have ih := Zfi c l (k + 1); have hge := Lib.indexByte_ge l c; unfold ixB Lib.indexByte
    split
    · rename_i h
      have : a = c := UInt8.toNat_inj.1 (Nat.eq_of_beq_eq_true h); subst this; simp
    · rename_i h
      have : ¬ a = c := fun e => by subst e; simp at h
      rw [ih]; simp only [beq_iff_eq, this, if_false]
      split
      · rfl
      · rw [if_neg (by omega)]; omega
def cmpB (a b : List UInt8) : Int := match bLt a b with
  | true => -1
  | false => match bEq a b with | true => 0 | false => 1
theorem Zgi : ∀ a b : List UInt8, cmpB a b = Lib.compareBytes a b
  | [], [] => rfl
  | [], _ :: _ => rfl
  | _ :: _, [] => rfl
  | x :: a, y :: b => by
    have ih := Zgi a b; unfold Lib.compareBytes; rw [← ih]; have e1 : bLt (x :: a) (y :: b) = (match Nat.blt x.toNat y.toNat with | true => true | false => (match Nat.beq x.toNat y.toNat with | true => bLt a b | false => false)) := rfl; have e2 : bEq (x :: a) (y :: b) = (match Nat.beq x.toNat y.toNat with | true => bEq a b | false => false) := rfl; have e3 : ∀ u v : List UInt8, cmpB u v = (match bLt u v with | true => -1 | false => match bEq u v with | true => 0 | false => 1) := fun _ _ => rfl
    rw [e3 (x :: a), e1, e2]; rcases Nat.lt_trichotomy x.toNat y.toNat with h | h | h
    · have h1 : Nat.blt x.toNat y.toNat = true := (Nat.blt_eq (x := x.toNat)).symm.mp h
      have h2 : x < y := h; rw [h1, if_pos h2]
    · have h1 : Nat.blt x.toNat y.toNat = false := Bool.eq_false_iff.2 fun e => by have := (Nat.blt_eq (x := x.toNat)).mp e; omega
      have h2 : Nat.beq x.toNat y.toNat = true := by rw [h]; simp
      have h3 : ¬ x < y := fun e => by have : x.toNat < y.toNat := e; omega
      have h4 : ¬ y < x := fun e => by have : y.toNat < x.toNat := e; omega
      rw [h1, h2, if_neg h3, if_neg h4]; rfl
    · have h1 : Nat.blt x.toNat y.toNat = false := Bool.eq_false_iff.2 fun e => by have := (Nat.blt_eq (x := x.toNat)).mp e; omega
      have h2 : Nat.beq x.toNat y.toNat = false := Bool.eq_false_iff.2 fun e => by have := Nat.eq_of_beq_eq_true e; omega
      have h3 : ¬ x < y := fun e => by have : x.toNat < y.toNat := e; omega
      have h4 : y < x := h; rw [h1, h2, if_neg h3, if_pos h4]

theorem Zjf {P : Program} {f : FuncId} {fn : Func} (hf : P.funcs[f]? = some fn) (hname : (fn.name == "runtime.NumGoroutine") = false) (hb : fn.body.isNone = true) (hn : Extern.findNext fn = none)
    (he : Extern.find fn = some Extern.BytealgIndexByte.indexByte) (s : List UInt8) (c : Int) : AX P f [.p (.str s), .p (.int .u8 c)] (.p (.int .i64 (ixB c.toNat.toUInt8 s 0))) := by
  intro n μ I w cargs hl hr; obtain ⟨a, b, rfl⟩ : ∃ a b, cargs = [a, b] := by
    match cargs, hl with
    | [a, b], _ => exact ⟨a, b, rfl⟩
  obtain ⟨sb, rfl, rfl⟩ : ∃ sb : ByteArray, a = .string sb ∧ s = sb.data.toList := by
    have h0 := hr 0 (by simp)
    cases h0 with | p _ _ h => cases h with | str s => exact ⟨s, rfl, rfl⟩
  have hb' : b = .int .u8 c := by
    have h0 := hr 1 (by simp)
    cases h0 with | p _ _ h => cases h; rfl
  subst hb'; refine ⟨_, by rw [run_callFunc_extern hf hname hb hn he]; exact congrArg (fun r => Result.andThen r fun v w' => Result.ok (Next.value v) w') (Lib.run_indexByteString sb c w), ?_⟩; rw [Zfi]; have hge := Lib.indexByte_ge sb.data.toList c.toNat.toUInt8; have : (if Lib.indexByte sb.data.toList c.toNat.toUInt8 = -1 then -1 else Lib.indexByte sb.data.toList c.toNat.toUInt8 + ((0 : Nat) : Int)) = Lib.indexByte sb.data.toList c.toNat.toUInt8 := by
    split
    · omega
    · simp
  rw [this]; exact .mkInt _ _

theorem Zdm {P : Program} {f : FuncId} {fn : Func} (hf : P.funcs[f]? = some fn) (hname : (fn.name == "runtime.NumGoroutine") = false) (hb : fn.body.isNone = true) (hn : Extern.findNext fn = none)
    (he : Extern.find fn = some Extern.BytealgCompare.compare) (s t : List UInt8) : AX P f [.p (.str s), .p (.str t)] (.p (.int .i64 (cmpB s t))) := by
  intro n μ I w cargs hl hr; obtain ⟨a, b, rfl⟩ : ∃ a b, cargs = [a, b] := by
    match cargs, hl with
    | [a, b], _ => exact ⟨a, b, rfl⟩
  obtain ⟨sa, rfl, rfl⟩ : ∃ sb : ByteArray, a = .string sb ∧ s = sb.data.toList := by
    have h0 := hr 0 (by simp)
    cases h0 with | p _ _ h => cases h with | str s => exact ⟨s, rfl, rfl⟩
  obtain ⟨sb, rfl, rfl⟩ : ∃ sb : ByteArray, b = .string sb ∧ t = sb.data.toList := by
    have h0 := hr 1 (by simp)
    cases h0 with | p _ _ h => cases h with | str s => exact ⟨s, rfl, rfl⟩
  refine ⟨_, by rw [run_callFunc_extern hf hname hb hn he]; exact congrArg (fun r => Result.andThen r fun v w' => Result.ok (Next.value v) w') (Lib.run_compareString sa sb w), ?_⟩; rw [Zgi]; exact .mkInt _ _

theorem Zic {P : Program} (h : P.funcs.toList.all (fun fn => !(fn.name == "runtime.NumGoroutine")) = true) (f : FuncId) (fn : Func) (hf : P.funcs[f]? = some fn) : (fn.name == "runtime.NumGoroutine") = false := by
  rw [List.all_eq_true] at h; have := h fn (by rw [← Array.getElem?_toList] at hf; exact List.mem_of_getElem? hf)
  simpa using this
end Go.AM
