/-
  Texts of this claim, joined.
-/
import Derived.Test.YtnilegembmcelaaDoorJff1b1cd1c358
import Derived.Lib.Bytealg
import Derived.KernelRfl

namespace Go.AM
open Go.RowKit


def ixB (c : UInt8) : List UInt8 → Nat → Int
  | [], _ => -1
  | a :: l, k => match Nat.beq a.toNat c.toNat with | true => k | false => ixB c l (k + 1)
theorem Za6 (c : UInt8) : ∀ (l : List UInt8) (k : Nat), ixB c l k = if Lib.indexByte l c = -1 then -1 else Lib.indexByte l c + k
  | [], k => by simp [ixB, Lib.indexByte]
  | a :: l, k => by
    have ih := Za6 c l (k + 1); have hge := Lib.indexByte_ge l c; unfold ixB Lib.indexByte
    split
    · rename_i h
      have : a = c := UInt8.toNat_inj.1 (Nat.eq_of_beq_eq_true h); subst this; simp
    · rename_i h
      have : ¬ a = c := fun e => by subst e; simp at h
      rw [ih]; simp only [beq_iff_eq, this, if_false]
      split
      · rfl
      · rw [if_neg (by omega)]; omega
def cmpB (a b : List UInt8) : Int := match bLt a b with
  | true => -1
  | false => match bEq a b with | true => 0 | false => 1
theorem Z5g : ∀ a b : List UInt8, cmpB a b = Lib.compareBytes a b
  | [], [] => rfl
  | [], _ :: _ => rfl
  | _ :: _, [] => rfl
  | x :: a, y :: b => by
    have ih := Z5g a b; unfold Lib.compareBytes; rw [← ih]; have e1 : bLt (x :: a) (y :: b) = (match Nat.blt x.toNat y.toNat with | true => true | false => (match Nat.beq x.toNat y.toNat with | true => bLt a b | false => false)) := rfl; have e2 : bEq (x :: a) (y :: b) = (match Nat.beq x.toNat y.toNat with | true => bEq a b | false => false) := rfl; have e3 : ∀ u v : List UInt8, cmpB u v = (match bLt u v with | true => -1 | false => match bEq u v with | true => 0 | false => 1) := fun _ _ => rfl
    rw [e3 (x :: a), e1, e2]; rcases Nat.lt_trichotomy x.toNat y.toNat with h | h | h
    · have h1 : Nat.blt x.toNat y.toNat = true := (Nat.blt_eq (x := x.toNat)).symm.mp h
      have h2 : x < y := h; rw [h1, if_pos h2]
    · have h1 : Nat.blt x.toNat y.toNat = false := Bool.eq_false_iff.2 fun e => by have := (Nat.blt_eq (x := x.toNat)).mp e; omega
      have h2 : Nat.beq x.toNat y.toNat = true := by rw [h]; simp
      have h3 : ¬ x < y := fun e => by have : x.toNat < y.toNat := e; omega
      have h4 : ¬ y < x := fun e => by have : y.toNat < x.toNat := e; omega
      rw [h1, h2, if_neg h3, if_neg h4]; rfl
    · have h1 : Nat.blt x.toNat y.toNat = false := Bool.eq_false_iff.2 fun e => by have := (Nat.blt_eq (x := x.toNat)).mp e; omega
      have h2 : Nat.beq x.toNat y.toNat = false := Bool.eq_false_iff.2 fun e => by have := Nat.eq_of_beq_eq_true e; omega
      have h3 : ¬ x < y := fun e => by have : x.toNat < y.toNat := e; omega
      have h4 : y < x := h; rw [h1, h2, if_neg h3, if_pos h4]

theorem Zbz {P : Program} {f : FuncId} {fn : Func} (hf : P.funcs[f]? = some fn) (hname : (fn.name == "runtime.NumGoroutine") = false) (hb : fn.body.isNone = true) (hn : Extern.findNext fn = none)
    (he : Extern.find fn = some Extern.BytealgIndexByte.indexByte) (s : List UInt8) (c : Int) : AX P f [.p (.str s), .p (.int .u8 c)] (.p (.int .i64 (ixB c.toNat.toUInt8 s 0))) := by
  intro n μ I w cargs hl hr; obtain ⟨a, b, rfl⟩ : ∃ a b, cargs = [a, b] := by
    match cargs, hl with
    | [a, b], _ => exact ⟨a, b, rfl⟩
  obtain ⟨sb, rfl, rfl⟩ : ∃ sb : ByteArray, a = .string sb ∧ s = sb.data.toList := by
    have h0 := hr 0 (by simp)
    cases h0 with | p _ _ h => cases h with | str s => exact ⟨s, rfl, rfl⟩
  have hb' : b = .int .u8 c := by
    have h0 := hr 1 (by simp)
    cases h0 with | p _ _ h => cases h; rfl
  subst hb'; refine ⟨_, by rw [run_callFunc_extern hf hname hb hn he]; exact congrArg (fun r => Result.andThen r fun v w' => Result.ok (Next.value v) w') (Lib.run_indexByteString sb c w), ?_⟩; rw [Za6]; have hge := Lib.indexByte_ge sb.data.toList c.toNat.toUInt8; have : (if Lib.indexByte sb.data.toList c.toNat.toUInt8 = -1 then -1 else Lib.indexByte sb.data.toList c.toNat.toUInt8 + ((0 : Nat) : Int)) = Lib.indexByte sb.data.toList c.toNat.toUInt8 := by
    split
    · omega
    · simp
  rw [this]; exact .mkInt _ _

theorem Z90 {P : Program} {f : FuncId} {fn : Func} (hf : P.funcs[f]? = some fn) (hname : (fn.name == "runtime.NumGoroutine") = false) (hb : fn.body.isNone = true) (hn : Extern.findNext fn = none)
    (he : Extern.find fn = some Extern.BytealgCompare.compare) (s t : List UInt8) : AX P f [.p (.str s), .p (.str t)] (.p (.int .i64 (cmpB s t))) := by
  intro n μ I w cargs hl hr; obtain ⟨a, b, rfl⟩ : ∃ a b, cargs = [a, b] := by
    match cargs, hl with
    | [a, b], _ => exact ⟨a, b, rfl⟩
  obtain ⟨sa, rfl, rfl⟩ : ∃ sb : ByteArray, a = .string sb ∧ s = sb.data.toList := by
    have h0 := hr 0 (by simp)
    cases h0 with | p _ _ h => cases h with | str s => exact ⟨s, rfl, rfl⟩
  obtain ⟨sb, rfl, rfl⟩ : ∃ sb : ByteArray, b = .string sb ∧ t = sb.data.toList := by
    have h0 := hr 1 (by simp)
    cases h0 with | p _ _ h => cases h with | str s => exact ⟨s, rfl, rfl⟩
  refine ⟨_, by rw [run_callFunc_extern hf hname hb hn he]; exact congrArg (fun r => Result.andThen r fun v w' => Result.ok (Next.value v) w') (Lib.run_compareString sa sb w), ?_⟩; rw [Z5g]; exact .mkInt _ _

end Go.AM
