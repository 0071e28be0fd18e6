/-
  Texts of this claim, joined.
-/
import Derived.Test.YtnilegembmcelaaDoorJ02ea5e1884ed
import Derived.RangeFuncIn

section
namespace Go.AM
open Go.RowKit

def Ctx.sub (X : Ctx) (I : Nat → Prop) (μ : Nat → Value) (ob : Nat → Option Nat) (h : List AObj) (ks : List Nat) (w : World) : Ctx :=
  { B0 := X.B0, w0 := X.w0, I0 := I, μ0 := μ, n0 := h.length, ks := ks, fz := fun q => q < w.heap.size ∧ ∀ b : Nat, ob b ≠ some q, w1 := w }

section
variable {P : Program} {X : Ctx} {I I' : Nat → Prop} {μ μ' : Nat → Value} {ob ob' : Nat → Option Nat} {w w' : World} {h h' : List AObj} {ks : List Nat}

theorem RepH.into (RH : RepH X I μ ob h w) : RepH (X.sub I μ ob h ks w) I μ ob h w :=
  { below := RH.below, laid := RH.laid, base := RH.base, imm := RH.imm, ctx := fun _ h => h, frz := fun _ hg => ⟨hg.1, rfl⟩, inew := fun _ h => .inl h, may := fun _ _ => rfl, names := Nat.le_refl _
    own := fun b g hg => ⟨(RH.own b g hg).1, ⟨(RH.own b g hg).2.1.1, fun hz => hz.2 b hg⟩, (RH.own b g hg).2.2⟩, sep := RH.sep, past := RH.past, objs := RH.objs }

theorem RepH.back0 {ob3 : Nat → Option Nat} {h3 : List AObj} (RH : RepH X I μ ob h w) (hks : ∀ k ∈ ks, X.may k) (R3 : RepH (X.sub I μ ob h ks w) I' μ' ob3 h3 w') (hI : ∀ g, I g → I' g) :
    RepH X I' μ' ob3 h3 w' ∧ (∀ b, b < h.length → b ∉ ks → μ' b = μ b) ∧ h.length ≤ h3.length ∧ (∀ g, I' g → I g ∨ (∃ b, ob b = some g) ∨ w.heap.size ≤ g) ∧
      (∀ b g, ob3 b = some g → (∃ c, ob c = some g) ∨ w.heap.size ≤ g) ∧ (∀ g, g < w.heap.size → (∀ b, ob b ≠ some g) → w'.heap[g]? = w.heap[g]?) := by
  have hnf : ∀ g, (X.sub I μ ob h ks w).mine g → (∃ b, ob b = some g) ∨ w.heap.size ≤ g := fun g hg => by
    rcases Nat.lt_or_ge g w.heap.size with h1 | h1
    · refine .inl (Classical.byContradiction fun h2 => hg.2 ⟨h1, fun b hb => h2 ⟨b, hb⟩⟩)
    · exact .inr h1
  refine ⟨?_, fun b hb hk => ?_, R3.names, fun g hg => ?_, fun b g hb => ?_, fun g hg ho => ?_⟩
  · exact {
      below := R3.below, laid := R3.laid, base := R3.base, imm := R3.imm, ctx := fun g hg => hI g (RH.ctx g hg)
      frz := fun g hg => by
        have h1 := RH.frz g hg; have h2 := R3.frz g ⟨h1.1, fun b hb => (RH.own b g hb).2.1.2 hg⟩; exact ⟨h2.1, h2.2.trans h1.2⟩
      inew := fun g hg => by
        rcases R3.inew g hg with h1 | h1
        · exact RH.inew g h1
        · rcases hnf g h1 with ⟨b, hb⟩ | h2
          · exact .inr (RH.own b g hb).2.1
          · exact .inr (RH.fresh h2)
      may := fun b hb => by
        have hb1 : b < X.n0 := Nat.lt_of_not_le fun h1 => hb (.inl h1)
        have := RH.names; rw [R3.may b (fun h1 => h1.elim (fun h1 => by have h1 : h.length ≤ b := h1; omega) (fun h1 => hb (hks b h1)))]; exact RH.may b hb
      names := Nat.le_trans RH.names R3.names
      own := fun b g hb => by
        have h1 := R3.own b g hb; refine ⟨h1.1, ?_, h1.2.2⟩; rcases hnf g h1.2.1 with ⟨c, hc⟩ | h2
        · exact (RH.own c g hc).2.1
        · exact RH.fresh h2
      sep := R3.sep, past := R3.past, objs := R3.objs }
  · exact R3.may b (fun h1 => h1.elim (fun h1 => by have h1 : h.length ≤ b := h1; omega) hk)
  · rcases R3.inew g hg with h1 | h1
    · exact .inl h1
    · exact .inr (hnf g h1)
  · exact hnf g (R3.own b g hb).2.1
  · exact (R3.frz g ⟨hg, ho⟩).2

def Zjv (n : Nat) (v : AV) (h : List AObj) : Prop := n = h.length ∨ (v.under n = true ∧ (h.take n).all (AObj.under n) = true ∧ n ≤ h.length)

theorem RepH.keepN {n : Nat} {v : AV} {cv : Value} (R : RepH X I μ ob h w) (hn : X.n0 ≤ n) (hk : Zjv n v h) (hv : VR h.length μ I w v cv) : ∃ ob', RepH X I μ ob' (h.take n) w ∧ VR (h.take n).length μ I w v cv := by
  rcases hk with rfl | ⟨h1, h2, h3⟩
  · rw [List.take_length]; exact ⟨ob, R, hv⟩
  · refine ⟨_, R.trunc hn h3 h2, ?_⟩
    rw [List.length_take, Nat.min_eq_left h3]; exact hv.narrow h1

def Less (st st' : St) : Prop := ∀ X I w a, Now X I st w a → Now X I st' w a
theorem Less.refl (st : St) : Less st st := fun _ _ _ _ h => h
def Z92 (Γ : Gam) (rs : List ResultVar) (n0 : Nat) (R : AV → List AObj → Prop) (st : St) : Prop :=
  resK Γ st rs fun l => ∃ n, n0 ≤ n ∧ Zjv n (Z0a l) st.h ∧ R (Z0a l) (st.h.take n)

theorem AC.of_bodyE {Γ : Gam} {f : FuncId} {fn : Func} {c : Code} {args : List AV} {R : AV → List AObj → Prop} (hΓ : Zg P Γ) (hf : P.funcs[f]? = some fn) (hname : (fn.name == "runtime.NumGoroutine") = false) (hb : fn.body = some c)
    (hw : AWp ⟨P, Γ, h.length, ks⟩ none c (fun e st => Ends e ∧ ∃ st', Less st st' ∧ Z92 Γ fn.results.toList h.length R st') ⟨args ++ List.replicate (fn.ntmps - args.length) .junk, h⟩) : AC P f args h ks R := by
  refine ⟨Z06 hf hname hb, fun X I μ ob w cargs RH hlen hargs hks => ?_⟩; refine callsIn_wide.1 (?_ : CallsIn (Fw none) 0 P f cargs.toArray w _); refine callsIn_of_wp_marks hf hb trivial ?_; have hN : Now (X.sub I μ ob h ks w) I ⟨args ++ List.replicate (fn.ntmps - args.length) .junk, h⟩ w { tmps := cargs.toArray ++ Array.replicate (fn.ntmps - cargs.toArray.size) undef, defers := [] } := by
    refine ⟨I, μ, ob, fun _ h => h, { toRepH := RH.into, size := by simp [hlen], tmps := fun i hi => ?_, marks := ⟨[], rfl, List.nodup_nil, by simp⟩ }⟩; by_cases h1 : i < args.length
    · have e1 : (args ++ List.replicate (fn.ntmps - args.length) AV.junk).getD i AV.junk = args.getD i .junk := by
        simp only [List.getD_eq_getElem?_getD, List.getElem?_append_left h1]
      have e2 : (cargs.toArray ++ Array.replicate (fn.ntmps - cargs.toArray.size) undef).getD i undef = cargs.getD i undef := by
        rw [Z5m, Array.toList_append]; simp only [List.getD_eq_getElem?_getD]; rw [List.getElem?_append_left (by simpa using (show i < cargs.length by omega))]
      rw [e1, e2]; exact hargs i h1
    · have e1 : (args ++ List.replicate (fn.ntmps - args.length) AV.junk).getD i AV.junk = .junk := by
        simp only [List.getD_eq_getElem?_getD, List.getElem?_append_right (show args.length ≤ i by omega), List.getElem?_replicate]
        split <;> rfl
      rw [e1]; exact .junk _
  refine wpIn_mono (hw (X.sub I μ ob h ks w) I w _ ⟨rfl, rfl⟩ hN) ?_; rintro e a' w' ⟨st0, hN0, he, st', hless, hres⟩; obtain ⟨I', μ', ob', hI, R1⟩ := hless _ _ _ _ hN0; obtain ⟨rs, m1, m2, m3⟩ := R1.marks
  have hleave : LeavesInM (Fw none) 0 P fn a'.tmps (fun e w' => ∃ cv v h' I' μ' ob', e = .returned cv ∧ RepH X I' μ' ob' h' w' ∧ VR h'.length μ' I' w' v cv ∧ (∀ g, I g → I' g) ∧
      (∀ b, b < h.length → b ∉ ks → μ' b = μ b) ∧ h.length ≤ h'.length ∧ (∀ g, I' g → I g ∨ (∃ b, ob b = some g) ∨ w.heap.size ≤ g) ∧ (∀ b g, ob' b = some g → (∃ c, ob c = some g) ∨ w.heap.size ≤ g) ∧
      (∀ g, g < w.heap.size → (∀ b, ob b ≠ some g) → w'.heap[g]? = w.heap[g]?) ∧ R v h') a'.defers .returning w' := by
    refine Z3n rs m1 m2 (fun r hr => (m3 r hr).1) (fun w'' a1 a2 a3 a4 a5 => ?_); have R2 := R1.toRepH.put a1 a2 a3 a4 a5 (fun k hk => ⟨(m3 k hk).2.1, (m3 k hk).2.2.1, (m3 k hk).2.2.2⟩)
    have htm : ∀ i, i < st'.tmps.length → VR st'.h.length μ' I' w'' (st'.tmps.getD i .junk) (a'.tmps.getD i undef) := fun i hi =>
      (R1.tmps i hi).mono (Nat.le_refl _) (fun _ _ => rfl) (fun _ h => h) (fun g hg => a5 g (fun hm => (m3 g hm).2.2.1 hg))
    obtain ⟨l, cs, r1, r2, r3, n, hn, hu, r4⟩ := Z3y (E := ⟨P, Γ, h.length, ks⟩) (a := a') hΓ R2 htm _ hres; have hm : (fn.results.mapM (Z0d a'.tmps)).run P w'' = .ok cs.toArray w'' := by
      have h5 : fn.results.mapM (Z0d a'.tmps) = Functor.map List.toArray (fn.results.toList.mapM (Z0d a'.tmps)) := by
        conv => lhs; rw [← Array.toArray_toList (xs := fn.results)]
        exact List.mapM_toArray
      rw [h5]; simp [r1]
    have hv : VR st'.h.length μ' I' w'' (Z0a l) (if h : cs.toArray.size = 1 then cs.toArray[0] else .tuple cs.toArray) := by
      match l, cs, r2, r3 with
      | [x], [c], _, r3 => exact r3 0 (by simp)
      | [], [], _, _ => exact .tup [] [] rfl (by simp)
      | x :: y :: l, c :: d :: cs, h2, r3 => exact VR.tup _ (c :: d :: cs) h2 r3
    obtain ⟨ob5, R5, hv5⟩ := R2.keepN hn hu hv; obtain ⟨z1, z2, z3, z4, z5, z6⟩ := RH.back0 hks R5 hI; exact ⟨_, by rw [Z2z]; simp only [Sem.run_bind]; rw [hm]; rfl, _, Z0a l, _, I', μ', _, rfl, z1, hv5, hI, z2, z3, z4, z5, z6, r4⟩
  rcases he with rfl | rfl
  · exact hleave
  · exact hleave

end
end Go.AM
end

section
namespace Go.AM
open Go.RowKit

/-! ### Lists, as the kernel likes them -/
section
variable {α β : Type}
def aE (f : α → Bool) : List α → Bool
  | [] => true
  | a :: t => match f a with
    | true => aE f t
    | false => false
end

def bEq : List UInt8 → List UInt8 → Bool
  | [], m => (match m with | [] => true | _ :: _ => false)
  | a :: l, m => (match m with
    | [] => false
    | b :: t => (match Nat.beq a.toNat b.toNat with | true => bEq l t | false => false))
theorem Zcw (l m : List UInt8) : bEq l m = decide (l = m) := by
  rw [Bool.eq_iff_iff, decide_eq_true_eq]
  induction l generalizing m with
  | nil => cases m <;> simp [bEq]
  | cons a t ih =>
    cases m with
    | nil => simp [bEq]
    | cons b u =>
      have : bEq (a :: t) (b :: u) = (match Nat.beq a.toNat b.toNat with | true => bEq t u | false => false) := rfl; rw [this]
      cases hb : Nat.beq a.toNat b.toNat with
      | false =>
        have : a.toNat ≠ b.toNat := fun e => by rw [e] at hb; simp at hb
        simp only [Bool.false_eq_true, List.cons.injEq, false_iff, not_and]; intro e; exact absurd (by rw [e]) this
      | true =>
        have e : a = b := UInt8.toNat_inj.1 (Nat.eq_of_beq_eq_true hb); simp only [List.cons.injEq]; rw [ih]; simp [e]
def bLt : List UInt8 → List UInt8 → Bool
  | [], m => (match m with | [] => false | _ :: _ => true)
  | a :: l, m => (match m with
    | [] => false
    | b :: t => (match Nat.blt a.toNat b.toNat with
      | true => true
      | false => (match Nat.beq a.toNat b.toNat with | true => bLt l t | false => false)))
theorem Zar (l m : List UInt8) : bLt l m = Op.bytesLess l m := by
  induction l generalizing m with
  | nil => cases m <;> rfl
  | cons a t ih =>
    cases m with
    | nil => rfl
    | cons b u =>
      have : bLt (a :: t) (b :: u) = (match Nat.blt a.toNat b.toNat with | true => true | false => (match Nat.beq a.toNat b.toNat with | true => bLt t u | false => false)) := rfl; rw [this, ih]; have h0 : Op.bytesLess (a :: t) (b :: u) = (decide (a < b) || (a == b && Op.bytesLess t u)) := rfl; rw [h0]; have h1 : Nat.blt a.toNat b.toNat = decide (a < b) := by
        rw [Bool.eq_iff_iff, decide_eq_true_eq, UInt8.lt_iff_toNat_lt]; simp [Nat.blt]; omega
      have h2 : Nat.beq a.toNat b.toNat = (a == b) := by
        rw [Bool.eq_iff_iff, beq_iff_eq, ← UInt8.toNat_inj]; rw [Nat.beq_eq]
      rw [h1, h2]
      cases decide (a < b) <;> cases a == b <;> rfl

end Go.AM
end

section
namespace Go.AM
open Go.RowKit


/-! ### Names -/

structure EC where
  P : Program
  Γ : Gam
  ax : FuncId → List AV → Option AV

structure ECOK (C : EC) : Prop where
  Γ : Zg C.P C.Γ
  mix : C.P.follows .mixedOrders = true
  name : ∀ (f : FuncId) (fn : Func), C.P.funcs[f]? = some fn → (fn.name == "runtime.NumGoroutine") = false
  ax : ∀ f args v, C.ax f args = some v → AX C.P f args v ∨ ∀ h, AC C.P f args h [] (fun u h' => u = v ∧ h' = h)

end Go.AM
end

