/-
  Words: the checks of the program and of the reference.
-/
import Derived.Test.YtpancbdaigaheaaGa
namespace Go.Proofs.Ytpancbdaigaheaa
open Go Go.AM
set_option maxRecDepth 100000
set_option linter.unusedSimpArgs false

def L16 : List UInt8 := [48, 49, 50, 51, 52, 53, 54, 55, 56, 57, 97, 98, 99, 100, 101, 102]

theorem ixB_at (c : UInt8) : ∀ (l : List UInt8) (n k : Nat) (hk : k < l.length), (∀ j (hj : j < k), l[j] ≠ c) → l[k] = c → ixB c l n = ((n + k : Nat) : Int)
  | [], n, k, hk, _, _ => absurd hk (Nat.not_lt_zero k)
  | a :: l, n, 0, _, _, h => by
    have : a = c := h
    subst this; unfold ixB; simp
  | a :: l, n, k + 1, hk, h0, h => by
    have h1 : a ≠ c := h0 0 (by omega)
    have h2 : Nat.beq a.toNat c.toNat = false := Bool.eq_false_iff.2 fun e => h1 (UInt8.toNat_inj.1 (Nat.eq_of_beq_eq_true e))
    unfold ixB
    rw [h2]
    refine (ixB_at c l (n + 1) k (by simpa using hk) (fun j hj => h0 (j + 1) (by omega)) h).trans ?_
    congr 1; omega
theorem ixB_none (c : UInt8) : ∀ (l : List UInt8) (n : Nat), (∀ j (hj : j < l.length), l[j] ≠ c) → ixB c l n = -1
  | [], _, _ => rfl
  | a :: l, n, h0 => by
    have h1 : a ≠ c := h0 0 (by simp)
    have h2 : Nat.beq a.toNat c.toNat = false := Bool.eq_false_iff.2 fun e => h1 (UInt8.toNat_inj.1 (Nat.eq_of_beq_eq_true e))
    unfold ixB
    rw [h2]
    exact ixB_none c l (n + 1) (fun j hj => h0 (j + 1) (by simpa using hj))

theorem t99 (b : UInt8) : PFn Try.prog 99 [.int .u8 b.toNat] [.int .i64 (ixB b L16 0)] := by
  refine PFn.of_body hΓ Try.func99 (by kernel_rfl) rfl (AWp.of_awpD [] hΓ hmix (by kernel_rfl) ?_)
  simp +contextual -implicitDefEqProofs only [Try.ntmps99, Try.results99, Nat.reduceAdd, Nat.reduceSub, go_sem]
  refine AWp.loopI (fun k : Nat => ⟨mkF 13 [(0, .p (.int .u8 b.toNat)), (2, .p (.int .i64 0)), (3, .p (.int .i64 k))], []⟩)
    (fun k => k ≤ 16 ∧ ∀ j (hj : j < 16), j < k → L16[j]'hj ≠ b) (fun k => 16 - k) 0 (by simp [go_sem]) (by simp) ?_
  rintro k ⟨hk, h0⟩
  refine AWp.of_awpD [] hΓ hmix (by kernel_rfl) ?_
  simp +contextual -implicitDefEqProofs only [getD_map_lt, ↓reduceIte, go_sem]
  refine ⟨fun hlt => ⟨by omega, fun he => ?_, fun hne => ⟨by simp only [InR]; omega, k + 1, by simp, ⟨by omega, ?_⟩, by omega⟩⟩, fun hge => ?_⟩
  · have hk' : k < L16.length := by simp [L16]; omega
    have e : L16[k] = b := by
      rw [← UInt8.toNat_inj, ← he]
      show _ = (L16.getD k 0).toNat
      rw [List.getD_eq_getElem?_getD, List.getElem?_eq_getElem hk', Option.getD_some]
    rw [ixB_at b L16 0 k hk' (fun j hj => h0 j (by omega) hj) e]; simp
  · intro j hj hjk e
    by_cases hjk' : j < k
    · exact h0 j hj hjk' e
    · have : j = k := by omega
      subst this
      apply hne
      rw [← e]
      show (L16.getD j 0).toNat = _
      rw [List.getD_eq_getElem?_getD, List.getElem?_eq_getElem (by simpa [L16] using hj), Option.getD_some]; rfl
  · exact (ixB_none b L16 0 (fun j hj => h0 j (by simpa [L16] using hj) (by simp [L16] at hj; omega))).symm

theorem t79 (a b : List UInt8) : PFn Try.prog 79 [.str a, .str b] [.bool (if a.length ≠ b.length then decide (a.length < b.length) else Op.bytesLess a b)] := by
  refine PFn.of_body hΓ Try.func79 (by kernel_rfl) rfl (AWp.of_awpD [] hΓ hmix (by kernel_rfl) ?_)
  simp +contextual -implicitDefEqProofs only [Try.ntmps79, Try.results79, Nat.reduceAdd, Nat.reduceSub, go_sem]

def okB (q : Int) (b : UInt8) : Bool := decide (0 ≤ ixB b L16 0) && decide (ixB b L16 0 < q)
def okW (q : Int) (w : List UInt8) : Bool := w.all (okB q)
def wordCheck (q : Int) (w : List UInt8) : Int := if q < 1 ∨ 16 < q then 12 else if 65536 < w.length then 4 else if okW q w then 0 else 13

theorem okW_step {q : Int} {w : List UInt8} {k : Nat} (hk : k < w.length) (h0 : okW q (w.take k) = true) (h1 : okB q (w.getD k 0) = true) : okW q (w.take (k + 1)) = true := by
  rw [List.getD_eq_getElem?_getD, List.getElem?_eq_getElem hk, Option.getD_some] at h1
  rw [List.take_succ_eq_append_getElem hk]
  unfold okW at h0 ⊢
  rw [List.all_append, h0]; simp [h1]
theorem wordCheck_bad {q : Int} {w : List UInt8} {k : Nat} (hq : ¬ q < 1) (hq2 : ¬ 16 < q) (hl : ¬ 65536 < w.length) (hk : k < w.length) (h1 : okB q (w.getD k 0) = false) : wordCheck q w = 13 := by
  rw [List.getD_eq_getElem?_getD, List.getElem?_eq_getElem hk, Option.getD_some] at h1
  unfold wordCheck
  rw [if_neg (by omega), if_neg hl, if_neg]
  intro h
  have := List.all_eq_true.1 h _ (List.getElem_mem hk)
  rw [h1] at this; cases this
theorem wordCheck_good {q : Int} {w : List UInt8} (hq : ¬ q < 1) (hq2 : ¬ 16 < q) (hl : ¬ 65536 < w.length) (h1 : okW q w = true) : wordCheck q w = 0 := by
  unfold wordCheck
  rw [if_neg (by omega), if_neg hl, if_pos h1]
theorem wordCheck_12 {q : Int} {w : List UInt8} (hq : q < 1 ∨ 16 < q) : wordCheck q w = 12 := by unfold wordCheck; rw [if_pos hq]
theorem wordCheck_4 {q : Int} {w : List UInt8} (hq : ¬ q < 1) (hq2 : ¬ 16 < q) (hl : 65536 < w.length) : wordCheck q w = 4 := by unfold wordCheck; rw [if_neg (by omega), if_pos hl]

theorem t78 (q : Int) (w : List UInt8) : PFn Try.prog 78 [.int .i64 q, .str w] [.int .i64 (wordCheck q w)] := by
  refine PFn.of_body hΓ Try.func78 (by kernel_rfl) rfl (AWp.of_awpD [] hΓ hmix (by kernel_rfl) ?_)
  simp +contextual -implicitDefEqProofs only [Try.ntmps78, Try.results78, Nat.reduceAdd, Nat.reduceSub, go_sem]
  refine ⟨fun h => (wordCheck_12 (.inl h)).symm, fun h1 => ⟨fun h => (wordCheck_12 (.inr h)).symm, fun h2 => ⟨fun h => (wordCheck_4 h1 h2 (by omega)).symm, fun h3 => ?_⟩⟩⟩
  have h3' : ¬ 65536 < w.length := by omega
  refine AWp.loopI (fun k : Nat => ⟨mkF 33 [(0, .p (.int .i64 q)), (1, .p (.str w)), (4, .p (.int .i64 0)), (5, .p (.int .i64 k))], []⟩)
    (fun k => k ≤ w.length ∧ okW q (w.take k) = true) (fun k => w.length - k) 0 (by simp [go_sem]) (by simp [okW]) ?_
  rintro k ⟨hk, h0⟩
  refine AWp.of_awpD [] hΓ hmix (by kernel_rfl) ?_
  simp +contextual -implicitDefEqProofs only [getD_map_lt, ↓reduceIte, go_sem]
  refine ⟨fun hlt => callK_fn (t99 (w.getD k 0)) (.pures rfl) ?_, fun hge => ?_⟩
  · simp +contextual -implicitDefEqProofs only [hlt, ↓reduceIte, go_sem]
    have good : okB q (w.getD k 0) = true → InR .i64 ((k : Int) + 1) ∧ ∃ y : Nat, (y : Int) = (k : Int) + 1 ∧ (y ≤ w.length ∧ okW q (w.take y) = true) ∧ w.length - y < w.length - k := fun h => ⟨by simp only [InR]; omega, k + 1, by simp, ⟨hlt, okW_step hlt h0 h⟩, by omega⟩
    have bad : okB q (w.getD k 0) = false → (13 : Int) = wordCheck q w := fun h => (wordCheck_bad h1 h2 h3' hlt h).symm
    refine ⟨fun e1 => bad ?_, fun e1 => ⟨fun e2 => bad ?_, fun e2 => good ?_⟩⟩
    · unfold okB; rw [decide_eq_false (by omega)]; rfl
    · unfold okB; rw [decide_eq_false (p := ixB (w.getD k 0) L16 0 < q) (by omega), Bool.and_false]
    · unfold okB; rw [decide_eq_true (by omega), decide_eq_true (by omega)]; rfl
  · rw [List.take_of_length_le (by omega)] at h0
    exact (wordCheck_good h1 h2 h3' h0).symm

theorem ixB_take (c : UInt8) : ∀ (l : List UInt8) (k m : Nat), decide (ixB c (l.take m) k < 0) = !(decide (0 ≤ ixB c l k) && decide (ixB c l k < k + m))
  | [], k, m => by simp [ixB]
  | a :: l, k, 0 => by
    have := ixB_eq c (a :: l) k
    have hge := Lib.indexByte_ge (a :: l) c
    rw [List.take_zero, this]
    simp only [ixB]
    split <;> simp <;> omega
  | a :: l, k, m + 1 => by
    have ih := ixB_take c l (k + 1) m
    rw [List.take_succ_cons]
    unfold ixB
    cases h : Nat.beq a.toNat c.toNat
    · simp only [h]
      rw [ih]
      congr 3
      push_cast; exact propext ⟨fun h => by omega, fun h => by omega⟩
    · simp only [h]
      rw [decide_eq_false (by omega), decide_eq_true (by omega), decide_eq_true (by omega)]; rfl

theorem t80 (q : Int) (w : List UInt8) : PFn Try.prog 80 [.int .i64 q, .str w] [.int .i64 (wordCheck q w)] := by
  refine PFn.of_body hΓ Try.func80 (by kernel_rfl) rfl (AWp.of_awpD [(8, 7)] hΓ hmix (by kernel_rfl) ?_)
  simp +contextual -implicitDefEqProofs only [Try.ntmps80, Try.results80, Nat.reduceAdd, Nat.reduceSub, go_sem]
  refine callK_fn (t100 q) (.pures rfl) ?_
  cases hq : (decide (1 ≤ q) && decide (q ≤ 16))
  · simp -implicitDefEqProofs only [go_sem]
    simp only [Bool.and_eq_false_iff, decide_eq_false_iff_not] at hq
    exact (wordCheck_12 (by omega)).symm
  simp -implicitDefEqProofs only [go_sem]
  simp only [Bool.and_eq_true, decide_eq_true_eq] at hq
  refine ⟨fun h3 => (wordCheck_4 (by omega) (by omega) (by omega)).symm, fun h3 => ?_⟩
  have h1 : ¬ q < 1 := by omega
  have h2 : ¬ 16 < q := by omega
  have h3' : ¬ 65536 < w.length := by omega
  refine AWp.loopI (fun k : Nat => ⟨mkF 27 [(0, .p (.int .i64 q)), (1, .p (.str w)), (4, .p (.int .i64 0)), (15, .p (.int .i64 w.length)), (16, .p (.int .i64 k))], []⟩)
    (fun k => k ≤ w.length ∧ okW q (w.take k) = true) (fun k => w.length - k) 0 (by simp [go_sem]) (by simp [okW]) ?_
  rintro k ⟨hk, h0⟩
  refine AWp.of_awpD [(8, 7)] hΓ hmix (by kernel_rfl) ?_
  simp +contextual -implicitDefEqProofs only [getD_map_lt, ↓reduceIte, go_sem]
  refine ⟨fun hlt => ⟨by omega, callVPK_fn (t101 _ (w.getD k 0).toNat) (.pures rfl) ?_⟩, fun hge => ?_⟩
  · simp +contextual -implicitDefEqProofs only [hlt, ↓reduceIte, go_sem]
    have good : okB q (w.getD k 0) = true → InR .i64 ((k : Int) + 1) ∧ ∃ y : Nat, (y : Int) = (k : Int) + 1 ∧ (y ≤ w.length ∧ okW q (w.take y) = true) ∧ w.length - y < w.length - k := fun h => ⟨by simp only [InR]; omega, k + 1, by simp, ⟨hlt, okW_step hlt h0 h⟩, by omega⟩
    have bad : okB q (w.getD k 0) = false → (13 : Int) = wordCheck q w := fun h => (wordCheck_bad h1 h2 h3' hlt h).symm
    have key : decide (ixB (w.getD k 0) (L16.take q.toNat) 0 < 0) = !okB q (w.getD k 0) := by
      rw [ixB_take, okB, show ((0 : Nat) : Int) + (q.toNat : Nat) = q by omega]
    have e : (w.getD k 0).toNat.toUInt8 = w.getD k 0 := by simp
    rw [e]
    refine ⟨fun e1 => bad ?_, fun e1 => good ?_⟩
    · have := decide_eq_true e1
      rw [show ixB (w.getD k 0) (List.take q.toNat [48, 49, 50, 51, 52, 53, 54, 55, 56, 57, 97, 98, 99, 100, 101, 102]) 0 = ixB (w.getD k 0) (L16.take q.toNat) 0 from rfl, key] at this
      simpa using this
    · have := decide_eq_false e1
      rw [show ixB (w.getD k 0) (List.take q.toNat [48, 49, 50, 51, 52, 53, 54, 55, 56, 57, 97, 98, 99, 100, 101, 102]) 0 = ixB (w.getD k 0) (L16.take q.toNat) 0 from rfl, key] at this
      simpa using this
  · rw [List.take_of_length_le (by omega)] at h0
    exact (wordCheck_good h1 h2 h3' h0).symm
end Go.Proofs.Ytpancbdaigaheaa
