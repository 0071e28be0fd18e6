/-
  Naturals as lists of digits: values, trimmed lists.
  integer.digits: an integer's digits.
  integer.add: the sum's digits.
  integer.number: the canonical integer of a sign and an absolute value.
  integer.Of and integer.Add of numbers that are not negative.
  Readings of a word: all lists of words whose concatenation it is, and their number.
  code.counts and code.Count: the number of readings.
  integer.compare, subtract, Neg, Sub and Compare.
  Readings as lists of indices, in their order.
-/
import Derived.Test.YtgkbafkmbokkaaaJ5140b6250559
import Derived.Test.YtgkbafkmbokkaaaJ16a1c712b009

section
namespace Go.Proofs.Ytgkbafkmbokkaaa
open Go Go.AM
set_option maxRecDepth 100000
set_option linter.unusedSimpArgs false

/-- A sum of n terms. -/
def sumN (F : Nat → Nat) : Nat → Nat
  | 0 => 0
  | n + 1 => sumN F n + F n
theorem sumN_congr {F G : Nat → Nat} : ∀ {n : Nat}, (∀ j, j < n → F j = G j) → sumN F n = sumN G n
  | 0, _ => rfl
  | n + 1, h => by unfold sumN; rw [sumN_congr (fun j hj => h j (by omega)), h n (by omega)]
theorem sumN_head (F : Nat → Nat) : ∀ n, sumN F (n + 1) = F 0 + sumN (fun j => F (j + 1)) n
  | 0 => by simp [sumN]
  | n + 1 => by
    have ih := sumN_head F n
    have e1 : sumN F (n + 1 + 1) = sumN F (n + 1) + F (n + 1) := rfl
    have e2 : sumN (fun j => F (j + 1)) (n + 1) = sumN (fun j => F (j + 1)) n + F (n + 1) := rfl
    omega
theorem sumN_mul (F : Nat → Nat) (c : Nat) : ∀ n, sumN (fun j => c * F j) n = c * sumN F n
  | 0 => by simp [sumN]
  | n + 1 => by
    have ih := sumN_mul F c n
    have e1 : sumN (fun j => c * F j) (n + 1) = sumN (fun j => c * F j) n + c * F n := rfl
    have e2 : sumN F (n + 1) = sumN F n + F n := rfl
    rw [e1, e2, ih, Nat.mul_add]
theorem sumN_zero {F : Nat → Nat} : ∀ {n : Nat}, (∀ j, j < n → F j = 0) → sumN F n = 0
  | 0, _ => rfl
  | n + 1, h => by unfold sumN; rw [sumN_zero (fun j hj => h j (by omega)), h n (by omega)]
theorem sumN_split (F : Nat → Nat) (m : Nat) : ∀ n, sumN F (m + n) = sumN F m + sumN (fun j => F (m + j)) n
  | 0 => by simp [sumN]
  | n + 1 => by
    have ih := sumN_split F m n
    have e1 : sumN F (m + (n + 1)) = sumN F (m + n) + F (m + n) := rfl
    have e2 : sumN (fun j => F (m + j)) (n + 1) = sumN (fun j => F (m + j)) n + F (m + n) := rfl
    omega

/-- The value of a list of digits, the least one first. -/
def valD (B : Nat) : List Nat → Nat
  | [] => 0
  | d :: l => d + B * valD B l
theorem valD_sum (B : Nat) : ∀ l : List Nat, valD B l = sumN (fun j => l.getD j 0 * B ^ j) l.length
  | [] => rfl
  | d :: l => by
    have ih := valD_sum B l
    rw [List.length_cons, sumN_head]
    have e : sumN (fun j => (d :: l).getD (j + 1) 0 * B ^ (j + 1)) l.length = B * sumN (fun j => l.getD j 0 * B ^ j) l.length := by
      rw [← sumN_mul]
      refine sumN_congr fun j _ => ?_
      simp only [List.getD_cons_succ, Nat.pow_succ]
      rw [← Nat.mul_assoc, Nat.mul_comm]
    rw [e, ← ih]
    simp [valD]
theorem valD_append (B : Nat) : ∀ l m : List Nat, valD B (l ++ m) = valD B l + B ^ l.length * valD B m
  | [], m => by simp [valD]
  | d :: l, m => by
    have ih := valD_append B l m
    have e : ∀ x, valD B (d :: x) = d + B * valD B x := fun _ => rfl
    rw [List.cons_append, e, e, ih, List.length_cons, Nat.pow_succ, Nat.mul_add, ← Nat.mul_assoc, Nat.mul_comm (B ^ l.length) B, Nat.add_assoc]
theorem valD_zeros (B n : Nat) : valD B (List.replicate n 0) = 0 := by
  induction n with
  | zero => rfl
  | succ n ih => rw [List.replicate_succ]; unfold valD; rw [ih]; simp

/-- Without zeros at the end. -/
def Canon (B : Nat) (l : List Nat) : Prop := (∀ d ∈ l, d < B) ∧ l.getLast? ≠ some 0
theorem canon_tail {B d : Nat} {l : List Nat} (h : Canon B (d :: l)) : Canon B l := by
  refine ⟨fun x hx => h.1 x (by simp [hx]), ?_⟩
  cases l with
  | nil => simp
  | cons e m => have := h.2; simpa using this
theorem canon_zero {B : Nat} (hB : 0 < B) : ∀ {l : List Nat}, Canon B l → valD B l = 0 → l = []
  | [], _, _ => rfl
  | d :: l, h, hv => by
    unfold valD at hv
    have h1 : d = 0 := by omega
    have h2 : B * valD B l = 0 := by omega
    have h3 : valD B l = 0 := (Nat.mul_eq_zero.1 h2).elim (fun h => by omega) id
    have := canon_zero hB (canon_tail h) h3
    subst this
    exact absurd (by simp [h1]) h.2
theorem canon_unique {B : Nat} (hB : 0 < B) : ∀ {l m : List Nat}, Canon B l → Canon B m → valD B l = valD B m → l = m
  | [], m, _, hm, hv => (canon_zero hB hm hv.symm).symm
  | d :: l, [], hl, _, hv => absurd (canon_zero hB hl hv) (by simp)
  | d :: l, e :: m, hl, hm, hv => by
    unfold valD at hv
    have h1 := hl.1 d (by simp)
    have h2 := hm.1 e (by simp)
    have hd : d = e := by
      have := congrArg (· % B) hv
      simp only [Nat.add_mul_mod_self_left] at this
      rwa [Nat.mod_eq_of_lt h1, Nat.mod_eq_of_lt h2] at this
    subst hd
    have h3 : B * valD B l = B * valD B m := by omega
    rw [canon_unique hB (canon_tail hl) (canon_tail hm) (Nat.eq_of_mul_eq_mul_left hB h3)]

/-- A number's digits. -/
def digF (B : Nat) : Nat → Nat → List Nat
  | 0, _ => []
  | f + 1, n => if n = 0 then [] else n % B :: digF B f (n / B)
def digD (B n : Nat) : List Nat := digF B n n
theorem digF_val {B : Nat} (hB : 2 ≤ B) : ∀ f n, n ≤ f → valD B (digF B f n) = n ∧ Canon B (digF B f n)
  | 0, n, h => by
    have : n = 0 := by omega
    subst this; exact ⟨rfl, by simp [Canon, digF]⟩
  | f + 1, n, h => by
    unfold digF
    by_cases h0 : n = 0
    · subst h0; rw [if_pos rfl]; exact ⟨rfl, by simp [Canon]⟩
    · rw [if_neg h0]
      have hd : n / B < n := Nat.div_lt_self (by omega) (by omega)
      obtain ⟨h1, h2⟩ := digF_val hB f (n / B) (by omega)
      refine ⟨?_, fun x hx => ?_, ?_⟩
      · unfold valD; rw [h1]; exact Nat.mod_add_div n B
      · rcases List.mem_cons.1 hx with rfl | hx
        · exact Nat.mod_lt _ (by omega)
        · exact h2.1 x hx
      · cases hl : digF B f (n / B) with
        | nil =>
          rw [hl] at h1
          have h3 : n / B = 0 := h1.symm
          have : n % B = n := Nat.mod_eq_of_lt (by
            rcases Nat.lt_or_ge n B with h | h
            · exact h
            · have := Nat.div_pos h (by omega); omega)
          simp [this, h0]
        | cons e m =>
          have := h2.2
          rw [hl] at this
          simpa using this
theorem digD_val {B : Nat} (hB : 2 ≤ B) (n : Nat) : valD B (digD B n) = n := (digF_val hB n n (Nat.le_refl _)).1
theorem digD_canon {B : Nat} (hB : 2 ≤ B) (n : Nat) : Canon B (digD B n) := (digF_val hB n n (Nat.le_refl _)).2
theorem digD_of {B : Nat} (hB : 2 ≤ B) {l : List Nat} (h : Canon B l) : digD B (valD B l) = l := canon_unique (by omega) (digD_canon hB _) h (digD_val hB _)

/-- A list without its zeros at the end. -/
def trimN (l : List Nat) : Nat → List Nat
  | 0 => []
  | k + 1 => if l.getD k 0 = 0 then trimN l k else l.take (k + 1)
def trimL (l : List Nat) : List Nat := trimN l l.length
theorem trimN_val (B : Nat) (l : List Nat) : ∀ k, k ≤ l.length → valD B (trimN l k) = valD B (l.take k)
  | 0, _ => by simp [trimN]
  | k + 1, h => by
    unfold trimN
    split
    · rename_i h0
      rw [trimN_val B l k (by omega), List.take_succ_eq_append_getElem (by omega), valD_append]
      rw [List.getD_eq_getElem?_getD, List.getElem?_eq_getElem (by omega), Option.getD_some] at h0
      simp [valD, h0]
    · rfl
theorem trimL_val (B : Nat) (l : List Nat) : valD B (trimL l) = valD B l := by
  unfold trimL; rw [trimN_val B l _ (Nat.le_refl _), List.take_length]
theorem trimN_canon {B : Nat} {l : List Nat} (hl : ∀ d ∈ l, d < B) : ∀ k, k ≤ l.length → Canon B (trimN l k)
  | 0, _ => by simp [trimN, Canon]
  | k + 1, h => by
    unfold trimN
    split
    · exact trimN_canon hl k (by omega)
    · rename_i h0
      refine ⟨fun d hd => hl d (List.mem_of_mem_take hd), ?_⟩
      rw [List.getD_eq_getElem?_getD, List.getElem?_eq_getElem (by omega), Option.getD_some] at h0
      rw [List.take_succ_eq_append_getElem (by omega), List.getLast?_concat]
      intro e; injection e with e; exact h0 e
theorem trimL_canon {B : Nat} {l : List Nat} (hl : ∀ d ∈ l, d < B) : Canon B (trimL l) := trimN_canon hl _ (Nat.le_refl _)
theorem trimL_eq {B : Nat} (hB : 2 ≤ B) {l : List Nat} (hl : ∀ d ∈ l, d < B) : trimL l = digD B (valD B l) := by
  rw [← trimL_val, digD_of hB (trimL_canon hl)]

/-! ### The program's naturals -/
def B32 : Nat := 4294967296
def u32V (d : Nat) : PV := .int .u32 (d : Int)
def natV (l : List Nat) : PV := .sl (l.map u32V)

theorem size_u32 (l : List Nat) : sizeOK (l.map u32V) 1 := fun x hx => by
  obtain ⟨b, _, rfl⟩ := List.mem_map.1 hx
  rfl

theorem u91 (l : List Nat) (hl : l.length ≤ 2000000) : PFn Try.prog 91 [natV l] [natV (trimL l)] := by
  refine PFn.of_body hΓ Try.func91 (by kernel_rfl) rfl (AWp.of_awpD [] hΓ hmix (by kernel_rfl) ?_)
  simp -implicitDefEqProofs only [Try.ntmps91, Try.results91, Nat.reduceAdd, Nat.reduceSub, natV, go_sem]
  refine AWp.loopI (fun k : Nat => ⟨mkF 21 [(0, .p (natV (l.take k)))], []⟩)
    (fun k => k ≤ l.length ∧ trimN l k = trimL l) (fun k => k) l.length (by simp [go_sem, natV]) ⟨Nat.le_refl _, rfl⟩ ?_
  rintro k ⟨hk, ht⟩
  refine AWp.of_awpD [] hΓ hmix (by kernel_rfl) ?_
  cases k with
  | zero =>
    have hz : ¬ (0 : Int) < ((0 : Nat) : Int) := by omega
    simp -implicitDefEqProofs only [natV, List.take_zero, List.map_nil, hz, go_sem]
    rw [← ht]; rfl
  | succ k =>
    have hk' : k < l.length := hk
    have hln : (l.take (k + 1)).length = k + 1 := by simp; omega
    have h1 : (0 : Int) < ((k + 1 : Nat) : Int) := by omega
    have h2 : (((k + 1 : Nat) : Int) - 1).toNat = k := by omega
    have hget : ((l.take (k + 1)).map u32V).getD k default = .int .u32 (l.getD k 0 : Nat) := by
      rw [getD_map_lt _ _ _ _ (by rw [hln]; omega), List.getElem_take, List.getD_eq_getElem?_getD, List.getElem?_eq_getElem hk', Option.getD_some]; rfl
    have ht' : trimN l (k + 1) = if l.getD k 0 = 0 then trimN l k else l.take (k + 1) := rfl
    by_cases h0 : l.getD k 0 = 0
    · have h0' : ((l.getD k 0 : Nat) : Int) = 0 := by omega
      rw [if_pos h0] at ht'
      simp -implicitDefEqProofs only [natV, List.length_map, hln, h1, h2, hget, h0', go_sem]
      refine ⟨by simp only [InR]; omega, ⟨by omega, by omega⟩, by simp only [InR]; omega, size_u32 _, ⟨by omega, by omega⟩, k, ?_, ⟨by omega, by rw [← ht', ht]⟩, by omega⟩
      rw [← List.map_take, List.take_take, Nat.min_eq_left (by omega)]
    · have h0' : ¬ ((l.getD k 0 : Nat) : Int) = 0 := by omega
      rw [if_neg h0] at ht'
      simp -implicitDefEqProofs only [natV, List.length_map, hln, h1, h2, hget, h0', go_sem]
      exact ⟨by simp only [InR]; omega, ⟨by omega, by omega⟩, by rw [← ht', ht]⟩

/-! ### A number's bytes and digits -/
/-- Byte i of a list of bytes, the least one first; nothing from n on. -/
def byN (bs : List Nat) (n i : Nat) : Nat := if i < n then bs.getD i 0 else 0
/-- Digit j of these, four bytes each. -/
def grp (bs : List Nat) (n j : Nat) : Nat := byN bs n (4 * j) + 256 * byN bs n (4 * j + 1) + 65536 * byN bs n (4 * j + 2) + 16777216 * byN bs n (4 * j + 3)
def grpL (bs : List Nat) (n L : Nat) : List Nat := (List.range L).map (grp bs n)
theorem grpL_len (bs : List Nat) (n L : Nat) : (grpL bs n L).length = L := by simp [grpL]
theorem grpL_get {bs : List Nat} {n L j : Nat} (h : j < L) : (grpL bs n L)[j]? = some (grp bs n j) := by simp [grpL, List.getElem?_map, List.getElem?_range h]
theorem byN_lt {bs : List Nat} (hb : ∀ b ∈ bs, b < 256) (n i : Nat) : byN bs n i < 256 := by
  unfold byN
  split
  · rw [List.getD_eq_getElem?_getD]
    cases h : bs[i]? with
    | none => simp
    | some b => exact hb b (List.mem_of_getElem? h)
  · omega
theorem grp_lt {bs : List Nat} (hb : ∀ b ∈ bs, b < 256) (n j : Nat) : grp bs n j < B32 := by
  have h0 := byN_lt hb n (4 * j)
  have h1 := byN_lt hb n (4 * j + 1)
  have h2 := byN_lt hb n (4 * j + 2)
  have h3 := byN_lt hb n (4 * j + 3)
  unfold grp B32
  omega
theorem byN_succ (bs : List Nat) (n i : Nat) : byN bs (n + 1) i = if i = n then bs.getD n 0 else byN bs n i := by
  unfold byN
  by_cases h : i = n
  · subst h; simp
  · rw [if_neg h]
    by_cases h2 : i < n
    · rw [if_pos h2, if_pos (by omega)]
    · rw [if_neg h2, if_neg (by omega)]
theorem grp_other {bs : List Nat} {n j : Nat} (h : n / 4 ≠ j) : grp bs (n + 1) j = grp bs n j := by
  unfold grp
  rw [byN_succ, byN_succ, byN_succ, byN_succ, if_neg (by omega), if_neg (by omega), if_neg (by omega), if_neg (by omega)]
theorem grp_zero (bs : List Nat) (j : Nat) : grp bs 0 j = 0 := by simp [grp, byN]
/-- One more byte: it lies above the others. -/
theorem grp_step (bs : List Nat) (hb : ∀ b ∈ bs, b < 256) (n : Nat) : grp bs (n + 1) (n / 4) = grp bs n (n / 4) + bs.getD n 0 * 256 ^ (n % 4) ∧ grp bs n (n / 4) < 256 ^ (n % 4) := by
  have h0 := byN_lt hb n (4 * (n / 4))
  have h1 := byN_lt hb n (4 * (n / 4) + 1)
  have h2 := byN_lt hb n (4 * (n / 4) + 2)
  have hz : ∀ i, n ≤ i → byN bs n i = 0 := fun i hi => by unfold byN; rw [if_neg (by omega)]
  have hm : n % 4 < 4 := Nat.mod_lt _ (by omega)
  have hn : n = 4 * (n / 4) + n % 4 := (Nat.div_add_mod n 4).symm
  unfold grp
  rw [byN_succ, byN_succ, byN_succ, byN_succ]
  generalize hq : n / 4 = q at *
  generalize hr : n % 4 = r at *
  rcases (by omega : r = 0 ∨ r = 1 ∨ r = 2 ∨ r = 3) with rfl | rfl | rfl | rfl
  · rw [if_pos (by omega), if_neg (by omega), if_neg (by omega), if_neg (by omega), hz (4 * q) (by omega), hz (4 * q + 1) (by omega), hz (4 * q + 2) (by omega), hz (4 * q + 3) (by omega)]
    omega
  · rw [if_neg (by omega), if_pos (by omega), if_neg (by omega), if_neg (by omega), hz (4 * q + 1) (by omega), hz (4 * q + 2) (by omega), hz (4 * q + 3) (by omega)]
    omega
  · rw [if_neg (by omega), if_neg (by omega), if_pos (by omega), if_neg (by omega), hz (4 * q + 2) (by omega), hz (4 * q + 3) (by omega)]
    omega
  · rw [if_neg (by omega), if_neg (by omega), if_neg (by omega), if_pos (by omega), hz (4 * q + 3) (by omega)]
    omega

theorem pow_four (j : Nat) : (256 : Nat) ^ (4 * j) = B32 ^ j := by
  rw [Nat.pow_mul]; rfl
/-- All bytes: the digits' value is the bytes'. -/
theorem grp_val (bs : List Nat) (n : Nat) : ∀ L, sumN (fun j => grp bs n j * B32 ^ j) L = sumN (fun i => byN bs n i * 256 ^ i) (4 * L)
  | 0 => rfl
  | L + 1 => by
    have ih := grp_val bs n L
    have e1 : sumN (fun j => grp bs n j * B32 ^ j) (L + 1) = sumN (fun j => grp bs n j * B32 ^ j) L + grp bs n L * B32 ^ L := rfl
    have e2 : sumN (fun i => byN bs n i * 256 ^ i) (4 * (L + 1)) = sumN (fun i => byN bs n i * 256 ^ i) (4 * L) + byN bs n (4 * L) * 256 ^ (4 * L) + byN bs n (4 * L + 1) * 256 ^ (4 * L + 1) + byN bs n (4 * L + 2) * 256 ^ (4 * L + 2) + byN bs n (4 * L + 3) * 256 ^ (4 * L + 3) := rfl
    rw [e1, e2, ih, ← pow_four]
    simp only [Nat.pow_succ]
    unfold grp
    generalize (256 : Nat) ^ (4 * L) = X
    generalize byN bs n (4 * L) = a
    generalize byN bs n (4 * L + 1) = b
    generalize byN bs n (4 * L + 2) = c
    generalize byN bs n (4 * L + 3) = d
    simp only [Nat.add_mul, Nat.mul_assoc]
    have h1 : 256 * (b * X) = b * (X * 256) := by rw [Nat.mul_comm X, ← Nat.mul_assoc, ← Nat.mul_assoc, Nat.mul_comm 256]
    have h2 : 65536 * (c * X) = c * (X * (256 * 256)) := by
      rw [Nat.mul_comm X, ← Nat.mul_assoc, ← Nat.mul_assoc, Nat.mul_comm 65536]
    have h3 : 16777216 * (d * X) = d * (X * (256 * (256 * 256))) := by
      rw [Nat.mul_comm X, ← Nat.mul_assoc, ← Nat.mul_assoc, Nat.mul_comm 16777216]
    omega
theorem grpL_val {bs : List Nat} {L : Nat} (hL : bs.length ≤ 4 * L) : valD B32 (grpL bs bs.length L) = valD 256 bs := by
  rw [valD_sum, valD_sum, grpL_len]
  have e1 : sumN (fun j => (grpL bs bs.length L).getD j 0 * B32 ^ j) L = sumN (fun j => grp bs bs.length j * B32 ^ j) L := sumN_congr fun j hj => by
    rw [List.getD_eq_getElem?_getD, grpL_get hj, Option.getD_some]
  rw [e1, grp_val]
  obtain ⟨m, hm⟩ : ∃ m, 4 * L = bs.length + m := ⟨4 * L - bs.length, by omega⟩
  rw [hm, sumN_split]
  have e2 : sumN (fun j => byN bs bs.length (bs.length + j) * 256 ^ (bs.length + j)) m = 0 := sumN_zero fun j _ => by
    unfold byN; rw [if_neg (by omega)]; simp
  rw [e2, Nat.add_zero]
  exact sumN_congr fun j hj => by unfold byN; rw [if_pos hj]
end Go.Proofs.Ytgkbafkmbokkaaa
end

section
namespace Go.Proofs.Ytgkbafkmbokkaaa
open Go Go.AM
set_option maxRecDepth 100000
set_option linter.unusedSimpArgs false

/-- An integer as a value. -/
def intV (neg : Bool) (mag : List UInt8) : PV := .agg [.bool neg, .str mag]
/-- Its bytes, the least one first. -/
def lebs (mag : List UInt8) : List Nat := (mag.reverse).map UInt8.toNat
theorem lebs_len (mag : List UInt8) : (lebs mag).length = mag.length := by simp [lebs]
theorem lebs_lt (mag : List UInt8) : ∀ b ∈ lebs mag, b < 256 := fun b hb => by
  obtain ⟨c, _, rfl⟩ := List.mem_map.1 hb
  exact c.toNat_lt
theorem lebs_get {mag : List UInt8} {i : Nat} (hi : i < mag.length) : (lebs mag).getD i 0 = (mag.getD (mag.length - 1 - i) 0).toNat := by
  unfold lebs
  rw [List.getD_eq_getElem?_getD, List.getElem?_map, List.getElem?_reverse hi, List.getD_eq_getElem?_getD, List.getElem?_eq_getElem (by omega)]; rfl
def magNat (mag : List UInt8) : Nat := valD 256 (lebs mag)

theorem or_add {x y k : Nat} (hx : x < 2 ^ k) (hs : x + y * 2 ^ k < 4294967296) : bitsV .or .u32 (x : Int) ((y * 2 ^ k : Nat) : Int) = ((x + y * 2 ^ k : Nat) : Int) := by
  have h1 : y * 2 ^ k < 4294967296 := by omega
  have h2 : x < 4294967296 := by omega
  have e : (BitVec.ofInt 32 (x : Int) ||| BitVec.ofInt 32 ((y * 2 ^ k : Nat) : Int)).toNat = x + y * 2 ^ k := by
    rw [BitVec.toNat_or, BitVec.ofInt_natCast, BitVec.ofInt_natCast, BitVec.toNat_ofNat, BitVec.toNat_ofNat, Nat.mod_eq_of_lt h2, Nat.mod_eq_of_lt h1]
    rw [Nat.or_comm, ← Nat.shiftLeft_eq, ← Nat.shiftLeft_add_eq_or_of_lt hx, Nat.shiftLeft_eq, Nat.add_comm]
  show IntKind.wrap .u32 ((BitVec.ofInt 32 (x : Int) ||| BitVec.ofInt 32 ((y * 2 ^ k : Nat) : Int)).toNat : Nat) = _
  rw [e]
  exact InR.wrap (k := .u32) (by simp only [InR]; omega)

theorem grpL_zero (bs : List Nat) (L : Nat) : List.replicate L (PV.int .u32 0) = (grpL bs 0 L).map u32V := by
  apply List.ext_getElem?
  intro j
  rw [List.getElem?_map]
  by_cases hj : j < L
  · rw [grpL_get hj, grp_zero, List.getElem?_replicate, if_pos hj]; rfl
  · rw [List.getElem?_eq_none (by simp; omega), List.getElem?_eq_none (by rw [grpL_len]; omega)]; rfl
theorem grpL_step {bs : List Nat} {n L : Nat} (h : n / 4 < L) : ((grpL bs n L).map u32V).set (n / 4) (u32V (grp bs (n + 1) (n / 4))) = (grpL bs (n + 1) L).map u32V := by
  apply List.ext_getElem?
  intro j
  rw [List.getElem?_set, List.getElem?_map]
  by_cases hj : j < L
  · by_cases e : n / 4 = j
    · rw [if_pos e, if_pos (by simp [grpL_len]; exact h), List.getElem?_map, grpL_get hj, ← e]; rfl
    · rw [if_neg e, List.getElem?_map, grpL_get hj, grpL_get hj, grp_other e]
  · rw [if_neg (by omega), List.getElem?_eq_none (by rw [grpL_len]; omega), List.getElem?_map, List.getElem?_eq_none (by rw [grpL_len]; omega)]

theorem u69 (neg : Bool) (mag : List UInt8) (hl : mag.length ≤ 1000000) : PFn Try.prog 69 [intV neg mag] [natV (digD B32 (magNat mag))] := by
  obtain ⟨L, hL⟩ : ∃ L : Nat, ((mag.length : Int) + 3) / 4 = L := ⟨(mag.length + 3) / 4, by omega⟩
  have hL2 : mag.length ≤ 4 * L := by omega
  have hL3 : ∀ i, i < mag.length → i / 4 < L := fun i hi => by omega
  have hres : trimL (grpL (lebs mag) mag.length L) = digD B32 (magNat mag) := by
    rw [trimL_eq (B := B32) (by decide) (fun d hd => by
      obtain ⟨j, _, rfl⟩ := List.mem_map.1 hd
      exact grp_lt (lebs_lt mag) _ _)]
    have := grpL_val (bs := lebs mag) (L := L) (by rw [lebs_len]; exact hL2)
    rw [lebs_len] at this
    rw [this]; rfl
  refine PFn.of_body hΓ Try.func69 (by kernel_rfl) rfl (AWp.of_awpD [] hΓ hmix (by kernel_rfl) ?_)
  simp -implicitDefEqProofs only [Try.ntmps69, Try.results69, Nat.reduceAdd, Nat.reduceSub, intV, hL, go_sem]
  refine ⟨by simp only [InR]; omega, ⟨by omega, by omega, by simp only [InR]; omega⟩, ⟨by omega, by omega⟩, ?_⟩
  rw [grpL_zero (lebs mag)]
  refine AWp.loopI (fun i : Nat => ⟨mkF 43 [(1, .ptr 0 0), (2, .full []), (3, .own 1 L), (14, .p (.int .i64 mag.length)), (15, .p (.int .i64 i))], [.box [.p (.bool neg), .p (.str mag)], .row 81 1 ((grpL (lebs mag) i L).map u32V) .own]⟩)
    (fun i => i ≤ mag.length) (fun i => mag.length - i) 0 (by simp [go_sem]) (by omega) ?_
  intro i hi
  by_cases hlt : i < mag.length
  · refine AWp.of_awpD [(6, 13)] hΓ hmix (by kernel_rfl) ?_
    have hi4 := hL3 i hlt
    have e1 : ((mag.length : Int) - 1 - i).toNat = mag.length - 1 - i := by omega
    have e2 : ((i : Int) / 4).toNat = i / 4 := by omega
    have hget : ((grpL (lebs mag) i L).map u32V).getD (i / 4) default = .int .u32 ((grp (lebs mag) i (i / 4) : Nat) : Int) := by
      rw [List.getD_eq_getElem?_getD, List.getElem?_map, grpL_get hi4]; rfl
    have hwr : IntKind.u32.wrap ((mag.getD (mag.length - 1 - i) 0).toNat : Int) = (mag.getD (mag.length - 1 - i) 0).toNat := InR.wrap (k := .u32) (by
      have := (mag.getD (mag.length - 1 - i) 0).toNat_lt
      simp only [InR]; omega)
    simp -implicitDefEqProofs only [hlt, e1, e2, hget, hwr, go_sem]
    have hc := lebs_get hlt
    generalize hcn : (mag.getD (mag.length - 1 - i) 0).toNat = c at hc
    have hc256 : c < 256 := by rw [← hcn]; exact (mag.getD (mag.length - 1 - i) 0).toNat_lt
    obtain ⟨h1, h2⟩ := grp_step (lebs mag) (lebs_lt mag) i
    rw [hc] at h1
    have h3 := grp_lt (lebs_lt mag) (i + 1) (i / 4)
    have hp : (256 : Nat) ^ (i % 4) = 2 ^ (8 * (i % 4)) := by rw [Nat.pow_mul]
    rw [hp] at h1 h2
    have e8 : (8 * ((i : Int) % 4)).toNat = 8 * (i % 4) := by omega
    have ec : (c : Int) * 2 ^ (8 * (i % 4)) = ((c * 2 ^ (8 * (i % 4)) : Nat) : Int) := by simp
    have hs : grp (lebs mag) i (i / 4) + c * 2 ^ (8 * (i % 4)) < 4294967296 := by rw [← h1]; exact h3
    rw [e8, ec, or_add h2 hs, ← h1]
    have hgl := grpL_len (lebs mag) i L
    generalize hX : c * 2 ^ (8 * (i % 4)) = X at hs
    refine ⟨by simp only [InR]; omega, by simp only [InR]; omega, ⟨by omega, by omega⟩, ⟨by omega, by simp only [InR]; omega⟩, ⟨by omega, by omega⟩, by omega, by omega, by simp only [InR]; omega, ⟨by omega, by omega, by simp only [InR]; omega⟩, ⟨by omega, by omega⟩, ⟨by omega, rfl⟩, by simp only [InR]; omega, i + 1, ⟨by omega, .inl ?_⟩, hlt, by omega⟩
    exact (grpL_step hi4).symm
  · refine AWp.freeze 1 rfl ?_
    rw [show i = mag.length by omega]
    refine AWp.of_awpD [(6, 13)] hΓ hmix (by kernel_rfl) ?_
    have hz : ¬ (mag.length : Int) < mag.length := by omega
    simp -implicitDefEqProofs only [hz, Frozen, go_sem]
    have e91 := u91 (grpL (lebs mag) mag.length L) (by rw [grpL_len]; omega)
    rw [hres] at e91
    refine callK_fn e91 (.pures rfl) ?_
    simp -implicitDefEqProofs only [natV, go_sem]
end Go.Proofs.Ytgkbafkmbokkaaa
end

section
namespace Go.Proofs.Ytgkbafkmbokkaaa
open Go Go.AM
set_option maxRecDepth 100000
set_option linter.unusedSimpArgs false

theorem wrap_u32 (n : Nat) : IntKind.u32.wrap (n : Int) = ((n % 4294967296 : Nat) : Int) := by
  simp [IntKind.wrap, IntKind.signed, IntKind.bits]
theorem set_mid (o : List Nat) (m v : Nat) : ((o ++ List.replicate (m + 1) 0).map u32V).set o.length (u32V v) = ((o ++ [v]) ++ List.replicate m 0).map u32V := by
  rw [List.map_append, List.set_append_right _ _ (by simp), List.replicate_succ]
  simp
theorem valD_take {l : List Nat} (B i : Nat) : valD B (l.take (i + 1)) = valD B (l.take i) + l.getD i 0 * B ^ i := by
  by_cases h : i < l.length
  · rw [List.take_succ_eq_append_getElem h, valD_append, List.getD_eq_getElem?_getD, List.getElem?_eq_getElem h, Option.getD_some, List.length_take, Nat.min_eq_left (by omega)]
    simp [valD, Nat.mul_comm]
  · rw [List.take_of_length_le (by omega), List.take_of_length_le (by omega), List.getD_eq_getElem?_getD, List.getElem?_eq_none (by omega)]
    simp

theorem u105 (x y : List Nat) (hx : ∀ d ∈ x, d < B32) (hy : ∀ d ∈ y, d < B32) (hxl : x.length ≤ 1000000) (hyl : y.length ≤ 1000000) : PFn Try.prog 105 [natV x, natV y] [natV (digD B32 (valD B32 x + valD B32 y))] := by
  refine PFn.of_body hΓ Try.func105 (by kernel_rfl) rfl (AWp.seq (AWp.of_awpD [] hΓ hmix (by kernel_rfl) ?_))
  simp -implicitDefEqProofs only [Try.ntmps105, Try.results105, Nat.reduceAdd, Nat.reduceSub, natV, go_sem]
  refine AWp.seq (AWp.mono (Q := fun e st => e = .normal ∧ ∃ X Y : List Nat, ((∀ d ∈ X, d < B32) ∧ (∀ d ∈ Y, d < B32) ∧ X.length ≤ 1000000 ∧ Y.length ≤ X.length ∧ valD B32 X + valD B32 Y = valD B32 x + valD B32 y) ∧ Weak st ⟨mkF 59 [(0, .p (natV X)), (1, .p (natV Y)), (4, .full [])], []⟩) (AWp.of_awpD [] hΓ hmix (by kernel_rfl) ?_) ?_)
  · by_cases hc : (x.length : Int) < y.length
    · simp -implicitDefEqProofs only [hc, List.length_map, go_sem]
      exact ⟨y, x, ⟨hy, hx, hyl, by omega, by omega⟩, rfl, rfl⟩
    · simp -implicitDefEqProofs only [hc, List.length_map, go_sem]
      exact ⟨x, y, ⟨hx, hy, hxl, by omega, rfl⟩, rfl, rfl⟩
  rintro e st ⟨rfl, X, Y, ⟨hX, hY, hXl, hYX, hval⟩, hw⟩
  refine AWp.weak hw ?_
  rw [← hval]
  clear hval hw hx hy hxl hyl x y
  have eL : ((X.length : Int) + 1).toNat = X.length + 1 := by omega
  refine AWp.seq (AWp.of_awpD [] hΓ hmix (by kernel_rfl) ?_)
  simp -implicitDefEqProofs only [natV, List.length_map, eL, go_sem]
  refine ⟨by simp only [InR]; omega, ⟨by omega, by omega, by omega⟩, ?_⟩
  refine AWp.seq (AWp.of_awpD [] hΓ hmix (by kernel_rfl) ?_)
  simp -implicitDefEqProofs only [go_sem]
  refine AWp.seq (AWp.of_awpD [] hΓ hmix (by kernel_rfl) ?_)
  simp -implicitDefEqProofs only [List.length_map, go_sem]
  refine AWp.loopI (fun z : Nat × List Nat × Nat => ⟨mkF 59 [(0, .p (natV X)), (1, .p (natV Y)), (4, .full []), (5, .own 0 (X.length + 1)), (6, .p (.int .u64 z.2.2)), (20, .p (natV X)), (21, .p (.int .i64 X.length)), (22, .p (.int .i64 z.1))], [.row 81 1 ((z.2.1 ++ List.replicate (X.length + 1 - z.1) 0).map u32V) .own]⟩)
    (fun z => z.1 ≤ X.length ∧ z.2.1.length = z.1 ∧ (∀ d ∈ z.2.1, d < B32) ∧ z.2.2 ≤ 1 ∧ valD B32 z.2.1 + z.2.2 * B32 ^ z.1 = valD B32 (X.take z.1) + valD B32 (Y.take z.1)) (fun z => X.length - z.1) (0, [], 0) (by simp [go_sem, natV, u32V]) (by simp [valD]) ?_
  rintro ⟨i, o, c⟩ ⟨hi, ho, hod, hc, hval⟩
  simp only at hi ho hod hc hval
  refine AWp.of_awpD [] hΓ hmix (by kernel_rfl) ?_
  by_cases hlt : i < X.length
  · have hgX : (X.map u32V).getD i default = .int .u32 ((X.getD i 0 : Nat) : Int) := by
      rw [getD_map_lt _ _ _ _ hlt, List.getD_eq_getElem?_getD, List.getElem?_eq_getElem hlt]; rfl
    have dX : X.getD i 0 < B32 := by
      rw [List.getD_eq_getElem?_getD, List.getElem?_eq_getElem hlt, Option.getD_some]; exact hX _ (List.getElem_mem hlt)
    have dY : Y.getD i 0 < B32 := by
      rw [List.getD_eq_getElem?_getD]
      cases hq : Y[i]? with
      | none => decide
      | some d => exact hY d (List.mem_of_getElem? hq)
    have hwX : IntKind.u64.wrap ((X.getD i 0 : Nat) : Int) = (X.getD i 0 : Nat) := InR.wrap (k := .u64) (by simp only [InR]; unfold B32 at dX; omega)
    have hwY : IntKind.u64.wrap ((Y.getD i 0 : Nat) : Int) = (Y.getD i 0 : Nat) := InR.wrap (k := .u64) (by simp only [InR]; unfold B32 at dY; omega)
    have tX := valD_take (l := X) B32 i
    have tY := valD_take (l := Y) B32 i
    obtain ⟨s, hs⟩ : ∃ s, s = X.getD i 0 + c + Y.getD i 0 := ⟨_, rfl⟩
    have hvl : valD B32 (o ++ [s % B32]) + s / B32 * B32 ^ (i + 1) = valD B32 (X.take (i + 1)) + valD B32 (Y.take (i + 1)) := by
      rw [tX, tY, valD_append, ho, Nat.pow_succ]
      have e1 : valD B32 [s % B32] = s % B32 := by simp [valD]
      rw [e1]
      have e2 : s % B32 + B32 * (s / B32) = s := Nat.mod_add_div s B32
      generalize hP : B32 ^ i = P at *
      have e3 : P * (s % B32) + s / B32 * (P * B32) = P * s := by
        conv => rhs; rw [← e2, Nat.mul_add]
        rw [Nat.mul_comm (s / B32), Nat.mul_assoc]
      have e4 : P * s = X.getD i 0 * P + c * P + Y.getD i 0 * P := by rw [hs, Nat.mul_comm, Nat.add_mul, Nat.add_mul]
      omega
    have hsb : s ≤ 8589934591 := by unfold B32 at dX dY; omega
    have hs32 : IntKind.u32.wrap (s : Int) = ((s % B32 : Nat) : Int) := wrap_u32 s
    have hsd : (s : Int) / 2 ^ Int.toNat 32 = ((s / B32 : Nat) : Int) := by
      have : (2 : Int) ^ Int.toNat 32 = ((B32 : Nat) : Int) := rfl
      rw [this, Int.natCast_ediv]
    have hset : ((o ++ List.replicate (X.length + 1 - i) 0).map u32V).set i (.int .u32 ((s % B32 : Nat) : Int)) = ((o ++ [s % B32]) ++ List.replicate (X.length + 1 - (i + 1)) 0).map u32V := by
      have := set_mid o (X.length + 1 - (i + 1)) (s % B32)
      rw [ho, show X.length + 1 - (i + 1) + 1 = X.length + 1 - i by omega] at this
      exact this
    have hod' : ∀ d ∈ o ++ [s % B32], d < B32 := fun d hd => by
      rcases List.mem_append.1 hd with hd | hd
      · exact hod d hd
      · rw [List.mem_singleton] at hd; subst hd; exact Nat.mod_lt _ (by decide)
    have hc1 : s / B32 ≤ 1 := by unfold B32; omega
    have hlen : i < (o ++ List.replicate (X.length + 1 - i) 0).length := by simp; omega
    by_cases hlt2 : (i : Int) < Y.length
    · have hlt2' : i < Y.length := by omega
      have hgY : (Y.map u32V).getD i default = .int .u32 ((Y.getD i 0 : Nat) : Int) := by
        rw [getD_map_lt _ _ _ _ hlt2', List.getD_eq_getElem?_getD, List.getElem?_eq_getElem hlt2']; rfl
      have es : ((X.getD i 0 : Nat) : Int) + (c : Int) + ((Y.getD i 0 : Nat) : Int) = (s : Int) := by omega
      simp -implicitDefEqProofs only [natV, List.length_map, hlt, hgX, hgY, hlt2', hwX, hwY, es, hs32, hsd, hset, go_sem]
      refine ⟨by simp only [InR]; omega, by simp only [InR]; omega, ⟨by omega, by omega⟩, ⟨hlen, rfl⟩, by simp only [InR]; omega, (i + 1, o ++ [s % B32], s / B32), ⟨⟨rfl, by simp⟩, .inl rfl⟩, ⟨hlt, by simp [ho], hod', hc1, hvl⟩, by simp only; omega⟩
    · have hy0 : Y.getD i 0 = 0 := by rw [List.getD_eq_getElem?_getD, List.getElem?_eq_none (by omega)]; rfl
      have es : ((X.getD i 0 : Nat) : Int) + (c : Int) = (s : Int) := by omega
      simp -implicitDefEqProofs only [natV, List.length_map, hlt, hgX, hlt2, hwX, es, hs32, hsd, hset, go_sem]
      refine ⟨by simp only [InR]; omega, ⟨by omega, by omega⟩, ⟨hlen, rfl⟩, by simp only [InR]; omega, (i + 1, o ++ [s % B32], s / B32), ⟨⟨rfl, by simp⟩, .inl rfl⟩, ⟨hlt, by simp [ho], hod', hc1, hvl⟩, by simp only; omega⟩
  · simp -implicitDefEqProofs only [natV, List.length_map, hlt, go_sem]
    have hin : i = X.length := by omega
    refine AWp.seq (AWp.of_awpD [] hΓ hmix (by kernel_rfl) ?_)
    have hcw : IntKind.u32.wrap (c : Int) = (c : Int) := InR.wrap (k := .u32) (by simp only [InR]; omega)
    have hset : ((o ++ List.replicate (X.length + 1 - i) 0).map u32V).set X.length (.int .u32 (c : Int)) = (o ++ [c]).map u32V := by
      have := set_mid o 0 c
      rw [ho, hin, show (0 : Nat) + 1 = X.length + 1 - X.length by omega] at this
      rw [hin]
      simpa [u32V] using this
    simp -implicitDefEqProofs only [List.length_map, hcw, hset, go_sem]
    refine ⟨⟨by simp; omega, rfl⟩, ?_⟩
    refine AWp.freeze 0 rfl ?_
    refine AWp.of_awpD [] hΓ hmix (by kernel_rfl) ?_
    simp -implicitDefEqProofs only [Frozen, go_sem]
    have hall : ∀ d ∈ o ++ [c], d < B32 := fun d hd => by
      rcases List.mem_append.1 hd with hd | hd
      · exact hod d hd
      · rw [List.mem_singleton] at hd; subst hd; unfold B32; omega
    have e91 := u91 (o ++ [c]) (by rw [List.length_append, ho]; simp; omega)
    have hv : valD B32 (o ++ [c]) = valD B32 X + valD B32 Y := by
      rw [hin, List.take_of_length_le (Nat.le_refl _), List.take_of_length_le hYX] at hval
      rw [valD_append, ho, hin, ← hval]
      simp [valD, Nat.mul_comm]
    rw [trimL_eq (B := B32) (by decide) hall, hv] at e91
    refine callK_fn e91 (.pures rfl) ?_
    simp -implicitDefEqProofs only [natV, go_sem]
end Go.Proofs.Ytgkbafkmbokkaaa
end

section
namespace Go.Proofs.Ytgkbafkmbokkaaa
open Go Go.AM
set_option maxRecDepth 100000
set_option linter.unusedSimpArgs false

theorem digD_zero (B : Nat) : digD B 0 = [] := rfl
theorem digD_nil {B n : Nat} (hB : 2 ≤ B) (h : digD B n = []) : n = 0 := by
  have := digD_val hB n; rw [h] at this; exact this.symm
theorem digD_cons {B c n : Nat} (hB : 2 ≤ B) (hc : c < B) (h : ¬ (c = 0 ∧ n = 0)) : digD B (c + B * n) = c :: digD B n := by
  have hcan : Canon B (c :: digD B n) := by
    obtain ⟨h1, h2⟩ := digD_canon hB n
    refine ⟨fun d hd => ?_, ?_⟩
    · rcases List.mem_cons.1 hd with rfl | hd
      · exact hc
      · exact h1 d hd
    · cases e : digD B n with
      | nil =>
        have hn := digD_nil hB e
        simp only [List.getLast?_singleton, ne_eq, Option.some.injEq]
        exact fun h0 => h ⟨h0, hn⟩
      | cons a l => rw [e] at h2; simpa using h2
  have h1 := digD_of hB hcan
  have e : valD B (c :: digD B n) = c + B * valD B (digD B n) := rfl
  rw [e, digD_val hB] at h1
  exact h1

/-- A number's bytes, the greatest one first. -/
def magB (n : Nat) : List UInt8 := ((digD 256 n).map UInt8.ofNat).reverse
theorem magB_zero : magB 0 = [] := rfl
theorem magB_step {c n : Nat} (hc : c < 256) : magB (c + 256 * n) = if c = 0 ∧ n = 0 then [] else magB n ++ [UInt8.ofNat c] := by
  by_cases h : c = 0 ∧ n = 0
  · rw [if_pos h, h.1, h.2]; rfl
  · rw [if_neg h]; unfold magB; rw [digD_cons (by decide) hc h]; simp
theorem magB_nil {n : Nat} (h : magB n = []) : n = 0 := by
  unfold magB at h
  rw [List.reverse_eq_nil_iff, List.map_eq_nil_iff] at h
  exact digD_nil (by decide) h
theorem lebs_magB (n : Nat) : lebs (magB n) = digD 256 n := by
  unfold lebs magB
  rw [List.reverse_reverse, List.map_map]
  conv => rhs; rw [← List.map_id (digD 256 n)]
  apply List.map_congr_left
  intro d hd
  have := (digD_canon (B := 256) (by decide) n).1 d hd
  simp [UInt8.toNat_ofNat, Nat.mod_eq_of_lt this]
theorem magNat_magB (n : Nat) : magNat (magB n) = n := by
  unfold magNat; rw [lebs_magB, digD_val (by decide)]
theorem digF_len {B : Nat} (hB : 2 ≤ B) : ∀ f n, (digF B f n).length ≤ f
  | 0, _ => by simp [digF]
  | f + 1, n => by
    unfold digF
    split
    · simp
    · have := digF_len hB f (n / B)
      simp; omega
/-- A number below B^k has at most k digits. -/
theorem digF_small {B : Nat} (hB : 2 ≤ B) : ∀ k f n, n < B ^ k → (digF B f n).length ≤ k
  | _, 0, _, _ => by simp [digF]
  | 0, f + 1, n, h => by
    have : n = 0 := by simp at h; exact h
    subst this; simp [digF]
  | k + 1, f + 1, n, h => by
    unfold digF
    split
    · simp
    · have := digF_small hB k f (n / B) (by
        rw [Nat.div_lt_iff_lt_mul (by omega)]; rwa [Nat.pow_succ] at h)
      simp; omega
theorem digD_small {B : Nat} (hB : 2 ≤ B) {k n : Nat} (h : n < B ^ k) : (digD B n).length ≤ k := digF_small hB k n n h
theorem magB_small {k n : Nat} (h : n < 256 ^ k) : (magB n).length ≤ k := by
  unfold magB; simpa using digD_small (B := 256) (by decide) h

/-- A canonical integer. -/
def intN (neg : Bool) (n : Nat) : PV := intV (neg && decide (n ≠ 0)) (magB n)
theorem intN_zero (neg : Bool) : intN neg 0 = intV false [] := by simp [intN, magB_zero]

theorem magS (V d r : Nat) (hr : r < 4) : V * 256 ^ (4 - r) + d / 256 ^ r = (d / 256 ^ r) % 256 + 256 * (V * 256 ^ (4 - (r + 1)) + d / 256 ^ (r + 1)) := by
  rcases (by omega : r = 0 ∨ r = 1 ∨ r = 2 ∨ r = 3) with rfl | rfl | rfl | rfl <;> simp <;> omega

theorem wrap_u8 (n : Nat) : IntKind.u8.wrap (n : Int) = ((n % 256 : Nat) : Int) := by
  simp [IntKind.wrap, IntKind.signed, IntKind.bits]
theorem u8_of (n : Nat) (h : n < 256) : (PV.int .u8 (n : Int)) = u8V (UInt8.ofNat n) := by
  simp [u8V, UInt8.toNat_ofNat, Nat.mod_eq_of_lt h]

theorem valD_lt {B : Nat} : ∀ {l : List Nat}, (∀ d ∈ l, d < B) → valD B l < B ^ l.length
  | [], _ => by simp [valD]
  | d :: l, h => by
    have ih := valD_lt (l := l) (fun x hx => h x (by simp [hx]))
    have hd := h d (by simp)
    rw [List.length_cons, Nat.pow_succ]
    have e : valD B (d :: l) = d + B * valD B l := rfl
    rw [e]
    have h2 : B * (valD B l + 1) ≤ B * B ^ l.length := Nat.mul_le_mul_left B ih
    rw [Nat.mul_add] at h2
    rw [Nat.mul_comm (B ^ l.length)]
    omega
theorem magB_le {l : List Nat} (h : ∀ d ∈ l, d < B32) {n : Nat} (hn : n ≤ valD B32 l) : (magB n).length ≤ 4 * l.length := by
  refine magB_small ?_
  rw [pow_four]
  exact Nat.lt_of_le_of_lt hn (valD_lt h)

theorem u66 (neg : Bool) (x : List Nat) (hx : ∀ d ∈ x, d < B32) (hl : x.length ≤ 1000000) : PFn Try.prog 66 [.bool neg, natV x] [intN neg (valD B32 x)] := by
  refine PFn.of_body hΓ Try.func66 (by kernel_rfl) rfl (AWp.seq (AWp.of_awpD [] hΓ hmix (by kernel_rfl) ?_))
  simp -implicitDefEqProofs only [Try.ntmps66, Try.results66, Nat.reduceAdd, Nat.reduceSub, go_sem]
  refine AWp.seq (AWp.of_awpD [] hΓ hmix (by kernel_rfl) ?_)
  simp -implicitDefEqProofs only [go_sem]
  refine callK_fn (u91 x (by omega)) (.pures rfl) ?_
  simp -implicitDefEqProofs only [go_sem]
  have hval := trimL_val B32 x
  have hcan := trimL_canon hx
  have hXl : (trimL x).length ≤ 1000000 := by
    have : ∀ k, (trimN x k).length ≤ x.length := fun k => by
      induction k with
      | zero => simp [trimN]
      | succ k ih =>
        unfold trimN
        split
        · exact ih
        · simp; omega
    have := this x.length
    unfold trimL; omega
  rw [← hval]
  generalize trimL x = X at *
  clear hval hx hl
  by_cases hX0 : X = []
  · subst hX0
    refine AWp.of_awpD [] hΓ hmix (by kernel_rfl) ?_
    have hz : (([] : List PV).length : Int) = 0 := rfl
    simp -implicitDefEqProofs only [natV, List.map_nil, hz, go_sem]
    rw [show valD B32 [] = 0 from rfl, intN_zero]
    exact ⟨fun _ => rfl, fun h => absurd rfl h⟩
  have hXp : 0 < X.length := List.length_pos_iff.2 hX0
  have hXn : ¬ (X.length : Int) = 0 := by omega
  have hv0 : valD B32 X ≠ 0 := fun h => hX0 (canon_zero (B := B32) (by decide) hcan h)
  have hres : intN neg (valD B32 X) = .agg [.bool neg, .str (magB (valD B32 X))] := by simp [intN, intV, hv0]
  rw [hres]
  refine AWp.seq (AWp.of_awpD [] hΓ hmix (by kernel_rfl) ?_)
  simp -implicitDefEqProofs only [natV, hXn, List.length_map, go_sem]
  refine AWp.seq (AWp.of_awpD [] hΓ hmix (by kernel_rfl) ?_)
  simp -implicitDefEqProofs only [natV, hXn, List.length_map, go_sem]
  refine ⟨by simp only [InR]; omega, ⟨by omega, by omega, by omega⟩, ?_⟩
  refine AWp.seq (AWp.of_awpD [] hΓ hmix (by kernel_rfl) ?_)
  simp -implicitDefEqProofs only [natV, hXn, List.length_map, go_sem]
  refine ⟨by simp only [InR]; omega, ?_⟩
  refine AWp.loopI (fun n : Nat => ⟨mkF 53 [(0, .p (.bool neg)), (1, .p (natV X)), (4, .ptr 0 0), (5, .own 1 (magB (valD B32 (X.drop n))).length), (6, .p (.int .i64 ((n : Int) - 1)))], [.box [.p (.bool false), .p (.str [])], .row 5 1 ((magB (valD B32 (X.drop n))).map u8V) .own]⟩)
    (fun n => n ≤ X.length) (fun n => n) X.length (by simp [go_sem, natV, magB_zero, valD]) (Nat.le_refl _) ?_
  intro n hn
  refine AWp.of_awpD [] hΓ hmix (by kernel_rfl) ?_
  cases n with
  | zero =>
    have h1 : ¬ (0 : Int) ≤ ((0 : Nat) : Int) - 1 := by omega
    simp -implicitDefEqProofs only [h1, go_sem]
    refine AWp.of_awpD [] hΓ hmix (by kernel_rfl) ?_
    simp -implicitDefEqProofs only [go_sem]
    exact ⟨⟨5, rfl, rfl⟩, magB (valD B32 X), rfl, by omega, rfl⟩
  | succ n =>
    have h1 : (0 : Int) ≤ ((n + 1 : Nat) : Int) - 1 := by omega
    have e1 : ((n + 1 : Nat) : Int) - 1 = n := by omega
    simp -implicitDefEqProofs only [h1, e1, go_sem]
    have hnX : n < X.length := hn
    have hgX : (X.map u32V).getD n default = .int .u32 ((X.getD n 0 : Nat) : Int) := by
      rw [getD_map_lt _ _ _ _ hnX, List.getD_eq_getElem?_getD, List.getElem?_eq_getElem hnX]; rfl
    have hd : X.getD n 0 < B32 := by
      rw [List.getD_eq_getElem?_getD, List.getElem?_eq_getElem hnX, Option.getD_some]; exact hcan.1 _ (List.getElem_mem hnX)
    have hdrop : valD B32 (X.drop n) = X.getD n 0 + B32 * valD B32 (X.drop (n + 1)) := by
      rw [List.drop_eq_getElem_cons hnX, List.getD_eq_getElem?_getD, List.getElem?_eq_getElem hnX]; rfl
    have hdl : ∀ e ∈ X.drop n, e < B32 := fun e he => hcan.1 e (List.mem_of_mem_drop he)
    have hdle : (X.drop n).length ≤ 1000000 := by simp; omega
    generalize hV : valD B32 (X.drop (n + 1)) = V at *
    generalize X.getD n 0 = d at *
    refine AWp.loopI (fun r : Nat => ⟨mkF 53 [(0, .p (.bool neg)), (1, .p (natV X)), (4, .ptr 0 0), (5, .own 1 (magB (V * 256 ^ (4 - r) + d / 256 ^ r)).length), (6, .p (.int .i64 n)), (7, .p (.int .i64 ((r : Int) - 1)))], [.box [.p (.bool false), .p (.str [])], .row 5 1 ((magB (V * 256 ^ (4 - r) + d / 256 ^ r)).map u8V) .own]⟩)
      (fun r => r ≤ 4) (fun r => r) 4 (by
        have : V * 256 ^ (4 - 4) + d / 256 ^ 4 = V := by unfold B32 at hd; simp; omega
        rw [this]
        simp [go_sem]) (Nat.le_refl _) ?_
    intro r hr
    refine AWp.of_awpD [] hΓ hmix (by kernel_rfl) ?_
    cases r with
    | zero =>
      have h2 : ¬ (0 : Int) ≤ ((0 : Nat) : Int) - 1 := by omega
      have e2 : V * 256 ^ (4 - 0) + d / 256 ^ 0 = d + B32 * V := by unfold B32; simp; omega
      rw [e2, ← hdrop]
      simp -implicitDefEqProofs only [h2, go_sem]
      refine ⟨by simp only [InR]; omega, n, ⟨by simp, .inl rfl⟩, by omega, by omega⟩
    | succ r =>
      have h2 : (0 : Int) ≤ ((r + 1 : Nat) : Int) - 1 := by omega
      have e2 : ((r + 1 : Nat) : Int) - 1 = r := by omega
      have e3 := magS V d r (by omega)
      have e4 : (8 * (r : Int)).toNat = 8 * r := by omega
      have e5 : (d : Int) / 2 ^ (8 * r) = ((d / 256 ^ r : Nat) : Int) := by
        rw [show (256 : Nat) ^ r = 2 ^ (8 * r) by rw [Nat.pow_mul]]
        simp
      obtain ⟨N, hN⟩ : ∃ N, N = V * 256 ^ (4 - (r + 1)) + d / 256 ^ (r + 1) := ⟨_, rfl⟩
      obtain ⟨c, hc⟩ : ∃ c, c = d / 256 ^ r % 256 := ⟨_, rfl⟩
      have hc2 : c < 256 := by rw [hc]; exact Nat.mod_lt _ (by omega)
      have hcw : IntKind.u8.wrap ((d / 256 ^ r : Nat) : Int) = (c : Int) := by rw [hc]; exact wrap_u8 _
      have hst := magB_step (c := c) (n := N) hc2
      rw [← hc, ← hN] at e3
      rw [← e3] at hst
      rw [← hN]
      have hlN : (magB N).length ≤ 4000000 := by
        have := magB_le hdl (n := N) (by
          rw [hdrop, hN]
          unfold B32
          rcases (by omega : r = 0 ∨ r = 1 ∨ r = 2 ∨ r = 3) with rfl | rfl | rfl | rfl <;> simp <;> omega)
        omega
      by_cases hc0 : c = 0
      · have hc0' : (c : Int) = 0 := by omega
        by_cases hN0 : (magB N) = []
        · rw [if_pos ⟨hc0, magB_nil hN0⟩] at hst
          have hl0 : ¬ (0 : Int) < (([] : List UInt8).length : Int) := by simp
          rw [hN0]
          simp -implicitDefEqProofs only [natV, List.length_map, h2, e2, e4, e5, hgX, hcw, hc0', hl0, go_sem]
          refine ⟨hnX, by simp only [InR]; omega, ⟨by omega, by omega⟩, fun h => absurd h (by omega), fun _ => ⟨by simp only [InR]; omega, r, ⟨⟨by rw [hst]; rfl, rfl⟩, .inl (by rw [hst]; rfl)⟩, by omega, by omega⟩⟩
        · rw [if_neg (fun h => hN0 (by rw [h.2]; rfl))] at hst
          have hl0 : (0 : Int) < ((magB N).length : Int) := by have := List.length_pos_iff.2 hN0; omega
          simp -implicitDefEqProofs only [natV, List.length_map, h2, e2, e4, e5, hgX, hcw, hc0', hl0, go_sem]
          have hs1 : sizeOK [PV.int .u8 0] 1 := by simp [sizeOK, PV.cells]
          have ho1 : oneOK [PV.int .u8 0] := by simp [oneOK, PV.cells, PV.isAgg]
          have hu8 : [UInt8.ofNat c].map u8V = [PV.int .u8 0] := by rw [hc0]; rfl
          refine ⟨hnX, by simp only [InR]; omega, ⟨by omega, by omega⟩, ⟨hs1, by omega⟩, ⟨hs1, ho1⟩, ⟨.inl (by omega), by omega, by omega⟩, by simp only [InR]; omega, r, ⟨⟨by rw [hst]; simp, rfl⟩, .inl ⟨by rw [hst, List.map_append, hu8], rfl⟩⟩, by omega, by omega⟩
      · have hc0' : ¬ (c : Int) = 0 := by omega
        rw [if_neg (fun h => hc0 h.1)] at hst
        simp -implicitDefEqProofs only [natV, List.length_map, h2, e2, e4, e5, hgX, hcw, hc0', go_sem]
        have hs1 : sizeOK [PV.int .u8 (c : Int)] 1 := by simp [sizeOK, PV.cells]
        have ho1 : oneOK [PV.int .u8 (c : Int)] := by simp [oneOK, PV.cells, PV.isAgg]
        have hu8 : [UInt8.ofNat c].map u8V = [PV.int .u8 (c : Int)] := by rw [u8_of c hc2]; rfl
        refine ⟨hnX, by simp only [InR]; omega, ⟨by omega, by omega⟩, ⟨hs1, by omega⟩, ⟨hs1, ho1⟩, ⟨.inl (by omega), by omega, by omega⟩, by simp only [InR]; omega, r, ⟨⟨by rw [hst]; simp, rfl⟩, .inl ⟨by rw [hst, List.map_append, hu8], rfl⟩⟩, by omega, by omega⟩
end Go.Proofs.Ytgkbafkmbokkaaa
end

section
namespace Go.Proofs.Ytgkbafkmbokkaaa
open Go Go.AM
set_option maxRecDepth 100000
set_option linter.unusedSimpArgs false

def capN : Nat := 256 ^ (4 * 50)
theorem capN_eq : capN = B32 ^ 50 := by unfold capN; rw [pow_four]
theorem capN_pos : 0 < capN := Nat.pow_pos (by decide)
theorem cap_of {n k : Nat} (h : n < 256 ^ k) (hk : k ≤ 4 * 50) : n < capN := Nat.lt_of_lt_of_le h (Nat.pow_le_pow_right (by decide) hk)
theorem cap_mag {n : Nat} (h : n < capN) : (magB n).length ≤ 200 := magB_small (k := 4 * 50) h
theorem cap_dig {n : Nat} (h : n < capN) : (digD B32 n).length ≤ 50 := by
  rw [capN_eq] at h; exact digD_small (by decide) h
theorem dig_add {a b : Nat} (ha : a < capN) (hb : b < capN) : (digD B32 (a + b)).length ≤ 51 := by
  refine digD_small (by decide) ?_
  rw [Nat.pow_succ, ← capN_eq]
  unfold B32
  omega
theorem dig_lt (n : Nat) : ∀ d ∈ digD B32 n, d < B32 := (digD_canon (by decide) n).1

/-- digits of a canonical integer. -/
theorem u69n (neg : Bool) (n : Nat) (hn : n < capN) : PFn Try.prog 69 [intN neg n] [natV (digD B32 n)] := by
  have h := u69 (neg && decide (n ≠ 0)) (magB n) (by have := cap_mag hn; omega)
  rwa [magNat_magB] at h

theorem intN_pos (n : Nat) : intN false n = .agg [.bool false, .str (magB n)] := rfl

theorem u34 (n : Nat) (hn : n < 9223372036854775808) : PFn Try.prog 34 [.int .i64 n] [intN false n] := by
  have hd : ∀ d ∈ [n % B32, n / B32], d < B32 := fun d hd => by
    unfold B32 at *
    simp at hd
    rcases hd with rfl | rfl <;> omega
  have e := u66 false [n % B32, n / B32] hd (by simp)
  have hv : valD B32 [n % B32, n / B32] = n := by
    simp only [valD]
    unfold B32; omega
  rw [hv] at e
  have h1 : IntKind.u64.wrap (n : Int) = n := InR.wrap (k := .u64) (by simp only [InR]; omega)
  have h2 : ¬ (n : Int) < 0 := by omega
  have h3 : IntKind.u32.wrap (n : Int) = ((n % B32 : Nat) : Int) := wrap_u32 n
  have h4 : IntKind.u32.wrap ((n : Int) / 2 ^ Int.toNat 32) = ((n / B32 : Nat) : Int) := by
    have : (2 : Int) ^ Int.toNat 32 = ((B32 : Nat) : Int) := rfl
    rw [this, ← Int.natCast_ediv]
    exact InR.wrap (k := .u32) (by unfold B32; simp only [InR]; omega)
  refine PFn.of_body hΓ Try.func34 (by kernel_rfl) rfl (AWp.of_awpD [] hΓ hmix (by kernel_rfl) ?_)
  simp +contextual -implicitDefEqProofs only [Try.ntmps34, Try.results34, Nat.reduceAdd, Nat.reduceSub, go_sem]
  simp -implicitDefEqProofs only [h1, h2, h3, h4, go_sem]
  have hs2 : sizeOK [PV.int .u32 ((n % B32 : Nat) : Int), PV.int .u32 ((n / B32 : Nat) : Int)] 1 := size_u32 [n % B32, n / B32]
  refine ⟨⟨by omega, by omega⟩, ⟨hs2, by omega⟩, ?_⟩
  refine callK_fn e (.pures rfl) ?_
  simp -implicitDefEqProofs only [h1, h2, h3, h4, intN_pos, go_sem]

theorem u89 (a b : Nat) (ha : a < capN) (hb : b < capN) : PFn Try.prog 89 [intN false a, intN false b] [intN false (a + b)] := by
  have ea := u69n false a ha
  have eb := u69n false b hb
  have e1 := u105 (digD B32 a) (digD B32 b) (dig_lt a) (dig_lt b) (by have := cap_dig ha; omega) (by have := cap_dig hb; omega)
  rw [digD_val (by decide), digD_val (by decide)] at e1
  have e2 := u66 false (digD B32 (a + b)) (dig_lt _) (by have := dig_add ha hb; omega)
  rw [digD_val (by decide)] at e2
  refine PFn.of_body hΓ Try.func89 (by kernel_rfl) rfl (AWp.of_awpD [(1, 6), (3, 6), (5, 6), (6, 6)] hΓ hmix (by kernel_rfl) ?_)
  simp +contextual -implicitDefEqProofs only [intN_pos, Try.ntmps89, Try.results89, Nat.reduceAdd, Nat.reduceSub, go_sem]
  refine callVPK_fn ea (.still rfl) ?_
  simp -implicitDefEqProofs only [go_sem]
  refine callVPK_fn eb (.still rfl) ?_
  simp -implicitDefEqProofs only [beq_self_eq_true, go_sem]
  refine callVPK_fn e1 (.pures rfl) ?_
  simp -implicitDefEqProofs only [go_sem]
  refine callVPK_fn e2 (.pures rfl) ?_
  simp -implicitDefEqProofs only [intN_pos, go_sem]
end Go.Proofs.Ytgkbafkmbokkaaa
end

section
namespace Go.Proofs.Ytgkbafkmbokkaaa
open Go Go.AM
set_option maxRecDepth 100000
set_option linter.unusedSimpArgs false

/-- All readings of w as words of ws, f words at most. -/
def facsF (ws : List (List UInt8)) : Nat → List UInt8 → List (List (List UInt8))
  | 0, w => if w = [] then [[]] else []
  | f + 1, w => if w = [] then [[]] else ws.flatMap fun x => if x.isPrefixOf w then (facsF ws f (w.drop x.length)).map (x :: ·) else []
def facs (ws : List (List UInt8)) (w : List UInt8) : List (List (List UInt8)) := facsF ws w.length w
/-- How many. -/
def cnt (ws : List (List UInt8)) (w : List UInt8) : Nat := (facs ws w).length

theorem facsF_more {ws : List (List UInt8)} (hn : ∀ x ∈ ws, x ≠ []) : ∀ (f : Nat) (w : List UInt8), w.length ≤ f → facsF ws f w = facs ws w := by
  intro f
  induction f using Nat.strongRecOn with
  | _ f ih =>
    intro w hw
    cases w with
    | nil => cases f <;> simp [facs, facsF]
    | cons b w =>
      cases f with
      | zero => simp at hw
      | succ f =>
        have e1 : facs ws (b :: w) = facsF ws (w.length + 1) (b :: w) := rfl
        rw [e1]
        unfold facsF
        rw [if_neg (by simp), if_neg (by simp)]
        rw [List.flatMap_def, List.flatMap_def]
        congr 1
        apply List.map_congr_left
        intro x hx
        split
        · have hxl : 0 < x.length := List.length_pos_iff.2 (hn x hx)
          have hd : ((b :: w).drop x.length).length ≤ w.length := by simp; omega
          have hd2 : ((b :: w).drop x.length).length ≤ f := by simp at hw; omega
          rw [ih f (by omega) _ hd2]
          by_cases hwf : w.length < f + 1
          · rw [ih w.length hwf _ hd]
          · simp at hw; omega
        · rfl
theorem facs_step {ws : List (List UInt8)} (hn : ∀ x ∈ ws, x ≠ []) {w : List UInt8} (hw : w ≠ []) : facs ws w = ws.flatMap fun x => if x.isPrefixOf w then (facs ws (w.drop x.length)).map (x :: ·) else [] := by
  cases w with
  | nil => exact absurd rfl hw
  | cons b w =>
    have e1 : facs ws (b :: w) = facsF ws (w.length + 1) (b :: w) := rfl
    rw [e1]
    unfold facsF
    rw [if_neg (by simp), List.flatMap_def, List.flatMap_def]
    congr 1
    apply List.map_congr_left
    intro x hx
    have hxl : 0 < x.length := List.length_pos_iff.2 (hn x hx)
    split
    · rw [facsF_more hn _ _ (by simp; omega)]
    · rfl
/-- The first of ws, counted: readings that begin with one of them. -/
def cntL (ws vs : List (List UInt8)) (w : List UInt8) : Nat := (vs.map fun x => if x.isPrefixOf w then cnt ws (w.drop x.length) else 0).sum
theorem cnt_nil (ws : List (List UInt8)) : cnt ws [] = 1 := rfl
theorem cnt_step {ws : List (List UInt8)} (hn : ∀ x ∈ ws, x ≠ []) {w : List UInt8} (hw : w ≠ []) : cnt ws w = cntL ws ws w := by
  unfold cnt cntL
  rw [facs_step hn hw, List.length_flatMap]
  congr 1
  apply List.map_congr_left
  intro x _
  split
  · rw [List.length_map]; rfl
  · rfl
theorem cntL_snoc (ws vs : List (List UInt8)) (x w : List UInt8) : cntL ws (vs ++ [x]) w = cntL ws vs w + if x.isPrefixOf w then cnt ws (w.drop x.length) else 0 := by
  simp [cntL, List.sum_append]

theorem mem_facs {ws : List (List UInt8)} (hn : ∀ x ∈ ws, x ≠ []) {l : List (List UInt8)} : ∀ {w : List UInt8}, l ∈ facs ws w ↔ (∀ x ∈ l, x ∈ ws) ∧ l.flatten = w := by
  induction l with
  | nil =>
    intro w
    cases w with
    | nil => simp [facs, facsF]
    | cons b w =>
      rw [facs_step hn (by simp)]
      simp
  | cons y l ih =>
    intro w
    cases w with
    | nil =>
      constructor
      · intro h; simp [facs, facsF] at h
      · rintro ⟨h1, h2⟩
        have := hn y (h1 y (by simp))
        simp at h2
        exact absurd h2.1 this
    | cons b w =>
      rw [facs_step hn (by simp), List.mem_flatMap]
      constructor
      · rintro ⟨x, hx, h⟩
        split at h
        · rename_i hp
          obtain ⟨m, hm, e⟩ := List.mem_map.1 h
          injection e with e1 e2
          subst e1; subst e2
          obtain ⟨h1, h2⟩ := ih.1 hm
          refine ⟨fun z hz => ?_, ?_⟩
          · rcases List.mem_cons.1 hz with rfl | hz
            · exact hx
            · exact h1 z hz
          · obtain ⟨t, ht⟩ := List.isPrefixOf_iff_prefix.1 hp
            rw [List.flatten_cons, h2, ← ht, List.drop_left]
        · cases h
      · rintro ⟨h1, h2⟩
        refine ⟨y, h1 y (by simp), ?_⟩
        rw [List.flatten_cons] at h2
        have hp : y.isPrefixOf (b :: w) = true := List.isPrefixOf_iff_prefix.2 ⟨_, h2⟩
        rw [if_pos hp]
        refine List.mem_map.2 ⟨l, ih.2 ⟨fun z hz => h1 z (by simp [hz]), ?_⟩, rfl⟩
        rw [← h2, List.drop_left]

theorem nodup_map {α β : Type} {f : α → β} (hf : ∀ a b, f a = f b → a = b) : ∀ {l : List α}, l.Nodup → (l.map f).Nodup
  | [], _ => by simp
  | a :: l, h => by
    rw [List.nodup_cons] at h
    rw [List.map_cons, List.nodup_cons]
    refine ⟨fun hm => ?_, nodup_map hf h.2⟩
    obtain ⟨b, hb, e⟩ := List.mem_map.1 hm
    exact h.1 (hf _ _ e ▸ hb)
theorem nodup_append {α : Type} {l m : List α} (h1 : l.Nodup) (h2 : m.Nodup) (h3 : ∀ a ∈ l, a ∉ m) : (l ++ m).Nodup := by
  unfold List.Nodup at *
  rw [List.pairwise_append]
  exact ⟨h1, h2, fun a ha b hb e => h3 a ha (e ▸ hb)⟩
theorem facs_nodup {ws : List (List UInt8)} (hn : ∀ x ∈ ws, x ≠ []) (hd : ws.Nodup) : ∀ (n : Nat) (w : List UInt8), w.length ≤ n → (facs ws w).Nodup := by
  intro n
  induction n with
  | zero =>
    intro w hw
    have : w = [] := List.length_eq_zero_iff.1 (by omega)
    subst this; simp [facs, facsF]
  | succ n ih =>
    intro w hw
    cases w with
    | nil => simp [facs, facsF]
    | cons b w =>
      rw [facs_step hn (by simp)]
      have key : ∀ vs : List (List UInt8), (∀ x ∈ vs, x ∈ ws) → vs.Nodup → (vs.flatMap fun x => if x.isPrefixOf (b :: w) then (facs ws ((b :: w).drop x.length)).map (x :: ·) else []).Nodup := by
        intro vs
        induction vs with
        | nil => intro _ _; simp
        | cons v vs ihv =>
          intro hv hvd
          rw [List.nodup_cons] at hvd
          rw [List.flatMap_cons]
          refine nodup_append ?_ (ihv (fun x hx => hv x (by simp [hx])) hvd.2) ?_
          · split
            · refine nodup_map (fun a b e => by injection e) (ih _ ?_)
              have : 0 < v.length := List.length_pos_iff.2 (hn v (hv v (by simp)))
              simp at hw ⊢; omega
            · simp
          · intro a ha hm
            split at ha
            · obtain ⟨l, _, rfl⟩ := List.mem_map.1 ha
              obtain ⟨x, hx, h⟩ := List.mem_flatMap.1 hm
              split at h
              · obtain ⟨m, _, e⟩ := List.mem_map.1 h
                injection e with e1 e2
                exact hvd.1 (e1 ▸ hx)
              · cases h
            · cases ha
      exact key ws (fun x hx => hx) hd

/-- A list without repetitions whose members all lie in another one is not longer. -/
theorem nodup_len {α : Type} [DecidableEq α] : ∀ {l m : List α}, l.Nodup → (∀ a ∈ l, a ∈ m) → l.length ≤ m.length
  | [], _, _, _ => by simp
  | a :: l, m, h, hs => by
    rw [List.nodup_cons] at h
    have ha : a ∈ m := hs a (by simp)
    have h2 := nodup_len (l := l) (m := m.erase a) h.2 (fun b hb => by
      have hne : b ≠ a := fun e => h.1 (e ▸ hb)
      exact (List.mem_erase_of_ne hne).2 (hs b (by simp [hb])))
    have h3 := List.length_erase_of_mem ha
    have h4 : 0 < m.length := List.length_pos_of_mem ha
    simp; omega

/-! ### At most one reading -/
theorem one_of_all {α : Type} {l : List α} (hd : l.Nodup) (h : ∀ a ∈ l, ∀ b ∈ l, a = b) : l.length ≤ 1 := by
  match l, hd, h with
  | [], _, _ => simp
  | [_], _, _ => simp
  | a :: b :: l, hd, h =>
    have := h a (by simp) b (by simp)
    rw [List.nodup_cons] at hd
    exact absurd (by simp [this]) hd.1
/-- Words none of which begins with another one: one reading. -/
theorem pre_one {ws : List (List UInt8)} (hn : ∀ x ∈ ws, x ≠ []) (hp : ∀ x ∈ ws, ∀ y ∈ ws, x <+: y → x = y) : ∀ {l m : List (List UInt8)}, (∀ x ∈ l, x ∈ ws) → (∀ x ∈ m, x ∈ ws) → l.flatten = m.flatten → l = m
  | [], [], _, _, _ => rfl
  | [], y :: m, _, hm, e => by
    simp at e
    exact absurd e.1 (hn y (hm y (by simp)))
  | x :: l, [], hl, _, e => by
    simp at e
    exact absurd e.1 (hn x (hl x (by simp)))
  | x :: l, y :: m, hl, hm, e => by
    rw [List.flatten_cons, List.flatten_cons] at e
    have hx := hl x (by simp)
    have hy := hm y (by simp)
    have hxy : x = y := by
      rcases List.prefix_or_prefix_of_prefix (l₁ := x) (l₂ := y) (l₃ := x ++ l.flatten) ⟨_, rfl⟩ ⟨_, e.symm⟩ with h | h
      · exact hp x hx y hy h
      · exact (hp y hy x hx h).symm
    subst hxy
    rw [pre_one hn hp (fun z hz => hl z (by simp [hz])) (fun z hz => hm z (by simp [hz])) (List.append_cancel_left e)]

/-- All words reversed, in reversed order. -/
def turnL (l : List (List UInt8)) : List (List UInt8) := (l.map List.reverse).reverse
theorem turnL_flatten (l : List (List UInt8)) : (turnL l).flatten = l.flatten.reverse := by
  unfold turnL
  rw [List.reverse_flatten]
theorem turnL_turnL (l : List (List UInt8)) : turnL (turnL l) = l := by
  unfold turnL; rw [List.map_reverse, List.reverse_reverse, List.map_map]
  conv => rhs; rw [← List.map_id l]
  congr 1; funext x; simp
theorem turnL_mem {l : List (List UInt8)} {x : List UInt8} : x ∈ turnL l ↔ x.reverse ∈ l := by
  unfold turnL
  rw [List.mem_reverse, List.mem_map]
  constructor
  · rintro ⟨a, ha, rfl⟩; simpa using ha
  · intro h; exact ⟨_, h, by simp⟩
theorem suf_one {ws : List (List UInt8)} (hn : ∀ x ∈ ws, x ≠ []) (hp : ∀ x ∈ ws, ∀ y ∈ ws, x <:+ y → x = y) {l m : List (List UInt8)} (hl : ∀ x ∈ l, x ∈ ws) (hm : ∀ x ∈ m, x ∈ ws) (e : l.flatten = m.flatten) : l = m := by
  have h := pre_one (ws := ws.map List.reverse) (fun x hx => by
    obtain ⟨a, ha, rfl⟩ := List.mem_map.1 hx
    simpa using hn a ha) (fun x hx y hy h => by
    obtain ⟨a, ha, rfl⟩ := List.mem_map.1 hx
    obtain ⟨b, hb, rfl⟩ := List.mem_map.1 hy
    rw [hp a ha b hb (List.reverse_prefix.1 h)]) (l := turnL l) (m := turnL m)
    (fun x hx => List.mem_map.2 ⟨_, hl _ (turnL_mem.1 hx), by simp⟩) (fun x hx => List.mem_map.2 ⟨_, hm _ (turnL_mem.1 hx), by simp⟩) (by rw [turnL_flatten, turnL_flatten, e])
  have := congrArg turnL h
  rwa [turnL_turnL, turnL_turnL] at this
theorem cnt_one {ws : List (List UInt8)} (hn : ∀ x ∈ ws, x ≠ []) (hd : ws.Nodup) (hp : (∀ x ∈ ws, ∀ y ∈ ws, x <+: y → x = y) ∨ (∀ x ∈ ws, ∀ y ∈ ws, x <:+ y → x = y)) (w : List UInt8) : cnt ws w ≤ 1 := by
  refine one_of_all (facs_nodup hn hd _ w (Nat.le_refl _)) fun l hl m hm => ?_
  obtain ⟨h1, h2⟩ := (mem_facs hn).1 hl
  obtain ⟨h3, h4⟩ := (mem_facs hn).1 hm
  rcases hp with hp | hp
  · exact pre_one hn hp h1 h3 (h2.trans h4.symm)
  · exact suf_one hn hp h1 h3 (h2.trans h4.symm)

/-! ### Two words together, reversed words -/
theorem cntL_mono {ws vs : List (List UInt8)} (u v : List UInt8) (k : Nat) (h : ∀ x ∈ vs, x.isPrefixOf u → cnt ws (u.drop x.length) * k ≤ cnt ws (u.drop x.length ++ v)) : cntL ws vs u * k ≤ cntL ws vs (u ++ v) := by
  induction vs with
  | nil => simp [cntL]
  | cons x vs ih =>
    have e : ∀ w, cntL ws (x :: vs) w = (if x.isPrefixOf w then cnt ws (w.drop x.length) else 0) + cntL ws vs w := fun w => by simp [cntL]
    rw [e, e, Nat.add_mul]
    have h1 := ih (fun y hy => h y (by simp [hy]))
    by_cases hx : x.isPrefixOf u = true
    · have hx2 : x.isPrefixOf (u ++ v) = true := List.isPrefixOf_iff_prefix.2 ((List.isPrefixOf_iff_prefix.1 hx).trans (List.prefix_append u v))
      have hxl : x.length ≤ u.length := (List.isPrefixOf_iff_prefix.1 hx).length_le
      rw [if_pos hx, if_pos hx2, List.drop_append_of_le_length hxl]
      have := h x (by simp) hx
      omega
    · rw [if_neg hx]; simp; omega
theorem cnt_mul {ws : List (List UInt8)} (hn : ∀ x ∈ ws, x ≠ []) (v : List UInt8) : ∀ (n : Nat) (u : List UInt8), u.length ≤ n → cnt ws u * cnt ws v ≤ cnt ws (u ++ v)
  | 0, u, h => by
    have : u = [] := List.length_eq_zero_iff.1 (by omega)
    subst this; rw [cnt_nil]; simp
  | n + 1, u, h => by
    cases u with
    | nil => rw [cnt_nil]; simp
    | cons b u =>
      rw [cnt_step hn (by simp), cnt_step hn (w := b :: u ++ v) (by simp)]
      refine cntL_mono _ _ _ fun x hx hp => cnt_mul hn v n _ ?_
      have : 0 < x.length := List.length_pos_iff.2 (hn x hx)
      simp at h ⊢; omega
theorem cnt_turn_le {ws vs : List (List UInt8)} (hn : ∀ x ∈ ws, x ≠ []) (hm : ∀ x ∈ vs, x ≠ []) (hd : ws.Nodup) (hv : ∀ x, x ∈ ws → x.reverse ∈ vs) (w : List UInt8) : cnt ws w ≤ cnt vs w.reverse := by
  have h1 : ((facs ws w).map turnL).Nodup := nodup_map (fun a b e => by have := congrArg turnL e; rwa [turnL_turnL, turnL_turnL] at this) (facs_nodup hn hd _ w (Nat.le_refl _))
  have h2 := nodup_len (m := facs vs w.reverse) h1 (fun a ha => by
    obtain ⟨l, hl, rfl⟩ := List.mem_map.1 ha
    obtain ⟨h3, h4⟩ := (mem_facs hn).1 hl
    refine (mem_facs hm).2 ⟨fun x hx => ?_, by rw [turnL_flatten, h4]⟩
    have := hv _ (h3 _ (turnL_mem.1 hx))
    rwa [List.reverse_reverse] at this)
  rwa [List.length_map] at h2
theorem cnt_turn {ws vs : List (List UInt8)} (hn : ∀ x ∈ ws, x ≠ []) (hm : ∀ x ∈ vs, x ≠ []) (hd : ws.Nodup) (he : vs.Nodup) (hv : ∀ x, x ∈ vs ↔ x.reverse ∈ ws) (w : List UInt8) : cnt vs w.reverse = cnt ws w := by
  refine Nat.le_antisymm ?_ (cnt_turn_le hn hm hd (fun x hx => (hv _).2 (by rwa [List.reverse_reverse])) w)
  have := cnt_turn_le hm hn he (fun x hx => (hv x).1 hx) w.reverse
  rwa [List.reverse_reverse] at this
/-- How many readings there can be. -/
theorem cntL_le {ws vs : List (List UInt8)} {w : List UInt8} {m : Nat} (h : ∀ x ∈ vs, x.isPrefixOf w → cnt ws (w.drop x.length) ≤ m) : cntL ws vs w ≤ vs.length * m := by
  induction vs with
  | nil => simp [cntL]
  | cons x vs ih =>
    have e : cntL ws (x :: vs) w = (if x.isPrefixOf w then cnt ws (w.drop x.length) else 0) + cntL ws vs w := by simp [cntL]
    have h1 := ih fun y hy => h y (by simp [hy])
    rw [e, List.length_cons, Nat.add_mul]
    split
    · rename_i hx
      have := h x (by simp) hx
      omega
    · omega
theorem cnt_pow {ws : List (List UInt8)} (hn : ∀ x ∈ ws, x ≠ []) {m : Nat} (hm : ws.length ≤ m) (hp : 0 < m) : ∀ (n : Nat) (w : List UInt8), w.length ≤ n → cnt ws w ≤ m ^ n
  | 0, w, h => by
    have : w = [] := List.length_eq_zero_iff.1 (by omega)
    subst this; rw [cnt_nil]; simp
  | n + 1, w, h => by
    cases w with
    | nil => rw [cnt_nil]; exact Nat.pow_pos hp
    | cons b w =>
      rw [cnt_step hn (by simp), Nat.pow_succ, Nat.mul_comm]
      refine Nat.le_trans (cntL_le (m := m ^ n) fun x hx _ => cnt_pow hn hm hp n _ ?_) (Nat.mul_le_mul_right _ hm)
      have : 0 < x.length := List.length_pos_iff.2 (hn x hx)
      simp at h ⊢; omega
end Go.Proofs.Ytgkbafkmbokkaaa
end

section
namespace Go.Proofs.Ytgkbafkmbokkaaa
open Go Go.AM
set_option maxRecDepth 100000
set_option linter.unusedSimpArgs false

theorem cnt_cap {ws : List (List UInt8)} (hn : ∀ x ∈ ws, x ≠ []) (hws : ws.length ≤ 256) {w : List UInt8} (hw : w.length ≤ 40) : cnt ws w ≤ 256 ^ 40 := by
  refine Nat.le_trans (cnt_pow hn hws (by decide) w.length w (Nat.le_refl _)) (Nat.pow_le_pow_right (by decide) hw)
theorem cntL_cap {ws vs : List (List UInt8)} (hn : ∀ x ∈ ws, x ≠ []) (hws : ws.length ≤ 256) (hvs : vs.length ≤ 256) {w : List UInt8} (hw : w.length ≤ 40) : cntL ws vs w ≤ 256 ^ 41 := by
  refine Nat.le_trans (cntL_le (m := 256 ^ 40) fun x _ _ => cnt_cap hn hws (by simp; omega)) ?_
  rw [show (41 : Nat) = 40 + 1 from rfl, Nat.pow_succ, Nat.mul_comm]
  exact Nat.mul_le_mul_left _ hvs
theorem cap_41 {n : Nat} (h : n ≤ 256 ^ 41) : n < capN := Nat.lt_of_le_of_lt h (by unfold capN; exact Nat.pow_lt_pow_right (by decide) (by omega))
theorem cap_40 {n : Nat} (h : n ≤ 256 ^ 40) : n < capN := Nat.lt_of_le_of_lt h (by unfold capN; exact Nat.pow_lt_pow_right (by decide) (by omega))

/-- The row of counts: all offsets behind n, and the first k words at n. -/
def cntV (ws : List (List UInt8)) (w : List UInt8) (n k j : Nat) : Nat := if n < j then cnt ws (w.drop j) else if j = n then cntL ws (ws.take k) (w.drop n) else 0
def cntH (ws : List (List UInt8)) (w : List UInt8) (n k : Nat) : List PV := (List.range (w.length + 1)).map fun j => intN false (cntV ws w n k j)
/-- All counts. -/
def cntR (ws : List (List UInt8)) (w : List UInt8) (n : Nat) : List PV := (List.range (w.length + 1)).map fun j => intN false (if n ≤ j then cnt ws (w.drop j) else 0)
theorem cntH_len (ws : List (List UInt8)) (w : List UInt8) (n k : Nat) : (cntH ws w n k).length = w.length + 1 := by simp [cntH]
theorem cntR_len (ws : List (List UInt8)) (w : List UInt8) (n : Nat) : (cntR ws w n).length = w.length + 1 := by simp [cntR]
theorem cntH_get {ws : List (List UInt8)} {w : List UInt8} {n k j : Nat} (h : j ≤ w.length) : (cntH ws w n k)[j]? = some (intN false (cntV ws w n k j)) := by
  simp [cntH, List.getElem?_map, List.getElem?_range (show j < w.length + 1 by omega)]
theorem cntR_get {ws : List (List UInt8)} {w : List UInt8} {n j : Nat} (h : j ≤ w.length) : (cntR ws w n)[j]? = some (intN false (if n ≤ j then cnt ws (w.drop j) else 0)) := by
  simp [cntR, List.getElem?_map, List.getElem?_range (show j < w.length + 1 by omega)]
theorem cntR_H {ws : List (List UInt8)} {w : List UInt8} {n : Nat} : cntR ws w (n + 1) = cntH ws w n 0 := by
  unfold cntR cntH cntV
  apply List.map_congr_left
  intro j _
  congr 1
  by_cases h : n < j
  · rw [if_pos (show n + 1 ≤ j from h), if_pos h]
  · rw [if_neg (show ¬ n + 1 ≤ j from h), if_neg h]; split <;> rfl
theorem cntH_R {ws : List (List UInt8)} (hn : ∀ x ∈ ws, x ≠ []) {w : List UInt8} {n : Nat} (h : n < w.length) : cntH ws w n ws.length = cntR ws w n := by
  unfold cntR cntH cntV
  apply List.map_congr_left
  intro j _
  congr 1
  by_cases h1 : n < j
  · rw [if_pos h1, if_pos (by omega)]
  · rw [if_neg h1]
    by_cases h2 : j = n
    · subst h2
      rw [if_pos rfl, if_pos (Nat.le_refl _), List.take_length, cnt_step hn]
      intro e
      have := congrArg List.length e
      simp at this; omega
    · rw [if_neg h2, if_neg (by omega)]
theorem cntH_no {ws : List (List UInt8)} {w : List UInt8} {n k : Nat} (hk : k < ws.length) (h : ws[k].isPrefixOf (w.drop n) = false) : cntH ws w n (k + 1) = cntH ws w n k := by
  unfold cntH cntV
  apply List.map_congr_left
  intro j _
  congr 1
  by_cases h1 : n < j
  · rw [if_pos h1, if_pos h1]
  · rw [if_neg h1, if_neg h1]
    by_cases h2 : j = n
    · rw [if_pos h2, if_pos h2, List.take_succ_eq_append_getElem hk, cntL_snoc, h]; simp
    · rw [if_neg h2, if_neg h2]
theorem cntH_yes {ws : List (List UInt8)} {w : List UInt8} {n k : Nat} (hk : k < ws.length) (h : ws[k].isPrefixOf (w.drop n) = true) (hn : n ≤ w.length) :
    (cntH ws w n k).set n (intN false (cntL ws (ws.take k) (w.drop n) + cnt ws (w.drop (n + ws[k].length)))) = cntH ws w n (k + 1) := by
  apply List.ext_getElem?
  intro j
  by_cases hj : j ≤ w.length
  · rw [List.getElem?_set, cntH_get hj, cntH_get hj]
    by_cases h2 : n = j
    · subst h2
      rw [if_pos rfl, if_pos (by rw [cntH_len]; omega)]
      unfold cntV
      rw [if_neg (by omega), if_pos rfl, List.take_succ_eq_append_getElem hk, cntL_snoc, h, if_pos rfl, List.drop_drop]
    · rw [if_neg h2]
      unfold cntV
      by_cases h1 : n < j
      · rw [if_pos h1, if_pos h1]
      · rw [if_neg h1, if_neg h1, if_neg (by omega), if_neg (by omega)]
  · rw [List.getElem?_eq_none (by simp [cntH_len]; omega), List.getElem?_eq_none (by rw [cntH_len]; omega)]

theorem cntR_start (ws : List (List UInt8)) (w : List UInt8) : (List.replicate (w.length + 1) (intN false 0)).set w.length (intN false 1) = cntR ws w w.length := by
  apply List.ext_getElem?
  intro j
  by_cases hj : j ≤ w.length
  · rw [List.getElem?_set, cntR_get hj]
    by_cases h2 : w.length = j
    · subst h2
      rw [if_pos rfl, if_pos (by simp), if_pos (Nat.le_refl _), List.drop_length]; rfl
    · rw [if_neg h2, List.getElem?_replicate, if_pos (by omega), if_neg (by omega)]
  · rw [List.getElem?_eq_none (by simp; omega), List.getElem?_eq_none (by rw [cntR_len]; omega)]
theorem size_int (l : List Nat) : sizeOK (l.map (intN false)) 2 := fun x hx => by
  obtain ⟨b, _, rfl⟩ := List.mem_map.1 hx
  rfl
theorem cntH_size (ws : List (List UInt8)) (w : List UInt8) (n k : Nat) : sizeOK (cntH ws w n k) 2 := fun x hx => by
  obtain ⟨b, _, rfl⟩ := List.mem_map.1 hx
  rfl

theorem u64 (q : Int) (ws : List (List UInt8)) (w : List UInt8) (hn : ∀ x ∈ ws, x ≠ []) (hws : ws.length ≤ 256) (hw : w.length ≤ 40) :
    PFn Try.prog 64 [codeV q ws, .str w] [.sl (cntR ws w 0)] := by
  have eL : ((w.length : Int) + 1).toNat = w.length + 1 := by omega
  have e1 := u34 1 (by omega)
  refine PFn.of_body hΓ Try.func64 (by kernel_rfl) rfl (AWp.seq (AWp.of_awpD [] hΓ hmix (by kernel_rfl) ?_))
  simp -implicitDefEqProofs only [Try.ntmps64, Try.results64, Nat.reduceAdd, Nat.reduceSub, codeV, go_sem]
  refine AWp.seq (AWp.of_awpD [] hΓ hmix (by kernel_rfl) ?_)
  simp -implicitDefEqProofs only [eL, go_sem]
  refine ⟨by simp only [InR]; omega, ⟨by omega, by omega, by omega⟩, ?_⟩
  refine AWp.seq (AWp.of_awpD [] hΓ hmix (by kernel_rfl) ?_)
  simp -implicitDefEqProofs only [go_sem]
  refine callK_fn e1 (.pures rfl) ?_
  simp -implicitDefEqProofs only [intN_pos, go_sem]
  have hst := cntR_start ws w
  rw [List.replicate_succ] at hst
  simp only [intN_pos, magB_zero] at hst
  rw [hst]
  refine ⟨⟨by simp, rfl⟩, ?_⟩
  clear hst
  refine AWp.seq (AWp.of_awpD [] hΓ hmix (by kernel_rfl) ?_)
  simp -implicitDefEqProofs only [go_sem]
  refine ⟨by simp only [InR]; omega, ?_⟩
  refine AWp.loopI (fun n : Nat => ⟨mkF 54 [(1, .p (.str w)), (2, .ptr 0 0), (5, .own 1 (w.length + 1)), (6, .p (.int .i64 ((n : Int) - 1)))], [.box [.p (.int .i64 q), .p (.sl (ws.map .str))], .row 44 2 (cntR ws w n) .own]⟩)
    (fun n => n ≤ w.length) (fun n => n) w.length (by simp [go_sem]) (Nat.le_refl _) ?_
  intro n hnw
  refine AWp.of_awpD [(10, 15)] hΓ hmix (by kernel_rfl) ?_
  cases n with
  | zero =>
    have h1 : ¬ (0 : Int) ≤ ((0 : Nat) : Int) - 1 := by omega
    simp -implicitDefEqProofs only [h1, go_sem]
    refine AWp.freeze 1 rfl ?_
    refine AWp.of_awpD [] hΓ hmix (by kernel_rfl) ?_
    simp -implicitDefEqProofs only [Frozen, go_sem]
  | succ n =>
    have h1 : (0 : Int) ≤ ((n + 1 : Nat) : Int) - 1 := by omega
    have e2 : ((n + 1 : Nat) : Int) - 1 = n := by omega
    simp -implicitDefEqProofs only [h1, e2, List.length_map, go_sem]
    rw [cntR_H]
    refine AWp.loopI (fun k : Nat => ⟨mkF 54 [(1, .p (.str w)), (2, .ptr 0 0), (5, .own 1 (w.length + 1)), (6, .p (.int .i64 n)), (26, .p (.sl (ws.map .str))), (27, .p (.int .i64 ws.length)), (28, .p (.int .i64 k))], [.box [.p (.int .i64 q), .p (.sl (ws.map .str))], .row 44 2 (cntH ws w n k) .own]⟩)
      (fun k => k ≤ ws.length) (fun k => ws.length - k) 0 (by simp [go_sem]) (by omega) ?_
    intro k hk
    refine AWp.of_awpD [(10, 15)] hΓ hmix (by kernel_rfl) ?_
    by_cases hlt : k < ws.length
    · have hnn : n ≤ w.length := by omega
      simp -implicitDefEqProofs only [hlt, getD_map_lt, ↓reduceIte, go_sem]
      refine ⟨hnn, callK_fn (t69 (w.drop n) ws[k]) (.pures rfl) ?_⟩
      cases hp : ws[k].isPrefixOf (w.drop n)
      · simp -implicitDefEqProofs only [hlt, getD_map_lt, ↓reduceIte, go_sem]
        rw [← cntH_no hlt hp]
        exact ⟨by simp only [InR]; omega, k + 1, ⟨by omega, .inl rfl⟩, hlt, by omega⟩
      · have hpl := (List.isPrefixOf_iff_prefix.1 hp).length_le
        rw [List.length_drop] at hpl
        have hxp : 0 < ws[k].length := List.length_pos_iff.2 (hn _ (List.getElem_mem hlt))
        have hgn : (cntH ws w n k).getD n default = .agg [.bool false, .str (magB (cntL ws (ws.take k) (w.drop n)))] := by
          rw [List.getD_eq_getElem?_getD, cntH_get hnn, Option.getD_some]
          unfold cntV
          rw [if_neg (by omega), if_pos rfl, intN_pos]
        have hgm : (cntH ws w n k).getD (n + ws[k].length) default = .agg [.bool false, .str (magB (cnt ws (w.drop (n + ws[k].length))))] := by
          rw [List.getD_eq_getElem?_getD, cntH_get (by omega), Option.getD_some]
          unfold cntV
          rw [if_pos (by omega), intN_pos]
        have e3 : ((n : Int) + (ws[k].length : Int)).toNat = n + ws[k].length := by omega
        have e4 := u89 (cntL ws (ws.take k) (w.drop n)) (cnt ws (w.drop (n + ws[k].length))) (cap_41 (cntL_cap hn hws (by simp; omega) (by simp; omega))) (cap_40 (cnt_cap hn hws (by simp; omega)))
        have hy := cntH_yes hlt hp hnn
        simp -implicitDefEqProofs only [hlt, getD_map_lt, ↓reduceIte, cntH_len, e3, hgn, hgm, go_sem]
        refine ⟨by omega, by omega, by simp only [InR]; omega, ⟨by omega, by omega⟩, by omega, ?_⟩
        refine callVPK_fn e4 (.pures rfl) ?_
        simp -implicitDefEqProofs only [hlt, getD_map_lt, ↓reduceIte, cntH_len, e3, hy, go_sem]
        exact ⟨by omega, ⟨by omega, rfl, rfl⟩, by simp only [InR]; omega, k + 1, ⟨by omega, .inl rfl⟩, hlt, by omega⟩
    · have hkn : k = ws.length := by omega
      rw [hkn, cntH_R hn (by omega)]
      have hz : ¬ (ws.length : Int) < ws.length := by omega
      simp -implicitDefEqProofs only [hz, go_sem]
      exact ⟨by simp only [InR]; omega, n, ⟨rfl, .inl rfl⟩, by omega, by omega⟩

theorem u63 (q : Int) (ws : List (List UInt8)) (w : List UInt8) : PFn Try.prog 63 [codeV q ws, .str w] [.int .i64 (if codeCheck q ws = 0 then wordCheck q w else 1)] := by
  refine PFn.of_body hΓ Try.func63 (by kernel_rfl) rfl (AWp.of_awpD [] hΓ hmix (by kernel_rfl) ?_)
  simp +contextual -implicitDefEqProofs only [codeV, Try.ntmps63, Try.results63, Nat.reduceAdd, Nat.reduceSub, go_sem]
  refine callK_fn (t45 q ws) (.still rfl) ?_
  by_cases h : codeCheck q ws = 0
  · rw [h]
    simp -implicitDefEqProofs only [go_sem]
    refine callK_fn (t80 q w) (.pures rfl) ?_
    simp -implicitDefEqProofs only [go_sem]
  · simp -implicitDefEqProofs only [h, go_sem]

theorem u32 (q : Int) (ws : List (List UInt8)) (w : List UInt8) (hn : codeCheck q ws = 0 → ∀ x ∈ ws, x ≠ []) (hws : codeCheck q ws = 0 → ws.length ≤ 256) (hw : codeCheck q ws = 0 → wordCheck q w = 0 → w.length ≤ 40) :
    PFn Try.prog 32 [codeV q ws, .str w] (if codeCheck q ws = 0 then (if wordCheck q w = 0 then [intN false (cnt ws w), .int .i64 0] else [intN false 0, .int .i64 (wordCheck q w)]) else [intN false 0, .int .i64 1]) := by
  refine PFn.of_body hΓ Try.func32 (by kernel_rfl) rfl (AWp.of_awpD [] hΓ hmix (by kernel_rfl) ?_)
  simp +contextual -implicitDefEqProofs only [codeV, Try.ntmps32, Try.results32, Nat.reduceAdd, Nat.reduceSub, go_sem]
  refine callK_fn (u63 q ws w) (.still rfl) ?_
  by_cases h : codeCheck q ws = 0
  · by_cases h2 : wordCheck q w = 0
    · rw [h2]
      have e := u64 q ws w (hn h) (hws h) (hw h h2)
      simp -implicitDefEqProofs only [h, go_sem]
      refine callK_fn e (.still rfl) ?_
      have hg : (cntR ws w 0).getD (Int.toNat 0) default = .agg [.bool false, .str (magB (cnt ws w))] := by
        rw [show Int.toNat 0 = 0 from rfl, List.getD_eq_getElem?_getD, cntR_get (by omega), Option.getD_some, if_pos (Nat.le_refl _), List.drop_zero, intN_pos]
      simp -implicitDefEqProofs only [cntR_len, hg, intN_pos, go_sem]
      rw [if_pos h]
      exact ⟨by omega, rfl⟩
    · simp -implicitDefEqProofs only [h, h2, go_sem]
      rfl
  · have h10 : ¬ (1 : Int) = 0 := by decide
    simp -implicitDefEqProofs only [h, h10, go_sem]
    rfl
end Go.Proofs.Ytgkbafkmbokkaaa
end

section
namespace Go.Proofs.Ytgkbafkmbokkaaa
open Go Go.AM
set_option maxRecDepth 100000
set_option linter.unusedSimpArgs false

def cmpN (a b : Nat) : Int := if a < b then -1 else if a = b then 0 else 1
theorem cmpN_lt {a b : Nat} (h : a < b) : cmpN a b = -1 := if_pos h
theorem cmpN_gt {a b : Nat} (h : b < a) : cmpN a b = 1 := by unfold cmpN; rw [if_neg (by omega), if_neg (by omega)]
theorem cmpN_eq (a : Nat) : cmpN a a = 0 := by unfold cmpN; rw [if_neg (by omega), if_pos rfl]

theorem valD_split (B i : Nat) (l : List Nat) : valD B l = valD B (l.take i) + B ^ (l.take i).length * valD B (l.drop i) := by
  conv => lhs; rw [← List.take_append_drop i l]
  rw [valD_append]
theorem valD_ge {B : Nat} (hB : 0 < B) : ∀ {l : List Nat}, Canon B l → l ≠ [] → B ^ (l.length - 1) ≤ valD B l
  | [], _, h => absurd rfl h
  | [d], h, _ => by
    have : d ≠ 0 := fun e => by subst e; exact h.2 rfl
    simp [valD]; omega
  | d :: e :: l, h, _ => by
    have ih := valD_ge hB (canon_tail h) (by simp)
    have e1 : valD B (d :: e :: l) = d + B * valD B (e :: l) := rfl
    have e2 : B ^ ((d :: e :: l).length - 1) = B * B ^ ((e :: l).length - 1) := by
      simp only [List.length_cons, Nat.add_sub_cancel]
      rw [Nat.pow_succ, Nat.mul_comm]
    rw [e1, e2]
    have := Nat.mul_le_mul_left B ih
    omega
theorem len_lt {B : Nat} (hB : 0 < B) {x y : List Nat} (hx : Canon B x) (hy : Canon B y) (h : x.length < y.length) : valD B x < valD B y := by
  refine Nat.lt_of_lt_of_le (valD_lt hx.1) (Nat.le_trans (Nat.pow_le_pow_right hB ?_) (valD_ge hB hy (fun e => by subst e; simp at h)))
  omega
theorem dig_cmp {B : Nat} {x y : List Nat} {i : Nat} (hx : ∀ d ∈ x, d < B) (hl : x.length = y.length) (hi : i < x.length) (hd : x.drop (i + 1) = y.drop (i + 1)) (h : x.getD i 0 < y.getD i 0) : valD B x < valD B y := by
  rw [valD_split B i x, valD_split B i y]
  have h1 : (x.take i).length = i := by simp; omega
  have h2 : (y.take i).length = i := by simp; omega
  have h3 : valD B (x.take i) < B ^ i := by
    have := valD_lt (B := B) (l := x.take i) (fun d hd => hx d (List.mem_of_mem_take hd))
    rwa [h1] at this
  have e1 : valD B (x.drop i) = x.getD i 0 + B * valD B (x.drop (i + 1)) := by
    rw [List.drop_eq_getElem_cons hi, List.getD_eq_getElem?_getD, List.getElem?_eq_getElem hi]; rfl
  have e2 : valD B (y.drop i) = y.getD i 0 + B * valD B (y.drop (i + 1)) := by
    rw [List.drop_eq_getElem_cons (show i < y.length by omega), List.getD_eq_getElem?_getD, List.getElem?_eq_getElem (show i < y.length by omega)]; rfl
  rw [h1, h2, e1, e2, hd]
  generalize B * valD B (y.drop (i + 1)) = R
  have h4 : B ^ i * (x.getD i 0 + R + 1) ≤ B ^ i * (y.getD i 0 + R) := Nat.mul_le_mul_left _ (by omega)
  rw [Nat.mul_add] at h4
  omega

theorem u106 (x y : List Nat) (hx : Canon B32 x) (hy : Canon B32 y) (hxl : x.length ≤ 1000000) (_hyl : y.length ≤ 1000000) : PFn Try.prog 106 [natV x, natV y] [.int .i64 (cmpN (valD B32 x) (valD B32 y))] := by
  refine PFn.of_body hΓ Try.func106 (by kernel_rfl) rfl (AWp.seq (AWp.of_awpD [] hΓ hmix (by kernel_rfl) ?_))
  simp -implicitDefEqProofs only [Try.ntmps106, Try.results106, Nat.reduceAdd, Nat.reduceSub, natV, go_sem]
  by_cases h1 : x.length = y.length
  · have h1' : (x.length : Int) = y.length := by omega
    refine AWp.seq (AWp.of_awpD [] hΓ hmix (by kernel_rfl) ?_)
    simp -implicitDefEqProofs only [List.length_map, h1', go_sem]
    refine AWp.seq (AWp.of_awpD [] hΓ hmix (by kernel_rfl) ?_)
    simp -implicitDefEqProofs only [List.length_map, h1', go_sem]
    refine ⟨by simp only [InR]; omega, ?_⟩
    refine AWp.loopI (fun n : Nat => ⟨mkF 41 [(0, .p (natV x)), (1, .p (natV y)), (5, .p (.int .i64 ((n : Int) - 1)))], []⟩)
      (fun n => n ≤ x.length ∧ x.drop n = y.drop n) (fun n => n) x.length (by simp [go_sem, natV, h1]) ⟨Nat.le_refl _, by rw [List.drop_length, h1, List.drop_length]⟩ ?_
    rintro n ⟨hn, hd⟩
    refine AWp.of_awpD [(8, 9), (9, 9)] hΓ hmix (by kernel_rfl) ?_
    cases n with
    | zero =>
      have h2 : ¬ (0 : Int) ≤ ((0 : Nat) : Int) - 1 := by omega
      have : x = y := by simpa using hd
      simp -implicitDefEqProofs only [h2, go_sem]
      rw [this, cmpN_eq]
      refine AWp.of_awpD [] hΓ hmix (by kernel_rfl) ?_
      simp -implicitDefEqProofs only [go_sem]
    | succ n =>
      have h2 : (0 : Int) ≤ ((n + 1 : Nat) : Int) - 1 := by omega
      have e2 : ((n + 1 : Nat) : Int) - 1 = n := by omega
      have hnx : n < x.length := hn
      have hny : n < y.length := by omega
      have hgx : (x.map u32V).getD n default = .int .u32 ((x.getD n 0 : Nat) : Int) := by
        rw [getD_map_lt _ _ _ _ hnx, List.getD_eq_getElem?_getD, List.getElem?_eq_getElem hnx]; rfl
      have hgy : (y.map u32V).getD n default = .int .u32 ((y.getD n 0 : Nat) : Int) := by
        rw [getD_map_lt _ _ _ _ hny, List.getD_eq_getElem?_getD, List.getElem?_eq_getElem hny]; rfl
      rcases Nat.lt_trichotomy (x.getD n 0) (y.getD n 0) with h | h | h
      · have h3 : ¬ ((x.getD n 0 : Nat) : Int) = (y.getD n 0 : Nat) := by omega
        have h4 : ((x.getD n 0 : Nat) : Int) < (y.getD n 0 : Nat) := by omega
        have := dig_cmp hx.1 h1 hnx hd h
        simp -implicitDefEqProofs only [natV, List.length_map, h2, e2, hgx, hgy, h3, h4, hnx, hny, go_sem]
        rw [cmpN_lt this]
      · have hd' : x.drop n = y.drop n := by
          rw [List.drop_eq_getElem_cons hnx, List.drop_eq_getElem_cons hny, hd]
          congr 1
          rwa [List.getD_eq_getElem?_getD, List.getElem?_eq_getElem hnx, Option.getD_some, List.getD_eq_getElem?_getD, List.getElem?_eq_getElem hny, Option.getD_some] at h
        simp -implicitDefEqProofs only [natV, List.length_map, h2, e2, hgx, hgy, h, hnx, hny, go_sem]
        exact ⟨by simp only [InR]; omega, n, rfl, ⟨by omega, hd'⟩, by omega⟩
      · have h3 : ¬ ((x.getD n 0 : Nat) : Int) = (y.getD n 0 : Nat) := by omega
        have h4 : ¬ ((x.getD n 0 : Nat) : Int) < (y.getD n 0 : Nat) := by omega
        have := dig_cmp hy.1 h1.symm hny hd.symm h
        simp -implicitDefEqProofs only [natV, List.length_map, h2, e2, hgx, hgy, h3, h4, hnx, hny, go_sem]
        rw [cmpN_gt this]
  · have h1' : ¬ (x.length : Int) = y.length := by omega
    refine AWp.of_awpD [] hΓ hmix (by kernel_rfl) ?_
    by_cases h2 : x.length < y.length
    · have h2' : (x.length : Int) < y.length := by omega
      have := len_lt (B := B32) (by decide) hx hy h2
      simp -implicitDefEqProofs only [List.length_map, h1', h2', go_sem]
      rw [cmpN_lt this]
    · have h2' : ¬ (x.length : Int) < y.length := by omega
      have := len_lt (B := B32) (by decide) hy hx (by omega)
      simp -implicitDefEqProofs only [List.length_map, h1', h2', go_sem]
      rw [cmpN_gt this]

theorem u107 (X Y : List Nat) (hX : ∀ d ∈ X, d < B32) (hY : ∀ d ∈ Y, d < B32) (hXl : X.length ≤ 1000000) (hYX : Y.length ≤ X.length) (hle : valD B32 Y ≤ valD B32 X) : PFn Try.prog 107 [natV X, natV Y] [natV (digD B32 (valD B32 X - valD B32 Y))] := by
  have eL : ((X.length : Int)).toNat = X.length := by omega
  refine PFn.of_body hΓ Try.func107 (by kernel_rfl) rfl (AWp.seq (AWp.of_awpD [] hΓ hmix (by kernel_rfl) ?_))
  simp -implicitDefEqProofs only [Try.ntmps107, Try.results107, Nat.reduceAdd, Nat.reduceSub, natV, go_sem]
  refine AWp.seq (AWp.of_awpD [] hΓ hmix (by kernel_rfl) ?_)
  simp -implicitDefEqProofs only [natV, List.length_map, eL, go_sem]
  refine ⟨⟨by omega, by omega⟩, ?_⟩
  refine AWp.seq (AWp.of_awpD [] hΓ hmix (by kernel_rfl) ?_)
  simp -implicitDefEqProofs only [go_sem]
  refine AWp.seq (AWp.of_awpD [] hΓ hmix (by kernel_rfl) ?_)
  simp -implicitDefEqProofs only [List.length_map, go_sem]
  refine AWp.loopI (fun z : Nat × List Nat × Nat => ⟨mkF 47 [(0, .p (natV X)), (1, .p (natV Y)), (5, .own 0 X.length), (6, .p (.int .i64 z.2.2)), (13, .p (.int .i64 X.length)), (14, .p (.int .i64 z.1))], [.row 81 1 ((z.2.1 ++ List.replicate (X.length - z.1) 0).map u32V) .own]⟩)
    (fun z => z.1 ≤ X.length ∧ z.2.1.length = z.1 ∧ (∀ d ∈ z.2.1, d < B32) ∧ z.2.2 ≤ 1 ∧ valD B32 (X.take z.1) + z.2.2 * B32 ^ z.1 = valD B32 z.2.1 + valD B32 (Y.take z.1)) (fun z => X.length - z.1) (0, [], 0) (by simp [go_sem, natV, u32V]) (by simp [valD]) ?_
  rintro ⟨i, o, c⟩ ⟨hi, ho, hod, hc, hval⟩
  simp only at hi ho hod hc hval
  refine AWp.of_awpD [] hΓ hmix (by kernel_rfl) ?_
  by_cases hlt : i < X.length
  · have hgX : (X.map u32V).getD i default = .int .u32 ((X.getD i 0 : Nat) : Int) := by
      rw [getD_map_lt _ _ _ _ hlt, List.getD_eq_getElem?_getD, List.getElem?_eq_getElem hlt]; rfl
    have dX : X.getD i 0 < B32 := by
      rw [List.getD_eq_getElem?_getD, List.getElem?_eq_getElem hlt, Option.getD_some]; exact hX _ (List.getElem_mem hlt)
    have dY : Y.getD i 0 < B32 := by
      rw [List.getD_eq_getElem?_getD]
      cases hq : Y[i]? with
      | none => decide
      | some d => exact hY d (List.mem_of_getElem? hq)
    have hwX : IntKind.i64.wrap ((X.getD i 0 : Nat) : Int) = (X.getD i 0 : Nat) := InR.wrap (k := .i64) (by simp only [InR]; unfold B32 at dX; omega)
    have hwY : IntKind.i64.wrap ((Y.getD i 0 : Nat) : Int) = (Y.getD i 0 : Nat) := InR.wrap (k := .i64) (by simp only [InR]; unfold B32 at dY; omega)
    have tX := valD_take (l := X) B32 i
    have tY := valD_take (l := Y) B32 i
    generalize hxi : X.getD i 0 = xi at *
    generalize hyi : Y.getD i 0 = yi at *
    have hB : B32 = 4294967296 := rfl
    obtain ⟨s, b, hs, hb, hsb⟩ : ∃ s b : Nat, (b = 0 ∧ (s : Int) = (xi : Int) - c - yi ∨ b = 1 ∧ (s : Int) = (xi : Int) - c - yi + 4294967296 ∧ (xi : Int) - c - yi < 0) ∧ b ≤ 1 ∧ s < B32 := by
      by_cases hneg : (xi : Int) - c - yi < 0
      · exact ⟨((xi : Int) - c - yi + 4294967296).toNat, 1, .inr ⟨rfl, by omega, hneg⟩, by omega, by omega⟩
      · exact ⟨((xi : Int) - c - yi).toNat, 0, .inl ⟨rfl, by omega⟩, by omega, by omega⟩
    have hvl : valD B32 (X.take (i + 1)) + b * B32 ^ (i + 1) = valD B32 (o ++ [s]) + valD B32 (Y.take (i + 1)) := by
      rw [tX, tY, valD_append, ho, Nat.pow_succ]
      have e1 : valD B32 [s] = s := by simp [valD]
      rw [e1]
      generalize hP : B32 ^ i = P at *
      have e2 : xi + b * B32 = s + yi + c := by
        rcases hs with ⟨rfl, h⟩ | ⟨rfl, h, _⟩ <;> omega
      have e3 : (xi + b * B32) * P = (s + yi + c) * P := by rw [e2]
      rw [Nat.add_mul, Nat.add_mul, Nat.add_mul] at e3
      have e4 : b * (P * B32) = b * B32 * P := by rw [Nat.mul_comm P, Nat.mul_assoc]
      rw [e4, Nat.mul_comm P s]
      omega
    have hs32 : IntKind.u32.wrap (s : Int) = (s : Int) := InR.wrap (k := .u32) (by simp only [InR]; omega)
    have hset : ((o ++ List.replicate (X.length - i) 0).map u32V).set i (.int .u32 (s : Int)) = ((o ++ [s]) ++ List.replicate (X.length - (i + 1)) 0).map u32V := by
      have := set_mid o (X.length - (i + 1)) s
      rw [ho, show X.length - (i + 1) + 1 = X.length - i by omega] at this
      exact this
    have hod' : ∀ d ∈ o ++ [s], d < B32 := fun d hd => by
      rcases List.mem_append.1 hd with hd | hd
      · exact hod d hd
      · rw [List.mem_singleton] at hd; subst hd; exact hsb
    have hlen : i < (o ++ List.replicate (X.length - i) 0).length := by simp; omega
    by_cases hlt2 : (i : Int) < Y.length
    · have hlt2' : i < Y.length := by omega
      have hgY : (Y.map u32V).getD i default = .int .u32 (yi : Int) := by
        rw [getD_map_lt _ _ _ _ hlt2', ← hyi, List.getD_eq_getElem?_getD, List.getElem?_eq_getElem hlt2']; rfl
      rcases hs with ⟨rfl, h⟩ | ⟨rfl, h, hneg⟩
      · have hneg : ¬ (s : Int) < 0 := by omega
        simp -implicitDefEqProofs only [natV, List.length_map, hlt, hgX, hgY, hlt2', hwX, hwY, ← h, hneg, hs32, hset, go_sem]
        refine ⟨by simp only [InR]; omega, by simp only [InR]; omega, ⟨hlen, rfl⟩, by simp only [InR]; omega, (i + 1, o ++ [s], 0), ⟨⟨rfl, by simp⟩, .inl rfl⟩, ⟨hlt, by simp [ho], hod', by omega, hvl⟩, by simp only; omega⟩
      · simp -implicitDefEqProofs only [natV, List.length_map, hlt, hgX, hgY, hlt2', hwX, hwY, hneg, ← h, hs32, hset, go_sem]
        refine ⟨by simp only [InR]; omega, by simp only [InR]; omega, by simp only [InR]; omega, ⟨hlen, rfl⟩, by simp only [InR]; omega, (i + 1, o ++ [s], 1), ⟨⟨rfl, by simp⟩, .inl rfl⟩, ⟨hlt, by simp [ho], hod', by omega, hvl⟩, by simp only; omega⟩
    · have hy0 : yi = 0 := by rw [← hyi, List.getD_eq_getElem?_getD, List.getElem?_eq_none (by omega)]; rfl
      rcases hs with ⟨rfl, h⟩ | ⟨rfl, h, hneg⟩
      · have h' : (s : Int) = (xi : Int) - c := by omega
        have hneg : ¬ (s : Int) < 0 := by omega
        simp -implicitDefEqProofs only [natV, List.length_map, hlt, hgX, hlt2, hwX, hwY, ← h', hneg, hs32, hset, go_sem]
        refine ⟨by simp only [InR]; omega, ⟨hlen, rfl⟩, by simp only [InR]; omega, (i + 1, o ++ [s], 0), ⟨⟨rfl, by simp⟩, .inl rfl⟩, ⟨hlt, by simp [ho], hod', by omega, hvl⟩, by simp only; omega⟩
      · have h' : (s : Int) = (xi : Int) - c + 4294967296 := by omega
        have hneg' : (xi : Int) - c < 0 := by omega
        simp -implicitDefEqProofs only [natV, List.length_map, hlt, hgX, hlt2, hwX, hwY, hneg', ← h', hs32, hset, go_sem]
        refine ⟨by simp only [InR]; omega, by simp only [InR]; omega, ⟨hlen, rfl⟩, by simp only [InR]; omega, (i + 1, o ++ [s], 1), ⟨⟨rfl, by simp⟩, .inl rfl⟩, ⟨hlt, by simp [ho], hod', by omega, hvl⟩, by simp only; omega⟩
  · simp -implicitDefEqProofs only [natV, List.length_map, hlt, go_sem]
    have hin : i = X.length := by omega
    have hall : valD B32 o < B32 ^ o.length := valD_lt hod
    rw [hin, List.take_of_length_le (Nat.le_refl _), List.take_of_length_le hYX] at hval
    have hc0 : c = 0 := by
      rcases (by omega : c = 0 ∨ c = 1) with h | h
      · exact h
      · subst h
        rw [ho, hin] at hall
        omega
    subst hc0
    have hv : valD B32 o = valD B32 X - valD B32 Y := by simp at hval; omega
    have hrow : o ++ List.replicate (X.length - i) 0 = o := by rw [hin]; simp
    rw [hrow]
    refine AWp.freeze 0 rfl ?_
    refine AWp.of_awpD [] hΓ hmix (by kernel_rfl) ?_
    simp -implicitDefEqProofs only [Frozen, go_sem]
    have e91 := u91 o (by omega)
    rw [trimL_eq (B := B32) (by decide) hod, hv] at e91
    refine callK_fn e91 (.pures rfl) ?_
    simp -implicitDefEqProofs only [natV, go_sem]

theorem u90 (n : Nat) (hn : n < capN) : PFn Try.prog 90 [intN false n] [intN true n] := by
  have e1 := u69n false n hn
  have e2 := u66 true (digD B32 n) (dig_lt _) (by have := cap_dig hn; omega)
  rw [digD_val (by decide)] at e2
  refine PFn.of_body hΓ Try.func90 (by kernel_rfl) rfl (AWp.of_awpD [(1, 6)] hΓ hmix (by kernel_rfl) ?_)
  simp +contextual -implicitDefEqProofs only [intN_pos, Try.ntmps90, Try.results90, Nat.reduceAdd, Nat.reduceSub, go_sem]
  refine callVPK_fn e1 (.still rfl) ?_
  simp -implicitDefEqProofs only [go_sem]
  refine callVPK_fn e2 (.pures rfl) ?_
  simp -implicitDefEqProofs only [intN, intV, go_sem]

theorem intN_neg {n : Nat} (h : n ≠ 0) : intN true n = .agg [.bool true, .str (magB n)] := by simp [intN, intV, h]

theorem u89m (a b : Nat) (ha : a < capN) (hb : b < capN) (hb0 : b ≠ 0) : PFn Try.prog 89 [intN false a, intN true b] [if a < b then intN true (b - a) else intN false (a - b)] := by
  have ea := u69n false a ha
  have eb := u69n true b hb
  have la := cap_dig ha
  have lb := cap_dig hb
  have ec := u106 (digD B32 a) (digD B32 b) (digD_canon (by decide) a) (digD_canon (by decide) b) (by omega) (by omega)
  rw [digD_val (by decide), digD_val (by decide)] at ec
  rw [intN_neg hb0] at eb ⊢
  by_cases h : a < b
  · have hlen : (digD B32 a).length ≤ (digD B32 b).length := by
      rcases Nat.lt_or_ge (digD B32 b).length (digD B32 a).length with hl | hl
      · have := len_lt (B := B32) (by decide) (digD_canon (by decide) b) (digD_canon (by decide) a) hl
        rw [digD_val (by decide), digD_val (by decide)] at this
        omega
      · exact hl
    have e1 := u107 (digD B32 b) (digD B32 a) (dig_lt b) (dig_lt a) (by omega) hlen (by rw [digD_val (by decide), digD_val (by decide)]; omega)
    rw [digD_val (by decide), digD_val (by decide)] at e1
    have e2 := u66 true (digD B32 (b - a)) (dig_lt _) (by have := cap_dig (n := b - a) (by omega); omega)
    rw [digD_val (by decide)] at e2
    rw [cmpN_lt h] at ec
    have hft : (false == true) = false := rfl
    have hm1 : (-1 : Int) < 0 := by decide
    refine PFn.of_body hΓ Try.func89 (by kernel_rfl) rfl (AWp.of_awpD [(1, 6), (3, 6), (5, 6), (6, 6)] hΓ hmix (by kernel_rfl) ?_)
    simp +contextual -implicitDefEqProofs only [intN_pos, Try.ntmps89, Try.results89, Nat.reduceAdd, Nat.reduceSub, go_sem]
    refine callVPK_fn ea (.still rfl) ?_
    simp -implicitDefEqProofs only [go_sem]
    refine callVPK_fn eb (.still rfl) ?_
    simp -implicitDefEqProofs only [hft, go_sem]
    refine callK_fn ec (.pures rfl) ?_
    simp -implicitDefEqProofs only [hm1, go_sem]
    refine callVPK_fn e1 (.pures rfl) ?_
    simp -implicitDefEqProofs only [go_sem]
    refine callVPK_fn e2 (.pures rfl) ?_
    simp -implicitDefEqProofs only [h, intN_neg (show b - a ≠ 0 by omega), go_sem]
  · have hlen : (digD B32 b).length ≤ (digD B32 a).length := by
      rcases Nat.lt_or_ge (digD B32 a).length (digD B32 b).length with hl | hl
      · have := len_lt (B := B32) (by decide) (digD_canon (by decide) a) (digD_canon (by decide) b) hl
        rw [digD_val (by decide), digD_val (by decide)] at this
        omega
      · exact hl
    have e1 := u107 (digD B32 a) (digD B32 b) (dig_lt a) (dig_lt b) (by omega) hlen (by rw [digD_val (by decide), digD_val (by decide)]; omega)
    rw [digD_val (by decide), digD_val (by decide)] at e1
    have e2 := u66 false (digD B32 (a - b)) (dig_lt _) (by have := cap_dig (n := a - b) (by omega); omega)
    rw [digD_val (by decide)] at e2
    have hft : (false == true) = false := rfl
    have hm1 : ¬ cmpN a b < 0 := by unfold cmpN; rw [if_neg h]; split <;> decide
    refine PFn.of_body hΓ Try.func89 (by kernel_rfl) rfl (AWp.of_awpD [(1, 6), (3, 6), (5, 6), (6, 6)] hΓ hmix (by kernel_rfl) ?_)
    simp +contextual -implicitDefEqProofs only [intN_pos, Try.ntmps89, Try.results89, Nat.reduceAdd, Nat.reduceSub, go_sem]
    refine callVPK_fn ea (.still rfl) ?_
    simp -implicitDefEqProofs only [go_sem]
    refine callVPK_fn eb (.still rfl) ?_
    simp -implicitDefEqProofs only [hft, go_sem]
    refine callK_fn ec (.pures rfl) ?_
    simp -implicitDefEqProofs only [hm1, go_sem]
    refine callVPK_fn e1 (.pures rfl) ?_
    simp -implicitDefEqProofs only [go_sem]
    refine callVPK_fn e2 (.pures rfl) ?_
    simp -implicitDefEqProofs only [h, intN_pos, go_sem]
theorem u65 (a b : Nat) (ha : a < capN) (hb : b < capN) : PFn Try.prog 65 [intN false a, intN false b] [if a < b then intN true (b - a) else intN false (a - b)] := by
  have e1 := u90 b hb
  have e2 : PFn Try.prog 89 [intN false a, intN true b] [if a < b then intN true (b - a) else intN false (a - b)] := by
    by_cases h : b = 0
    · subst h
      have := u89 a 0 ha hb
      rw [if_neg (by omega)]
      exact this
    · exact u89m a b ha hb h
  by_cases h : a < b
  · rw [if_pos h] at e2 ⊢
    rw [intN_neg (show b - a ≠ 0 by omega)] at e2 ⊢
    refine PFn.of_body hΓ Try.func65 (by kernel_rfl) rfl (AWp.of_awpD [(1, 4)] hΓ hmix (by kernel_rfl) ?_)
    simp -implicitDefEqProofs only [Try.ntmps65, Try.results65, Nat.reduceAdd, Nat.reduceSub, intN_pos, go_sem]
    refine callVPK_fn e1 (.still rfl) ?_
    simp -implicitDefEqProofs only [go_sem]
    refine callVPK_fn e2 (.still rfl) ?_
    simp -implicitDefEqProofs only [go_sem]
  · rw [if_neg h] at e2 ⊢
    refine PFn.of_body hΓ Try.func65 (by kernel_rfl) rfl (AWp.of_awpD [(1, 4)] hΓ hmix (by kernel_rfl) ?_)
    simp -implicitDefEqProofs only [Try.ntmps65, Try.results65, Nat.reduceAdd, Nat.reduceSub, intN_pos, go_sem]
    refine callVPK_fn e1 (.still rfl) ?_
    simp -implicitDefEqProofs only [go_sem]
    refine callVPK_fn e2 (.still rfl) ?_
    simp -implicitDefEqProofs only [intN_pos, go_sem]
theorem u33 (a b : Nat) (ha : a < capN) (hb : b < capN) : PFn Try.prog 33 [intN false a, intN false b] [.int .i64 (cmpN a b)] := by
  have e := u65 a b ha hb
  by_cases h : a < b
  · rw [cmpN_lt h]
    rw [if_pos h, intN_neg (show b - a ≠ 0 by omega)] at e
    refine PFn.of_body hΓ Try.func33 (by kernel_rfl) rfl (AWp.of_awpD [] hΓ hmix (by kernel_rfl) ?_)
    simp -implicitDefEqProofs only [Try.ntmps33, Try.results33, Nat.reduceAdd, Nat.reduceSub, intN_pos, go_sem]
    refine callK_fn e (.still rfl) ?_
    simp -implicitDefEqProofs only [go_sem]
  · rw [if_neg h] at e
    by_cases h2 : a = b
    · subst h2
      rw [cmpN_eq]
      rw [Nat.sub_self] at e
      refine PFn.of_body hΓ Try.func33 (by kernel_rfl) rfl (AWp.of_awpD [] hΓ hmix (by kernel_rfl) ?_)
      simp -implicitDefEqProofs only [Try.ntmps33, Try.results33, Nat.reduceAdd, Nat.reduceSub, intN_pos, go_sem]
      refine callK_fn e (.still rfl) ?_
      simp -implicitDefEqProofs only [intN_pos, magB_zero, go_sem]
    · rw [cmpN_gt (by omega)]
      have hm : ¬ magB (a - b) = [] := fun e => by have := magB_nil e; omega
      refine PFn.of_body hΓ Try.func33 (by kernel_rfl) rfl (AWp.of_awpD [] hΓ hmix (by kernel_rfl) ?_)
      simp -implicitDefEqProofs only [Try.ntmps33, Try.results33, Nat.reduceAdd, Nat.reduceSub, intN_pos, go_sem]
      refine callK_fn e (.still rfl) ?_
      simp -implicitDefEqProofs only [intN_pos, hm, go_sem]
end Go.Proofs.Ytgkbafkmbokkaaa
end

section
namespace Go.Proofs.Ytgkbafkmbokkaaa
open Go Go.AM
set_option maxRecDepth 100000
set_option linter.unusedSimpArgs false

def rdF (ws : List (List UInt8)) : Nat → List UInt8 → List (List Nat)
  | 0, w => if w = [] then [[]] else []
  | f + 1, w => if w = [] then [[]] else (List.range ws.length).flatMap fun k => if (ws.getD k []).isPrefixOf w then (rdF ws f (w.drop (ws.getD k []).length)).map (k :: ·) else []
def rdI (ws : List (List UInt8)) (w : List UInt8) : List (List Nat) := rdF ws w.length w

theorem rdF_more {ws : List (List UInt8)} (hn : ∀ x ∈ ws, x ≠ []) : ∀ (f : Nat) (w : List UInt8), w.length ≤ f → rdF ws f w = rdI ws w := by
  intro f
  induction f using Nat.strongRecOn with
  | _ f ih =>
    intro w hw
    cases w with
    | nil => cases f <;> simp [rdI, rdF]
    | cons b w =>
      cases f with
      | zero => simp at hw
      | succ f =>
        have e1 : rdI ws (b :: w) = rdF ws (w.length + 1) (b :: w) := rfl
        rw [e1]
        unfold rdF
        rw [if_neg (by simp), if_neg (by simp)]
        rw [List.flatMap_def, List.flatMap_def]
        congr 1
        apply List.map_congr_left
        intro k hk
        have hk' : k < ws.length := List.mem_range.1 hk
        have hx : ws.getD k [] ∈ ws := by
          rw [List.getD_eq_getElem?_getD, List.getElem?_eq_getElem hk', Option.getD_some]; exact List.getElem_mem hk'
        split
        · have hxl : 0 < (ws.getD k []).length := List.length_pos_iff.2 (hn _ hx)
          have hd : ((b :: w).drop (ws.getD k []).length).length ≤ w.length := by rw [List.length_drop, List.length_cons]; omega
          have hd2 : ((b :: w).drop (ws.getD k []).length).length ≤ f := by rw [List.length_cons] at hw; rw [List.length_drop, List.length_cons]; omega
          rw [ih f (by omega) _ hd2]
          by_cases hwf : w.length < f + 1
          · rw [ih w.length hwf _ hd]
          · simp at hw; omega
        · rfl
/-- The readings that begin with word k. -/
def rdAt (ws : List (List UInt8)) (w : List UInt8) (k : Nat) : List (List Nat) := if (ws.getD k []).isPrefixOf w then (rdI ws (w.drop (ws.getD k []).length)).map (k :: ·) else []
def rdTo (ws : List (List UInt8)) (w : List UInt8) (n : Nat) : List (List Nat) := (List.range n).flatMap (rdAt ws w)
theorem rdTo_succ (ws : List (List UInt8)) (w : List UInt8) (n : Nat) : rdTo ws w (n + 1) = rdTo ws w n ++ rdAt ws w n := by
  unfold rdTo; rw [List.range_succ, List.flatMap_append]; simp
theorem rdI_nil (ws : List (List UInt8)) : rdI ws [] = [[]] := rfl
theorem rdI_step {ws : List (List UInt8)} (hn : ∀ x ∈ ws, x ≠ []) {w : List UInt8} (hw : w ≠ []) : rdI ws w = rdTo ws w ws.length := by
  cases w with
  | nil => exact absurd rfl hw
  | cons b w =>
    have e1 : rdI ws (b :: w) = rdF ws (w.length + 1) (b :: w) := rfl
    rw [e1]
    unfold rdF rdTo
    rw [if_neg (by simp), List.flatMap_def, List.flatMap_def]
    congr 1
    apply List.map_congr_left
    intro k hk
    have hk' : k < ws.length := List.mem_range.1 hk
    have hx : ws.getD k [] ∈ ws := by
      rw [List.getD_eq_getElem?_getD, List.getElem?_eq_getElem hk', Option.getD_some]; exact List.getElem_mem hk'
    have hxl : 0 < (ws.getD k []).length := List.length_pos_iff.2 (hn _ hx)
    unfold rdAt
    split
    · rw [rdF_more hn _ _ (by rw [List.length_drop, List.length_cons]; omega)]
    · rfl
theorem rdTo_len {ws : List (List UInt8)} {w : List UInt8} (h : ∀ k, k < ws.length → (rdAt ws w k).length = if ws.getD k [] |>.isPrefixOf w then cnt ws (w.drop (ws.getD k []).length) else 0) : ∀ n, n ≤ ws.length → (rdTo ws w n).length = cntL ws (ws.take n) w
  | 0, _ => by simp [rdTo, cntL]
  | n + 1, hn => by
    have hn' : n < ws.length := hn
    rw [rdTo_succ, List.length_append, rdTo_len h n (by omega), h n hn', List.take_succ_eq_append_getElem hn', cntL_snoc, List.getD_eq_getElem?_getD, List.getElem?_eq_getElem hn', Option.getD_some]
/-- As many as Count says. -/
theorem rdI_len {ws : List (List UInt8)} (hn : ∀ x ∈ ws, x ≠ []) : ∀ (n : Nat) (w : List UInt8), w.length ≤ n → (rdI ws w).length = cnt ws w
  | 0, w, h => by
    have : w = [] := List.length_eq_zero_iff.1 (by omega)
    subst this; rfl
  | n + 1, w, h => by
    cases w with
    | nil => rfl
    | cons b w =>
      rw [rdI_step hn (by simp), cnt_step hn (by simp)]
      have := rdTo_len (ws := ws) (w := b :: w) (fun k hk => by
        have hx : ws.getD k [] ∈ ws := by
          rw [List.getD_eq_getElem?_getD, List.getElem?_eq_getElem hk, Option.getD_some]; exact List.getElem_mem hk
        have hxl : 0 < (ws.getD k []).length := List.length_pos_iff.2 (hn _ hx)
        unfold rdAt
        split
        · rw [List.length_map]
          exact rdI_len hn n _ (by rw [List.length_cons] at h; rw [List.length_drop, List.length_cons]; omega)
        · rfl) ws.length (Nat.le_refl _)
      rw [this, List.take_length]
theorem rdI_none {ws : List (List UInt8)} (hn : ∀ x ∈ ws, x ≠ []) {w : List UInt8} (h : cnt ws w = 0) : rdI ws w = [] := by
  have := rdI_len hn w.length w (Nat.le_refl _)
  rw [h] at this
  exact List.length_eq_zero_iff.1 this
end Go.Proofs.Ytgkbafkmbokkaaa
end

