/-
  Texts of this claim, joined.
-/
import Derived.Shelf.Spec.SlicesGrow
import Derived.Shelf.SlGeneric
import Derived.Ground.Names8Prog
import Derived.Test.YtpljmccnfmkmfaaGreatProg
import Derived.Test.YtpljmccnfmkmfaaGreatJ68c5aa50e6a9
import Derived.Test.YtpljmccnfmkmfaaGreatJda032c41e344
import Derived.Test.YtpljmccnfmkmfaaGreatJ990e56e05f3e
import Derived.Test.YtpljmccnfmkmfaaGreatJ5eec9807ac87

set_option linter.unusedSimpArgs false
set_option maxRecDepth 100000
section
namespace Go.Proofs
open Go.Shelf
end Go.Proofs
end

section
namespace Go.Proofs.YtpljmccnfmkmfaaGreat
open Go Go.AM Go.RowKit

end Go.Proofs.YtpljmccnfmkmfaaGreat
end

section
namespace Go.Proofs.YtpljmccnfmkmfaaGreat
open Go Go.AM


theorem Z2i {E : Env} {tm : List AV} {h : List AObj} {KS : St → Prop} {d : Option Nat} {b : Nat} {args : List AV} {ks : List Nat} {R : AV → List AObj → Prop} (hf : YC E.P b args h ks R) (hks : ∀ k ∈ ks, E.n0 ≤ k ∨ k ∈ E.ks)
    (hk : ∀ v h', R v h' → KS ⟨putD (Za ks tm) d v, h'⟩) : Z3k E ⟨tm, h⟩ d (.yld b) args KS := ⟨ks, R, hf, hks, hk⟩


def sumN (F : Nat → Nat) : Nat → Nat
  | 0 => 0
  | n + 1 => sumN F n + F n
theorem Z4a {F G : Nat → Nat} : ∀ {n : Nat}, (∀ j, j < n → F j = G j) → sumN F n = sumN G n
  | 0, _ => rfl
  | n + 1, h => by unfold sumN; rw [Z4a (fun j hj => h j (by omega)), h n (by omega)]
theorem Zbb (F : Nat → Nat) : ∀ n, sumN F (n + 1) = F 0 + sumN (fun j => F (j + 1)) n
  | 0 => by simp [sumN]
  | n + 1 => by
    have ih := Zbb F n; have e1 : sumN F (n + 1 + 1) = sumN F (n + 1) + F (n + 1) := rfl; have e2 : sumN (fun j => F (j + 1)) (n + 1) = sumN (fun j => F (j + 1)) n + F (n + 1) := rfl; omega
theorem Ze2 (F : Nat → Nat) (c : Nat) : ∀ n, sumN (fun j => c * F j) n = c * sumN F n
  | 0 => by simp [sumN]
  | n + 1 => by
    have ih := Ze2 F c n; have e1 : sumN (fun j => c * F j) (n + 1) = sumN (fun j => c * F j) n + c * F n := rfl; have e2 : sumN F (n + 1) = sumN F n + F n := rfl; rw [e1, e2, ih, Nat.mul_add]
theorem Zba {F : Nat → Nat} : ∀ {n : Nat}, (∀ j, j < n → F j = 0) → sumN F n = 0
  | 0, _ => rfl
  | n + 1, h => by unfold sumN; rw [Zba (fun j hj => h j (by omega)), h n (by omega)]
theorem Z98 (F : Nat → Nat) (m : Nat) : ∀ n, sumN F (m + n) = sumN F m + sumN (fun j => F (m + j)) n
  | 0 => by simp [sumN]
  | n + 1 => by
    have ih := Z98 F m n; have e1 : sumN F (m + (n + 1)) = sumN F (m + n) + F (m + n) := rfl; have e2 : sumN (fun j => F (m + j)) (n + 1) = sumN (fun j => F (m + j)) n + F (m + n) := rfl; omega

def valD (B : Nat) : List Nat → Nat
  | [] => 0
  | d :: l => d + B * valD B l
theorem Za2 (B : Nat) : ∀ l : List Nat, valD B l = sumN (fun j => l.getD j 0 * B ^ j) l.length
  | [] => rfl
  | d :: l => by
    have ih := Za2 B l; rw [List.length_cons, Zbb]; have e : sumN (fun j => (d :: l).getD (j + 1) 0 * B ^ (j + 1)) l.length = B * sumN (fun j => l.getD j 0 * B ^ j) l.length := by
      rw [← Ze2]; refine Z4a fun j _ => ?_
      simp only [List.getD_cons_succ, Nat.pow_succ]; rw [← Nat.mul_assoc, Nat.mul_comm]
    rw [e, ← ih]; simp [valD]
theorem Zi (B : Nat) : ∀ l m : List Nat, valD B (l ++ m) = valD B l + B ^ l.length * valD B m
  | [], m => by simp [valD]
  | d :: l, m => by
    have ih := Zi B l m; have e : ∀ x, valD B (d :: x) = d + B * valD B x := fun _ => rfl
    rw [List.cons_append, e, e, ih, List.length_cons, Nat.pow_succ, Nat.mul_add, ← Nat.mul_assoc, Nat.mul_comm (B ^ l.length) B, Nat.add_assoc]
theorem Z96 (B n : Nat) : valD B (List.replicate n 0) = 0 := by
  induction n with
  | zero => rfl
  | succ n ih => rw [List.replicate_succ]; unfold valD; rw [ih]; simp

def Z29 (B : Nat) (l : List Nat) : Prop := (∀ d ∈ l, d < B) ∧ l.getLast? ≠ some 0
theorem Z4k {B d : Nat} {l : List Nat} (h : Z29 B (d :: l)) : Z29 B l := by
  refine ⟨fun x hx => h.1 x (by simp [hx]), ?_⟩
  cases l with
  | nil => simp
  | cons e m => have := h.2; simpa using this
theorem Z4j {B : Nat} (hB : 0 < B) : ∀ {l : List Nat}, Z29 B l → valD B l = 0 → l = []
  | [], _, _ => rfl
  | d :: l, h, hv => by
    unfold valD at hv; have h1 : d = 0 := by omega
    have h2 : B * valD B l = 0 := by omega
    have h3 : valD B l = 0 := (Nat.mul_eq_zero.1 h2).elim (fun h => by omega) id; have := Z4j hB (Z4k h) h3; subst this; exact absurd (by simp [h1]) h.2
theorem Z6w {B : Nat} (hB : 0 < B) : ∀ {l m : List Nat}, Z29 B l → Z29 B m → valD B l = valD B m → l = m
  | [], m, _, hm, hv => (Z4j hB hm hv.symm).symm
  | d :: l, [], hl, _, hv => absurd (Z4j hB hl hv) (by simp)
  | d :: l, e :: m, hl, hm, hv => by
    unfold valD at hv; have h1 := hl.1 d (by simp); have h2 := hm.1 e (by simp); have hd : d = e := by
      have := congrArg (· % B) hv; simp only [Nat.add_mul_mod_self_left] at this
      rwa [Nat.mod_eq_of_lt h1, Nat.mod_eq_of_lt h2] at this
    subst hd; have h3 : B * valD B l = B * valD B m := by omega
    rw [Z6w hB (Z4k hl) (Z4k hm) (Nat.eq_of_mul_eq_mul_left hB h3)]

def digF (B : Nat) : Nat → Nat → List Nat
  | 0, _ => []
  | f + 1, n => if n = 0 then [] else n % B :: digF B f (n / B)
def digD (B n : Nat) : List Nat := digF B n n
theorem Zar {B : Nat} (hB : 2 ≤ B) : ∀ f n, n ≤ f → valD B (digF B f n) = n ∧ Z29 B (digF B f n)
  | 0, n, h => by
    have : n = 0 := by omega
    subst this; exact ⟨rfl, by simp [Z29, digF]⟩
  | f + 1, n, h => by
    unfold digF; by_cases h0 : n = 0
    · subst h0; rw [if_pos rfl]; exact ⟨rfl, by simp [Z29]⟩
    · rw [if_neg h0]
      have hd : n / B < n := Nat.div_lt_self (by omega) (by omega); obtain ⟨h1, h2⟩ := Zar hB f (n / B) (by omega); refine ⟨?_, fun x hx => ?_, ?_⟩
      · unfold valD; rw [h1]; exact Nat.mod_add_div n B
      · rcases List.mem_cons.1 hx with rfl | hx
        · exact Nat.mod_lt _ (by omega)
        · exact h2.1 x hx
      · cases hl : digF B f (n / B) with
        | nil =>
          rw [hl] at h1; have h3 : n / B = 0 := h1.symm
          have : n % B = n := Nat.mod_eq_of_lt (by
            rcases Nat.lt_or_ge n B with h | h
            · exact h
            · have := Nat.div_pos h (by omega); omega)
          simp [this, h0]
        | cons e m =>
          have := h2.2; rw [hl] at this
          simpa using this
theorem Zf {B : Nat} (hB : 2 ≤ B) (n : Nat) : valD B (digD B n) = n := (Zar hB n n (Nat.le_refl _)).1
theorem Z06 {B : Nat} (hB : 2 ≤ B) (n : Nat) : Z29 B (digD B n) := (Zar hB n n (Nat.le_refl _)).2
theorem Zas {B : Nat} (hB : 2 ≤ B) {l : List Nat} (h : Z29 B l) : digD B (valD B l) = l := Z6w (by omega) (Z06 hB _) h (Zf hB _)

def Z5a (l : List Nat) : Nat → List Nat
  | 0 => []
  | k + 1 => if l.getD k 0 = 0 then Z5a l k else l.take (k + 1)
def Z90 (l : List Nat) : List Nat := Z5a l l.length
theorem Zb5 (B : Nat) (l : List Nat) : ∀ k, k ≤ l.length → valD B (Z5a l k) = valD B (l.take k)
  | 0, _ => by simp [Z5a]
  | k + 1, h => by
    unfold Z5a
    split
    · rename_i h0
      rw [Zb5 B l k (by omega), List.take_succ_eq_append_getElem (by omega), Zi]; rw [List.getD_eq_getElem?_getD, List.getElem?_eq_getElem (by omega), Option.getD_some] at h0; simp [valD, h0]
    · rfl
theorem Zb6 (B : Nat) (l : List Nat) : valD B (Z90 l) = valD B l := by
  unfold Z90; rw [Zb5 B l _ (Nat.le_refl _), List.take_length]
theorem Z7q {B : Nat} {l : List Nat} (hl : ∀ d ∈ l, d < B) : ∀ k, k ≤ l.length → Z29 B (Z5a l k)
  | 0, _ => by simp [Z5a, Z29]
  | k + 1, h => by
    unfold Z5a
    split
    · exact Z7q hl k (by omega)
    · rename_i h0
      refine ⟨fun d hd => hl d (List.mem_of_mem_take hd), ?_⟩; rw [List.getD_eq_getElem?_getD, List.getElem?_eq_getElem (by omega), Option.getD_some] at h0; rw [List.take_succ_eq_append_getElem (by omega), List.getLast?_concat]; intro e; injection e with e; exact h0 e
theorem Z7r {B : Nat} {l : List Nat} (hl : ∀ d ∈ l, d < B) : Z29 B (Z90 l) := Z7q hl _ (Nat.le_refl _)
theorem Z2b {B : Nat} (hB : 2 ≤ B) {l : List Nat} (hl : ∀ d ∈ l, d < B) : Z90 l = digD B (valD B l) := by
  rw [← Zb6, Zas hB (Z7r hl)]

/-! ### The program's naturals -/
def B32 : Nat := 4294967296
def u32V (d : Nat) : PV := .int .u32 (d : Int)
def natV (l : List Nat) : PV := .sl (l.map u32V)

theorem Za8 (l : List Nat) : Zc (l.map u32V) 1 := fun x hx => by
  obtain ⟨b, _, rfl⟩ := List.mem_map.1 hx
  rfl

theorem u91 (l : List Nat) (hl : l.length ≤ 2000000) : PFn Tryz.prog 192 [natV l] [natV (Z90 l)] := by
  refine PFn.of_body hΓ Tryz.func192 (by kernel_rfl) rfl (Wd [] ?_); simp -implicitDefEqProofs only [Tryz.ntmps192, Tryz.results192, Nat.reduceAdd, Nat.reduceSub, natV, go_sem]
  refine AWp.loopI (fun k : Nat => ⟨mkF 21 [(0, .p (natV (l.take k)))], []⟩)
    (fun k => k ≤ l.length ∧ Z5a l k = Z90 l) (fun k => k) l.length (by simp [go_sem, natV]) ⟨Nat.le_refl _, rfl⟩ ?_
  rintro k ⟨hk, ht⟩; refine Wd [] ?_
  cases k with
  | zero =>
    have hz : ¬ (0 : Int) < ((0 : Nat) : Int) := by omega
    simp -implicitDefEqProofs only [natV, List.take_zero, List.map_nil, hz, go_sem]; rw [← ht]; rfl
  | succ k =>
    have hk' : k < l.length := hk; have hln : (l.take (k + 1)).length = k + 1 := by simp; omega
    have h1 : (0 : Int) < ((k + 1 : Nat) : Int) := by omega
    have h2 : (((k + 1 : Nat) : Int) - 1).toNat = k := by omega
    have hget : ((l.take (k + 1)).map u32V).getD k default = .int .u32 (l.getD k 0 : Nat) := by
      rw [Z2 _ _ _ _ (by rw [hln]; omega), List.getElem_take, List.getD_eq_getElem?_getD, List.getElem?_eq_getElem hk', Option.getD_some]; rfl
    have ht' : Z5a l (k + 1) = if l.getD k 0 = 0 then Z5a l k else l.take (k + 1) := rfl
    by_cases h0 : l.getD k 0 = 0
    · have h0' : ((l.getD k 0 : Nat) : Int) = 0 := by omega
      rw [if_pos h0] at ht'; simp -implicitDefEqProofs only [natV, List.length_map, hln, h1, h2, hget, h0', go_sem]; refine ⟨by simp only [InR]; omega, ⟨by omega, by omega⟩, by simp only [InR]; omega, Za8 _, ⟨by omega, by omega⟩, k, ?_, ⟨by omega, by rw [← ht', ht]⟩, by omega⟩; rw [← List.map_take, List.take_take, Nat.min_eq_left (by omega)]
    · have h0' : ¬ ((l.getD k 0 : Nat) : Int) = 0 := by omega
      rw [if_neg h0] at ht'; simp -implicitDefEqProofs only [natV, List.length_map, hln, h1, h2, hget, h0', go_sem]; exact ⟨by simp only [InR]; omega, ⟨by omega, by omega⟩, by rw [← ht', ht]⟩

/-! ### A number's bytes and digits -/
def byN (bs : List Nat) (n i : Nat) : Nat := if i < n then bs.getD i 0 else 0
def grp (bs : List Nat) (n j : Nat) : Nat := byN bs n (4 * j) + 256 * byN bs n (4 * j + 1) + 65536 * byN bs n (4 * j + 2) + 16777216 * byN bs n (4 * j + 3)
def grpL (bs : List Nat) (n L : Nat) : List Nat := (List.range L).map (grp bs n)
theorem Z3d (bs : List Nat) (n L : Nat) : (grpL bs n L).length = L := by simp [grpL]
theorem Z4f {bs : List Nat} {n L j : Nat} (h : j < L) : (grpL bs n L)[j]? = some (grp bs n j) := by simp [grpL, List.getElem?_map, List.getElem?_range h]
theorem Z8p {bs : List Nat} (hb : ∀ b ∈ bs, b < 256) (n i : Nat) : byN bs n i < 256 := by
  unfold byN
  split
  · rw [List.getD_eq_getElem?_getD]
    cases h : bs[i]? with
    | none => simp
    | some b => exact hb b (List.mem_of_getElem? h)
  · omega
theorem Znk {bs : List Nat} (hb : ∀ b ∈ bs, b < 256) (n j : Nat) : grp bs n j < B32 := by
  have h0 := Z8p hb n (4 * j); have h1 := Z8p hb n (4 * j + 1); have h2 := Z8p hb n (4 * j + 2); have h3 := Z8p hb n (4 * j + 3); unfold grp B32; omega
theorem Z2j (bs : List Nat) (n i : Nat) : byN bs (n + 1) i = if i = n then bs.getD n 0 else byN bs n i := by
  unfold byN; by_cases h : i = n
  · subst h; simp
  · rw [if_neg h]
    by_cases h2 : i < n
    · rw [if_pos h2, if_pos (by omega)]
    · rw [if_neg h2, if_neg (by omega)]
theorem Zip {bs : List Nat} {n j : Nat} (h : n / 4 ≠ j) : grp bs (n + 1) j = grp bs n j := by
  unfold grp; rw [Z2j, Z2j, Z2j, Z2j, if_neg (by omega), if_neg (by omega), if_neg (by omega), if_neg (by omega)]
theorem Zlt (bs : List Nat) (j : Nat) : grp bs 0 j = 0 := by simp [grp, byN]
theorem Zlu (bs : List Nat) (hb : ∀ b ∈ bs, b < 256) (n : Nat) : grp bs (n + 1) (n / 4) = grp bs n (n / 4) + bs.getD n 0 * 256 ^ (n % 4) ∧ grp bs n (n / 4) < 256 ^ (n % 4) := by
  have h0 := Z8p hb n (4 * (n / 4)); have h1 := Z8p hb n (4 * (n / 4) + 1); have h2 := Z8p hb n (4 * (n / 4) + 2); have hz : ∀ i, n ≤ i → byN bs n i = 0 := fun i hi => by unfold byN; rw [if_neg (by omega)]
  have hm : n % 4 < 4 := Nat.mod_lt _ (by omega); have hn : n = 4 * (n / 4) + n % 4 := (Nat.div_add_mod n 4).symm; unfold grp; rw [Z2j, Z2j, Z2j, Z2j]; generalize hq : n / 4 = q at *; generalize hr : n % 4 = r at *; rcases (by omega : r = 0 ∨ r = 1 ∨ r = 2 ∨ r = 3) with rfl | rfl | rfl | rfl
  · rw [if_pos (by omega), if_neg (by omega), if_neg (by omega), if_neg (by omega), hz (4 * q) (by omega), hz (4 * q + 1) (by omega), hz (4 * q + 2) (by omega), hz (4 * q + 3) (by omega)]
    omega
  · rw [if_neg (by omega), if_pos (by omega), if_neg (by omega), if_neg (by omega), hz (4 * q + 1) (by omega), hz (4 * q + 2) (by omega), hz (4 * q + 3) (by omega)]
    omega
  · rw [if_neg (by omega), if_neg (by omega), if_pos (by omega), if_neg (by omega), hz (4 * q + 2) (by omega), hz (4 * q + 3) (by omega)]
    omega
  · rw [if_neg (by omega), if_neg (by omega), if_neg (by omega), if_pos (by omega), hz (4 * q + 3) (by omega)]
    omega

theorem Zag (j : Nat) : (256 : Nat) ^ (4 * j) = B32 ^ j := by
  rw [Nat.pow_mul]; rfl
theorem Zio (bs : List Nat) (n : Nat) : ∀ L, sumN (fun j => grp bs n j * B32 ^ j) L = sumN (fun i => byN bs n i * 256 ^ i) (4 * L)
  | 0 => rfl
  | L + 1 => by
    have ih := Zio bs n L; have e1 : sumN (fun j => grp bs n j * B32 ^ j) (L + 1) = sumN (fun j => grp bs n j * B32 ^ j) L + grp bs n L * B32 ^ L := rfl; have e2 : sumN (fun i => byN bs n i * 256 ^ i) (4 * (L + 1)) = sumN (fun i => byN bs n i * 256 ^ i) (4 * L) + byN bs n (4 * L) * 256 ^ (4 * L) + byN bs n (4 * L + 1) * 256 ^ (4 * L + 1) + byN bs n (4 * L + 2) * 256 ^ (4 * L + 2) + byN bs n (4 * L + 3) * 256 ^ (4 * L + 3) := rfl; rw [e1, e2, ih, ← Zag]; simp only [Nat.pow_succ]; unfold grp; generalize (256 : Nat) ^ (4 * L) = X; generalize byN bs n (4 * L) = a; generalize byN bs n (4 * L + 1) = b; generalize byN bs n (4 * L + 2) = c; generalize byN bs n (4 * L + 3) = d; simp only [Nat.add_mul, Nat.mul_assoc]; have h1 : 256 * (b * X) = b * (X * 256) := by rw [Nat.mul_comm X, ← Nat.mul_assoc, ← Nat.mul_assoc, Nat.mul_comm 256]
    have h2 : 65536 * (c * X) = c * (X * (256 * 256)) := by
      rw [Nat.mul_comm X, ← Nat.mul_assoc, ← Nat.mul_assoc, Nat.mul_comm 65536]
    have h3 : 16777216 * (d * X) = d * (X * (256 * (256 * 256))) := by
      rw [Nat.mul_comm X, ← Nat.mul_assoc, ← Nat.mul_assoc, Nat.mul_comm 16777216]
    omega
theorem Zlv {bs : List Nat} {L : Nat} (hL : bs.length ≤ 4 * L) : valD B32 (grpL bs bs.length L) = valD 256 bs := by
  rw [Za2, Za2, Z3d]; have e1 : sumN (fun j => (grpL bs bs.length L).getD j 0 * B32 ^ j) L = sumN (fun j => grp bs bs.length j * B32 ^ j) L := Z4a fun j hj => by
    rw [List.getD_eq_getElem?_getD, Z4f hj, Option.getD_some]
  rw [e1, Zio]; obtain ⟨m, hm⟩ : ∃ m, 4 * L = bs.length + m := ⟨4 * L - bs.length, by omega⟩; rw [hm, Z98]; have e2 : sumN (fun j => byN bs bs.length (bs.length + j) * 256 ^ (bs.length + j)) m = 0 := Zba fun j _ => by
    unfold byN; rw [if_neg (by omega)]; simp
  rw [e2, Nat.add_zero]; exact Z4a fun j hj => by unfold byN; rw [if_pos hj]

def intV (neg : Bool) (mag : List UInt8) : PV := .agg [.bool neg, .str mag]
def lebs (mag : List UInt8) : List Nat := (mag.reverse).map UInt8.toNat
theorem Z1t (mag : List UInt8) : (lebs mag).length = mag.length := by simp [lebs]
theorem Z6e (mag : List UInt8) : ∀ b ∈ lebs mag, b < 256 := fun b hb => by
  obtain ⟨c, _, rfl⟩ := List.mem_map.1 hb; exact c.toNat_lt
theorem Z3c {mag : List UInt8} {i : Nat} (hi : i < mag.length) : (lebs mag).getD i 0 = (mag.getD (mag.length - 1 - i) 0).toNat := by
  unfold lebs; rw [List.getD_eq_getElem?_getD, List.getElem?_map, List.getElem?_reverse hi, List.getD_eq_getElem?_getD, List.getElem?_eq_getElem (by omega)]; rfl
def Z4q (mag : List UInt8) : Nat := valD 256 (lebs mag)

theorem Zn5 {x y k : Nat} (hx : x < 2 ^ k) (hs : x + y * 2 ^ k < 4294967296) : Z28 .or .u32 (x : Int) ((y * 2 ^ k : Nat) : Int) = ((x + y * 2 ^ k : Nat) : Int) := by
  have h1 : y * 2 ^ k < 4294967296 := by omega
  have h2 : x < 4294967296 := by omega
  have e : (BitVec.ofInt 32 (x : Int) ||| BitVec.ofInt 32 ((y * 2 ^ k : Nat) : Int)).toNat = x + y * 2 ^ k := by
    rw [BitVec.toNat_or, BitVec.ofInt_natCast, BitVec.ofInt_natCast, BitVec.toNat_ofNat, BitVec.toNat_ofNat, Nat.mod_eq_of_lt h2, Nat.mod_eq_of_lt h1]; rw [Nat.or_comm, ← Nat.shiftLeft_eq, ← Nat.shiftLeft_add_eq_or_of_lt hx, Nat.shiftLeft_eq, Nat.add_comm]
  show IntKind.wrap .u32 ((BitVec.ofInt 32 (x : Int) ||| BitVec.ofInt 32 ((y * 2 ^ k : Nat) : Int)).toNat : Nat) = _; rw [e]; exact InR.wrap (k := .u32) (by simp only [InR]; omega)

theorem Z1n {x : Nat} (h : x < 4294967296) : IntKind.u32.wrap (x : Int) = x := InR.wrap (k := .u32) (by simp only [InR]; omega)

theorem Ziq (bs : List Nat) (L : Nat) : List.replicate L (PV.int .u32 0) = (grpL bs 0 L).map u32V := by
  apply List.ext_getElem?
  intro j; rw [List.getElem?_map]; by_cases hj : j < L
  · rw [Z4f hj, Zlt, List.getElem?_replicate, if_pos hj]; rfl
  · rw [List.getElem?_eq_none (by simp; omega), List.getElem?_eq_none (by rw [Z3d]; omega)]; rfl
theorem Zir {bs : List Nat} {n L : Nat} (h : n / 4 < L) : ((grpL bs n L).map u32V).set (n / 4) (u32V (grp bs (n + 1) (n / 4))) = (grpL bs (n + 1) L).map u32V := by
  apply List.ext_getElem?
  intro j; rw [List.getElem?_set, List.getElem?_map]; by_cases hj : j < L
  · by_cases e : n / 4 = j
    · rw [if_pos e, if_pos (by simp [Z3d]; exact h), List.getElem?_map, Z4f hj, ← e]; rfl
    · rw [if_neg e, List.getElem?_map, Z4f hj, Z4f hj, Zip e]
  · rw [if_neg (by omega), List.getElem?_eq_none (by rw [Z3d]; omega), List.getElem?_map, List.getElem?_eq_none (by rw [Z3d]; omega)]

theorem u69 (neg : Bool) (mag : List UInt8) (hl : mag.length ≤ 1000000) : PFn Tryz.prog 156 [intV neg mag] [natV (digD B32 (Z4q mag))] := by
  obtain ⟨L, hL⟩ : ∃ L : Nat, ((mag.length : Int) + 3) / 4 = L := ⟨(mag.length + 3) / 4, by omega⟩; have hL2 : mag.length ≤ 4 * L := by omega
  have hL3 : ∀ i, i < mag.length → i / 4 < L := fun i hi => by omega
  have hres : Z90 (grpL (lebs mag) mag.length L) = digD B32 (Z4q mag) := by
    rw [Z2b (B := B32) (by decide) (fun d hd => by
      obtain ⟨j, _, rfl⟩ := List.mem_map.1 hd; exact Znk (Z6e mag) _ _)]
    have := Zlv (bs := lebs mag) (L := L) (by rw [Z1t]; exact hL2); rw [Z1t] at this; rw [this]; rfl
  refine PFn.of_body hΓ Tryz.func156 (by kernel_rfl) rfl (Wd [] ?_); simp -implicitDefEqProofs only [Tryz.ntmps156, Tryz.results156, Nat.reduceAdd, Nat.reduceSub, intV, hL, go_sem]; refine ⟨by simp only [InR]; omega, ⟨by omega, by omega, by simp only [InR]; omega⟩, ⟨by omega, by omega⟩, ?_⟩; rw [Ziq (lebs mag)]
  refine AWp.loopI (fun i : Nat => ⟨mkF 43 [(1, .ptr 0 0), (2, .full []), (3, .own 1 L), (14, .p (.int .i64 mag.length)), (15, .p (.int .i64 i))], [.box [.p (.bool neg), .p (.str mag)], .row 136 1 ((grpL (lebs mag) i L).map u32V) .own]⟩)
    (fun i => i ≤ mag.length) (fun i => mag.length - i) 0 (by simp [go_sem]) (by omega) ?_
  intro i hi; by_cases hlt : i < mag.length
  · refine Wd [(6, 13)] ?_
    have hi4 := hL3 i hlt; have e1 : ((mag.length : Int) - 1 - i).toNat = mag.length - 1 - i := by omega
    have e2 : ((i : Int) / 4).toNat = i / 4 := by omega
    have hget : ((grpL (lebs mag) i L).map u32V).getD (i / 4) default = .int .u32 ((grp (lebs mag) i (i / 4) : Nat) : Int) := by
      rw [List.getD_eq_getElem?_getD, List.getElem?_map, Z4f hi4]; rfl
    have hwr : IntKind.u32.wrap ((mag.getD (mag.length - 1 - i) 0).toNat : Int) = (mag.getD (mag.length - 1 - i) 0).toNat := InR.wrap (k := .u32) (by
      have := (mag.getD (mag.length - 1 - i) 0).toNat_lt; simp only [InR]; omega)
    simp -implicitDefEqProofs only [hlt, e1, e2, hget, hwr, go_sem]; have hc := Z3c hlt; generalize hcn : (mag.getD (mag.length - 1 - i) 0).toNat = c at hc; have hc256 : c < 256 := by rw [← hcn]; exact (mag.getD (mag.length - 1 - i) 0).toNat_lt
    obtain ⟨h1, h2⟩ := Zlu (lebs mag) (Z6e mag) i; rw [hc] at h1; have h3 := Znk (Z6e mag) (i + 1) (i / 4); have hp : (256 : Nat) ^ (i % 4) = 2 ^ (8 * (i % 4)) := by rw [Nat.pow_mul]
    rw [hp] at h1 h2; have e8 : (8 * ((i : Int) % 4)).toNat = 8 * (i % 4) := by omega
    have ec : (c : Int) * 2 ^ (8 * (i % 4)) = ((c * 2 ^ (8 * (i % 4)) : Nat) : Int) := by simp
    have hs : grp (lebs mag) i (i / 4) + c * 2 ^ (8 * (i % 4)) < 4294967296 := by rw [← h1]; exact h3
    rw [e8, ec, Z1n (by omega), Zn5 h2 hs, ← h1]; have hgl := Z3d (lebs mag) i L; generalize hX : c * 2 ^ (8 * (i % 4)) = X at hs; refine ⟨by simp only [InR]; omega, by simp only [InR]; omega, ⟨by omega, by omega⟩, ⟨by omega, by simp only [InR]; omega⟩, ⟨by omega, by omega⟩, by omega, by omega, by simp only [InR]; omega, ⟨by omega, by omega⟩, ⟨by omega, by omega⟩, ⟨by omega, rfl⟩, by simp only [InR]; omega, i + 1, ⟨by omega, .inl ?_⟩, hlt, by omega⟩; exact (Zir hi4).symm
  · refine AWp.freeze 1 rfl ?_
    rw [show i = mag.length by omega]; refine Wd [(6, 13)] ?_; have hz : ¬ (mag.length : Int) < mag.length := by omega
    simp -implicitDefEqProofs only [hz, Z1q, go_sem]; have e91 := u91 (grpL (lebs mag) mag.length L) (by rw [Z3d]; omega); rw [hres] at e91; refine Z0 e91 (.pures rfl) ?_; simp -implicitDefEqProofs only [natV, go_sem]

theorem Z2a (n : Nat) : IntKind.u32.wrap (n : Int) = ((n % 4294967296 : Nat) : Int) := by
  simp [IntKind.wrap, IntKind.signed, IntKind.bits]
theorem Z34 (o : List Nat) (m v : Nat) : ((o ++ List.replicate (m + 1) 0).map u32V).set o.length (u32V v) = ((o ++ [v]) ++ List.replicate m 0).map u32V := by
  rw [List.map_append, List.set_append_right _ _ (by simp), List.replicate_succ]; simp
theorem Zj {l : List Nat} (B i : Nat) : valD B (l.take (i + 1)) = valD B (l.take i) + l.getD i 0 * B ^ i := by
  by_cases h : i < l.length
  · rw [List.take_succ_eq_append_getElem h, Zi, List.getD_eq_getElem?_getD, List.getElem?_eq_getElem h, Option.getD_some, List.length_take, Nat.min_eq_left (by omega)]
    simp [valD, Nat.mul_comm]
  · rw [List.take_of_length_le (by omega), List.take_of_length_le (by omega), List.getD_eq_getElem?_getD, List.getElem?_eq_none (by omega)]
    simp

theorem u105 (x y : List Nat) (hx : ∀ d ∈ x, d < B32) (hy : ∀ d ∈ y, d < B32) (hxl : x.length ≤ 1000000) (hyl : y.length ≤ 1000000) : PFn Tryz.prog 159 [natV x, natV y] [natV (digD B32 (valD B32 x + valD B32 y))] := by
  refine PFn.of_body hΓ Tryz.func159 (by kernel_rfl) rfl (AWp.seq (Wd [] ?_)); simp -implicitDefEqProofs only [Tryz.ntmps159, Tryz.results159, Nat.reduceAdd, Nat.reduceSub, natV, go_sem]; refine AWp.seq (AWp.mono (Q := fun e st => e = .normal ∧ ∃ X Y : List Nat, ((∀ d ∈ X, d < B32) ∧ (∀ d ∈ Y, d < B32) ∧ X.length ≤ 1000000 ∧ Y.length ≤ X.length ∧ valD B32 X + valD B32 Y = valD B32 x + valD B32 y) ∧ Weak st ⟨mkF 59 [(0, .p (natV X)), (1, .p (natV Y)), (4, .full [])], []⟩) (Wd [] ?_) ?_)
  · by_cases hc : (x.length : Int) < y.length
    · simp -implicitDefEqProofs only [hc, List.length_map, go_sem]
      exact ⟨y, x, ⟨hy, hx, hyl, by omega, by omega⟩, rfl, rfl⟩
    · simp -implicitDefEqProofs only [hc, List.length_map, go_sem]
      exact ⟨x, y, ⟨hx, hy, hxl, by omega, rfl⟩, rfl, rfl⟩
  rintro e st ⟨rfl, X, Y, ⟨hX, hY, hXl, hYX, hval⟩, hw⟩; refine AWp.weak hw ?_; rw [← hval]; clear hval hw hx hy hxl hyl x y; have eL : ((X.length : Int) + 1).toNat = X.length + 1 := by omega
  refine AWp.seq (Wd [] ?_); simp -implicitDefEqProofs only [natV, List.length_map, eL, go_sem]; refine ⟨by simp only [InR]; omega, ⟨by omega, by omega, by omega⟩, ?_⟩; refine AWp.seq (Wd [] ?_); simp -implicitDefEqProofs only [go_sem]; refine AWp.seq (Wd [] ?_); simp -implicitDefEqProofs only [List.length_map, go_sem]
  refine AWp.loopI (fun z : Nat × List Nat × Nat => ⟨mkF 59 [(0, .p (natV X)), (1, .p (natV Y)), (4, .full []), (5, .own 0 (X.length + 1)), (6, .p (.int .u64 z.2.2)), (20, .p (natV X)), (21, .p (.int .i64 X.length)), (22, .p (.int .i64 z.1))], [.row 136 1 ((z.2.1 ++ List.replicate (X.length + 1 - z.1) 0).map u32V) .own]⟩)
    (fun z => z.1 ≤ X.length ∧ z.2.1.length = z.1 ∧ (∀ d ∈ z.2.1, d < B32) ∧ z.2.2 ≤ 1 ∧ valD B32 z.2.1 + z.2.2 * B32 ^ z.1 = valD B32 (X.take z.1) + valD B32 (Y.take z.1)) (fun z => X.length - z.1) (0, [], 0) (by simp [go_sem, natV, u32V]) (by simp [valD]) ?_
  rintro ⟨i, o, c⟩ ⟨hi, ho, hod, hc, hval⟩; simp only at hi ho hod hc hval; refine Wd [] ?_; by_cases hlt : i < X.length
  · have hgX : (X.map u32V).getD i default = .int .u32 ((X.getD i 0 : Nat) : Int) := by
      rw [Z2 _ _ _ _ hlt, List.getD_eq_getElem?_getD, List.getElem?_eq_getElem hlt]; rfl
    have dX : X.getD i 0 < B32 := by
      rw [List.getD_eq_getElem?_getD, List.getElem?_eq_getElem hlt, Option.getD_some]; exact hX _ (List.getElem_mem hlt)
    have dY : Y.getD i 0 < B32 := by
      rw [List.getD_eq_getElem?_getD]
      cases hq : Y[i]? with
      | none => decide
      | some d => exact hY d (List.mem_of_getElem? hq)
    have hwX : IntKind.u64.wrap ((X.getD i 0 : Nat) : Int) = (X.getD i 0 : Nat) := InR.wrap (k := .u64) (by simp only [InR]; unfold B32 at dX; omega); have hwY : IntKind.u64.wrap ((Y.getD i 0 : Nat) : Int) = (Y.getD i 0 : Nat) := InR.wrap (k := .u64) (by simp only [InR]; unfold B32 at dY; omega); have tX := Zj (l := X) B32 i; have tY := Zj (l := Y) B32 i; obtain ⟨s, hs⟩ : ∃ s, s = X.getD i 0 + c + Y.getD i 0 := ⟨_, rfl⟩; have hvl : valD B32 (o ++ [s % B32]) + s / B32 * B32 ^ (i + 1) = valD B32 (X.take (i + 1)) + valD B32 (Y.take (i + 1)) := by
      rw [tX, tY, Zi, ho, Nat.pow_succ]; have e1 : valD B32 [s % B32] = s % B32 := by simp [valD]
      rw [e1]; have e2 : s % B32 + B32 * (s / B32) = s := Nat.mod_add_div s B32; generalize hP : B32 ^ i = P at *; have e3 : P * (s % B32) + s / B32 * (P * B32) = P * s := by
        conv => rhs; rw [← e2, Nat.mul_add]
        rw [Nat.mul_comm (s / B32), Nat.mul_assoc]
      have e4 : P * s = X.getD i 0 * P + c * P + Y.getD i 0 * P := by rw [hs, Nat.mul_comm, Nat.add_mul, Nat.add_mul]
      omega
    have hsb : s ≤ 8589934591 := by unfold B32 at dX dY; omega
    have hs32 : IntKind.u32.wrap (s : Int) = ((s % B32 : Nat) : Int) := Z2a s; have hsd : (s : Int) / 2 ^ Int.toNat 32 = ((s / B32 : Nat) : Int) := by
      have : (2 : Int) ^ Int.toNat 32 = ((B32 : Nat) : Int) := rfl; rw [this, Int.natCast_ediv]
    have hset : ((o ++ List.replicate (X.length + 1 - i) 0).map u32V).set i (.int .u32 ((s % B32 : Nat) : Int)) = ((o ++ [s % B32]) ++ List.replicate (X.length + 1 - (i + 1)) 0).map u32V := by
      have := Z34 o (X.length + 1 - (i + 1)) (s % B32); rw [ho, show X.length + 1 - (i + 1) + 1 = X.length + 1 - i by omega] at this; exact this
    have hod' : ∀ d ∈ o ++ [s % B32], d < B32 := fun d hd => by
      rcases List.mem_append.1 hd with hd | hd
      · exact hod d hd
      · rw [List.mem_singleton] at hd; subst hd; exact Nat.mod_lt _ (by decide)
    have hc1 : s / B32 ≤ 1 := by unfold B32; omega
    have hlen : i < (o ++ List.replicate (X.length + 1 - i) 0).length := by simp; omega
    by_cases hlt2 : (i : Int) < Y.length
    · have hlt2' : i < Y.length := by omega
      have hgY : (Y.map u32V).getD i default = .int .u32 ((Y.getD i 0 : Nat) : Int) := by
        rw [Z2 _ _ _ _ hlt2', List.getD_eq_getElem?_getD, List.getElem?_eq_getElem hlt2']; rfl
      have es : ((X.getD i 0 : Nat) : Int) + (c : Int) + ((Y.getD i 0 : Nat) : Int) = (s : Int) := by omega
      simp -implicitDefEqProofs only [natV, List.length_map, hlt, hgX, hgY, hlt2', hwX, hwY, es, hs32, hsd, hset, go_sem]; refine ⟨by simp only [InR]; omega, by simp only [InR]; omega, ⟨by omega, by omega⟩, ⟨hlen, rfl⟩, by simp only [InR]; omega, (i + 1, o ++ [s % B32], s / B32), ⟨⟨rfl, by simp⟩, .inl rfl⟩, ⟨hlt, by simp [ho], hod', hc1, hvl⟩, by simp only; omega⟩
    · have hy0 : Y.getD i 0 = 0 := by rw [List.getD_eq_getElem?_getD, List.getElem?_eq_none (by omega)]; rfl
      have es : ((X.getD i 0 : Nat) : Int) + (c : Int) = (s : Int) := by omega
      simp -implicitDefEqProofs only [natV, List.length_map, hlt, hgX, hlt2, hwX, es, hs32, hsd, hset, go_sem]; refine ⟨by simp only [InR]; omega, ⟨by omega, by omega⟩, ⟨hlen, rfl⟩, by simp only [InR]; omega, (i + 1, o ++ [s % B32], s / B32), ⟨⟨rfl, by simp⟩, .inl rfl⟩, ⟨hlt, by simp [ho], hod', hc1, hvl⟩, by simp only; omega⟩
  · simp -implicitDefEqProofs only [natV, List.length_map, hlt, go_sem]
    have hin : i = X.length := by omega
    refine AWp.seq (Wd [] ?_); have hcw : IntKind.u32.wrap (c : Int) = (c : Int) := InR.wrap (k := .u32) (by simp only [InR]; omega); have hset : ((o ++ List.replicate (X.length + 1 - i) 0).map u32V).set X.length (.int .u32 (c : Int)) = (o ++ [c]).map u32V := by
      have := Z34 o 0 c; rw [ho, hin, show (0 : Nat) + 1 = X.length + 1 - X.length by omega] at this; rw [hin]
      simpa [u32V] using this
    simp -implicitDefEqProofs only [List.length_map, hcw, hset, go_sem]; refine ⟨⟨by simp; omega, rfl⟩, ?_⟩; refine AWp.freeze 0 rfl ?_; refine Wd [] ?_; simp -implicitDefEqProofs only [Z1q, go_sem]; have hall : ∀ d ∈ o ++ [c], d < B32 := fun d hd => by
      rcases List.mem_append.1 hd with hd | hd
      · exact hod d hd
      · rw [List.mem_singleton] at hd; subst hd; unfold B32; omega
    have e91 := u91 (o ++ [c]) (by rw [List.length_append, ho]; simp; omega); have hv : valD B32 (o ++ [c]) = valD B32 X + valD B32 Y := by
      rw [hin, List.take_of_length_le (Nat.le_refl _), List.take_of_length_le hYX] at hval; rw [Zi, ho, hin, ← hval]; simp [valD, Nat.mul_comm]
    rw [Z2b (B := B32) (by decide) hall, hv] at e91; refine Z0 e91 (.pures rfl) ?_; simp -implicitDefEqProofs only [natV, go_sem]

theorem Z5w (B : Nat) : digD B 0 = [] := rfl
theorem Zat {B n : Nat} (hB : 2 ≤ B) (h : digD B n = []) : n = 0 := by
  have := Zf hB n; rw [h] at this; exact this.symm
theorem Zjb {B c n : Nat} (hB : 2 ≤ B) (hc : c < B) (h : ¬ (c = 0 ∧ n = 0)) : digD B (c + B * n) = c :: digD B n := by
  have hcan : Z29 B (c :: digD B n) := by
    obtain ⟨h1, h2⟩ := Z06 hB n; refine ⟨fun d hd => ?_, ?_⟩
    · rcases List.mem_cons.1 hd with rfl | hd
      · exact hc
      · exact h1 d hd
    · cases e : digD B n with
      | nil =>
        have hn := Zat hB e; simp only [List.getLast?_singleton, ne_eq, Option.some.injEq]; exact fun h0 => h ⟨h0, hn⟩
      | cons a l => rw [e] at h2; simpa using h2
  have h1 := Zas hB hcan; have e : valD B (c :: digD B n) = c + B * valD B (digD B n) := rfl; rw [e, Zf hB] at h1; exact h1

def magB (n : Nat) : List UInt8 := ((digD 256 n).map UInt8.ofNat).reverse
theorem magB_zero : magB 0 = [] := rfl
theorem Z24 {c n : Nat} (hc : c < 256) : magB (c + 256 * n) = if c = 0 ∧ n = 0 then [] else magB n ++ [UInt8.ofNat c] := by
  by_cases h : c = 0 ∧ n = 0
  · rw [if_pos h, h.1, h.2]; rfl
  · rw [if_neg h]; unfold magB; rw [Zjb (by decide) hc h]; simp
theorem Z1l {n : Nat} (h : magB n = []) : n = 0 := by
  unfold magB at h; rw [List.reverse_eq_nil_iff, List.map_eq_nil_iff] at h; exact Zat (by decide) h
theorem Zi7 (n : Nat) : lebs (magB n) = digD 256 n := by
  unfold lebs magB; rw [List.reverse_reverse, List.map_map]
  conv => rhs; rw [← List.map_id (digD 256 n)]
  apply List.map_congr_left
  intro d hd; have := (Z06 (B := 256) (by decide) n).1 d hd; simp [UInt8.toNat_ofNat, Nat.mod_eq_of_lt this]
theorem Z23 (n : Nat) : Z4q (magB n) = n := by
  unfold Z4q; rw [Zi7, Zf (by decide)]
theorem Z9w {B : Nat} (hB : 2 ≤ B) : ∀ k f n, n < B ^ k → (digF B f n).length ≤ k
  | _, 0, _, _ => by simp [digF]
  | 0, f + 1, n, h => by
    have : n = 0 := by simp at h; exact h
    subst this; simp [digF]
  | k + 1, f + 1, n, h => by
    unfold digF
    split
    · simp
    · have := Z9w hB k f (n / B) (by
        rw [Nat.div_lt_iff_lt_mul (by omega)]; rwa [Nat.pow_succ] at h)
      simp; omega
theorem Z4i {B : Nat} (hB : 2 ≤ B) {k n : Nat} (h : n < B ^ k) : (digD B n).length ≤ k := Z9w hB k n n h
theorem Z4e {k n : Nat} (h : n < 256 ^ k) : (magB n).length ≤ k := by
  unfold magB; simpa using Z4i (B := 256) (by decide) h

def intN (neg : Bool) (n : Nat) : PV := intV (neg && decide (n ≠ 0)) (magB n)
theorem Zif (neg : Bool) : intN neg 0 = intV false [] := by simp [intN, magB_zero]

theorem magS (V d r : Nat) (hr : r < 4) : V * 256 ^ (4 - r) + d / 256 ^ r = (d / 256 ^ r) % 256 + 256 * (V * 256 ^ (4 - (r + 1)) + d / 256 ^ (r + 1)) := by
  rcases (by omega : r = 0 ∨ r = 1 ∨ r = 2 ∨ r = 3) with rfl | rfl | rfl | rfl <;> simp <;> omega

theorem Znt (n : Nat) : IntKind.u8.wrap (n : Int) = ((n % 256 : Nat) : Int) := by
  simp [IntKind.wrap, IntKind.signed, IntKind.bits]
theorem u8_of (n : Nat) (h : n < 256) : (PV.int .u8 (n : Int)) = u8V (UInt8.ofNat n) := by
  simp [u8V, UInt8.toNat_ofNat, Nat.mod_eq_of_lt h]

theorem Z2l {B : Nat} : ∀ {l : List Nat}, (∀ d ∈ l, d < B) → valD B l < B ^ l.length
  | [], _ => by simp [valD]
  | d :: l, h => by
    have ih := Z2l (l := l) (fun x hx => h x (by simp [hx])); have hd := h d (by simp); rw [List.length_cons, Nat.pow_succ]; have e : valD B (d :: l) = d + B * valD B l := rfl; rw [e]; have h2 : B * (valD B l + 1) ≤ B * B ^ l.length := Nat.mul_le_mul_left B ih; rw [Nat.mul_add] at h2; rw [Nat.mul_comm (B ^ l.length)]; omega
theorem Zpa {l : List Nat} (h : ∀ d ∈ l, d < B32) {n : Nat} (hn : n ≤ valD B32 l) : (magB n).length ≤ 4 * l.length := by
  refine Z4e ?_; rw [Zag]; exact Nat.lt_of_le_of_lt hn (Z2l h)

theorem u66 (neg : Bool) (x : List Nat) (hx : ∀ d ∈ x, d < B32) (hl : x.length ≤ 1000000) : PFn Tryz.prog 139 [.bool neg, natV x] [intN neg (valD B32 x)] := by
  refine PFn.of_body hΓ Tryz.func139 (by kernel_rfl) rfl (AWp.seq (Wd [] ?_)); simp -implicitDefEqProofs only [Tryz.ntmps139, Tryz.results139, Nat.reduceAdd, Nat.reduceSub, go_sem]; refine AWp.seq (Wd [] ?_); simp -implicitDefEqProofs only [go_sem]; refine Z0 (u91 x (by omega)) (.pures rfl) ?_; simp -implicitDefEqProofs only [go_sem]; have hval := Zb6 B32 x; have hcan := Z7r hx; have hXl : (Z90 x).length ≤ 1000000 := by
    have : ∀ k, (Z5a x k).length ≤ x.length := fun k => by
      induction k with
      | zero => simp [Z5a]
      | succ k ih =>
        unfold Z5a
        split
        · exact ih
        · simp; omega
    have := this x.length; unfold Z90; omega
  rw [← hval]; generalize Z90 x = X at *; clear hval hx hl; by_cases hX0 : X = []
  · subst hX0
    refine Wd [] ?_; have hz : (([] : List PV).length : Int) = 0 := rfl; simp -implicitDefEqProofs only [natV, List.map_nil, hz, go_sem]; rw [show valD B32 [] = 0 from rfl, Zif]; exact ⟨fun _ => rfl, fun h => absurd rfl h⟩
  have hXp : 0 < X.length := List.length_pos_iff.2 hX0; have hXn : ¬ (X.length : Int) = 0 := by omega
  have hv0 : valD B32 X ≠ 0 := fun h => hX0 (Z4j (B := B32) (by decide) hcan h)
  have hres : intN neg (valD B32 X) = .agg [.bool neg, .str (magB (valD B32 X))] := by simp [intN, intV, hv0]
  rw [hres]; refine AWp.seq (Wd [] ?_); simp -implicitDefEqProofs only [natV, hXn, List.length_map, go_sem]; refine AWp.seq (Wd [] ?_); simp -implicitDefEqProofs only [natV, hXn, List.length_map, go_sem]; refine ⟨by simp only [InR]; omega, ⟨by omega, by omega, by omega⟩, ?_⟩; refine AWp.seq (Wd [] ?_); simp -implicitDefEqProofs only [natV, hXn, List.length_map, go_sem]; refine ⟨by simp only [InR]; omega, ?_⟩
  refine AWp.loopI (fun n : Nat => ⟨mkF 53 [(0, .p (.bool neg)), (1, .p (natV X)), (4, .ptr 0 0), (5, .own 1 (magB (valD B32 (X.drop n))).length), (6, .p (.int .i64 ((n : Int) - 1)))], [.box [.p (.bool false), .p (.str [])], .row 5 1 ((magB (valD B32 (X.drop n))).map u8V) .own]⟩)
    (fun n => n ≤ X.length) (fun n => n) X.length (by simp [go_sem, natV, magB_zero, valD]) (Nat.le_refl _) ?_
  intro n hn; refine Wd [] ?_
  cases n with
  | zero =>
    have h1 : ¬ (0 : Int) ≤ ((0 : Nat) : Int) - 1 := by omega
    simp -implicitDefEqProofs only [h1, go_sem]; refine Wd [] ?_; simp -implicitDefEqProofs only [go_sem]; exact ⟨⟨5, rfl, rfl⟩, magB (valD B32 X), rfl, by omega, rfl⟩
  | succ n =>
    have h1 : (0 : Int) ≤ ((n + 1 : Nat) : Int) - 1 := by omega
    have e1 : ((n + 1 : Nat) : Int) - 1 = n := by omega
    simp -implicitDefEqProofs only [h1, e1, go_sem]; have hnX : n < X.length := hn; have hgX : (X.map u32V).getD n default = .int .u32 ((X.getD n 0 : Nat) : Int) := by
      rw [Z2 _ _ _ _ hnX, List.getD_eq_getElem?_getD, List.getElem?_eq_getElem hnX]; rfl
    have hd : X.getD n 0 < B32 := by
      rw [List.getD_eq_getElem?_getD, List.getElem?_eq_getElem hnX, Option.getD_some]; exact hcan.1 _ (List.getElem_mem hnX)
    have hdrop : valD B32 (X.drop n) = X.getD n 0 + B32 * valD B32 (X.drop (n + 1)) := by
      rw [List.drop_eq_getElem_cons hnX, List.getD_eq_getElem?_getD, List.getElem?_eq_getElem hnX]; rfl
    have hdl : ∀ e ∈ X.drop n, e < B32 := fun e he => hcan.1 e (List.mem_of_mem_drop he)
    have hdle : (X.drop n).length ≤ 1000000 := by simp; omega
    generalize hV : valD B32 (X.drop (n + 1)) = V at *; generalize X.getD n 0 = d at *
    refine AWp.loopI (fun r : Nat => ⟨mkF 53 [(0, .p (.bool neg)), (1, .p (natV X)), (4, .ptr 0 0), (5, .own 1 (magB (V * 256 ^ (4 - r) + d / 256 ^ r)).length), (6, .p (.int .i64 n)), (7, .p (.int .i64 ((r : Int) - 1)))], [.box [.p (.bool false), .p (.str [])], .row 5 1 ((magB (V * 256 ^ (4 - r) + d / 256 ^ r)).map u8V) .own]⟩)
      (fun r => r ≤ 4) (fun r => r) 4 (by
        have : V * 256 ^ (4 - 4) + d / 256 ^ 4 = V := by unfold B32 at hd; simp; omega
        rw [this]; simp [go_sem]) (Nat.le_refl _) ?_
    intro r hr; refine Wd [] ?_
    cases r with
    | zero =>
      have h2 : ¬ (0 : Int) ≤ ((0 : Nat) : Int) - 1 := by omega
      have e2 : V * 256 ^ (4 - 0) + d / 256 ^ 0 = d + B32 * V := by unfold B32; simp; omega
      rw [e2, ← hdrop]; simp -implicitDefEqProofs only [h2, go_sem]; refine ⟨by simp only [InR]; omega, n, ⟨by simp, .inl rfl⟩, by omega, by omega⟩
    | succ r =>
      have h2 : (0 : Int) ≤ ((r + 1 : Nat) : Int) - 1 := by omega
      have e2 : ((r + 1 : Nat) : Int) - 1 = r := by omega
      have e3 := magS V d r (by omega); have e4 : (8 * (r : Int)).toNat = 8 * r := by omega
      have e5 : (d : Int) / 2 ^ (8 * r) = ((d / 256 ^ r : Nat) : Int) := by
        rw [show (256 : Nat) ^ r = 2 ^ (8 * r) by rw [Nat.pow_mul]]; simp
      obtain ⟨N, hN⟩ : ∃ N, N = V * 256 ^ (4 - (r + 1)) + d / 256 ^ (r + 1) := ⟨_, rfl⟩; obtain ⟨c, hc⟩ : ∃ c, c = d / 256 ^ r % 256 := ⟨_, rfl⟩; have hc2 : c < 256 := by rw [hc]; exact Nat.mod_lt _ (by omega)
      have hcw : IntKind.u8.wrap ((d / 256 ^ r : Nat) : Int) = (c : Int) := by rw [hc]; exact Znt _
      have hst := Z24 (c := c) (n := N) hc2; rw [← hc, ← hN] at e3; rw [← e3] at hst; rw [← hN]; have hlN : (magB N).length ≤ 4000000 := by
        have := Zpa hdl (n := N) (by
          rw [hdrop, hN]; unfold B32; rcases (by omega : r = 0 ∨ r = 1 ∨ r = 2 ∨ r = 3) with rfl | rfl | rfl | rfl <;> simp <;> omega)
        omega
      by_cases hc0 : c = 0
      · have hc0' : (c : Int) = 0 := by omega
        by_cases hN0 : (magB N) = []
        · rw [if_pos ⟨hc0, Z1l hN0⟩] at hst
          have hl0 : ¬ (0 : Int) < (([] : List UInt8).length : Int) := by simp
          rw [hN0]; simp -implicitDefEqProofs only [natV, List.length_map, h2, e2, e4, e5, hgX, hcw, hc0', hl0, go_sem]; refine ⟨hnX, by simp only [InR]; omega, ⟨by omega, by omega⟩, fun h => absurd h (by omega), fun _ => ⟨by simp only [InR]; omega, r, ⟨⟨by rw [hst]; rfl, rfl⟩, .inl (by rw [hst]; rfl)⟩, by omega, by omega⟩⟩
        · rw [if_neg (fun h => hN0 (by rw [h.2]; rfl))] at hst
          have hl0 : (0 : Int) < ((magB N).length : Int) := by have := List.length_pos_iff.2 hN0; omega
          simp -implicitDefEqProofs only [natV, List.length_map, h2, e2, e4, e5, hgX, hcw, hc0', hl0, go_sem]; have hs1 : Zc [PV.int .u8 0] 1 := by simp [Zc, PV.cells]
          have ho1 : Z0k [PV.int .u8 0] := by simp [Z0k, PV.cells, PV.isAgg]
          have hu8 : [UInt8.ofNat c].map u8V = [PV.int .u8 0] := by rw [hc0]; rfl
          refine ⟨hnX, by simp only [InR]; omega, ⟨by omega, by omega⟩, ⟨hs1, by omega⟩, ⟨hs1, ho1⟩, ⟨.inl (by omega), by omega, by omega⟩, by simp only [InR]; omega, r, ⟨⟨by rw [hst]; simp, rfl⟩, .inl ⟨by rw [hst, List.map_append, hu8], rfl⟩⟩, by omega, by omega⟩
      · have hc0' : ¬ (c : Int) = 0 := by omega
        rw [if_neg (fun h => hc0 h.1)] at hst; simp -implicitDefEqProofs only [natV, List.length_map, h2, e2, e4, e5, hgX, hcw, hc0', go_sem]; have hs1 : Zc [PV.int .u8 (c : Int)] 1 := by simp [Zc, PV.cells]
        have ho1 : Z0k [PV.int .u8 (c : Int)] := by simp [Z0k, PV.cells, PV.isAgg]
        have hu8 : [UInt8.ofNat c].map u8V = [PV.int .u8 (c : Int)] := by rw [u8_of c hc2]; rfl
        refine ⟨hnX, by simp only [InR]; omega, ⟨by omega, by omega⟩, ⟨hs1, by omega⟩, ⟨hs1, ho1⟩, ⟨.inl (by omega), by omega, by omega⟩, by simp only [InR]; omega, r, ⟨⟨by rw [hst]; simp, rfl⟩, .inl ⟨by rw [hst, List.map_append, hu8], rfl⟩⟩, by omega, by omega⟩

def capN : Nat := 256 ^ (4 * 50)
theorem Zdr : capN = B32 ^ 50 := by unfold capN; rw [Zag]
theorem Zav : 0 < capN := Nat.pow_pos (by decide)
theorem Z4s {n k : Nat} (h : n < 256 ^ k) (hk : k ≤ 4 * 50) : n < capN := Nat.lt_of_lt_of_le h (Nat.pow_le_pow_right (by decide) hk)
theorem Z6j {n : Nat} (h : n < capN) : (magB n).length ≤ 200 := Z4e (k := 4 * 50) h
theorem Z2t {n : Nat} (h : n < capN) : (digD B32 n).length ≤ 50 := by
  rw [Zdr] at h; exact Z4i (by decide) h
theorem Zq5 {a b : Nat} (ha : a < capN) (hb : b < capN) : (digD B32 (a + b)).length ≤ 51 := by
  refine Z4i (by decide) ?_; rw [Nat.pow_succ, ← Zdr]; unfold B32; omega
theorem Z0x (n : Nat) : ∀ d ∈ digD B32 n, d < B32 := (Z06 (by decide) n).1

theorem u69n (neg : Bool) (n : Nat) (hn : n < capN) : PFn Tryz.prog 156 [intN neg n] [natV (digD B32 n)] := by
  have h := u69 (neg && decide (n ≠ 0)) (magB n) (by have := Z6j hn; omega)
  rwa [Z23] at h

theorem Z9 (n : Nat) : intN false n = .agg [.bool false, .str (magB n)] := rfl

theorem u34 (n : Nat) (hn : n < 9223372036854775808) : PFn Tryz.prog 73 [.int .i64 n] [intN false n] := by
  have hd : ∀ d ∈ [n % B32, n / B32], d < B32 := fun d hd => by
    unfold B32 at *; simp at hd; rcases hd with rfl | rfl <;> omega
  have e := u66 false [n % B32, n / B32] hd (by simp); have hv : valD B32 [n % B32, n / B32] = n := by
    simp only [valD]; unfold B32; omega
  rw [hv] at e; have h1 : IntKind.u64.wrap (n : Int) = n := InR.wrap (k := .u64) (by simp only [InR]; omega); have h2 : ¬ (n : Int) < 0 := by omega
  have h3 : IntKind.u32.wrap (n : Int) = ((n % B32 : Nat) : Int) := Z2a n; have h4 : IntKind.u32.wrap ((n : Int) / 2 ^ Int.toNat 32) = ((n / B32 : Nat) : Int) := by
    have : (2 : Int) ^ Int.toNat 32 = ((B32 : Nat) : Int) := rfl; rw [this, ← Int.natCast_ediv]; exact InR.wrap (k := .u32) (by unfold B32; simp only [InR]; omega)
  refine PFn.of_body hΓ Tryz.func73 (by kernel_rfl) rfl (Wd [] ?_); simp +contextual -implicitDefEqProofs only [Tryz.ntmps73, Tryz.results73, Nat.reduceAdd, Nat.reduceSub, go_sem]; simp -implicitDefEqProofs only [h1, h2, h3, h4, go_sem]; have hs2 : Zc [PV.int .u32 ((n % B32 : Nat) : Int), PV.int .u32 ((n / B32 : Nat) : Int)] 1 := Za8 [n % B32, n / B32]; refine ⟨⟨by omega, by omega⟩, ⟨hs2, by omega⟩, ?_⟩; refine Z0 e (.pures rfl) ?_; simp -implicitDefEqProofs only [h1, h2, h3, h4, Z9, go_sem]

theorem u89 (a b : Nat) (ha : a < capN) (hb : b < capN) : PFn Tryz.prog 99 [intN false a, intN false b] [intN false (a + b)] := by
  have ea := u69n false a ha; have eb := u69n false b hb; have e1 := u105 (digD B32 a) (digD B32 b) (Z0x a) (Z0x b) (by have := Z2t ha; omega) (by have := Z2t hb; omega); rw [Zf (by decide), Zf (by decide)] at e1; have e2 := u66 false (digD B32 (a + b)) (Z0x _) (by have := Zq5 ha hb; omega); rw [Zf (by decide)] at e2; refine PFn.of_body hΓ Tryz.func99 (by kernel_rfl) rfl (Wd [(1, 6), (3, 6), (5, 6), (6, 6)] ?_); simp +contextual -implicitDefEqProofs only [Z9, Tryz.ntmps99, Tryz.results99, Nat.reduceAdd, Nat.reduceSub, go_sem]; refine Z1 ea (.still rfl) ?_; simp -implicitDefEqProofs only [go_sem]; refine Z1 eb (.still rfl) ?_; simp -implicitDefEqProofs only [beq_self_eq_true, go_sem]; refine Z1 e1 (.pures rfl) ?_; simp -implicitDefEqProofs only [go_sem]; refine Z1 e2 (.pures rfl) ?_; simp -implicitDefEqProofs only [Z9, go_sem]

def cmpN (a b : Nat) : Int := if a < b then -1 else if a = b then 0 else 1
theorem Z46 {a b : Nat} (h : a < b) : cmpN a b = -1 := if_pos h
theorem Z1r {a b : Nat} (h : b < a) : cmpN a b = 1 := by unfold cmpN; rw [if_neg (by omega), if_neg (by omega)]
theorem Z8m (a : Nat) : cmpN a a = 0 := by unfold cmpN; rw [if_neg (by omega), if_pos rfl]

theorem Z2v (B i : Nat) (l : List Nat) : valD B l = valD B (l.take i) + B ^ (l.take i).length * valD B (l.drop i) := by
  conv => lhs; rw [← List.take_append_drop i l]
  rw [Zi]
theorem Zcr {B : Nat} (hB : 0 < B) : ∀ {l : List Nat}, Z29 B l → l ≠ [] → B ^ (l.length - 1) ≤ valD B l
  | [], _, h => absurd rfl h
  | [d], h, _ => by
    have : d ≠ 0 := fun e => by subst e; exact h.2 rfl
    simp [valD]; omega
  | d :: e :: l, h, _ => by
    have ih := Zcr hB (Z4k h) (by simp); have e1 : valD B (d :: e :: l) = d + B * valD B (e :: l) := rfl; have e2 : B ^ ((d :: e :: l).length - 1) = B * B ^ ((e :: l).length - 1) := by
      simp only [List.length_cons, Nat.add_sub_cancel]; rw [Nat.pow_succ, Nat.mul_comm]
    rw [e1, e2]; have := Nat.mul_le_mul_left B ih; omega
theorem Zc1 {B : Nat} (hB : 0 < B) {x y : List Nat} (hx : Z29 B x) (hy : Z29 B y) (h : x.length < y.length) : valD B x < valD B y := by
  refine Nat.lt_of_lt_of_le (Z2l hx.1) (Nat.le_trans (Nat.pow_le_pow_right hB ?_) (Zcr hB hy (fun e => by subst e; simp at h))); omega
theorem Zja {B : Nat} {x y : List Nat} {i : Nat} (hx : ∀ d ∈ x, d < B) (hl : x.length = y.length) (hi : i < x.length) (hd : x.drop (i + 1) = y.drop (i + 1)) (h : x.getD i 0 < y.getD i 0) : valD B x < valD B y := by
  rw [Z2v B i x, Z2v B i y]; have h1 : (x.take i).length = i := by simp; omega
  have h2 : (y.take i).length = i := by simp; omega
  have h3 : valD B (x.take i) < B ^ i := by
    have := Z2l (B := B) (l := x.take i) (fun d hd => hx d (List.mem_of_mem_take hd))
    rwa [h1] at this
  have e1 : valD B (x.drop i) = x.getD i 0 + B * valD B (x.drop (i + 1)) := by
    rw [List.drop_eq_getElem_cons hi, List.getD_eq_getElem?_getD, List.getElem?_eq_getElem hi]; rfl
  have e2 : valD B (y.drop i) = y.getD i 0 + B * valD B (y.drop (i + 1)) := by
    rw [List.drop_eq_getElem_cons (show i < y.length by omega), List.getD_eq_getElem?_getD, List.getElem?_eq_getElem (show i < y.length by omega)]; rfl
  rw [h1, h2, e1, e2, hd]; generalize B * valD B (y.drop (i + 1)) = R; have h4 : B ^ i * (x.getD i 0 + R + 1) ≤ B ^ i * (y.getD i 0 + R) := Nat.mul_le_mul_left _ (by omega); rw [Nat.mul_add] at h4; omega

theorem u106 (x y : List Nat) (hx : Z29 B32 x) (hy : Z29 B32 y) (hxl : x.length ≤ 1000000) (_hyl : y.length ≤ 1000000) : PFn Tryz.prog 160 [natV x, natV y] [.int .i64 (cmpN (valD B32 x) (valD B32 y))] := by
  refine PFn.of_body hΓ Tryz.func160 (by kernel_rfl) rfl (AWp.seq (Wd [] ?_)); simp -implicitDefEqProofs only [Tryz.ntmps160, Tryz.results160, Nat.reduceAdd, Nat.reduceSub, natV, go_sem]; by_cases h1 : x.length = y.length
  · have h1' : (x.length : Int) = y.length := by omega
    refine AWp.seq (Wd [] ?_); simp -implicitDefEqProofs only [List.length_map, h1', go_sem]; refine AWp.seq (Wd [] ?_); simp -implicitDefEqProofs only [List.length_map, h1', go_sem]; refine ⟨by simp only [InR]; omega, ?_⟩
    refine AWp.loopI (fun n : Nat => ⟨mkF 41 [(0, .p (natV x)), (1, .p (natV y)), (5, .p (.int .i64 ((n : Int) - 1)))], []⟩)
      (fun n => n ≤ x.length ∧ x.drop n = y.drop n) (fun n => n) x.length (by simp [go_sem, natV, h1]) ⟨Nat.le_refl _, by rw [List.drop_length, h1, List.drop_length]⟩ ?_
    rintro n ⟨hn, hd⟩; refine Wd [(8, 9), (9, 9)] ?_
    cases n with
    | zero =>
      have h2 : ¬ (0 : Int) ≤ ((0 : Nat) : Int) - 1 := by omega
      have : x = y := by simpa using hd
      simp -implicitDefEqProofs only [h2, go_sem]; rw [this, Z8m]; refine Wd [] ?_; simp -implicitDefEqProofs only [go_sem]
    | succ n =>
      have h2 : (0 : Int) ≤ ((n + 1 : Nat) : Int) - 1 := by omega
      have e2 : ((n + 1 : Nat) : Int) - 1 = n := by omega
      have hnx : n < x.length := hn; have hny : n < y.length := by omega
      have hgx : (x.map u32V).getD n default = .int .u32 ((x.getD n 0 : Nat) : Int) := by
        rw [Z2 _ _ _ _ hnx, List.getD_eq_getElem?_getD, List.getElem?_eq_getElem hnx]; rfl
      have hgy : (y.map u32V).getD n default = .int .u32 ((y.getD n 0 : Nat) : Int) := by
        rw [Z2 _ _ _ _ hny, List.getD_eq_getElem?_getD, List.getElem?_eq_getElem hny]; rfl
      rcases Nat.lt_trichotomy (x.getD n 0) (y.getD n 0) with h | h | h
      · have h3 : ¬ ((x.getD n 0 : Nat) : Int) = (y.getD n 0 : Nat) := by omega
        have h4 : ((x.getD n 0 : Nat) : Int) < (y.getD n 0 : Nat) := by omega
        have := Zja hx.1 h1 hnx hd h; simp -implicitDefEqProofs only [natV, List.length_map, h2, e2, hgx, hgy, h3, h4, hnx, hny, go_sem]; rw [Z46 this]
      · have hd' : x.drop n = y.drop n := by
          rw [List.drop_eq_getElem_cons hnx, List.drop_eq_getElem_cons hny, hd]
          congr 1
          rwa [List.getD_eq_getElem?_getD, List.getElem?_eq_getElem hnx, Option.getD_some, List.getD_eq_getElem?_getD, List.getElem?_eq_getElem hny, Option.getD_some] at h
        simp -implicitDefEqProofs only [natV, List.length_map, h2, e2, hgx, hgy, h, hnx, hny, go_sem]; exact ⟨by simp only [InR]; omega, n, rfl, ⟨by omega, hd'⟩, by omega⟩
      · have h3 : ¬ ((x.getD n 0 : Nat) : Int) = (y.getD n 0 : Nat) := by omega
        have h4 : ¬ ((x.getD n 0 : Nat) : Int) < (y.getD n 0 : Nat) := by omega
        have := Zja hy.1 h1.symm hny hd.symm h; simp -implicitDefEqProofs only [natV, List.length_map, h2, e2, hgx, hgy, h3, h4, hnx, hny, go_sem]; rw [Z1r this]
  · have h1' : ¬ (x.length : Int) = y.length := by omega
    refine Wd [] ?_; by_cases h2 : x.length < y.length
    · have h2' : (x.length : Int) < y.length := by omega
      have := Zc1 (B := B32) (by decide) hx hy h2; simp -implicitDefEqProofs only [List.length_map, h1', h2', go_sem]; rw [Z46 this]
    · have h2' : ¬ (x.length : Int) < y.length := by omega
      have := Zc1 (B := B32) (by decide) hy hx (by omega); simp -implicitDefEqProofs only [List.length_map, h1', h2', go_sem]; rw [Z1r this]

theorem u107 (X Y : List Nat) (hX : ∀ d ∈ X, d < B32) (hY : ∀ d ∈ Y, d < B32) (hXl : X.length ≤ 1000000) (hYX : Y.length ≤ X.length) (hle : valD B32 Y ≤ valD B32 X) : PFn Tryz.prog 161 [natV X, natV Y] [natV (digD B32 (valD B32 X - valD B32 Y))] := by
  have eL : ((X.length : Int)).toNat = X.length := by omega
  refine PFn.of_body hΓ Tryz.func161 (by kernel_rfl) rfl (AWp.seq (Wd [] ?_)); simp -implicitDefEqProofs only [Tryz.ntmps161, Tryz.results161, Nat.reduceAdd, Nat.reduceSub, natV, go_sem]; refine AWp.seq (Wd [] ?_); simp -implicitDefEqProofs only [natV, List.length_map, eL, go_sem]; refine ⟨⟨by omega, by omega⟩, ?_⟩; refine AWp.seq (Wd [] ?_); simp -implicitDefEqProofs only [go_sem]; refine AWp.seq (Wd [] ?_); simp -implicitDefEqProofs only [List.length_map, go_sem]
  refine AWp.loopI (fun z : Nat × List Nat × Nat => ⟨mkF 47 [(0, .p (natV X)), (1, .p (natV Y)), (5, .own 0 X.length), (6, .p (.int .i64 z.2.2)), (13, .p (.int .i64 X.length)), (14, .p (.int .i64 z.1))], [.row 136 1 ((z.2.1 ++ List.replicate (X.length - z.1) 0).map u32V) .own]⟩)
    (fun z => z.1 ≤ X.length ∧ z.2.1.length = z.1 ∧ (∀ d ∈ z.2.1, d < B32) ∧ z.2.2 ≤ 1 ∧ valD B32 (X.take z.1) + z.2.2 * B32 ^ z.1 = valD B32 z.2.1 + valD B32 (Y.take z.1)) (fun z => X.length - z.1) (0, [], 0) (by simp [go_sem, natV, u32V]) (by simp [valD]) ?_
  rintro ⟨i, o, c⟩ ⟨hi, ho, hod, hc, hval⟩; simp only at hi ho hod hc hval; refine Wd [] ?_; by_cases hlt : i < X.length
  · have hgX : (X.map u32V).getD i default = .int .u32 ((X.getD i 0 : Nat) : Int) := by
      rw [Z2 _ _ _ _ hlt, List.getD_eq_getElem?_getD, List.getElem?_eq_getElem hlt]; rfl
    have dX : X.getD i 0 < B32 := by
      rw [List.getD_eq_getElem?_getD, List.getElem?_eq_getElem hlt, Option.getD_some]; exact hX _ (List.getElem_mem hlt)
    have dY : Y.getD i 0 < B32 := by
      rw [List.getD_eq_getElem?_getD]
      cases hq : Y[i]? with
      | none => decide
      | some d => exact hY d (List.mem_of_getElem? hq)
    have hwX : IntKind.i64.wrap ((X.getD i 0 : Nat) : Int) = (X.getD i 0 : Nat) := InR.wrap (k := .i64) (by simp only [InR]; unfold B32 at dX; omega); have hwY : IntKind.i64.wrap ((Y.getD i 0 : Nat) : Int) = (Y.getD i 0 : Nat) := InR.wrap (k := .i64) (by simp only [InR]; unfold B32 at dY; omega); have tX := Zj (l := X) B32 i; have tY := Zj (l := Y) B32 i; generalize hxi : X.getD i 0 = xi at *; generalize hyi : Y.getD i 0 = yi at *; have hB : B32 = 4294967296 := rfl; obtain ⟨s, b, hs, hb, hsb⟩ : ∃ s b : Nat, (b = 0 ∧ (s : Int) = (xi : Int) - c - yi ∨ b = 1 ∧ (s : Int) = (xi : Int) - c - yi + 4294967296 ∧ (xi : Int) - c - yi < 0) ∧ b ≤ 1 ∧ s < B32 := by
      by_cases hneg : (xi : Int) - c - yi < 0
      · exact ⟨((xi : Int) - c - yi + 4294967296).toNat, 1, .inr ⟨rfl, by omega, hneg⟩, by omega, by omega⟩
      · exact ⟨((xi : Int) - c - yi).toNat, 0, .inl ⟨rfl, by omega⟩, by omega, by omega⟩
    have hvl : valD B32 (X.take (i + 1)) + b * B32 ^ (i + 1) = valD B32 (o ++ [s]) + valD B32 (Y.take (i + 1)) := by
      rw [tX, tY, Zi, ho, Nat.pow_succ]; have e1 : valD B32 [s] = s := by simp [valD]
      rw [e1]; generalize hP : B32 ^ i = P at *; have e2 : xi + b * B32 = s + yi + c := by
        rcases hs with ⟨rfl, h⟩ | ⟨rfl, h, _⟩ <;> omega
      have e3 : (xi + b * B32) * P = (s + yi + c) * P := by rw [e2]
      rw [Nat.add_mul, Nat.add_mul, Nat.add_mul] at e3; have e4 : b * (P * B32) = b * B32 * P := by rw [Nat.mul_comm P, Nat.mul_assoc]
      rw [e4, Nat.mul_comm P s]; omega
    have hs32 : IntKind.u32.wrap (s : Int) = (s : Int) := InR.wrap (k := .u32) (by simp only [InR]; omega); have hset : ((o ++ List.replicate (X.length - i) 0).map u32V).set i (.int .u32 (s : Int)) = ((o ++ [s]) ++ List.replicate (X.length - (i + 1)) 0).map u32V := by
      have := Z34 o (X.length - (i + 1)) s; rw [ho, show X.length - (i + 1) + 1 = X.length - i by omega] at this; exact this
    have hod' : ∀ d ∈ o ++ [s], d < B32 := fun d hd => by
      rcases List.mem_append.1 hd with hd | hd
      · exact hod d hd
      · rw [List.mem_singleton] at hd; subst hd; exact hsb
    have hlen : i < (o ++ List.replicate (X.length - i) 0).length := by simp; omega
    by_cases hlt2 : (i : Int) < Y.length
    · have hlt2' : i < Y.length := by omega
      have hgY : (Y.map u32V).getD i default = .int .u32 (yi : Int) := by
        rw [Z2 _ _ _ _ hlt2', ← hyi, List.getD_eq_getElem?_getD, List.getElem?_eq_getElem hlt2']; rfl
      rcases hs with ⟨rfl, h⟩ | ⟨rfl, h, hneg⟩
      · have hneg : ¬ (s : Int) < 0 := by omega
        simp -implicitDefEqProofs only [natV, List.length_map, hlt, hgX, hgY, hlt2', hwX, hwY, ← h, hneg, hs32, hset, go_sem]; refine ⟨by simp only [InR]; omega, by simp only [InR]; omega, ⟨hlen, rfl⟩, by simp only [InR]; omega, (i + 1, o ++ [s], 0), ⟨⟨rfl, by simp⟩, .inl rfl⟩, ⟨hlt, by simp [ho], hod', by omega, hvl⟩, by simp only; omega⟩
      · simp -implicitDefEqProofs only [natV, List.length_map, hlt, hgX, hgY, hlt2', hwX, hwY, hneg, ← h, hs32, hset, go_sem]
        refine ⟨by simp only [InR]; omega, by simp only [InR]; omega, by simp only [InR]; omega, ⟨hlen, rfl⟩, by simp only [InR]; omega, (i + 1, o ++ [s], 1), ⟨⟨rfl, by simp⟩, .inl rfl⟩, ⟨hlt, by simp [ho], hod', by omega, hvl⟩, by simp only; omega⟩
    · have hy0 : yi = 0 := by rw [← hyi, List.getD_eq_getElem?_getD, List.getElem?_eq_none (by omega)]; rfl
      rcases hs with ⟨rfl, h⟩ | ⟨rfl, h, hneg⟩
      · have h' : (s : Int) = (xi : Int) - c := by omega
        have hneg : ¬ (s : Int) < 0 := by omega
        simp -implicitDefEqProofs only [natV, List.length_map, hlt, hgX, hlt2, hwX, hwY, ← h', hneg, hs32, hset, go_sem]; refine ⟨by simp only [InR]; omega, ⟨hlen, rfl⟩, by simp only [InR]; omega, (i + 1, o ++ [s], 0), ⟨⟨rfl, by simp⟩, .inl rfl⟩, ⟨hlt, by simp [ho], hod', by omega, hvl⟩, by simp only; omega⟩
      · have h' : (s : Int) = (xi : Int) - c + 4294967296 := by omega
        have hneg' : (xi : Int) - c < 0 := by omega
        simp -implicitDefEqProofs only [natV, List.length_map, hlt, hgX, hlt2, hwX, hwY, hneg', ← h', hs32, hset, go_sem]; refine ⟨by simp only [InR]; omega, by simp only [InR]; omega, ⟨hlen, rfl⟩, by simp only [InR]; omega, (i + 1, o ++ [s], 1), ⟨⟨rfl, by simp⟩, .inl rfl⟩, ⟨hlt, by simp [ho], hod', by omega, hvl⟩, by simp only; omega⟩
  · simp -implicitDefEqProofs only [natV, List.length_map, hlt, go_sem]
    have hin : i = X.length := by omega
    have hall : valD B32 o < B32 ^ o.length := Z2l hod; rw [hin, List.take_of_length_le (Nat.le_refl _), List.take_of_length_le hYX] at hval; have hc0 : c = 0 := by
      rcases (by omega : c = 0 ∨ c = 1) with h | h
      · exact h
      · subst h
        rw [ho, hin] at hall; omega
    subst hc0; have hv : valD B32 o = valD B32 X - valD B32 Y := by simp at hval; omega
    have hrow : o ++ List.replicate (X.length - i) 0 = o := by rw [hin]; simp
    rw [hrow]; refine AWp.freeze 0 rfl ?_; refine Wd [] ?_; simp -implicitDefEqProofs only [Z1q, go_sem]; have e91 := u91 o (by omega); rw [Z2b (B := B32) (by decide) hod, hv] at e91; refine Z0 e91 (.pures rfl) ?_; simp -implicitDefEqProofs only [natV, go_sem]

theorem u90 (n : Nat) (hn : n < capN) : PFn Tryz.prog 189 [intN false n] [intN true n] := by
  have e1 := u69n false n hn; have e2 := u66 true (digD B32 n) (Z0x _) (by have := Z2t hn; omega); rw [Zf (by decide)] at e2; refine PFn.of_body hΓ Tryz.func189 (by kernel_rfl) rfl (Wd [(1, 6)] ?_); simp +contextual -implicitDefEqProofs only [Z9, Tryz.ntmps189, Tryz.results189, Nat.reduceAdd, Nat.reduceSub, go_sem]; refine Z1 e1 (.still rfl) ?_; simp -implicitDefEqProofs only [go_sem]; refine Z1 e2 (.pures rfl) ?_; simp -implicitDefEqProofs only [intN, intV, go_sem]

theorem Z7g {n : Nat} (h : n ≠ 0) : intN true n = .agg [.bool true, .str (magB n)] := by simp [intN, intV, h]

theorem u89m (a b : Nat) (ha : a < capN) (hb : b < capN) (hb0 : b ≠ 0) : PFn Tryz.prog 99 [intN false a, intN true b] [if a < b then intN true (b - a) else intN false (a - b)] := by
  have ea := u69n false a ha; have eb := u69n true b hb; have la := Z2t ha; have lb := Z2t hb; have ec := u106 (digD B32 a) (digD B32 b) (Z06 (by decide) a) (Z06 (by decide) b) (by omega) (by omega); rw [Zf (by decide), Zf (by decide)] at ec; rw [Z7g hb0] at eb ⊢; by_cases h : a < b
  · have hlen : (digD B32 a).length ≤ (digD B32 b).length := by
      rcases Nat.lt_or_ge (digD B32 b).length (digD B32 a).length with hl | hl
      · have := Zc1 (B := B32) (by decide) (Z06 (by decide) b) (Z06 (by decide) a) hl
        rw [Zf (by decide), Zf (by decide)] at this; omega
      · exact hl
    have e1 := u107 (digD B32 b) (digD B32 a) (Z0x b) (Z0x a) (by omega) hlen (by rw [Zf (by decide), Zf (by decide)]; omega); rw [Zf (by decide), Zf (by decide)] at e1; have e2 := u66 true (digD B32 (b - a)) (Z0x _) (by have := Z2t (n := b - a) (by omega); omega); rw [Zf (by decide)] at e2; rw [Z46 h] at ec; have hft : (false == true) = false := rfl; have hm1 : (-1 : Int) < 0 := by decide
    refine PFn.of_body hΓ Tryz.func99 (by kernel_rfl) rfl (Wd [(1, 6), (3, 6), (5, 6), (6, 6)] ?_); simp +contextual -implicitDefEqProofs only [Z9, Tryz.ntmps99, Tryz.results99, Nat.reduceAdd, Nat.reduceSub, go_sem]; refine Z1 ea (.still rfl) ?_; simp -implicitDefEqProofs only [go_sem]; refine Z1 eb (.still rfl) ?_; simp -implicitDefEqProofs only [hft, go_sem]; refine Z0 ec (.pures rfl) ?_; simp -implicitDefEqProofs only [hm1, go_sem]; refine Z1 e1 (.pures rfl) ?_; simp -implicitDefEqProofs only [go_sem]; refine Z1 e2 (.pures rfl) ?_; simp -implicitDefEqProofs only [h, Z7g (show b - a ≠ 0 by omega), go_sem]
  · have hlen : (digD B32 b).length ≤ (digD B32 a).length := by
      rcases Nat.lt_or_ge (digD B32 a).length (digD B32 b).length with hl | hl
      · have := Zc1 (B := B32) (by decide) (Z06 (by decide) a) (Z06 (by decide) b) hl
        rw [Zf (by decide), Zf (by decide)] at this; omega
      · exact hl
    have e1 := u107 (digD B32 a) (digD B32 b) (Z0x a) (Z0x b) (by omega) hlen (by rw [Zf (by decide), Zf (by decide)]; omega); rw [Zf (by decide), Zf (by decide)] at e1; have e2 := u66 false (digD B32 (a - b)) (Z0x _) (by have := Z2t (n := a - b) (by omega); omega); rw [Zf (by decide)] at e2; have hft : (false == true) = false := rfl; have hm1 : ¬ cmpN a b < 0 := by unfold cmpN; rw [if_neg h]; split <;> decide
    refine PFn.of_body hΓ Tryz.func99 (by kernel_rfl) rfl (Wd [(1, 6), (3, 6), (5, 6), (6, 6)] ?_); simp +contextual -implicitDefEqProofs only [Z9, Tryz.ntmps99, Tryz.results99, Nat.reduceAdd, Nat.reduceSub, go_sem]; refine Z1 ea (.still rfl) ?_; simp -implicitDefEqProofs only [go_sem]; refine Z1 eb (.still rfl) ?_; simp -implicitDefEqProofs only [hft, go_sem]; refine Z0 ec (.pures rfl) ?_; simp -implicitDefEqProofs only [hm1, go_sem]; refine Z1 e1 (.pures rfl) ?_; simp -implicitDefEqProofs only [go_sem]; refine Z1 e2 (.pures rfl) ?_; simp -implicitDefEqProofs only [h, Z9, go_sem]
theorem u65 (a b : Nat) (ha : a < capN) (hb : b < capN) : PFn Tryz.prog 164 [intN false a, intN false b] [if a < b then intN true (b - a) else intN false (a - b)] := by
  have e1 := u90 b hb; have e2 : PFn Tryz.prog 99 [intN false a, intN true b] [if a < b then intN true (b - a) else intN false (a - b)] := by
    by_cases h : b = 0
    · subst h
      have := u89 a 0 ha hb; rw [if_neg (by omega)]; exact this
    · exact u89m a b ha hb h
  by_cases h : a < b
  · rw [if_pos h] at e2 ⊢
    rw [Z7g (show b - a ≠ 0 by omega)] at e2 ⊢; refine PFn.of_body hΓ Tryz.func164 (by kernel_rfl) rfl (Wd [(1, 4)] ?_); simp -implicitDefEqProofs only [Tryz.ntmps164, Tryz.results164, Nat.reduceAdd, Nat.reduceSub, Z9, go_sem]; refine Z1 e1 (.still rfl) ?_; simp -implicitDefEqProofs only [go_sem]; refine Z1 e2 (.still rfl) ?_; simp -implicitDefEqProofs only [go_sem]
  · rw [if_neg h] at e2 ⊢
    refine PFn.of_body hΓ Tryz.func164 (by kernel_rfl) rfl (Wd [(1, 4)] ?_); simp -implicitDefEqProofs only [Tryz.ntmps164, Tryz.results164, Nat.reduceAdd, Nat.reduceSub, Z9, go_sem]; refine Z1 e1 (.still rfl) ?_; simp -implicitDefEqProofs only [go_sem]; refine Z1 e2 (.still rfl) ?_; simp -implicitDefEqProofs only [Z9, go_sem]
theorem u33 (a b : Nat) (ha : a < capN) (hb : b < capN) : PFn Tryz.prog 104 [intN false a, intN false b] [.int .i64 (cmpN a b)] := by
  have e := u65 a b ha hb; by_cases h : a < b
  · rw [Z46 h]
    rw [if_pos h, Z7g (show b - a ≠ 0 by omega)] at e; refine PFn.of_body hΓ Tryz.func104 (by kernel_rfl) rfl (Wd [] ?_); simp -implicitDefEqProofs only [Tryz.ntmps104, Tryz.results104, Nat.reduceAdd, Nat.reduceSub, Z9, go_sem]; refine Z0 e (.still rfl) ?_; simp -implicitDefEqProofs only [go_sem]
  · rw [if_neg h] at e
    by_cases h2 : a = b
    · subst h2
      rw [Z8m]; rw [Nat.sub_self] at e; refine PFn.of_body hΓ Tryz.func104 (by kernel_rfl) rfl (Wd [] ?_); simp -implicitDefEqProofs only [Tryz.ntmps104, Tryz.results104, Nat.reduceAdd, Nat.reduceSub, Z9, go_sem]; refine Z0 e (.still rfl) ?_; simp -implicitDefEqProofs only [Z9, magB_zero, go_sem]
    · rw [Z1r (by omega)]
      have hm : ¬ magB (a - b) = [] := fun e => by have := Z1l e; omega
      refine PFn.of_body hΓ Tryz.func104 (by kernel_rfl) rfl (Wd [] ?_); simp -implicitDefEqProofs only [Tryz.ntmps104, Tryz.results104, Nat.reduceAdd, Nat.reduceSub, Z9, go_sem]; refine Z0 e (.still rfl) ?_; simp -implicitDefEqProofs only [Z9, hm, go_sem]

def mulR (o : List Nat) (i : Nat) (r : List Nat) (z : Nat) : List Nat := o.take i ++ r ++ o.drop (i + r.length) ++ List.replicate z 0
theorem Z5m {o : List Nat} {i : Nat} {r : List Nat} {z : Nat} (h : i + r.length < o.length) : ((mulR o i r z).map u32V).getD (i + r.length) default = .int .u32 ((o.getD (i + r.length) 0 : Nat) : Int) := by
  have hl : (o.take i ++ r).length = i + r.length := by simp; omega
  unfold mulR; rw [List.getD_eq_getElem?_getD, List.getElem?_map, List.append_assoc, List.getElem?_append_right (by omega), hl, Nat.sub_self, List.drop_eq_getElem_cons h, List.getD_eq_getElem?_getD, List.getElem?_eq_getElem h]; rfl
theorem Z4c {o : List Nat} {i : Nat} {r : List Nat} {z v : Nat} (h : i + r.length < o.length) : ((mulR o i r z).map u32V).set (i + r.length) (u32V v) = (mulR o i (r ++ [v]) z).map u32V := by
  have hl : (o.take i ++ r).length = i + r.length := by simp; omega
  unfold mulR; rw [← List.map_set, List.append_assoc (o.take i ++ r), List.set_append_right _ _ (by omega), hl, Nat.sub_self, List.drop_eq_getElem_cons h]; simp [Nat.add_assoc]
theorem Zld {o : List Nat} {i : Nat} {r : List Nat} {z v : Nat} (h : i + r.length = o.length) : ((mulR o i r (z + 1)).map u32V).set (i + r.length) (u32V v) = ((o.take i ++ r ++ [v]) ++ List.replicate z 0).map u32V := by
  have hl : (o.take i ++ r).length = i + r.length := by simp; omega
  unfold mulR; rw [h, List.drop_length, List.append_nil, ← List.map_set, ← h, List.set_append_right _ _ (by omega), hl, Nat.sub_self, List.replicate_succ]; simp
theorem Z7a {o : List Nat} {i z : Nat} : mulR o i [] z = o ++ List.replicate z 0 := by unfold mulR; simp
theorem Z1k {o : List Nat} {i : Nat} {r : List Nat} {z : Nat} (h : i + r.length ≤ o.length) : (mulR o i r z).length = o.length + z := by unfold mulR; simp; omega

theorem Zhu {a b : Nat} (ha : a < B32) (hb : b < B32) : a * b ≤ 4294967295 * 4294967295 := Nat.mul_le_mul (by unfold B32 at ha; omega) (by unfold B32 at hb; omega)

set_option maxHeartbeats 1000000 in
theorem u68 (x y : List Nat) (hx : ∀ d ∈ x, d < B32) (hy : ∀ d ∈ y, d < B32) (hxl : x.length ≤ 500000) (hyl : y.length ≤ 500000) : PFn Tryz.prog 165 [natV x, natV y] [natV (digD B32 (valD B32 x * valD B32 y))] := by
  by_cases hx0 : x = []
  · have h1 : (x.length : Int) = 0 := by rw [hx0]; rfl
    rw [show valD B32 x * valD B32 y = 0 by rw [hx0]; exact Nat.zero_mul _, Z5w]; refine PFn.of_body hΓ Tryz.func165 (by kernel_rfl) rfl (Wd [] ?_); simp -implicitDefEqProofs only [Tryz.ntmps165, Tryz.results165, Nat.reduceAdd, Nat.reduceSub, natV, List.length_map, h1, go_sem]
    try rfl
  by_cases hy0 : y = []
  · have h1 : ¬ (x.length : Int) = 0 := fun h => hx0 (List.length_eq_zero_iff.1 (by omega))
    have h2 : (y.length : Int) = 0 := by rw [hy0]; rfl
    rw [show valD B32 x * valD B32 y = 0 by rw [hy0]; exact Nat.mul_zero _, Z5w]; refine PFn.of_body hΓ Tryz.func165 (by kernel_rfl) rfl (Wd [] ?_); simp -implicitDefEqProofs only [Tryz.ntmps165, Tryz.results165, Nat.reduceAdd, Nat.reduceSub, natV, List.length_map, h1, h2, go_sem]
    try rfl
  have hxp : 0 < x.length := List.length_pos_iff.2 hx0; have hyp : 0 < y.length := List.length_pos_iff.2 hy0; have h1 : ¬ (x.length : Int) = 0 := by omega
  have h2 : ¬ (y.length : Int) = 0 := by omega
  have eL : ((x.length : Int) + (y.length : Int)).toNat = x.length + y.length := by omega
  refine PFn.of_body hΓ Tryz.func165 (by kernel_rfl) rfl (AWp.seq (Wd [] ?_)); simp -implicitDefEqProofs only [Tryz.ntmps165, Tryz.results165, Nat.reduceAdd, Nat.reduceSub, natV, go_sem]; refine AWp.seq (Wd [] ?_); simp -implicitDefEqProofs only [List.length_map, h1, h2, go_sem]; refine AWp.seq (Wd [] ?_); simp -implicitDefEqProofs only [List.length_map, eL, go_sem]; refine ⟨by simp only [InR]; omega, ⟨by omega, by omega, by omega⟩, ?_⟩; refine AWp.seq (Wd [] ?_); simp -implicitDefEqProofs only [List.length_map, go_sem]
  refine AWp.loopI (fun z : Nat × List Nat => ⟨mkF 76 [(0, .p (natV x)), (1, .p (natV y)), (5, .own 0 (x.length + y.length)), (26, .p (natV x)), (27, .p (.int .i64 x.length)), (28, .p (.int .i64 z.1))], [.row 136 1 ((z.2 ++ List.replicate (x.length - z.1) 0).map u32V) .own]⟩)
    (fun z => z.1 ≤ x.length ∧ z.2.length = z.1 + y.length ∧ (∀ d ∈ z.2, d < B32) ∧ valD B32 z.2 = valD B32 (x.take z.1) * valD B32 y) (fun z => x.length - z.1) (0, List.replicate y.length 0) (by
      simp [go_sem, natV, u32V, List.replicate_append_replicate, Nat.add_comm]) ⟨by simp, by simp, fun d hd => by rw [List.eq_of_mem_replicate hd]; decide, by simp [valD, Z96]⟩ ?_
  rintro ⟨i, o⟩ ⟨hi, ho, hod, hval⟩; simp only at hi ho hod hval; refine Wd [] ?_; by_cases hlt : i < x.length
  · have hgx : (x.map u32V).getD i default = .int .u32 ((x.getD i 0 : Nat) : Int) := by
      rw [Z2 _ _ _ _ hlt, List.getD_eq_getElem?_getD, List.getElem?_eq_getElem hlt]; rfl
    have dx : x.getD i 0 < B32 := by
      rw [List.getD_eq_getElem?_getD, List.getElem?_eq_getElem hlt, Option.getD_some]; exact hx _ (List.getElem_mem hlt)
    have tx := Zj (l := x) B32 i; generalize x.getD i 0 = a at *; have hwa : IntKind.u64.wrap (a : Int) = a := InR.wrap (k := .u64) (by simp only [InR]; unfold B32 at dx; omega); simp -implicitDefEqProofs only [natV, List.length_map, hlt, hgx, go_sem]
    refine AWp.loopI (fun z : List Nat × Nat => ⟨mkF 76 [(0, .p (natV x)), (1, .p (natV y)), (5, .own 0 (x.length + y.length)), (6, .p (.int .i64 i)), (7, .p (.int .u32 a)), (8, .p (.int .u64 z.2)), (26, .p (natV x)), (27, .p (.int .i64 x.length)), (28, .p (.int .i64 i)), (33, .p (natV y)), (34, .p (.int .i64 y.length)), (35, .p (.int .i64 z.1.length))], [.row 136 1 ((mulR o i z.1 (x.length - i)).map u32V) .own]⟩)
      (fun z => z.1.length ≤ y.length ∧ (∀ d ∈ z.1, d < B32) ∧ z.2 < B32 ∧ valD B32 z.1 + z.2 * B32 ^ z.1.length = valD B32 ((o.drop i).take z.1.length) + a * valD B32 (y.take z.1.length)) (fun z => y.length - z.1.length) ([], 0) (by
        simp [go_sem, natV, Z7a]) ⟨by simp, by simp, by decide, by simp [valD]⟩ ?_
    rintro ⟨r, c⟩ ⟨hr, hrd, hc, hv⟩; simp only at hr hrd hc hv; refine Wd [] ?_; by_cases hlt2 : r.length < y.length
    · have hgy : (y.map u32V).getD r.length default = .int .u32 ((y.getD r.length 0 : Nat) : Int) := by
        rw [Z2 _ _ _ _ hlt2, List.getD_eq_getElem?_getD, List.getElem?_eq_getElem hlt2]; rfl
      have dy : y.getD r.length 0 < B32 := by
        rw [List.getD_eq_getElem?_getD, List.getElem?_eq_getElem hlt2, Option.getD_some]; exact hy _ (List.getElem_mem hlt2)
      have hio : i + r.length < o.length := by omega
      have ty := Zj (l := y) B32 r.length; have to := Zj (l := o.drop i) B32 r.length; have hgo2 : (o.drop i).getD r.length 0 = o.getD (i + r.length) 0 := by
        rw [List.getD_eq_getElem?_getD, List.getElem?_drop, List.getD_eq_getElem?_getD]
      have hgo := Z5m (z := x.length - i) hio; have dO : o.getD (i + r.length) 0 < B32 := by
        rw [List.getD_eq_getElem?_getD, List.getElem?_eq_getElem hio, Option.getD_some]; exact hod _ (List.getElem_mem hio)
      rw [hgo2] at to; generalize y.getD r.length 0 = b at *; generalize hqv : o.getD (i + r.length) 0 = qv at *; have hab := Zhu dx dy; obtain ⟨ab, habE⟩ : ∃ ab, ab = a * b := ⟨_, rfl⟩; rw [← habE] at hab; have habI : (a : Int) * (b : Int) = (ab : Int) := by rw [habE]; simp
      have hwb : IntKind.u64.wrap (b : Int) = b := InR.wrap (k := .u64) (by simp only [InR]; unfold B32 at dy; omega); have hwq : IntKind.u64.wrap (qv : Int) = qv := InR.wrap (k := .u64) (by simp only [InR]; unfold B32 at dO; omega); obtain ⟨s, hs⟩ : ∃ s, s = ab + qv + c := ⟨_, rfl⟩; have hsI : (ab : Int) + (qv : Int) + (c : Int) = (s : Int) := by omega
      have hs32 : IntKind.u32.wrap (s : Int) = ((s % B32 : Nat) : Int) := Z2a s; have hsd : (s : Int) / 2 ^ Int.toNat 32 = ((s / B32 : Nat) : Int) := by
        have : (2 : Int) ^ Int.toNat 32 = ((B32 : Nat) : Int) := rfl; rw [this, Int.natCast_ediv]
      have hsb : s < 4294967296 * 4294967296 := by unfold B32 at dO hc; omega
      have hset := Z4c (z := x.length - i) (v := s % B32) hio; have hlen := Z1k (z := x.length - i) (Nat.le_of_lt hio); have eik : ((i : Int) + (r.length : Int)).toNat = i + r.length := by omega
      simp -implicitDefEqProofs only [natV, List.length_map, hlt2, hgy, hwa, hwb, habI, eik, hgo, hwq, hsI, hs32, hsd, hset, go_sem]; have hrl : (r ++ [s % B32]).length = r.length + 1 := by simp
      have hvv : valD B32 (r ++ [s % B32]) + s / B32 * B32 ^ (r.length + 1) = valD B32 ((o.drop i).take (r.length + 1)) + a * valD B32 (y.take (r.length + 1)) := by
        rw [to, ty, Zi, Nat.pow_succ]; have e1 : valD B32 [s % B32] = s % B32 := by simp [valD]
        rw [e1]; have e2 : s % B32 + B32 * (s / B32) = s := Nat.mod_add_div s B32; generalize hP : B32 ^ r.length = P at *; have e3 : P * (s % B32) + s / B32 * (P * B32) = P * s := by
          conv => rhs; rw [← e2, Nat.mul_add]
          rw [Nat.mul_comm (s / B32), Nat.mul_assoc]
        have e4 : P * s = ab * P + qv * P + c * P := by rw [hs, Nat.mul_comm, Nat.add_mul, Nat.add_mul]
        have e5 : a * (valD B32 (y.take r.length) + b * P) = a * valD B32 (y.take r.length) + ab * P := by rw [Nat.mul_add, habE, Nat.mul_assoc]
        omega
      have hset' : ((mulR o i r (x.length - i)).map u32V).set (i + r.length) (.int .u32 ((s % B32 : Nat) : Int)) = (mulR o i (r ++ [s % B32]) (x.length - i)).map u32V := hset; have hcb : s / B32 < B32 := by unfold B32; omega
      refine ⟨by simp only [InR]; omega, by simp only [InR]; omega, ⟨by omega, by omega⟩, by omega, by simp only [InR]; unfold B32 at dO; omega, by simp only [InR]; omega, by simp only [InR]; omega, ⟨by omega, by omega⟩, ⟨by omega, by omega⟩, ⟨by omega, rfl⟩, by simp only [InR]; omega, (r ++ [s % B32], s / B32), ⟨⟨rfl, by simp⟩, .inl hset'.symm⟩, ⟨by simp only; omega, fun d hd => ?_, hcb, by simp only; rw [hrl]; exact hvv⟩, by simp only; omega⟩; rcases List.mem_append.1 hd with hd | hd
      · exact hrd d hd
      · rw [List.mem_singleton] at hd; subst hd; exact Nat.mod_lt _ (by decide)
    · have hrn : r.length = y.length := by omega
      have hz : ¬ (y.length : Int) < y.length := by omega
      have hcw : IntKind.u32.wrap (c : Int) = (c : Int) := InR.wrap (k := .u32) (by unfold B32 at hc; simp only [InR]; omega); have hend := Zld (o := o) (i := i) (r := r) (z := x.length - (i + 1)) (v := c) (by omega); rw [show x.length - (i + 1) + 1 = x.length - i by omega, hrn] at hend; have hend' : ((mulR o i r (x.length - i)).map u32V).set (i + y.length) (.int .u32 (c : Int)) = ((o.take i ++ r ++ [c]) ++ List.replicate (x.length - (i + 1)) 0).map u32V := hend; have hlen := Z1k (o := o) (i := i) (r := r) (z := x.length - i) (by omega); have eik : ((i : Int) + (y.length : Int)).toNat = i + y.length := by omega
      rw [hrn] at hv ⊢; have hvt : (o.drop i).take y.length = o.drop i := List.take_of_length_le (by simp; omega); rw [hvt, List.take_of_length_le (Nat.le_refl _)] at hv; have hvo := Z2v B32 i o; have htl : (o.take i).length = i := by simp; omega
      rw [htl] at hvo; have hvn : valD B32 (o.take i ++ r ++ [c]) = valD B32 (x.take (i + 1)) * valD B32 y := by
        rw [Zi, Zi, htl, tx]; have e1 : valD B32 [c] = c := by simp [valD]
        have e2 : (o.take i ++ r).length = i + y.length := by simp [htl, hrn]
        rw [e1, e2, Nat.pow_add]; generalize B32 ^ i = P at *; generalize B32 ^ y.length = Q at *; have e3 : P * (valD B32 r + c * Q) = P * (valD B32 (o.drop i) + a * valD B32 y) := by rw [hv]
        rw [Nat.mul_add, Nat.mul_add] at e3; have e4 : P * Q * c = P * (c * Q) := by rw [Nat.mul_assoc, Nat.mul_comm Q]
        have e5 : (valD B32 (x.take i) + a * P) * valD B32 y = valD B32 (x.take i) * valD B32 y + P * (a * valD B32 y) := by
          rw [Nat.add_mul, Nat.mul_comm a P, Nat.mul_assoc]
        rw [e4, e5, ← hval]; omega
      simp -implicitDefEqProofs only [natV, List.length_map, hz, hcw, eik, hend', go_sem]; refine ⟨by simp only [InR]; omega, ⟨by omega, by omega⟩, ⟨by omega, rfl⟩, by simp only [InR]; omega, (i + 1, o.take i ++ r ++ [c]), ⟨rfl, .inl rfl⟩, ⟨hlt, by simp [htl, hrn]; omega, fun d hd => ?_, hvn⟩, by simp only; omega⟩; rcases List.mem_append.1 hd with hd | hd
      · rcases List.mem_append.1 hd with hd | hd
        · exact hod d (List.mem_of_mem_take hd)
        · exact hrd d hd
      · rw [List.mem_singleton] at hd; subst hd; exact hc
  · simp -implicitDefEqProofs only [natV, List.length_map, hlt, go_sem]
    have hin : i = x.length := by omega
    have hrow : o ++ List.replicate (x.length - i) 0 = o := by rw [hin]; simp
    rw [hin, List.take_of_length_le (Nat.le_refl _)] at hval; rw [hrow]; refine AWp.freeze 0 rfl ?_; refine Wd [] ?_; simp -implicitDefEqProofs only [Z1q, go_sem]; have e91 := u91 o (by omega); rw [Z2b (B := B32) (by decide) hod, hval] at e91; refine Z0 e91 (.pures rfl) ?_; simp -implicitDefEqProofs only [natV, go_sem]
end Go.Proofs.YtpljmccnfmkmfaaGreat
end

section
namespace Go.Proofs.YtpljmccnfmkmfaaGreat.Kn
open Go Go.AM

theorem Zin {B v1 v2 P Vl u0 u1 u2 Ul g r : Nat} (hUl : Ul < P) (h1 : g * v1 + r = u0 * B + u1) (h2 : r * B + u2 < g * v2) :
    (((u0 * B + u1) * B + u2) * P + Ul) < g * ((v1 * B + v2) * P + Vl) := by
  have e1 : g * ((v1 * B + v2) * P + Vl) = (g * v1 * B + g * v2) * P + g * Vl := by
    rw [Nat.mul_add, ← Nat.mul_assoc, Nat.mul_add, Nat.mul_assoc g v1 B]
  have e2 : (g * v1 + r) * B = g * v1 * B + r * B := Nat.add_mul ..; have e3 : (u0 * B + u1) * B + u2 + 1 ≤ g * v1 * B + g * v2 := by rw [← h1, e2]; omega
  have e4 := Nat.mul_le_mul_right P e3; rw [Nat.add_mul _ 1 P, Nat.one_mul] at e4; rw [e1]; omega

theorem Zls {B v1 v2 P Vl u0 u1 u2 Ul g r : Nat} (hVl : Vl < P) (hv : 1 ≤ v1) (hg : g < B) (h1 : g * v1 + r = u0 * B + u1) (h2 : g * v2 ≤ r * B + u2) :
    g * ((v1 * B + v2) * P + Vl) ≤ (((u0 * B + u1) * B + u2) * P + Ul) + ((v1 * B + v2) * P + Vl) := by
  have e1 : g * ((v1 * B + v2) * P + Vl) = (g * v1 * B + g * v2) * P + g * Vl := by
    rw [Nat.mul_add, ← Nat.mul_assoc, Nat.mul_add, Nat.mul_assoc g v1 B]
  have e2 : (g * v1 + r) * B = g * v1 * B + r * B := Nat.add_mul ..; have e3 : g * v1 * B + g * v2 ≤ (u0 * B + u1) * B + u2 := by rw [← h1, e2]; omega
  have e4 := Nat.mul_le_mul_right P e3; have e5 : g * Vl ≤ B * P := Nat.mul_le_mul (by omega) (by omega); have e6 : B * P ≤ v1 * B * P := by
    have := Nat.mul_le_mul_right (B * P) hv; rw [Nat.one_mul, ← Nat.mul_assoc] at this; exact this
  have e7 : (v1 * B + v2) * P = v1 * B * P + v2 * P := Nat.add_mul ..; rw [e1, e7]; omega

theorem Zim {U V g : Nat} (hV : 0 < V) (h1 : U / V ≤ g) (h2 : g * V ≤ U + V) : g = U / V ∨ g = U / V + 1 := by
  have h3 : g ≤ (U + V) / V := (Nat.le_div_iff_mul_le hV).2 h2; rw [Nat.add_div_right _ hV] at h3; omega

theorem Zki {U V g T cb top L W : Nat} (hV : 0 < V) (hVW : V ≤ W) (hT : T < W) (hU : U = L + top * W) (h : T + g * V = L + cb * W) (hg : g = U / V ∨ g = U / V + 1) :
    g = U / V ∧ top = cb ∧ T = U % V ∨ g = U / V + 1 ∧ top + 1 = cb ∧ T + V = U % V + W := by
  have hm := Nat.mod_lt U hV; have hd := Nat.div_add_mod U V; rw [Nat.mul_comm] at hd; rcases hg with rfl | rfl
  · left
    have h1 : T + top * W + U / V * V = L + top * W + cb * W := by omega
    have h2 : T + top * W = U % V + cb * W := by omega
    have h3 : top = cb := by
      rcases Nat.lt_trichotomy top cb with h3 | h3 | h3
      · obtain ⟨d, rfl⟩ : ∃ d, cb = top + 1 + d := ⟨cb - top - 1, by omega⟩
        rw [Nat.add_mul, Nat.add_mul] at h2; have := Nat.zero_le (d * W); omega
      · exact h3
      · obtain ⟨d, rfl⟩ : ∃ d, top = cb + 1 + d := ⟨top - cb - 1, by omega⟩
        rw [Nat.add_mul, Nat.add_mul] at h2; have := Nat.zero_le (d * W); omega
    refine ⟨rfl, h3, ?_⟩; rw [h3] at h2; omega
  · right
    rw [Nat.add_mul, Nat.one_mul] at h; have h2 : T + V + top * W = U % V + cb * W := by omega
    have h3 : top + 1 = cb := by
      rcases Nat.lt_trichotomy (top + 1) cb with h3 | h3 | h3
      · obtain ⟨d, rfl⟩ : ∃ d, cb = top + 2 + d := ⟨cb - top - 2, by omega⟩
        rw [Nat.add_mul, Nat.add_mul] at h2; have := Nat.zero_le (d * W); omega
      · exact h3
      · obtain ⟨d, rfl⟩ : ∃ d, top = cb + d := ⟨top - cb, by omega⟩
        rw [Nat.add_mul] at h2; have := Nat.zero_le (d * W); omega
    refine ⟨rfl, h3, ?_⟩; rw [← h3, Nat.add_mul, Nat.one_mul] at h2; omega

theorem Zjt {T V R W N c : Nat} (hN : N < W) (hR : R < V) (hV : V ≤ W) (h1 : T + V = R + W) (h2 : N + c * W = T + V) : c = 1 ∧ N = R := by
  have h3 : N + c * W = R + W := by omega
  rcases (by omega : c = 0 ∨ c = 1 ∨ 2 ≤ c) with h | h | h
  · subst h; omega
  · subst h; omega
  · obtain ⟨d, rfl⟩ : ∃ d, c = 2 + d := ⟨c - 2, by omega⟩
    rw [Nat.add_mul] at h3; have := Nat.zero_le (d * W); omega

theorem Zgh {B x v g ca bo : Nat} (hB : 2 ≤ B) (hx : x < B) (hv : v < B) (hg : g < B) (hca : ca < B) (hbo : bo ≤ 1) :
    ∃ s b, s < B ∧ b ≤ 1 ∧ (g * v + ca) / B < B ∧ s + (g * v + ca) % B + bo = x + b * B ∧ ((x : Int) - bo - ((g * v + ca) % B : Nat) < 0 ↔ b = 1) ∧
      s + g * v + ca + bo = x + (((g * v + ca) / B) + b) * B := by
  have h1 : g * v ≤ (B - 1) * (B - 1) := Nat.mul_le_mul (by omega) (by omega); have h2 : (g * v + ca) / B < B := by
    rw [Nat.div_lt_iff_lt_mul (by omega)]; obtain ⟨b, rfl⟩ : ∃ b, B = b + 1 := ⟨B - 1, by omega⟩; simp only [Nat.add_sub_cancel] at h1; have : (b + 1) * (b + 1) = b * b + b + b + 1 := by rw [Nat.mul_add, Nat.add_mul]; omega
    omega
  have h3 := Nat.mod_lt (g * v + ca) (show 0 < B by omega); have h4 := Nat.div_add_mod (g * v + ca) B; rw [Nat.mul_comm] at h4; generalize (g * v + ca) / B = hi at *; generalize (g * v + ca) % B = lo at *; by_cases hn : (x : Int) - bo - (lo : Nat) < 0
  · refine ⟨x + B - bo - lo, 1, by omega, by omega, h2, by omega, ⟨fun _ => rfl, fun _ => hn⟩, ?_⟩
    rw [Nat.add_mul]; omega
  · refine ⟨x - bo - lo, 0, by omega, by omega, h2, by omega, ⟨fun h => absurd h hn, fun h => by omega⟩, ?_⟩
    rw [Nat.add_mul]; omega

theorem Za3 (B : Nat) (l : List Nat) {i : Nat} (h : i ≤ l.length) : valD B l = valD B (l.take i) + B ^ i * valD B (l.drop i) := by
  have := Z2v B i l
  rwa [List.length_take, Nat.min_eq_left h] at this

theorem Zj9 {X V U Q R A P B hi : Nat} (hX : X = V * (P * B) * hi + (A + P * U)) (hU : U = Q * V + R) : X = V * P * (Q + B * hi) + (A + P * R) := by
  subst hX; subst hU; have e1 : V * (P * B) * hi = V * P * (B * hi) := by rw [← Nat.mul_assoc V P B, Nat.mul_assoc (V * P) B hi]
  have e2 : P * (Q * V + R) = V * P * Q + P * R := by rw [Nat.mul_add, Nat.mul_comm Q V, ← Nat.mul_assoc, Nat.mul_comm P V]
  have e3 : V * P * (Q + B * hi) = V * P * Q + V * P * (B * hi) := Nat.mul_add ..; omega
end Go.Proofs.YtpljmccnfmkmfaaGreat.Kn
end

