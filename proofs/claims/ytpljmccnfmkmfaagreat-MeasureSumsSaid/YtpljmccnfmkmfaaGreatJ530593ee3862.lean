/-
  Texts of this claim, joined.
-/
import Derived.Test.YtpljmccnfmkmfaaGreatJ33e6cfc19b1f
import Derived.Test.YtpljmccnfmkmfaaGreatJe01266d4e944
import Derived.Test.YtpljmccnfmkmfaaGreatJ7cb4b7e9e247
import Derived.Test.YtpljmccnfmkmfaaGreatJe8d7cb8c52da

set_option linter.unusedSimpArgs false
set_option maxRecDepth 100000
set_option maxHeartbeats 4000000
section
namespace Go.Proofs.YtpljmccnfmkmfaaGreat.Kn
open Go Go.AM Go.RowKit

theorem Zfz {f : FuncId} {fn : Func} {c : Code} {k k' : IntKind} {x y : Int} (hf : Tryz.prog.funcs[f]? = some fn) (hname : (fn.name == "runtime.NumGoroutine") = false) (hb : fn.body = some c)
    (h : ∀ w : World, Calls Tryz.prog f #[.int k x] w fun e w' => e = .returned (.int k' y) ∧ w' = w) : PFn Tryz.prog f [.int k x] [.int k' y] := by
  refine ⟨Z05 hf hname hb, fun I w cargs himm hlen hargs => ?_⟩; obtain ⟨a, rfl⟩ : ∃ a, cargs = [a] := by
    match cargs, hlen with
    | [a], _ => exact ⟨a, rfl⟩
  have h0 := hargs 0 (by simp); simp only [List.getD_cons_zero] at h0; rw [h0.int_inv]; refine Calls.mono (P := Tryz.prog) (h w) ?_; rintro e w' ⟨rfl, rfl⟩; exact ⟨_, I, rfl, Z0m (Below.refl _ _), fun _ h => h, fun g h => .inl h, .p _ _ (.int _ _)⟩

theorem v195 (n : Nat) (h : n < 4294967296) : PFn Tryz.prog 262 [.int .u32 n] [.int .i64 (32 - (Lib.bitLen n : Int))] :=
  Zfz Tryz.func262 (by kernel_rfl) rfl fun w => m195 n w (by omega) (by omega)
theorem v164 (n : Nat) (h : n < 4294967296) : PFn Tryz.prog 202 [.int .u32 n] [.int .i64 (Lib.bitLen n : Int)] :=
  Zfz Tryz.func202 (by kernel_rfl) rfl fun w => m164 n w (by omega) (by omega)
theorem v130 (n : Nat) (h : n < 18446744073709551616) : PFn Tryz.prog 186 [.int .u64 n] [.int .i64 (Lib.bitLen n : Int)] :=
  Zfz Tryz.func186 (by kernel_rfl) rfl fun w => m130 n w (by omega) (by omega)

theorem Z3r : ∀ (f n : Nat), n ≠ 0 → n < 2 ^ f → 1 ≤ Lib.bitLenAux f n ∧ 2 ^ (Lib.bitLenAux f n - 1) ≤ n ∧ n < 2 ^ Lib.bitLenAux f n
  | 0, n, h0, h => by omega
  | f + 1, n, h0, h => by
    unfold Lib.bitLenAux; rw [if_neg h0]; by_cases h2 : n / 2 = 0
    · rw [h2]
      have e : Lib.bitLenAux f 0 = 0 := by cases f <;> simp [Lib.bitLenAux]
      rw [e]; exact ⟨by omega, by simp; omega, by simp; omega⟩
    · have hp : 2 ^ (f + 1) = 2 ^ f * 2 := Nat.pow_succ ..
      obtain ⟨h3, h4, h5⟩ := Z3r f (n / 2) h2 (by omega); generalize Lib.bitLenAux f (n / 2) = b at *; obtain ⟨c, rfl⟩ : ∃ c, b = c + 1 := ⟨b - 1, by omega⟩; simp only [Nat.add_sub_cancel] at h4; have e1 : 2 ^ (c + 1) = 2 ^ c * 2 := Nat.pow_succ ..; have e2 : 2 ^ (1 + (c + 1)) = 2 ^ (c + 1) * 2 := by rw [Nat.add_comm 1, Nat.pow_succ]
      refine ⟨by omega, ?_, by omega⟩; rw [show 1 + (c + 1) - 1 = c + 1 by omega]; omega
theorem Z74 (n : Nat) (h0 : n ≠ 0) (h : n < 2 ^ 64) : 1 ≤ Lib.bitLen n ∧ 2 ^ (Lib.bitLen n - 1) ≤ n ∧ n < 2 ^ Lib.bitLen n := Z3r 64 n h0 h
end Go.Proofs.YtpljmccnfmkmfaaGreat.Kn
end

section
namespace Go.Proofs.YtpljmccnfmkmfaaGreat.Kn
open Go Go.AM

theorem Zc7 {x y k : Nat} (hx : x < 2 ^ k) (hs : y * 2 ^ k + x < 18446744073709551616) : Z1n .or .u64 ((y * 2 ^ k : Nat) : Int) (x : Int) = ((y * 2 ^ k + x : Nat) : Int) := by
  have h1 : y * 2 ^ k < 18446744073709551616 := by omega
  have h2 : x < 18446744073709551616 := by omega
  have e : (BitVec.ofInt 64 ((y * 2 ^ k : Nat) : Int) ||| BitVec.ofInt 64 (x : Int)).toNat = y * 2 ^ k + x := by
    rw [BitVec.toNat_or, BitVec.ofInt_natCast, BitVec.ofInt_natCast, BitVec.toNat_ofNat, BitVec.toNat_ofNat, Nat.mod_eq_of_lt h2, Nat.mod_eq_of_lt h1]; rw [← Nat.shiftLeft_eq, ← Nat.shiftLeft_add_eq_or_of_lt hx, Nat.shiftLeft_eq]
  show IntKind.wrap .u64 ((BitVec.ofInt 64 ((y * 2 ^ k : Nat) : Int) ||| BitVec.ofInt 64 (x : Int)).toNat : Nat) = _; rw [e]; exact InR.wrap (k := .u64) (by simp only [InR]; omega)
theorem Z6l {x y : Nat} {z : Int} (hz : z = (y : Int) * 4294967296) (hx : x < 4294967296) (hy : y < 4294967296) : Z1n .or .u64 z (x : Int) = ((y * 4294967296 + x : Nat) : Int) := by
  subst hz; have := Zc7 (x := x) (y := y) (k := 32) hx (by omega); rw [show (2 : Nat) ^ 32 = 4294967296 from rfl] at this; rw [← this]; simp

theorem Z0e {l : List Nat} {i : Nat} (h : i < l.length) : (l.map u32V).getD i default = .int .u32 ((l.getD i 0 : Nat) : Int) := by
  rw [Z5 _ _ _ _ h, List.getD_eq_getElem?_getD, List.getElem?_eq_getElem h]; rfl
theorem Z0q {B : Nat} {l : List Nat} (hl : ∀ d ∈ l, d < B) {i : Nat} (h : i < l.length) : l.getD i 0 < B := by
  rw [List.getD_eq_getElem?_getD, List.getElem?_eq_getElem h, Option.getD_some]; exact hl _ (List.getElem_mem h)
theorem Z42 {n : Nat} (h : n < 18446744073709551616) : IntKind.u64.wrap (n : Int) = n := InR.wrap (k := .u64) (by simp only [InR]; omega)

def dnR (k : Nat) (o : List Nat) : List PV := (List.replicate k 0 ++ o).map u32V
theorem Zbf (k : Nat) (o : List Nat) : (dnR k o).length = k + o.length := by simp [dnR]
theorem Zcm (o : List Nat) : dnR 0 o = o.map u32V := by simp [dnR]
theorem Zgc (k : Nat) : dnR k [] = List.replicate k (.int .u32 0) := by simp [dnR, u32V]
theorem Zbe (k v : Nat) (r : List Nat) : (dnR (k + 1) r).set k (.int .u32 (v : Int)) = dnR k (v :: r) := by
  show (dnR (k + 1) r).set k (u32V v) = _; unfold dnR; rw [← List.map_set, List.replicate_succ', List.append_assoc, List.set_append_right _ _ (by simp)]; simp

theorem v194 (x : List Nat) (y : Nat) (hx : ∀ d ∈ x, d < B32) (hl : x.length ≤ 1000000) (hy0 : 0 < y) (hy : y < B32) : PFn Tryz.prog 261 [natV x, .int .u32 y] [natV (digD B32 (valD B32 x / y)), .int .u32 ((valD B32 x % y : Nat) : Int)] := by
  have eL : ((x.length : Int)).toNat = x.length := by omega
  have hB : B32 = 4294967296 := rfl; refine PFn.of_body hΓ Tryz.func261 (by kernel_rfl) rfl (AWp.seq (Wd [] ?_)); simp -implicitDefEqProofs only [Tryz.ntmps261, Tryz.results261, Nat.reduceAdd, Nat.reduceSub, natV, go_sem]; refine AWp.seq (Wd [] ?_); simp -implicitDefEqProofs only [List.length_map, eL, go_sem]; refine ⟨⟨by omega, by omega⟩, ?_⟩; refine AWp.seq (Wd [] ?_); simp -implicitDefEqProofs only [go_sem]; refine AWp.seq (Wd [] ?_); simp -implicitDefEqProofs only [List.length_map, go_sem]; refine ⟨by simp only [InR]; omega, ?_⟩; have hwy : IntKind.u64.wrap (y : Int) = y := Z42 (by omega)
  refine AWp.loopI (fun z : Nat × List Nat × Nat => ⟨mkF 44 [(0, .p (natV x)), (1, .p (.int .u32 y)), (6, .own 0 x.length), (7, .p (.int .u64 z.2.2)), (8, .p (.int .i64 ((z.1 : Int) - 1)))], [.row 136 1 (dnR z.1 z.2.1) .own]⟩)
    (fun z => z.1 ≤ x.length ∧ z.2.1.length + z.1 = x.length ∧ (∀ d ∈ z.2.1, d < B32) ∧ z.2.2 < y ∧ valD B32 (x.drop z.1) = y * valD B32 z.2.1 + z.2.2) (fun z => z.1) (x.length, [], 0) (by simp [go_sem, natV, Zgc]) (by simp [valD, hy0]) ?_
  rintro ⟨k, o, r⟩ ⟨hk, ho, hod, hr, hval⟩; simp only at hk ho hod hr hval
  cases k with
  | zero =>
    refine Wd [(7, 1000)] ?_; have hz : ¬ (0 : Int) ≤ (((0 : Nat) : Int) - 1) := by omega
    simp -implicitDefEqProofs only [natV, hz, Zcm, go_sem]; rw [List.drop_zero] at hval; refine AWp.freeze 0 rfl ?_; refine Wd [] ?_; simp -implicitDefEqProofs only [Z17, go_sem]; have e91 := u91 o (by omega); have hq : valD B32 x / y = valD B32 o := by rw [hval, Nat.mul_add_div hy0, Nat.div_eq_of_lt hr, Nat.add_zero]
    have hm : valD B32 x % y = r := by rw [hval, Nat.mul_add_mod, Nat.mod_eq_of_lt hr]
    rw [Z1q (B := B32) (by decide) hod] at e91; refine Z0 e91 (.pures rfl) ?_; have hwr : IntKind.u32.wrap (r : Int) = r := Z16 (by omega); simp -implicitDefEqProofs only [natV, hwr, go_sem]; rw [hq, hm]; simp
  | succ k =>
    have hlt : k < x.length := hk; have hgx := Z0e hlt; have dx := Z0q hx hlt; have hdrop : x.drop k = x.getD k 0 :: x.drop (k + 1) := by
      rw [List.drop_eq_getElem_cons hlt, List.getD_eq_getElem?_getD, List.getElem?_eq_getElem hlt]; rfl
    generalize x.getD k 0 = a at *; have h1 : (0 : Int) ≤ (((k + 1 : Nat) : Int) - 1) := by omega
    have h2 : (((k + 1 : Nat) : Int) - 1).toNat = k := by omega
    have hwa : IntKind.u64.wrap (a : Int) = a := Z42 (by omega); have hsh : (r : Int) * 2 ^ Int.toNat 32 = (r : Int) * 4294967296 := rfl; have hor : Z1n .or .u64 ((r : Int) * 4294967296) (a : Int) = ((r * 4294967296 + a : Nat) : Int) := Z6l rfl (by omega) (by omega); obtain ⟨n, hn⟩ : ∃ n, n = r * 4294967296 + a := ⟨_, rfl⟩; have hny : n < B32 * y := by
      have : (r + 1) * 4294967296 ≤ y * 4294967296 := Nat.mul_le_mul_right _ hr; rw [hB, Nat.mul_comm 4294967296 y]; omega
    have hq : n / y < B32 := by rw [Nat.div_lt_iff_lt_mul hy0]; exact hny
    have hm : n % y < y := Nat.mod_lt _ hy0; have hdi : (n : Int) / (y : Int) = ((n / y : Nat) : Int) := by rw [Int.natCast_ediv]
    have hmi : (n : Int) % (y : Int) = ((n % y : Nat) : Int) := by rw [Int.natCast_emod]
    have hwq : IntKind.u32.wrap ((n / y : Nat) : Int) = ((n / y : Nat) : Int) := Z16 (by omega); have hset := Zbe k (n / y) o; have hlen := Zbf (k + 1) o; rw [← hn] at hor; refine Wd [(7, 1000)] ?_; simp -implicitDefEqProofs only [natV, List.length_map, h1, h2, hgx, hwa, hsh, hor, go_sem]; refine ⟨⟨by omega, by omega, by simp only [InR]; omega⟩, by omega, ?_⟩; refine AWp.planL (.q 0 (.q 1 (.q 2 (.q 3 (.q 4 (.q 5 (.q 6 (.q 7 (.q 8 (.q 9 (.q 10 (.q 11 (.e 12 (.s 7 (.s 8 (.s 9 (.s 10 (.q 13 .fin))))) .nil))))))))))))) hΓ hmix (by kernel_rfl) ?_; simp -implicitDefEqProofs only [hwy, hdi, hmi, hwq, h2, hset, List.length_map, go_sem]; refine ⟨⟨by omega, by simp only [InR]; omega⟩, by omega, ⟨by omega, by omega⟩, ⟨by omega, rfl⟩, by omega, by simp only [InR]; omega, (k, n / y :: o, n % y), ⟨⟨rfl, by simp⟩, .inl rfl⟩, ⟨by omega, by simp; omega, fun d hd => ?_, hm, ?_⟩, by simp only; omega⟩
    · rcases List.mem_cons.1 hd with rfl | hd
      · exact hq
      · exact hod d hd
    · rw [hdrop]
      show a + B32 * valD B32 (x.drop (k + 1)) = y * (n / y + B32 * valD B32 o) + n % y; rw [hval, Nat.mul_add, Nat.mul_add]; have e1 := Nat.div_add_mod n y; have e2 : B32 * (y * valD B32 o) = y * (B32 * valD B32 o) := Nat.mul_left_comm ..; have e3 : B32 * r = r * 4294967296 := by rw [hB, Nat.mul_comm]
      omega

def shlL (n : Nat) : Nat → List Nat → List Nat
  | c, [] => [c]
  | c, d :: x => (d * 2 ^ n + c) % B32 :: shlL n ((d * 2 ^ n + c) / B32) x
theorem Z2c (n : Nat) : ∀ (x : List Nat) (c : Nat), (shlL n c x).length = x.length + 1
  | [], _ => rfl
  | d :: x, c => by simp [shlL, Z2c n x]
theorem Z5p (n : Nat) : ∀ (x : List Nat) (c : Nat), valD B32 (shlL n c x) = valD B32 x * 2 ^ n + c
  | [], c => by simp [shlL, valD]
  | d :: x, c => by
    have ih := Z5p n x ((d * 2 ^ n + c) / B32); show (d * 2 ^ n + c) % B32 + B32 * valD B32 (shlL n _ x) = (d + B32 * valD B32 x) * 2 ^ n + c; have e1 := Nat.div_add_mod (d * 2 ^ n + c) B32; have e2 : B32 * (valD B32 x * 2 ^ n) = B32 * valD B32 x * 2 ^ n := (Nat.mul_assoc ..).symm; rw [ih, Nat.mul_add, Nat.add_mul, e2]; omega
theorem Z9m {n d c : Nat} (hn : n ≤ 31) (hd : d < B32) (hc : c < 2 ^ n) : (d * 2 ^ n + c) / B32 < 2 ^ n ∧ d * 2 ^ n + c < 18446744073709551616 := by
  have h1 : (d + 1) * 2 ^ n ≤ B32 * 2 ^ n := Nat.mul_le_mul_right _ hd; have h2 : (2 : Nat) ^ n ≤ 2 ^ 31 := Nat.pow_le_pow_right (by decide) hn; have h3 : B32 * 2 ^ n ≤ B32 * 2 ^ 31 := Nat.mul_le_mul_left _ h2; rw [Nat.add_mul, Nat.one_mul] at h1; have h4 : B32 * 2 ^ 31 < 18446744073709551616 := by decide
  refine ⟨?_, by omega⟩; rw [Nat.div_lt_iff_lt_mul (by decide), Nat.mul_comm (2 ^ n)]; omega
theorem Z8g {n : Nat} (hn : n ≤ 31) : ∀ {x : List Nat} {c : Nat}, (∀ d ∈ x, d < B32) → c < 2 ^ n → ∀ d ∈ shlL n c x, d < B32
  | [], c, _, hc, d, hd => by
    have h2 : (2 : Nat) ^ n ≤ 2 ^ 31 := Nat.pow_le_pow_right (by decide) hn; have h3 : (2 : Nat) ^ 31 < B32 := by decide
    rw [shlL, List.mem_singleton] at hd; omega
  | e :: x, c, hx, hc, d, hd => by
    rw [shlL] at hd; rcases List.mem_cons.1 hd with rfl | hd
    · exact Nat.mod_lt _ (by decide)
    · exact Z8g hn (fun y hy => hx y (by simp [hy])) (Z9m hn (hx e (by simp)) hc).1 d hd

theorem r196 (x : List Nat) (n : Nat) (hx : ∀ d ∈ x, d < B32) (hl : x.length ≤ 1000000) (hn : n ≤ 31) : PRowO Tryz.prog 263 [natV x, .int .i64 n] 136 1 ((shlL n 0 x).map u32V) := by
  have hB : B32 = 4294967296 := rfl; have eL : ((x.length : Int) + 1).toNat = x.length + 1 := by omega
  refine AC.of_body 1 hΓ Tryz.func263 (by kernel_rfl) rfl (by simp) (AWp.seq (Wd [] ?_)); simp -implicitDefEqProofs only [Tryz.ntmps263, Tryz.results263, Nat.reduceAdd, Nat.reduceSub, List.map_cons, List.map_nil, natV, go_sem]; refine AWp.seq (Wd [] ?_); simp -implicitDefEqProofs only [List.length_map, eL, go_sem]; refine ⟨by simp only [InR]; omega, ⟨by omega, by omega⟩, ?_⟩; refine AWp.seq (Wd [] ?_); simp -implicitDefEqProofs only [go_sem]; refine AWp.seq (Wd [] ?_); simp -implicitDefEqProofs only [List.length_map, go_sem]
  refine AWp.loopI (fun z : Nat × List Nat × Nat => ⟨mkF 42 [(0, .p (natV x)), (1, .p (.int .i64 n)), (5, .own 0 (x.length + 1)), (6, .p (.int .u64 z.2.2)), (14, .p (natV x)), (15, .p (.int .i64 x.length)), (16, .p (.int .i64 z.1))], [.row 136 1 ((z.2.1 ++ List.replicate (x.length + 1 - z.1) 0).map u32V) .own]⟩)
    (fun z => z.1 ≤ x.length ∧ z.2.1.length = z.1 ∧ z.2.2 < 2 ^ n ∧ shlL n 0 x = z.2.1 ++ shlL n z.2.2 (x.drop z.1)) (fun z => x.length - z.1) (0, [], 0) (by simp [go_sem, natV, u32V]) (by simp [Nat.two_pow_pos]) ?_
  rintro ⟨i, o, c⟩ ⟨hi, ho, hc, hv⟩; simp only at hi ho hc hv; refine Wd [] ?_; by_cases hlt : i < x.length
  · have hgx := Z0e hlt
    have dx := Z0q hx hlt; have hdrop : x.drop i = x.getD i 0 :: x.drop (i + 1) := by
      rw [List.drop_eq_getElem_cons hlt, List.getD_eq_getElem?_getD, List.getElem?_eq_getElem hlt]; rfl
    rw [hdrop] at hv; generalize x.getD i 0 = a at *; obtain ⟨h1, h2⟩ := Z9m hn dx hc; have hwa : IntKind.u64.wrap (a : Int) = a := Z42 (by omega); obtain ⟨s, hs⟩ : ∃ s, s = a * 2 ^ n + c := ⟨_, rfl⟩; have hsh : (a : Int) * 2 ^ n = ((a * 2 ^ n : Nat) : Int) := by simp
    have hor : Z1n .or .u64 ((a : Int) * 2 ^ n) (c : Int) = ((s : Nat) : Int) := by rw [hsh, hs]; exact Zc7 hc h2
    have hws : IntKind.u32.wrap (s : Int) = ((s % B32 : Nat) : Int) := Z1p s; have hsd : (s : Int) / 2 ^ Int.toNat 32 = ((s / B32 : Nat) : Int) := by
      have : (2 : Int) ^ Int.toNat 32 = ((B32 : Nat) : Int) := rfl; rw [this, Int.natCast_ediv]
    have hset : ((o ++ List.replicate (x.length + 1 - i) 0).map u32V).set i (.int .u32 ((s % B32 : Nat) : Int)) = ((o ++ [s % B32]) ++ List.replicate (x.length + 1 - (i + 1)) 0).map u32V := by
      have := Z4u o (x.length + 1 - (i + 1)) (s % B32); rw [ho, show x.length + 1 - (i + 1) + 1 = x.length + 1 - i by omega] at this; exact this
    have hlen : i < (o ++ List.replicate (x.length + 1 - i) 0).length := by simp; omega
    simp -implicitDefEqProofs only [natV, List.length_map, hlt, hgx, hwa, hor, hws, hsd, hset, go_sem]; rw [hsh]; refine ⟨⟨by omega, by simp only [InR]; omega⟩, by omega, ⟨hlen, rfl⟩, by simp only [InR]; omega, (i + 1, o ++ [s % B32], s / B32), ⟨⟨by simp, by simp⟩, .inl rfl⟩, ⟨hlt, by simp [ho], by rw [hs]; exact h1, ?_⟩, by simp only; omega⟩; rw [hv, hs]; simp [shlL]
  · simp -implicitDefEqProofs only [natV, List.length_map, hlt, go_sem]
    have hin : i = x.length := by omega
    have hwc : IntKind.u32.wrap (c : Int) = c := Z16 (by
      have h2 : (2 : Nat) ^ n ≤ 2 ^ 31 := Nat.pow_le_pow_right (by decide) hn
      omega)
    rw [hin, List.drop_length] at hv; have hset : ((o ++ List.replicate (x.length + 1 - i) 0).map u32V).set x.length (.int .u32 (c : Int)) = (shlL n 0 x).map u32V := by
      have := Z4u o 0 c; rw [ho, hin] at this; rw [hin, show x.length + 1 - x.length = 0 + 1 by omega]; rw [hv]
      simpa [shlL, u32V] using this
    have hlen : x.length < (o ++ List.replicate (x.length + 1 - i) 0).length := by simp; omega
    have hrow : (shlL n 0 x).length = x.length + 1 := Z2c n x 0; refine Wd [] ?_; simp -implicitDefEqProofs only [natV, List.length_map, hwc, hset, hrow, go_sem]; exact ⟨⟨hlen, rfl⟩, rfl, 0, rfl, rfl⟩

def Hid (p : Prop) : Prop := p
theorem Hid.out {p : Prop} (h : Hid p) : p := h
theorem Hid.mk {p : Prop} (h : p) : Hid p := h

def topD (l : List Nat) : Nat := l.getD (l.length - 1) 0
theorem Zbp {l : List Nat} (h : Z1o B32 l) (h0 : l ≠ []) : topD l ≠ 0 := by
  intro e; have hp := List.length_pos_iff.2 h0; refine h.2 ?_; rw [List.getLast?_eq_getElem?, ← e]; unfold topD; rw [List.getD_eq_getElem?_getD, List.getElem?_eq_getElem (by omega)]; rfl
theorem Z5m {l : List Nat} {m : Nat} (h : l.length = m + 1) : valD B32 l = valD B32 (l.take m) + B32 ^ m * topD l := by
  rw [Z8b B32 l (show m ≤ l.length by omega)]; have : l.drop m = [topD l] := by
    rw [List.drop_eq_getElem_cons (show m < l.length by omega), List.drop_of_length_le (by omega)]; unfold topD; rw [show l.length - 1 = m by omega, List.getD_eq_getElem?_getD, List.getElem?_eq_getElem (by omega)]; rfl
  rw [this]; simp [valD]

theorem Zm4 {t : Nat} (h0 : t ≠ 0) (ht : t < B32) : ∃ n : Nat, n ≤ 31 ∧ (32 - (Lib.bitLen t : Int)) = n ∧ 2147483648 ≤ t * 2 ^ n ∧ (t + 1) * 2 ^ n ≤ B32 := by
  have hB : B32 = 4294967296 := rfl; obtain ⟨h1, h2, h3⟩ := Z74 t h0 (by omega); have h4 : Lib.bitLen t ≤ 32 := Lib.bitLen_le t 32 (by omega) (by omega); generalize Lib.bitLen t = b at *; refine ⟨32 - b, by omega, by omega, ?_, ?_⟩
  · have := Nat.mul_le_mul_right (2 ^ (32 - b)) h2
    rw [← Nat.pow_add, show b - 1 + (32 - b) = 31 by omega] at this; exact this
  · have := Nat.mul_le_mul_right (2 ^ (32 - b)) (show t + 1 ≤ 2 ^ b from h3)
    rw [← Nat.pow_add, show b + (32 - b) = 32 by omega] at this; exact this

def dvs (n : Nat) (y : List Nat) : List Nat := (shlL n 0 y).take y.length
theorem Ziy {n : Nat} {y : List Nat} {m : Nat} (hy : ∀ d ∈ y, d < B32) (hm : y.length = m + 1) (hn : n ≤ 31) (h1 : 2147483648 ≤ topD y * 2 ^ n) (h2 : (topD y + 1) * 2 ^ n ≤ B32) :
    (dvs n y).length = m + 1 ∧ (∀ d ∈ dvs n y, d < B32) ∧ valD B32 (dvs n y) = valD B32 y * 2 ^ n ∧ 2147483648 ≤ topD (dvs n y) := by
  have hB : B32 = 4294967296 := rfl; have hlen : (dvs n y).length = m + 1 := by unfold dvs; rw [List.length_take, Z2c]; omega
  have hlt : ∀ d ∈ dvs n y, d < B32 := fun d hd => Z8g hn hy (Nat.two_pow_pos n) d (List.mem_of_mem_take hd)
  have hv := Z5p n y 0; rw [Z8b B32 _ (show y.length ≤ (shlL n 0 y).length by rw [Z2c]; omega)] at hv; have htop := Z5m hm; have hlow : valD B32 (y.take m) < B32 ^ m := by
    have := Z1x (B := B32) (l := y.take m) (fun d hd => hy d (List.mem_of_mem_take hd))
    rwa [List.length_take, Nat.min_eq_left (by omega)] at this
  have hP : 0 < B32 ^ m := Nat.pow_pos (by decide); have hy2 : valD B32 y * 2 ^ n < B32 ^ (m + 1) := by
    have e1 : valD B32 y < B32 ^ m * (topD y + 1) := by rw [htop, Nat.mul_add, Nat.mul_one]; omega
    have e2 := Nat.mul_lt_mul_of_pos_right e1 (Nat.two_pow_pos n); have e3 := Nat.mul_le_mul_left (B32 ^ m) h2; rw [Nat.pow_succ]; rw [← Nat.mul_assoc] at e3; omega
  have hd0 : valD B32 (dvs n y) = valD B32 y * 2 ^ n := by
    have hz : valD B32 ((shlL n 0 y).drop y.length) = 0 := by
      rcases Nat.eq_zero_or_pos (valD B32 ((shlL n 0 y).drop y.length)) with h | h
      · exact h
      · have := Nat.mul_le_mul_left (B32 ^ y.length) h
        rw [Nat.mul_one, hm] at this; rw [hm] at hv; omega
    rw [hz] at hv; unfold dvs; omega
  refine ⟨hlen, hlt, hd0, ?_⟩; have ht2 := Z5m hlen; have hlow2 : valD B32 ((dvs n y).take m) < B32 ^ m := by
    have := Z1x (B := B32) (l := (dvs n y).take m) (fun d hd => hlt d (List.mem_of_mem_take hd))
    rwa [List.length_take, Nat.min_eq_left (by omega)] at this
  rcases Nat.lt_or_ge (topD (dvs n y)) 2147483648 with h | h
  · exfalso
    have e1 : valD B32 (dvs n y) < B32 ^ m * (topD (dvs n y) + 1) := by rw [ht2, Nat.mul_add, Nat.mul_one]; omega
    have e2 : B32 ^ m * (topD (dvs n y) + 1) ≤ B32 ^ m * 2147483648 := Nat.mul_le_mul_left _ (by omega); have e3 : B32 ^ m * 2147483648 ≤ B32 ^ m * (topD y * 2 ^ n) := Nat.mul_le_mul_left _ h1; have e4 : B32 ^ m * (topD y * 2 ^ n) ≤ valD B32 y * 2 ^ n := by
      rw [← Nat.mul_assoc]; exact Nat.mul_le_mul_right _ (by omega)
    omega
  · exact h

theorem Z6c {B : Nat} {l : List Nat} (hl : ∀ d ∈ l, d < B) {i : Nat} (hi : i ≤ l.length) : valD B (l.take i) < B ^ i := by
  have := Z1x (B := B) (l := l.take i) (fun d hd => hl d (List.mem_of_mem_take hd))
  rwa [List.length_take, Nat.min_eq_left hi] at this

theorem Ze5 {n : Nat} {x : List Nat} {V M K m t : Nat} (hx : ∀ d ∈ x, d < B32) (hn : n ≤ 31) (hK : x.length + 1 = K + M) (hM : M = m + 1) (hV : B32 ^ m * t ≤ V) (ht : 2147483648 ≤ t) :
    valD B32 ((shlL n 0 x).drop K) < V := by
  have hul := Z2c n x 0; have hud : ∀ d ∈ shlL n 0 x, d < B32 := Z8g hn hx (Nat.two_pow_pos n); have hv := Z5p n x 0; have hxl := Z1x (B := B32) hx; have h31 : (2 : Nat) ^ n ≤ 2147483648 := Nat.pow_le_pow_right (n := 2) (by decide) hn; have htop := Z5m hul; have hlen : ((shlL n 0 x).drop K).length = m + 1 := by rw [List.length_drop]; omega
  have htop2 := Z5m hlen; have htt : topD ((shlL n 0 x).drop K) = topD (shlL n 0 x) := by
    unfold topD; rw [hlen, List.getD_eq_getElem?_getD, List.getElem?_drop, List.getD_eq_getElem?_getD, hul]; rw [show K + (m + 1 - 1) = x.length + 1 - 1 by omega]
  have hlow := Z6c (B := B32) (l := (shlL n 0 x).drop K) (fun d hd => hud d (List.mem_of_mem_drop hd)) (show m ≤ _ by omega); rw [htt] at htop2; have h1 : topD (shlL n 0 x) < 2 ^ n := by
    rcases Nat.lt_or_ge (topD (shlL n 0 x)) (2 ^ n) with h | h
    · exact h
    · have e1 := Nat.mul_le_mul_left (B32 ^ x.length) h
      have e2 := Nat.mul_lt_mul_of_pos_right hxl (Nat.two_pow_pos n); omega
  have e3 : B32 ^ m * (topD (shlL n 0 x) + 1) ≤ B32 ^ m * t := Nat.mul_le_mul_left _ (by omega); rw [Nat.mul_add, Nat.mul_one] at e3; omega

theorem Zdd {B v1 v2 P Vl u0 u1 u2 Ul g r : Nat} (hUl : Ul < P) (hu2 : u2 < B) (h1 : g * v1 + r = u0 * B + u1) (hr : r < v1) :
    (((u0 * B + u1) * B + u2) * P + Ul) < (g + 1) * ((v1 * B + v2) * P + Vl) := by
  have e1 : u0 * B + u1 + 1 ≤ (g + 1) * v1 := by rw [Nat.add_mul, Nat.one_mul]; omega
  have e2 := Nat.mul_le_mul_right B e1; have e3 := Nat.mul_le_mul_right P e2; rw [Nat.add_mul _ 1 B, Nat.one_mul, Nat.add_mul _ B P] at e3; have e4 : (u2 + 1) * P ≤ B * P := Nat.mul_le_mul_right _ hu2; rw [Nat.add_mul, Nat.one_mul] at e4; have e5 : (g + 1) * ((v1 * B + v2) * P + Vl) = (g + 1) * v1 * B * P + (g + 1) * (v2 * P + Vl) := by
    rw [Nat.add_mul (v1 * B), Nat.add_assoc, Nat.mul_add, Nat.mul_assoc, Nat.mul_assoc, Nat.mul_assoc]
  rw [e5, Nat.add_mul _ u2 P]; omega

theorem Zcz {B : Nat} {l : List Nat} {m : Nat} (h : l.length = m + 3) : valD B l = ((l.getD (m + 2) 0 * B + l.getD (m + 1) 0) * B + l.getD m 0) * B ^ m + valD B (l.take m) := by
  have e1 := Zh (l := l) B (m + 2); have e2 := Zh (l := l) B (m + 1); have e3 := Zh (l := l) B m; rw [List.take_of_length_le (by omega)] at e1; rw [e1, e2, e3, show B ^ (m + 2) = B ^ m * B * B by rw [Nat.pow_succ, Nat.pow_succ], show B ^ (m + 1) = B ^ m * B from Nat.pow_succ ..]; generalize B ^ m = P; rw [Nat.add_mul, Nat.add_mul, Nat.add_mul]; have : l.getD (m + 2) 0 * (P * B * B) = l.getD (m + 2) 0 * B * B * P := by
    rw [Nat.mul_assoc P, Nat.mul_comm P, ← Nat.mul_assoc, ← Nat.mul_assoc]
  have h2 : l.getD (m + 1) 0 * (P * B) = l.getD (m + 1) 0 * B * P := by rw [Nat.mul_comm P, ← Nat.mul_assoc]
  rw [this, h2]; omega
theorem Zhk {B : Nat} {l : List Nat} {m : Nat} (h : l.length = m + 2) : valD B l = (l.getD (m + 1) 0 * B + l.getD m 0) * B ^ m + valD B (l.take m) := by
  have e2 := Zh (l := l) B (m + 1); have e3 := Zh (l := l) B m; rw [List.take_of_length_le (by omega)] at e2; rw [e2, e3, Nat.pow_succ, Nat.add_mul]; have h2 : l.getD (m + 1) 0 * (B ^ m * B) = l.getD (m + 1) 0 * B * B ^ m := by rw [Nat.mul_comm (B ^ m), ← Nat.mul_assoc]
  rw [h2]; omega

theorem Z9b {us rem : List Nat} {j c : Nat} (h : j + rem.length < us.length) : (mulR us j (rem ++ [c]) 0).length = us.length ∧ (mulR us j (rem ++ [c]) 0).take (j + rem.length) = us.take j ++ rem ∧
    ((mulR us j (rem ++ [c]) 0).drop j).take rem.length = rem ∧ (mulR us j (rem ++ [c]) 0).getD (j + rem.length) 0 = c := by
  have h1 : (us.take j).length = j := by simp; omega
  have h2 : (us.take j ++ rem).length = j + rem.length := by simp; omega
  have e : mulR us j (rem ++ [c]) 0 = us.take j ++ (rem ++ (c :: us.drop (j + rem.length + 1))) := by
    unfold mulR; simp [Nat.add_assoc]
  refine ⟨by rw [Z13 (by simp; omega)]; rfl, ?_, ?_, ?_⟩
  · rw [e, ← List.append_assoc, ← h2, List.take_left]
  · rw [e]
    conv => lhs; rw [← h1]
    rw [h1]; have : (us.take j ++ (rem ++ c :: us.drop (j + rem.length + 1))).drop j = rem ++ c :: us.drop (j + rem.length + 1) := by
      conv => lhs; rw [show j = (us.take j).length from h1.symm]
      rw [h1]; exact List.drop_left' h1
    rw [this, List.take_left]
  · rw [e, ← List.append_assoc, List.getD_eq_getElem?_getD, List.getElem?_append_right (by omega), h2, Nat.sub_self]; rfl
theorem Z6n {us rem : List Nat} {j : Nat} (hu : ∀ d ∈ us, d < B32) (hr : ∀ d ∈ rem, d < B32) : ∀ d ∈ mulR us j rem 0, d < B32 := fun d hd => by
  unfold mulR at hd; rw [List.replicate_zero, List.append_nil] at hd; rcases List.mem_append.1 hd with hd | hd
  · rcases List.mem_append.1 hd with hd | hd
    · exact hu d (List.mem_of_mem_take hd)
    · exact hr d hd
  · exact hu d (List.mem_of_mem_drop hd)
theorem Zd7 {us t s : List Nat} {j a b : Nat} (h : j + t.length < us.length) (hs : s.length = t.length) : mulR (mulR us j (t ++ [a]) 0) j (s ++ [b]) 0 = mulR us j (s ++ [b]) 0 := by
  have h1 : (us.take j).length = j := by simp; omega
  have e : mulR us j (t ++ [a]) 0 = us.take j ++ ((t ++ [a]) ++ us.drop (j + t.length + 1)) := by unfold mulR; simp [Nat.add_assoc]
  have e0 : ∀ o : List Nat, mulR o j (s ++ [b]) 0 = o.take j ++ (s ++ [b]) ++ o.drop (j + (s ++ [b]).length) ++ List.replicate 0 0 := fun _ => rfl
  have e1 : (mulR us j (t ++ [a]) 0).take j = us.take j := by rw [e]; exact List.take_left' h1
  have e2 : (mulR us j (t ++ [a]) 0).drop (j + (s ++ [b]).length) = us.drop (j + (s ++ [b]).length) := by
    rw [e, ← List.append_assoc]; have h2 : (us.take j ++ (t ++ [a])).length = j + (s ++ [b]).length := by simp [hs]; omega
    rw [List.drop_left' h2]; simp [hs, Nat.add_assoc]
  rw [e0, e0, e1, e2]

theorem Zhi {us : List Nat} {j m M V : Nat} (hM : M = m + 2) (hjM : j + M < us.length) (husd : ∀ d ∈ us, d < B32) (hwin : valD B32 ((us.drop (j + 1)).take M) < V) :
    ∃ u0 u1 u2 Ul U : Nat, u0 < B32 ∧ u1 < B32 ∧ u2 < B32 ∧ Ul < B32 ^ m ∧ (us.map u32V).getD (j + M) default = .int .u32 (u0 : Int) ∧ (us.map u32V).getD (j + m + 1) default = .int .u32 (u1 : Int) ∧ (us.map u32V).getD (j + m) default = .int .u32 (u2 : Int) ∧
      us.getD (j + M) 0 = u0 ∧ U = ((u0 * B32 + u1) * B32 + u2) * B32 ^ m + Ul ∧ U < V * B32 ∧ U = valD B32 ((us.drop j).take M) + u0 * B32 ^ M ∧ valD B32 (us.take (j + 1 + M)) = valD B32 (us.take j) + B32 ^ j * U := by
  have hwl : ((us.drop j).take (M + 1)).length = m + 3 := by rw [List.length_take, List.length_drop]; omega
  have hw3 := Zcz (B := B32) (l := (us.drop j).take (M + 1)) (m := m) hwl; have hwd : ∀ d ∈ (us.drop j).take (M + 1), d < B32 := fun d hd => husd d (List.mem_of_mem_drop (List.mem_of_mem_take hd))
  have hwg : ∀ k, k < M + 1 → ((us.drop j).take (M + 1)).getD k 0 = us.getD (j + k) 0 := fun k hk => by
    rw [List.getD_eq_getElem?_getD, List.getElem?_take, if_pos hk, List.getElem?_drop, List.getD_eq_getElem?_getD]
  rw [hwg (m + 2) (by omega), hwg (m + 1) (by omega), hwg m (by omega), show j + (m + 2) = j + M by omega, show j + (m + 1) = j + m + 1 by omega] at hw3; refine ⟨us.getD (j + M) 0, us.getD (j + m + 1) 0, us.getD (j + m) 0, valD B32 (((us.drop j).take (M + 1)).take m), valD B32 ((us.drop j).take (M + 1)), Z0q husd hjM, Z0q husd (by omega), Z0q husd (by omega), Z6c hwd (by omega), Z0e hjM, Z0e (by omega), Z0e (by omega), rfl, hw3, ?_, ?_, ?_⟩
  · have e : us.drop j = us.getD j 0 :: us.drop (j + 1) := by
      rw [List.drop_eq_getElem_cons (show j < us.length by omega), List.getD_eq_getElem?_getD, List.getElem?_eq_getElem (by omega)]; rfl
    have hdj := Z0q husd (show j < us.length by omega); rw [e, List.take_succ_cons]; show us.getD j 0 + B32 * valD B32 ((us.drop (j + 1)).take M) < V * B32; have := Nat.mul_le_mul_left B32 (Nat.succ_le_of_lt hwin); rw [Nat.succ_eq_add_one, Nat.mul_add, Nat.mul_one, Nat.mul_comm B32 V] at this; omega
  · rw [Zh (l := us.drop j) B32 M]
    congr 2
    rw [List.getD_eq_getElem?_getD, List.getElem?_drop, List.getD_eq_getElem?_getD]
  · have e := Z8b B32 (us.take (j + 1 + M)) (i := j) (by rw [List.length_take]; omega)
    rw [List.take_take, Nat.min_eq_left (by omega), List.drop_take, show j + 1 + M - j = M + 1 by omega] at e; exact e

theorem Ziz {v : List Nat} {m : Nat} (hvl : v.length = m + 1 + 1) (hvd : ∀ d ∈ v, d < B32) (hvt : 2147483648 ≤ topD v) :
    ∃ v1 v2 Vl : Nat, v1 < B32 ∧ v2 < B32 ∧ Vl < B32 ^ m ∧ 2147483648 ≤ v1 ∧ (v.map u32V).getD (m + 1) default = .int .u32 (v1 : Int) ∧ (v.map u32V).getD m default = .int .u32 (v2 : Int) ∧ valD B32 v = (v1 * B32 + v2) * B32 ^ m + Vl ∧ B32 ^ (m + 1) * v1 ≤ valD B32 v := by
  have hvt' : topD v = v.getD (m + 1) 0 := by unfold topD; rw [hvl]; rfl
  rw [hvt'] at hvt; have hv3 := Zhk (B := B32) (l := v) (m := m) hvl; refine ⟨v.getD (m + 1) 0, v.getD m 0, valD B32 (v.take m), Z0q hvd (by omega), Z0q hvd (by omega), Z6c hvd (by omega), hvt, Z0e (by omega), Z0e (by omega), hv3, ?_⟩; rw [hv3, Nat.add_mul, Nat.pow_succ, Nat.mul_comm _ (v.getD (m + 1) 0), ← Nat.mul_assoc, Nat.mul_right_comm]; omega

theorem Zio {M m : Nat} (j : Nat) (hM : M = m + 1 + 1) : ((j : Int) + (M : Int)).toNat = j + M ∧ ((j : Int) + (M : Int) - 1).toNat = j + m + 1 ∧ ((j : Int) + (M : Int) - 2).toNat = j + m ∧ ((M : Int) - 1).toNat = m + 1 ∧ ((M : Int) - 2).toNat = m :=
  ⟨by omega, by omega, by omega, by omega, by omega⟩

theorem Zfo {v1 v2 u0 u1 u2 Ul Vl P U V : Nat} (hv2 : v2 < B32) (hVl : Vl < P) (hw3 : U = ((u0 * B32 + u1) * B32 + u2) * P + Ul) (hv3 : V = (v1 * B32 + v2) * P + Vl) (hUB : U < V * B32) : u0 ≤ v1 := by
  rcases Nat.lt_or_ge v1 u0 with h | h
  · exfalso
    have e1 : V < (v1 + 1) * B32 * P := by
      have h1 : (v2 + 1) * P ≤ B32 * P := Nat.mul_le_mul_right _ hv2; rw [hv3, Nat.add_mul v1, Nat.one_mul, Nat.add_mul, Nat.add_mul _ B32 P]; rw [Nat.add_mul, Nat.one_mul] at h1; omega
    have e2 : V * B32 < (v1 + 1) * B32 * P * B32 := Nat.mul_lt_mul_of_pos_right e1 (by decide); have e3 : (v1 + 1) * B32 * P * B32 ≤ u0 * B32 * P * B32 := Nat.mul_le_mul_right _ (Nat.mul_le_mul_right _ (Nat.mul_le_mul_right _ h)); have e4 : u0 * B32 * P * B32 ≤ U := by
      rw [hw3, Nat.add_mul, Nat.add_mul, Nat.add_mul, Nat.mul_right_comm (u0 * B32) P B32]; omega
    omega
  · exact h

theorem Z7s {g r v1 v2 u0 u1 u2 Ul Vl P U V top : Nat} (hV : 0 < V) (hUl : Ul < P) (hw3 : U = ((u0 * B32 + u1) * B32 + u2) * P + Ul) (hv3 : V = (v1 * B32 + v2) * P + Vl) (hUB : U < V * B32)
    (htop : top = u0 * B32 + u1) (hgr : g * v1 + r = top) (hgU : U / V ≤ g) (hc : B32 ≤ g ∨ r * B32 + u2 < g * v2) : ∃ g', g = g' + 1 ∧ U / V ≤ g' ∧ g' * v1 + (r + v1) = top := by
  have h1 : U / V < g := by
    rcases hc with h | h
    · have : U / V < B32 := by rw [Nat.div_lt_iff_lt_mul hV, Nat.mul_comm]; exact hUB
      omega
    · rw [Nat.div_lt_iff_lt_mul hV, hw3, hv3]
      exact Zfr hUl (by rw [← htop]; exact hgr) h
  generalize U / V = Q at *; obtain ⟨g', rfl⟩ : ∃ g', g = g' + 1 := ⟨g - 1, by omega⟩; refine ⟨g', rfl, by omega, ?_⟩; rw [Nat.add_mul, Nat.one_mul] at hgr; omega

theorem Zfp {g r v1 v2 u0 u1 u2 Ul Vl P U V top : Nat} (hV : 0 < V) (hv1 : 1 ≤ v1) (hv2 : v2 < B32) (hu1 : u1 < B32) (hVl : Vl < P) (hw3 : U = ((u0 * B32 + u1) * B32 + u2) * P + Ul) (hv3 : V = (v1 * B32 + v2) * P + Vl) (hUB : U < V * B32)
    (htop : top = u0 * B32 + u1) (hgr : g * v1 + r = top) (hgU : U / V ≤ g) (hc : B32 ≤ r ∨ g < B32 ∧ g * v2 ≤ r * B32 + u2) : g < B32 ∧ (g = U / V ∨ g = U / V + 1) := by
  have hu0 := Zfo hv2 hVl hw3 hv3 hUB; have hg : g < B32 := by
    rcases hc with h | h
    · rcases Nat.lt_or_ge g B32 with h2 | h2
      · exact h2
      · have e1 := Nat.mul_le_mul_right v1 h2
        have e2 := Nat.mul_le_mul_right B32 hu0; rw [Nat.mul_comm B32] at e1; omega
    · exact h.1
  have hle : g * v2 ≤ r * B32 + u2 := by
    rcases hc with h | h
    · have e1 : g * v2 ≤ B32 * B32 := Nat.mul_le_mul (by omega) (by omega)
      have e2 := Nat.mul_le_mul_right B32 h; omega
    · exact h.2
  refine ⟨hg, Zfq hV hgU ?_⟩; have := Zir (B := B32) (v1 := v1) (v2 := v2) (P := P) (Vl := Vl) (Ul := Ul) hVl hv1 hg (by rw [← htop]; exact hgr) hle; rw [← hw3, ← hv3] at this; exact this

theorem Zho {us t v : List Nat} {j g ca bo s b hi : Nat} (h : valD B32 t + g * valD B32 (v.take t.length) = valD B32 ((us.drop j).take t.length) + (ca + bo) * B32 ^ t.length)
    (hs : s + g * v.getD t.length 0 + ca + bo = us.getD (j + t.length) 0 + (hi + b) * B32) :
    valD B32 (t ++ [s]) + g * valD B32 (v.take (t.length + 1)) = valD B32 ((us.drop j).take (t.length + 1)) + (hi + b) * B32 ^ (t.length + 1) := by
  have e1 := Zh (l := v) B32 t.length; have e2 := Zh (l := us.drop j) B32 t.length; have e3 : (us.drop j).getD t.length 0 = us.getD (j + t.length) 0 := by
    rw [List.getD_eq_getElem?_getD, List.getElem?_drop, List.getD_eq_getElem?_getD]
  rw [e3] at e2; rw [e1, e2, Zg, Nat.pow_succ]; have e4 : valD B32 [s] = s := by simp [valD]
  rw [e4]; generalize B32 ^ t.length = P at *; generalize v.getD t.length 0 = w at *; generalize us.getD (j + t.length) 0 = x at *; have e5 : (s + g * w + ca + bo) * P = (x + (hi + b) * B32) * P := by rw [hs]
  rw [Nat.add_mul, Nat.add_mul, Nat.add_mul, Nat.add_mul x] at e5; have e6 : g * (valD B32 (v.take t.length) + w * P) = g * valD B32 (v.take t.length) + g * w * P := by rw [Nat.mul_add, Nat.mul_assoc]
  have e7 : (hi + b) * (P * B32) = (hi + b) * B32 * P := by rw [Nat.mul_comm P, Nat.mul_assoc]
  rw [Nat.add_mul] at h; rw [e6, e7, Nat.mul_comm P s]; omega

theorem Zgx {t s v : List Nat} {c : Nat} (h : valD B32 s + c * B32 ^ s.length = valD B32 (t.take s.length) + valD B32 (v.take s.length)) :
    valD B32 (s ++ [(t.getD s.length 0 + v.getD s.length 0 + c) % B32]) + (t.getD s.length 0 + v.getD s.length 0 + c) / B32 * B32 ^ (s.length + 1) = valD B32 (t.take (s.length + 1)) + valD B32 (v.take (s.length + 1)) := by
  have e1 := Zh (l := v) B32 s.length; have e2 := Zh (l := t) B32 s.length; rw [e1, e2, Zg, Nat.pow_succ]; generalize B32 ^ s.length = P at *; generalize v.getD s.length 0 = w at *; generalize t.getD s.length 0 = x at *; obtain ⟨k, hk⟩ : ∃ k, k = x + w + c := ⟨_, rfl⟩; have e5 : (x + w + c) * P = k * P := by rw [hk]
  rw [← hk]; have e4 : valD B32 [k % B32] = k % B32 := by simp [valD]
  rw [e4]; have e6 := Nat.mod_add_div k B32; have e7 : P * (k % B32) + k / B32 * (P * B32) = k * P := by
    conv => rhs; rw [← e6, Nat.add_mul, Nat.mul_comm (k % B32), Nat.mul_comm B32, Nat.mul_assoc, Nat.mul_comm B32]
  rw [Nat.add_mul, Nat.add_mul] at e5; omega

theorem Zea {us qs rem : List Nat} {j K L M V U X : Nat} (hV : 0 < V) (hJ : j + 1 + qs.length = K + 1) (husl : us.length = L) (hjM : j + M < us.length) (husd : ∀ d ∈ us, d < B32) (hqsd : ∀ d ∈ qs, d < B32)
    (hval : X = V * B32 ^ (j + 1) * valD B32 qs + valD B32 (us.take (j + 1 + M))) (hUsplit : valD B32 (us.take (j + 1 + M)) = valD B32 (us.take j) + B32 ^ j * U) (hUB : U < V * B32)
    (hrl : rem.length = M) (hrd : ∀ d ∈ rem, d < B32) (hr : valD B32 rem = U % V) :
    j + (U / V :: qs).length = K + 1 ∧ (mulR us j (rem ++ [0]) 0).length = L ∧ (∀ d ∈ mulR us j (rem ++ [0]) 0, d < B32) ∧ (∀ d ∈ U / V :: qs, d < B32) ∧
      X = V * B32 ^ j * valD B32 (U / V :: qs) + valD B32 ((mulR us j (rem ++ [0]) 0).take (j + M)) ∧ valD B32 (((mulR us j (rem ++ [0]) 0).drop j).take M) < V ∧ (j + M < L → (mulR us j (rem ++ [0]) 0).getD (j + M) 0 = 0) := by
  subst hrl; obtain ⟨h1, h2, h3, h4⟩ := Z9b (c := 0) hjM; have hq : U / V < B32 := by rw [Nat.div_lt_iff_lt_mul hV, Nat.mul_comm]; exact hUB
  refine ⟨by rw [List.length_cons]; omega, by rw [h1]; exact husl, Z6n husd (fun d hd => ?_), fun d hd => ?_, ?_, ?_, fun _ => h4⟩
  · rcases List.mem_append.1 hd with hd | hd
    · exact hrd d hd
    · rw [List.mem_singleton] at hd; subst hd; decide
  · rcases List.mem_cons.1 hd with rfl | hd
    · exact hq
    · exact hqsd d hd
  · rw [h2, Zg, List.length_take, Nat.min_eq_left (by omega), hr]
    rw [hUsplit, Nat.pow_succ] at hval; have := Zgd hval (show U = U / V * V + U % V by rw [Nat.mul_comm]; exact (Nat.div_add_mod U V).symm); exact this
  · rw [h3, hr]; exact Nat.mod_lt _ hV

theorem Zdr : IntKind.u32.wrap ((4294967295 : Int) + ((1 : Nat) : Int)) = 0 := by
  have h : (4294967295 : Int) + ((1 : Nat) : Int) = ((4294967296 : Nat) : Int) := by omega
  rw [h, Z1p, Nat.mod_self]; rfl

theorem Z4s (a b : Nat) : ((a : Int) + (b : Int)).toNat = b + a := by omega

theorem Zed {i j M L : Nat} (hi : i < M) (hjM : j + M < L) (hL : L ≤ 2000) : InR .i64 ((i : Int) + (j : Int)) ∧ ((0 : Int) ≤ (i : Int) + (j : Int) ∧ (i : Int) + (j : Int) < (L : Int)) ∧ InR .i64 ((i : Int) + 1) :=
  ⟨by simp only [InR]; omega, by omega, by simp only [InR]; omega⟩
theorem Zsa {a b c k : Nat} (ha : a < B32) (hb : b < B32) (hc : c ≤ 1) (hk : k = a + b + c) : InR .u64 ((a : Int) + (b : Int)) ∧ InR .u64 (k : Int) ∧ k / B32 ≤ 1 ∧ (a : Int) + (b : Int) + (c : Int) = (k : Int) := by
  unfold B32 at *; exact ⟨by simp only [InR]; omega, by simp only [InR]; omega, by omega, by omega⟩
theorem Ze4 {n u : Nat} (w : Nat) (hn : n ≤ 31) (hu : u < B32) : u / 2 ^ n + w % 2 ^ n * 2 ^ (32 - n) < B32 ∧ u / 2 ^ n < 2 ^ (32 - n) ∧ 2 ^ n * 2 ^ (32 - n) = B32 ∧ IntKind.u32.wrap ((w * 2 ^ (32 - n) : Nat) : Int) = ((w % 2 ^ n * 2 ^ (32 - n) : Nat) : Int) := by
  have hp : 2 ^ n * 2 ^ (32 - n) = B32 := by
    rw [← Nat.pow_add, show n + (32 - n) = 32 by omega]; rfl
  have h1 : u / 2 ^ n < 2 ^ (32 - n) := by
    rw [Nat.div_lt_iff_lt_mul (Nat.two_pow_pos n), Nat.mul_comm, hp]; exact hu
  have h2 := Nat.mod_lt w (Nat.two_pow_pos n); have h3 := Nat.mul_le_mul_right (2 ^ (32 - n)) (Nat.succ_le_of_lt h2); rw [hp, Nat.succ_mul] at h3; refine ⟨by omega, h1, hp, ?_⟩; rw [Z1p]; have : w * 2 ^ (32 - n) % 4294967296 = w % 2 ^ n * 2 ^ (32 - n) := by
    have := Nat.mul_mod_mul_right (2 ^ (32 - n)) w (2 ^ n); rw [hp] at this; exact this
  rw [this]

theorem Zhv {us o : List Nat} {n e : Nat} (hn : n ≤ 31) (h : valD B32 (us.take o.length) + us.getD o.length 0 % 2 ^ n * B32 ^ o.length = e + 2 ^ n * valD B32 o) :
    valD B32 (us.take (o.length + 1)) + us.getD (o.length + 1) 0 % 2 ^ n * B32 ^ (o.length + 1) = e + 2 ^ n * valD B32 (o ++ [us.getD o.length 0 / 2 ^ n + us.getD (o.length + 1) 0 % 2 ^ n * 2 ^ (32 - n)]) := by
  have hp : 2 ^ n * 2 ^ (32 - n) = B32 := by
    rw [← Nat.pow_add, show n + (32 - n) = 32 by omega]; rfl
  have e1 := Zh (l := us) B32 o.length; rw [e1, Zg, Nat.pow_succ]; generalize us.getD o.length 0 = u at *; generalize us.getD (o.length + 1) 0 = w at *; generalize B32 ^ o.length = P at *; have e4 : ∀ s, valD B32 [s] = s := fun s => by simp [valD]
  rw [e4]; have e5 := Nat.div_add_mod u (2 ^ n); have e6 : 2 ^ n * (P * (u / 2 ^ n + w % 2 ^ n * 2 ^ (32 - n))) = 2 ^ n * (u / 2 ^ n) * P + w % 2 ^ n * (P * B32) := by
    rw [Nat.mul_add, Nat.mul_add, ← hp]
    congr 1
    · rw [Nat.mul_left_comm, Nat.mul_comm P]
    · rw [Nat.mul_left_comm (2 ^ n) P, Nat.mul_left_comm (2 ^ n) (w % 2 ^ n), Nat.mul_left_comm P]
  have e7 : (2 ^ n * (u / 2 ^ n) + u % 2 ^ n) * P = u * P := by rw [e5]
  rw [Nat.add_mul] at e7; rw [Nat.mul_add, e6]; omega

theorem Zj2 {us : List Nat} {n M X Y q : Nat} (hn : n ≤ 31) (hY : 0 < Y) (hM : 0 < M) (hl : M ≤ us.length) (h : X * 2 ^ n = Y * 2 ^ n * q + valD B32 (us.take M)) (hr : valD B32 (us.take M) < Y * 2 ^ n) :
    q = X / Y ∧ valD B32 (us.take M) = X % Y * 2 ^ n ∧ us.getD 0 0 % 2 ^ n = 0 := by
  have hp := Nat.two_pow_pos n; generalize hR : valD B32 (us.take M) = R at *; have h1 : X * 2 ^ n = q * Y * 2 ^ n + R := by rw [h, Nat.mul_comm q Y, Nat.mul_right_comm]
  have hq : q = X / Y := by
    have e1 : (X * 2 ^ n) / (Y * 2 ^ n) = X / Y := Nat.mul_div_mul_right X Y hp; rw [← e1, h, Nat.mul_add_div (Nat.mul_pos hY hp), Nat.div_eq_of_lt hr, Nat.add_zero]
  have hm : R = X % Y * 2 ^ n := by
    have e1 : (X * 2 ^ n) % (Y * 2 ^ n) = X % Y * 2 ^ n := Nat.mul_mod_mul_right (2 ^ n) X Y; rw [← e1, h, Nat.mul_add_mod, Nat.mod_eq_of_lt hr]
  refine ⟨hq, hm, ?_⟩; obtain ⟨k, rfl⟩ : ∃ k, M = k + 1 := ⟨M - 1, by omega⟩; obtain ⟨u, l, rfl⟩ : ∃ u l, us = u :: l := by
    cases us with
    | nil => simp at hl
    | cons u l => exact ⟨u, l, rfl⟩
  rw [List.take_succ_cons] at hR; have hR' : u + B32 * valD B32 (l.take k) = R := hR; have hp2 : B32 = 2 ^ n * 2 ^ (32 - n) := by
    rw [← Nat.pow_add, show n + (32 - n) = 32 by omega]; rfl
  have e1 : R % 2 ^ n = 0 := by rw [hm]; exact Nat.mul_mod_left _ _
  rw [← hR', hp2, Nat.mul_assoc, Nat.add_mul_mod_self_left] at e1
  simpa using e1

def upR (o : List Nat) (z : Nat) : List PV := (o ++ List.replicate z 0).map u32V
theorem Zdu (o : List Nat) (z : Nat) : (upR o z).length = o.length + z := by simp [upR]
theorem Zhm (o : List Nat) : upR o 0 = o.map u32V := by simp [upR]
theorem Zkp (z : Nat) : upR [] z = List.replicate z (.int .u32 0) := by simp [upR, u32V]
theorem Zko (o : List Nat) (z v : Nat) : (upR o (z + 1)).set o.length (.int .u32 (v : Int)) = upR (o ++ [v]) z := Z4u o z v
theorem Zkq (o : List Nat) (z a : Nat) : (upR (o ++ [a]) z).getD o.length default = .int .u32 (a : Int) := by
  unfold upR; rw [List.getD_eq_getElem?_getD, List.getElem?_map, List.append_assoc, List.getElem?_append_right (Nat.le_refl _), Nat.sub_self]; rfl
theorem Zhl (o : List Nat) (z a v : Nat) : (upR (o ++ [a]) z).set o.length (.int .u32 (v : Int)) = upR (o ++ [v]) z := by
  show (upR (o ++ [a]) z).set o.length (u32V v) = _; unfold upR; rw [← List.map_set, List.append_assoc, List.append_assoc, List.set_append_right _ _ (Nat.le_refl _), Nat.sub_self]; rfl

theorem v167 (x y : List Nat) (hx : Z1o B32 x) (hy : Z1o B32 y) (hl : x.length ≤ 1000) (hyl : y.length ≤ 1000) (hy0 : y ≠ []) : PFn Tryz.prog 237 [natV x, natV y] [natV (digD B32 (valD B32 x / valD B32 y)), natV (digD B32 (valD B32 x % valD B32 y))] := by
  have hB : B32 = 4294967296 := rfl; have hyp := List.length_pos_iff.2 hy0; have hcmp := u106 x y hx hy (by omega) (by omega); have hpos : 0 < valD B32 y := by
    have := Zao (B := B32) (by decide) hy hy0; have h2 : 0 < B32 ^ (y.length - 1) := Nat.pow_pos (by decide); omega
  by_cases hlt : valD B32 x < valD B32 y
  · rw [Z2k hlt] at hcmp
    refine PFn.of_body hΓ Tryz.func237 (by kernel_rfl) rfl (AWp.seq (Wd [] ?_)); simp -implicitDefEqProofs only [Tryz.ntmps237, Tryz.results237, Nat.reduceAdd, Nat.reduceSub, natV, go_sem]; refine AWp.seq (Wd [] ?_); simp -implicitDefEqProofs only [go_sem]; refine Z0 hcmp (.pures rfl) ?_; have hm : (-1 : Int) < 0 := by omega
    simp -implicitDefEqProofs only [hm, go_sem]; rw [Nat.div_eq_of_lt hlt, Nat.mod_eq_of_lt hlt, Z8x (by decide) hx, Z4m]; simp
  have hneg : ¬ cmpN (valD B32 x) (valD B32 y) < 0 := by unfold cmpN; split; omega; split <;> omega
  by_cases h1 : y.length = 1
  · have hyt : y = [topD y] := by
      match y, h1 with
      | [d], _ => rfl
    have hd := Z0q hy.1 (show y.length - 1 < y.length by omega); have htp := Zbp hy hy0; have hvy : valD B32 y = topD y := by rw [hyt]; simp [valD, topD]
    have hgy : (y.map u32V).getD (Int.toNat 0) default = _ := Z0e (l := y) (i := 0) (by omega); have e0 : y.getD 0 0 = topD y := by unfold topD; rw [h1]
    rw [e0] at hgy; have hd : topD y < B32 := hd; have hsh := v194 x (topD y) hx.1 (by omega) (by omega) hd; have h1' : (y.length : Int) = 1 := by omega
    rw [hvy]; generalize topD y = d at *; refine PFn.of_body hΓ Tryz.func237 (by kernel_rfl) rfl (AWp.seq (Wd [] ?_)); simp -implicitDefEqProofs only [Tryz.ntmps237, Tryz.results237, Nat.reduceAdd, Nat.reduceSub, natV, go_sem]; refine AWp.seq (Wd [] ?_); simp -implicitDefEqProofs only [go_sem]; refine Z0 hcmp (.pures rfl) ?_; simp -implicitDefEqProofs only [hneg, go_sem]; refine AWp.seq (Wd [] ?_); simp -implicitDefEqProofs only [List.length_map, h1', hgy, go_sem]; refine ⟨by omega, Z0 hsh (.pures rfl) ?_⟩; simp -implicitDefEqProofs only [go_sem]; have hmd : valD B32 x % d < B32 := Nat.lt_of_lt_of_le (Nat.mod_lt _ (by omega)) (by omega); have e91 := u91 [valD B32 x % d] (by simp); have hds : ∀ e ∈ [valD B32 x % d], e < B32 := fun e he => by rw [List.mem_singleton] at he; omega
    rw [Z1q (B := B32) (by decide) hds, show valD B32 [valD B32 x % d] = valD B32 x % d by simp [valD]] at e91; refine ⟨⟨by simp [Zu, PV.cells], by omega⟩, Z0 e91 (.pures rfl) ?_⟩; simp -implicitDefEqProofs only [natV, go_sem]
  obtain ⟨m, hm⟩ : ∃ m, y.length = m + 1 + 1 := ⟨y.length - 2, by omega⟩; have htp := Zbp hy hy0; have htl : topD y < B32 := Z0q hy.1 (show y.length - 1 < y.length by omega); obtain ⟨n, hn, hlz, hn1, hn2⟩ := Zm4 htp htl; obtain ⟨hvl, hvd, hvv, hvt⟩ := Ziy hy.1 hm hn hn1 hn2; clear hn1 hn2; have hgy : (y.map u32V).getD (y.length - 1) default = .int .u32 ((topD y : Nat) : Int) := Z0e (by omega); have e195 := v195 (topD y) (by omega); rw [hlz] at e195; clear hlz; have eyl : ((y.length : Int) - 1).toNat = y.length - 1 := by omega
  have h1' : ¬ (y.length : Int) = 1 := by omega
  refine PFn.of_body hΓ Tryz.func237 (by kernel_rfl) rfl (AWp.seq (Wd [] ?_)); simp -implicitDefEqProofs only [Tryz.ntmps237, Tryz.results237, Nat.reduceAdd, Nat.reduceSub, natV, go_sem]; refine AWp.seq (Wd [] ?_); simp -implicitDefEqProofs only [go_sem]; refine Z0 hcmp (.pures rfl) ?_; simp -implicitDefEqProofs only [hneg, go_sem]; refine AWp.seq (Wd [] ?_); simp -implicitDefEqProofs only [List.length_map, h1', go_sem]; refine AWp.seq (Wd [] ?_); simp -implicitDefEqProofs only [List.length_map, eyl, hgy, go_sem]; clear eyl; refine ⟨by simp only [InR]; omega, ⟨by omega, by omega⟩, Z0 e195 (.pures rfl) ?_⟩; simp -implicitDefEqProofs only [go_sem]; refine AWp.seq (Wd [(7, 1000)] ?_); simp -implicitDefEqProofs only [go_sem]; refine AWp.planL (.q 0 (.q 1 (.q 3 (.q 4 (.q 6 (.q 7 (.e 2 (.s 3 (.s 4 (.s 6 (.s 7 (.e 5 (.s 6 (.s 7 (.q 8 (.q 9 (.q 10 .fin))))) .nil))))) .nil))))))) hΓ hmix (by kernel_rfl) ?_; simp -implicitDefEqProofs only [List.length_map, go_sem]; refine Zl (AC.of_rowO (r196 x n hx.1 (by omega) hn) (.inl rfl)) (by simp) ?_; rintro v h' ⟨rfl, rfl⟩; simp -implicitDefEqProofs only [List.length_map, List.foldl_nil, go_sem]; refine Z0 (PFn.of_rowO (r196 y n hy.1 (by omega) hn)) (.pures rfl) ?_; have hdv : ((shlL n 0 y).map u32V).take y.length = (dvs n y).map u32V := by rw [dvs, List.map_take]
  have hyx : y.length ≤ x.length := by
    rcases Nat.lt_or_ge x.length y.length with h | h
    · exact absurd (Za3 (B := B32) (by decide) hx hy h) hlt
    · exact h
  have hul := Z2c n x 0; have hud : ∀ d ∈ shlL n 0 x, d < B32 := Z8g hn hx.1 (Nat.two_pow_pos n); have huv := Z5p n x 0; have hwl := Z2c n y 0; obtain ⟨K, hK⟩ : ∃ K, x.length + 1 = K + 1 + y.length := ⟨x.length - y.length, by omega⟩; have hKI : (x.length : Int) + 1 - (y.length : Int) = ((K + 1 : Nat) : Int) := by omega
  have hvl' : (dvs n y).length = y.length := by rw [hvl, hm]
  simp -implicitDefEqProofs only [List.length_map, hdv, hul, Int.toNat_natCast, go_sem]; refine ⟨Z8f _, by omega, ?_⟩; refine AWp.seq (Wd [] ?_); simp -implicitDefEqProofs only [List.length_map, hvl', go_sem]; refine AWp.seq (Wd [] ?_); have hul' : ((x.length + 1 : Nat) : Int) = (x.length : Int) + 1 := by omega
  simp -implicitDefEqProofs only [List.length_map, hul', hKI, Int.toNat_natCast, go_sem]; refine ⟨by simp only [InR]; omega, by omega, ?_⟩; have hV : valD B32 y * 2 ^ n ≠ 0 := Nat.ne_of_gt (Nat.mul_pos hpos (Nat.two_pow_pos n)); obtain ⟨v, hv⟩ : ∃ v, v = dvs n y := ⟨_, rfl⟩; obtain ⟨V, hVe⟩ : ∃ V, V = valD B32 y * 2 ^ n := ⟨_, rfl⟩; rw [← hv] at hvl hvd hvv hvt
  refine AWp.seqM (fun z : List Nat × List Nat => ⟨mkF 295 [(8, .p (.int .i64 n)), (9, .own 0 (x.length + 1)), (11, .p (.int .i64 y.length)), (12, .own 1 (K + 1))], [.row 136 1 (z.1.map u32V) .own, .row 136 1 (z.2.map u32V) .own]⟩)
    (fun z => z.1.length = x.length + 1 ∧ z.2.length = K + 1 ∧ (∀ d ∈ z.1, d < B32) ∧ (∀ d ∈ z.2, d < B32) ∧ valD B32 x * 2 ^ n = V * valD B32 z.2 + valD B32 (z.1.take y.length) ∧ valD B32 (z.1.take y.length) < V ∧ z.1.getD y.length 0 = 0) ?_ ?_
  · refine Wd [] ?_
    simp -implicitDefEqProofs only [List.length_map, hul', hKI, go_sem]; obtain ⟨v1, v2, Vl, hv1lt, hv2lt, hVl, hvt1, hg1, hg2, hv3, hv1V⟩ := Ziz hvl hvd hvt; have hVv : valD B32 v = V := by rw [hvv, hVe]
    have hVW := Z1x hvd; rw [hVv] at hv3 hVW hv1V; rw [hvl, ← hm] at hVW; have hfirst := Ze5 (n := n) (x := x) (V := V) (M := y.length) (K := K + 1) (m := m + 1) (t := v1) hx.1 hn (by omega) hm hv1V hvt1; rw [← hv]; refine ⟨by simp only [InR]; omega, by simp only [InR]; omega, ?_⟩
    refine AWp.loopI (fun z : Nat × List Nat × List Nat => ⟨mkF 295 [(8, .p (.int .i64 n)), (9, .own 0 (x.length + 1)), (10, .p (natV v)), (11, .p (.int .i64 y.length)), (12, .own 1 (K + 1)), (13, .p (.int .i64 ((z.1 : Int) - 1)))], [.row 136 1 (z.2.1.map u32V) .own, .row 136 1 (dnR z.1 z.2.2) .own]⟩)
      (fun z => z.1 + z.2.2.length = K + 1 ∧ z.2.1.length = x.length + 1 ∧ (∀ d ∈ z.2.1, d < B32) ∧ (∀ d ∈ z.2.2, d < B32) ∧ valD B32 x * 2 ^ n = V * B32 ^ z.1 * valD B32 z.2.2 + valD B32 (z.2.1.take (z.1 + y.length)) ∧ valD B32 ((z.2.1.drop z.1).take y.length) < V ∧ (z.1 + y.length < x.length + 1 → z.2.1.getD (z.1 + y.length) 0 = 0)) (fun z => z.1) (K + 1, shlL n 0 x, []) (by
        simp [go_sem, natV, Zgc, List.replicate_succ]) ⟨by simp, by simp [hul], hud, by simp, by
          simp only [valD, Nat.mul_zero, Nat.zero_add]; rw [List.take_of_length_le (by omega), huv, Nat.add_zero], by
          simp only; rw [List.take_of_length_le (by rw [List.length_drop]; omega)]; exact hfirst, by simp only; omega⟩ ?_
    rintro ⟨J, us, qs⟩ ⟨hJ, husl, husd, hqsd, hval, hwin, hzero⟩; simp only at hJ husl husd hqsd hval hwin hzero
    cases J with
    | zero =>
      have hz : ¬ (0 : Int) ≤ (((0 : Nat) : Int) - 1) := by omega
      refine AWp.seq (Wd [] ?_); simp -implicitDefEqProofs only [hz, Zcm, go_sem]; refine ⟨(us, qs), ⟨.inl rfl, .inl rfl⟩, husl, by simp only; omega, husd, hqsd, ?_, ?_, ?_⟩
      · simpa using hval
      · simpa using hwin
      · have := hzero (by omega)
        simpa using this
    | succ j =>
      have hj : (((j + 1 : Nat) : Int) - 1) = (j : Int) := by omega
      have hj0 : (0 : Int) ≤ (j : Int) := by omega
      refine AWp.seq (Wd [] ?_); simp -implicitDefEqProofs only [hj, hj0, go_sem]; have hjM : j + y.length < us.length := by omega
      have hix := Hid.mk (Zio j hm); obtain ⟨u0, u1, u2, Ul, U, hd0, hd1, hd2, hUl, hgu0, hgu1, hgu2, hu0e, hw3, hUB, hUlow, hUsplit⟩ := Zhi hm hjM husd hwin; have hsh0 : (u0 : Int) * 2 ^ Int.toNat 32 = (u0 : Int) * 4294967296 := rfl; have hw1 : ∀ a : Nat, a < B32 → IntKind.u64.wrap (a : Int) = a := fun a ha => Z42 (Nat.lt_of_lt_of_le ha (by decide))
      obtain ⟨top, htop⟩ : ∃ t, t = u0 * B32 + u1 := ⟨_, rfl⟩; have hor : Z1n .or .u64 ((u0 : Int) * 4294967296) (u1 : Int) = ((top : Nat) : Int) := by rw [htop]; exact Z6l rfl hd1 hd0
      have hdi : (top : Int) / (v1 : Int) = ((top / v1 : Nat) : Int) := by rw [Int.natCast_ediv]
      have hmi : (top : Int) % (v1 : Int) = ((top % v1 : Nat) : Int) := by rw [Int.natCast_emod]
      have htop64 : top < 18446744073709551616 := by
        have := Nat.mul_le_mul_right B32 (Nat.le_of_lt_succ (show u0 < 4294967295 + 1 from hd0)); rw [htop]; have h2 : 4294967295 * B32 + B32 ≤ 18446744073709551616 := by decide
        omega
      have hge := Nat.div_add_mod top v1; rw [Nat.mul_comm] at hge; have hrl := Nat.mod_lt top (show 0 < v1 by omega); have hinit := Zdd (B := B32) (v1 := v1) (v2 := v2) (P := B32 ^ m) (Vl := Vl) (u2 := u2) (Ul := Ul) hUl hd2 (by rw [← htop]; exact hge) hrl; rw [← hw3, ← hv3] at hinit; have hVpos : 0 < V := Nat.pos_of_ne_zero (hVe ▸ hV)
      replace hval := Hid.mk hval
      replace hwin := Hid.mk hwin
      replace hw3 := Hid.mk hw3
      replace hUB := Hid.mk hUB
      replace hUlow := Hid.mk hUlow
      replace hUsplit := Hid.mk hUsplit
      replace hinit := Hid.mk hinit
      replace hge := Hid.mk hge
      replace hv3 := Hid.mk hv3
      replace hVW := Hid.mk hVW
      replace hUl := Hid.mk hUl
      replace hVl := Hid.mk hVl
      replace htop := Hid.mk htop
      replace hVe := Hid.mk hVe
      replace hvv := Hid.mk hvv
      replace hVv := Hid.mk hVv
      replace hzero := Hid.mk hzero
      replace hfirst := Hid.mk hfirst
      clear hv1V hfirst huv hpos hlt hneg hcmp; refine AWp.seq (AWp.block ?_); refine AWp.seq (Wd [(13, 18)] ?_); simp -implicitDefEqProofs only [natV, List.length_map, hix.out.1, hix.out.2.1, hgu0, hgu1, hw1 u0 hd0, hw1 u1 hd1, hsh0, hor, go_sem]; refine ⟨by simp only [InR]; omega, ⟨by omega, by omega⟩, hjM, ⟨by omega, by omega, by simp only [InR]; omega⟩, by simp only [InR]; omega, by simp only [InR]; omega, ⟨by omega, by omega⟩, by omega, ?_⟩; refine AWp.seq (Wd [(14, 18)] ?_); simp -implicitDefEqProofs only [natV, List.length_map, hix.out.2.2.2.1, hg1, hw1 v1 hv1lt, hdi, hmi, hvl, go_sem]; have hvp : (0 : Int) < (v1 : Int) := by omega
      have hMi : InR .i64 ((y.length : Int) - 1) := by simp only [InR]; omega
      have hMb : (0 : Int) ≤ (y.length : Int) - 1 ∧ (y.length : Int) - 1 < ((m + 1 + 1 : Nat) : Int) := by omega
      refine ⟨hMi, hMb, ⟨hvp, by simp only [InR]; omega⟩, hMi, hMb, hvp, ?_⟩
      refine AWp.seqM (fun g : Nat => ⟨mkF 295 [(8, .p (.int .i64 n)), (9, .own 0 (x.length + 1)), (10, .p (natV v)), (11, .p (.int .i64 y.length)), (12, .own 1 (K + 1)), (13, .p (.int .i64 j)), (15, .p (.int .u64 g))], [.row 136 1 (us.map u32V) .own, .row 136 1 (dnR (j + 1) qs) .own]⟩)
        (fun g => g < B32 ∧ (g = U / V ∨ g = U / V + 1)) ?_ ?_
      · refine AWp.block ?_
        refine AWp.loopI (fun z : Nat × Nat => ⟨mkF 295 [(8, .p (.int .i64 n)), (9, .own 0 (x.length + 1)), (10, .p (natV v)), (11, .p (.int .i64 y.length)), (12, .own 1 (K + 1)), (13, .p (.int .i64 j)), (15, .p (.int .u64 z.1)), (16, .p (.int .u64 z.2))], [.row 136 1 (us.map u32V) .own, .row 136 1 (dnR (j + 1) qs) .own]⟩)
          (fun z => z.1 * v1 + z.2 = top ∧ z.2 < B32 ∧ U / V ≤ z.1 ∧ z.1 ≤ top / v1) (fun z => z.1) (top / v1, top % v1) (by
            simp [go_sem, natV]) ⟨hge.out, by simp only; omega, ?_, Nat.le_refl _⟩ ?_
        · simp only
          have := hinit.out; rw [← Nat.div_lt_iff_lt_mul hVpos] at this; omega
        rintro ⟨g, r⟩ ⟨hgr, hr, hgU, hgm⟩; simp only at hgr hr hgU hgm; have hsh2 : (r : Int) * 2 ^ Int.toNat 32 = (r : Int) * 4294967296 := rfl; have hor2 : Z1n .or .u64 ((r : Int) * 4294967296) (u2 : Int) = ((r * 4294967296 + u2 : Nat) : Int) := Z6l rfl hd2 hr; have hP := Nat.pow_pos (n := m) (show 0 < B32 by decide); have hends := fun g' r' (h1 : g' * v1 + r' = top) (h2 : U / V ≤ g') h3 => Zfp (g := g') (r := r') hVpos (show 1 ≤ v1 by omega) hv2lt hd1 hVl.out hw3.out hv3.out hUB.out htop.out h1 h2 h3
        have hjM2 : (0 : Int) ≤ (j : Int) + (y.length : Int) - 2 ∧ (j : Int) + (y.length : Int) - 2 < (x.length : Int) + 1 := by omega
        have hMb2 : (0 : Int) ≤ (y.length : Int) - 2 ∧ (y.length : Int) - 2 < ((m + 1 + 1 : Nat) : Int) := by omega
        have dec : ∀ g' : Nat, g = g' + 1 → ((g : Int) - 1 = (g' : Int)) ∧ InR .u64 (g' : Int) := fun g' e => ⟨by omega, by
          have h1 : g ≤ top / v1 := hgm; have h2 : top / v1 ≤ top := Nat.div_le_self _ _; simp only [InR]; omega⟩
        obtain ⟨r', hr'⟩ : ∃ r', r' = r + v1 := ⟨_, rfl⟩; have hrI : (r : Int) + (v1 : Int) = (r' : Int) := by omega
        have hr64 : InR .u64 (r' : Int) := by simp only [InR]; omega
        by_cases hgB : B32 ≤ g
        · have hgI : (4294967296 : Int) ≤ (g : Int) := by omega
          obtain ⟨g', hgg, hgU', hgr'⟩ := Z7s hVpos hUl.out hw3.out hv3.out hUB.out htop.out hgr hgU (.inl hgB); obtain ⟨hgm1, hg64⟩ := dec g' hgg; rw [← hr'] at hgr'; refine Wd [(15, 24)] ?_; by_cases hrB : B32 ≤ r'
          · have hrI2 : (4294967296 : Int) ≤ (r' : Int) := by omega
            simp -implicitDefEqProofs only [natV, List.length_map, hgI, hix.out.2.2.2.1, hgm1, hg1, hrI, hw1 v1 hv1lt, hrI2, hvl, go_sem]; exact ⟨hg64, hMi, hMb, hr64, g', rfl, hends g' r' hgr' hgU' (.inl hrB)⟩
          · have hrI2 : ¬ (4294967296 : Int) ≤ (r' : Int) := by omega
            simp -implicitDefEqProofs only [natV, List.length_map, hgI, hix.out.2.2.2.1, hgm1, hg1, hrI, hw1 v1 hv1lt, hrI2, hvl, go_sem]; exact ⟨hg64, hMi, hMb, hr64, (g', r'), ⟨rfl, rfl⟩, ⟨hgr', by simp only; omega, hgU', by simp only; omega⟩, by simp only; omega⟩
        · have hgI : ¬ (4294967296 : Int) ≤ (g : Int) := by omega
          have hgv : g * v2 ≤ 4294967295 * 4294967295 := Nat.mul_le_mul (by omega) (by unfold B32 at hv2lt; omega); obtain ⟨gv, hgve⟩ : ∃ gv, gv = g * v2 := ⟨_, rfl⟩; have hgvI : (g : Int) * (v2 : Int) = (gv : Int) := by rw [hgve]; simp
          rw [← hgve] at hgv; obtain ⟨ru, hru⟩ : ∃ ru, ru = r * 4294967296 + u2 := ⟨_, rfl⟩; rw [← hru] at hor2; have hgv64 : InR .u64 (gv : Int) := by simp only [InR]; omega
          have hrs64 : InR .u64 ((r : Int) * 4294967296) := by simp only [InR]; omega
          have hM2i : InR .i64 ((y.length : Int) - 2) := by simp only [InR]; omega
          have hjMi : InR .i64 ((j : Int) + (y.length : Int)) := by simp only [InR]; omega
          have hjM2i : InR .i64 ((j : Int) + (y.length : Int) - 2) := by simp only [InR]; omega
          have hjm : j + m < us.length := by omega
          by_cases hc : ru < gv
          · have hcI : (ru : Int) < (gv : Int) := by omega
            obtain ⟨g', hgg, hgU', hgr'⟩ := Z7s hVpos hUl.out hw3.out hv3.out hUB.out htop.out hgr hgU (.inr (by rw [← hgve, show r * B32 + u2 = ru from hru.symm]; exact hc)); obtain ⟨hgm1, hg64⟩ := dec g' hgg; rw [← hr'] at hgr'; refine Wd [(15, 24)] ?_; by_cases hrB : B32 ≤ r'
            · have hrI2 : (4294967296 : Int) ≤ (r' : Int) := by omega
              simp -implicitDefEqProofs only [natV, List.length_map, hgI, hix.out.2.2.1, hix.out.2.2.2.1, hix.out.2.2.2.2, hgm1, hg1, hg2, hgvI, hsh2, hgu2, hw1 u2 hd2, hw1 v2 hv2lt, hor2, hcI, hrI, hw1 v1 hv1lt, hrI2, hvl, go_sem]; exact ⟨hM2i, hMb2, hgv64, ⟨by omega, by omega, hrs64⟩, hjMi, hjM2i, hjM2, hjm, hg64, hMi, hMb, hr64, g', rfl, hends g' r' hgr' hgU' (.inl hrB)⟩
            · have hrI2 : ¬ (4294967296 : Int) ≤ (r' : Int) := by omega
              simp -implicitDefEqProofs only [natV, List.length_map, hgI, hix.out.2.2.1, hix.out.2.2.2.1, hix.out.2.2.2.2, hgm1, hg1, hg2, hgvI, hsh2, hgu2, hw1 u2 hd2, hw1 v2 hv2lt, hor2, hcI, hrI, hw1 v1 hv1lt, hrI2, hvl, go_sem]; exact ⟨hM2i, hMb2, hgv64, ⟨by omega, by omega, hrs64⟩, hjMi, hjM2i, hjM2, hjm, hg64, hMi, hMb, hr64, (g', r'), ⟨rfl, rfl⟩, ⟨hgr', by simp only; omega, hgU', by simp only; omega⟩, by simp only; omega⟩
          · have hcI : ¬ (ru : Int) < (gv : Int) := by omega
            refine Wd [(15, 24)] ?_; simp -implicitDefEqProofs only [natV, List.length_map, hgI, hix.out.2.2.1, hix.out.2.2.2.2, hg2, hgvI, hsh2, hgu2, hw1 u2 hd2, hw1 v2 hv2lt, hor2, hcI, hvl, go_sem]; exact ⟨hM2i, hMb2, hgv64, ⟨by omega, by omega, hrs64⟩, hjMi, hjM2i, hjM2, hjm, g, rfl, hends g r hgr hgU (.inr ⟨by omega, by rw [← hgve, show r * B32 + u2 = ru from hru.symm]; omega⟩)⟩
      · rintro g ⟨hgB, hgQ⟩
        refine AWp.seq (Wd [] ?_); simp -implicitDefEqProofs only [go_sem]
        refine AWp.seqM (fun z : List Nat × Nat × Nat => ⟨mkF 295 [(8, .p (.int .i64 n)), (9, .own 0 (x.length + 1)), (10, .p (natV v)), (11, .p (.int .i64 y.length)), (12, .own 1 (K + 1)), (13, .p (.int .i64 j)), (15, .p (.int .u64 g)), (17, .p (.int .i64 z.2.2)), (18, .p (.int .u64 z.2.1))], [.row 136 1 ((mulR us j z.1 0).map u32V) .own, .row 136 1 (dnR (j + 1) qs) .own]⟩)
          (fun z => z.1.length = y.length ∧ (∀ d ∈ z.1, d < B32) ∧ z.2.1 < B32 ∧ z.2.2 ≤ 1 ∧ valD B32 z.1 + g * V = valD B32 ((us.drop j).take y.length) + (z.2.1 + z.2.2) * B32 ^ y.length) ?_ ?_
        · refine Wd [] ?_
          simp -implicitDefEqProofs only [natV, List.length_map, hvl, go_sem]
          refine AWp.loopI (fun z : List Nat × Nat × Nat => ⟨mkF 295 [(8, .p (.int .i64 n)), (9, .own 0 (x.length + 1)), (10, .p (natV v)), (11, .p (.int .i64 y.length)), (12, .own 1 (K + 1)), (13, .p (.int .i64 j)), (15, .p (.int .u64 g)), (17, .p (.int .i64 z.2.2)), (18, .p (.int .u64 z.2.1)), (150, .p (.int .i64 ((m + 1 + 1 : Nat) : Int))), (151, .p (.int .i64 z.1.length))], [.row 136 1 ((mulR us j z.1 0).map u32V) .own, .row 136 1 (dnR (j + 1) qs) .own]⟩)
            (fun z => z.1.length ≤ y.length ∧ (∀ d ∈ z.1, d < B32) ∧ z.2.1 < B32 ∧ z.2.2 ≤ 1 ∧ valD B32 z.1 + g * valD B32 (v.take z.1.length) = valD B32 ((us.drop j).take z.1.length) + (z.2.1 + z.2.2) * B32 ^ z.1.length) (fun z => y.length - z.1.length) ([], 0, 0) (by
              simp [go_sem, natV, Z5s]) ⟨by simp, by simp, by simp only; decide, by simp, by simp [valD]⟩ ?_
          rintro ⟨t, ca, bo⟩ ⟨htl, htd, hca, hbo, hsv⟩; simp only at htl htd hca hbo hsv
          replace hsv := Hid.mk hsv
          by_cases hlt : t.length < y.length
          · have hjt : j + t.length < us.length := by omega
            have hgx := Z4h (z := 0) hjt; have hdx := Z0q husd hjt; have hvt2 : t.length < v.length := by omega
            have hgv := Z0e hvt2; have hdv2 := Z0q hvd hvt2; have hrl := Z13 (o := us) (i := j) (r := t) (z := 0) (by omega); obtain ⟨s, b, hsB, hb1, hhi, hs1, hneg, hs2⟩ := Ze0 (B := B32) (by decide) hdx hdv2 hgB hca hbo; have hset := Z3b (z := 0) (v := s) hjt; have hstep := Hid.mk (Zho hsv.out hs2); generalize us.getD (j + t.length) 0 = xd at hgx hdx hs1 hneg; generalize v.getD t.length 0 = vd at hgv hdv2 hhi hs1 hneg hstep; have hpm : g * vd ≤ 4294967295 * 4294967295 := Nat.mul_le_mul (by unfold B32 at hgB; omega) (by unfold B32 at hdv2; omega); obtain ⟨gv, hgv'⟩ : ∃ gv, gv = g * vd := ⟨_, rfl⟩; have hgvI : (g : Int) * (vd : Int) = (gv : Int) := by rw [hgv']; simp
            rw [← hgv'] at hpm hhi hs1 hneg; obtain ⟨p, hp⟩ : ∃ p, p = gv + ca := ⟨_, rfl⟩; have hpI : (gv : Int) + (ca : Int) = (p : Int) := by omega
            rw [← hp] at hhi hs1 hneg; have hpd : (p : Int) / 2 ^ Int.toNat 32 = ((p / B32 : Nat) : Int) := by
              have : (2 : Int) ^ Int.toNat 32 = ((B32 : Nat) : Int) := rfl; rw [this, Int.natCast_ediv]
            have hpw : IntKind.u32.wrap (p : Int) = ((p % B32 : Nat) : Int) := Z1p p; have hlo := Nat.mod_lt p (show 0 < B32 by decide); generalize p % B32 = lo at hpw hlo hs1 hneg; have hlw : IntKind.i64.wrap (lo : Int) = lo := InR.wrap (k := .i64) (by simp only [InR]; omega); have hxw : IntKind.i64.wrap (xd : Int) = xd := InR.wrap (k := .i64) (by simp only [InR]; omega); have hsw : IntKind.u32.wrap (s : Int) = s := Z16 hsB; have hltI : (t.length : Int) < ((m + 1 + 1 : Nat) : Int) := by omega
            have hset' : ((mulR us j t 0).map u32V).set (j + t.length) (.int .u32 (s : Int)) = (mulR us j (t ++ [s]) 0).map u32V := hset; have htl' : (t ++ [s]).length = t.length + 1 := by simp
            have hod' : ∀ d ∈ t ++ [s], d < B32 := fun d hd => by
              rcases List.mem_append.1 hd with hd | hd
              · exact htd d hd
              · rw [List.mem_singleton] at hd; subst hd; exact hsB
            have hgv64 : InR .u64 (gv : Int) := by simp only [InR]; omega
            have hp64 : InR .u64 (p : Int) := by simp only [InR]; unfold B32 at hca; omega
            have htjI : InR .i64 ((t.length : Int) + (j : Int)) := by simp only [InR]; omega
            have htjB : (0 : Int) ≤ (t.length : Int) + (j : Int) ∧ (t.length : Int) + (j : Int) < ((x.length + 1 : Nat) : Int) := by omega
            have hxbI : InR .i64 ((xd : Int) - (bo : Int)) := by simp only [InR]; unfold B32 at hdx; omega
            have hxlI : InR .i64 ((xd : Int) - (bo : Int) - (lo : Int)) := by simp only [InR]; unfold B32 at hdx hlo; omega
            have hs64 : InR .i64 (s : Int) := by simp only [InR]; unfold B32 at hsB; omega
            have hti1 : InR .i64 ((t.length : Int) + 1) := by simp only [InR]; omega
            have hrl' : j + t.length < (mulR us j t 0).length := by omega
            have hs0 : ¬ (s : Int) < 0 := by omega
            have hst := hstep.out; rw [← hgv', ← hp] at hst; clear hstep
            replace hst := Hid.mk hst
            rcases (by omega : b = 0 ∨ b = 1) with hb | hb
            · have hn : ¬ (xd : Int) - bo - lo < 0 := fun h => by have := hneg.1 h; omega
              have hsI : (xd : Int) - bo - lo = (s : Int) := by rw [hb] at hs1; omega
              refine Wd [] ?_; simp -implicitDefEqProofs only [natV, List.length_map, hltI, hgv, hw1 vd hdv2, hgvI, hpI, hpd, Z4s t.length j, hgx, hxw, hpw, hlw, hsI, hs0, hsw, hset', hvl, go_sem]; refine ⟨hgv64, hp64, ⟨by omega, by omega⟩, htjI, htjB, hrl', hxbI, hs64, htjI, htjB, ⟨hrl', rfl⟩, hti1, (t ++ [s], p / B32, 0), ⟨⟨rfl, rfl, by simp⟩, .inl rfl⟩, ⟨by simp only; omega, hod', hhi, by simp only; omega, ?_⟩, by simp only; omega⟩; have h3 := hst.out; rw [hb] at h3; simp only; rw [htl']; exact h3
            · have hn : (xd : Int) - bo - lo < 0 := hneg.2 hb
              have hsI : (xd : Int) - bo - lo + 4294967296 = (s : Int) := by rw [hb, Nat.one_mul] at hs1; unfold B32 at hs1; omega
              refine Wd [] ?_; simp -implicitDefEqProofs only [natV, List.length_map, hltI, hgv, hw1 vd hdv2, hgvI, hpI, hpd, Z4s t.length j, hgx, hxw, hpw, hlw, hn, hsI, hsw, hset', hvl, go_sem]; refine ⟨hgv64, hp64, ⟨by omega, by omega⟩, htjI, htjB, hrl', hxbI, hxlI, hs64, htjI, htjB, ⟨hrl', rfl⟩, hti1, (t ++ [s], p / B32, 1), ⟨⟨rfl, rfl, by simp⟩, .inl rfl⟩, ⟨by simp only; omega, hod', hhi, by simp only; omega, ?_⟩, by simp only; omega⟩; have h3 := hst.out; rw [hb] at h3; simp only; rw [htl']; exact h3
          · have hltI : ¬ (t.length : Int) < ((m + 1 + 1 : Nat) : Int) := by omega
            have htM : t.length = y.length := by omega
            refine Wd [] ?_; simp -implicitDefEqProofs only [natV, hltI, go_sem]; refine ⟨(t, ca, bo), ⟨⟨rfl, rfl⟩, .inl rfl⟩, htM, htd, hca, hbo, ?_⟩; have := hsv.out; rw [htM, List.take_of_length_le (show v.length ≤ y.length by omega), hVv.out] at this; exact this
        · rintro ⟨t, ca, bo⟩ ⟨htM, htd, hca, hbo, hsv⟩
          simp only at htM htd hca hbo hsv; have hjt : j + t.length < us.length := by omega
          have hgx := Z4h (z := 0) hjt; rw [htM, hu0e] at hgx; have hrl := Z13 (o := us) (i := j) (r := t) (z := 0) (by omega); have hTW := Z6c htd (show t.length ≤ t.length from Nat.le_refl _); rw [List.take_length, htM] at hTW; have hVW' : V ≤ B32 ^ y.length := Nat.le_of_lt hVW.out; have hends := Zhp (L := valD B32 ((us.drop j).take y.length)) (W := B32 ^ y.length) hVpos hVW' hTW hUlow.out hsv hgQ; have hx0 : IntKind.i64.wrap (u0 : Int) = u0 := InR.wrap (k := .i64) (by simp only [InR]; unfold B32 at hd0; omega); have hc0 : IntKind.i64.wrap (ca : Int) = ca := InR.wrap (k := .i64) (by simp only [InR]; unfold B32 at hca; omega); have hjMi : InR .i64 ((j : Int) + (y.length : Int)) := by simp only [InR]; omega
          have hjMb : (0 : Int) ≤ (j : Int) + (y.length : Int) ∧ (j : Int) + (y.length : Int) < ((x.length + 1 : Nat) : Int) := by omega
          have hrl' : j + y.length < (mulR us j t 0).length := by omega
          have hub : InR .i64 ((u0 : Int) - (bo : Int)) := by simp only [InR]; unfold B32 at hd0; omega
          have hnext := fun (rem : List Nat) h1 h2 h3 => Zea (rem := rem) (M := y.length) hVpos hJ husl hjM husd hqsd hval.out hUsplit.out hUB.out h1 h2 h3
          rcases hends with ⟨hgE, htopE, hTE⟩ | ⟨hgE, htopE, hTE⟩
          · have hdI : (u0 : Int) - (bo : Int) - (ca : Int) = 0 := by omega
            have hset := Z3b (z := 0) (v := 0) hjt; rw [htM] at hset; have hset' : ((mulR us j t 0).map u32V).set (j + y.length) (.int .u32 0) = (mulR us j (t ++ [0]) 0).map u32V := hset; have hw00 : IntKind.u32.wrap 0 = 0 := rfl; have hqset := Zbe j g qs; have hql := Zbf (j + 1) qs; have hgw : IntKind.u32.wrap (g : Int) = g := Z16 hgB; refine Wd [] ?_; have h00 : ¬ (0 : Int) < 0 := by omega
            simp -implicitDefEqProofs only [natV, List.length_map, hix.out.1, hgx, hx0, hc0, hdI, hw00, hset', h00, hgw, Int.toNat_natCast, hqset, go_sem]; have hjI : InR .i64 ((j : Int) - 1) := by simp only [InR]; omega
            refine ⟨hjMi, hjMb, hrl', hub, by simp only [InR]; omega, hjMi, hjMb, ⟨hrl', rfl⟩, by omega, ⟨by omega, rfl⟩, ?_⟩; refine Wd [] ?_; simp -implicitDefEqProofs only [go_sem]; rw [hgE]; exact ⟨hjI, (j, mulR us j (t ++ [0]) 0, U / V :: qs), ⟨rfl, .inl rfl, .inl rfl⟩, hnext t htM htd hTE, by simp only; omega⟩
          · have hdI : (u0 : Int) - (bo : Int) - (ca : Int) = -1 := by omega
            have hset := Z3b (z := 0) (v := 4294967295) hjt; rw [htM] at hset; have hset' : ((mulR us j t 0).map u32V).set (j + y.length) (.int .u32 4294967295) = (mulR us j (t ++ [4294967295]) 0).map u32V := hset; have hw00 : IntKind.u32.wrap (-1) = 4294967295 := rfl; have hneg1 : (-1 : Int) < 0 := by omega
            obtain ⟨Q, hQ⟩ : ∃ Q, Q = U / V := ⟨_, rfl⟩; rw [← hQ] at hgE hnext; have hg1I : (g : Int) - 1 = (Q : Int) := by omega
            have hgQ64 : InR .u64 (Q : Int) := by simp only [InR]; unfold B32 at hgB; omega
            have hQB : Q < B32 := by omega
            have hql := Zbf (j + 1) qs; have hj1I : InR .i64 ((j : Int) - 1) := by simp only [InR]; omega
            have hjK : j < K + 1 := by omega
            have hjq : j < (dnR (j + 1) qs).length := by omega
            have hL2 : x.length + 1 ≤ 2000 := by omega
            refine AWp.seq (Wd [] ?_); simp -implicitDefEqProofs only [natV, List.length_map, hix.out.1, hgx, hx0, hc0, hdI, go_sem]; refine ⟨hjMi, hjMb, hrl', hub, by simp only [InR]; omega, ?_⟩; refine AWp.seq (Wd [] ?_); simp -implicitDefEqProofs only [natV, List.length_map, hix.out.1, hw00, hset', Int.toNat_natCast, go_sem]; refine ⟨hjMi, hjMb, ⟨hrl', rfl⟩, ?_⟩
            refine AWp.seqM (fun rem : List Nat => ⟨mkF 295 [(8, .p (.int .i64 n)), (9, .own 0 (x.length + 1)), (10, .p (natV v)), (11, .p (.int .i64 y.length)), (12, .own 1 (K + 1)), (13, .p (.int .i64 j)), (15, .p (.int .u64 Q))], [.row 136 1 ((mulR us j (rem ++ [0]) 0).map u32V) .own, .row 136 1 (dnR (j + 1) qs) .own]⟩)
              (fun rem => rem.length = y.length ∧ (∀ d ∈ rem, d < B32) ∧ valD B32 rem = U % V) ?_ ?_
            · obtain ⟨w, hw⟩ : ∃ w, w = mulR us j (t ++ [4294967295]) 0 := ⟨_, rfl⟩
              have hwl : w.length = us.length := by rw [hw, Z13 (by simp; omega)]; rfl
              have hwd : ∀ d ∈ w, d < B32 := by
                rw [hw]; refine Z6n husd fun d hd => ?_
                rcases List.mem_append.1 hd with hd | hd
                · exact htd d hd
                · rw [List.mem_singleton] at hd; subst hd; decide
              obtain ⟨_, hw2, hw3', hw4⟩ := Z9b (us := us) (rem := t) (j := j) (c := 4294967295) hjt; rw [← hw, htM] at hw2 hw3' hw4; have htw : mulR us j t 0 = mulR us j t 0 := rfl; have htwice := fun (s : List Nat) b hs => Zd7 (us := us) (t := t) (s := s) (j := j) (a := 4294967295) (b := b) hjt hs
              rw [← hw] at htwice; rw [← hw]; refine Wd [] ?_; simp -implicitDefEqProofs only [natV, List.length_map, hneg1, hg1I, hvl, go_sem]; refine ⟨hgQ64, ?_⟩
              refine AWp.loopI (fun z : List Nat × Nat => ⟨mkF 295 [(8, .p (.int .i64 n)), (9, .own 0 (x.length + 1)), (10, .p (natV v)), (11, .p (.int .i64 y.length)), (12, .own 1 (K + 1)), (13, .p (.int .i64 j)), (15, .p (.int .u64 Q)), (23, .p (.int .u64 z.2)), (214, .p (.int .i64 ((m + 1 + 1 : Nat) : Int))), (215, .p (.int .i64 z.1.length))], [.row 136 1 ((mulR w j z.1 0).map u32V) .own, .row 136 1 (dnR (j + 1) qs) .own]⟩)
                (fun z => z.1.length ≤ y.length ∧ (∀ d ∈ z.1, d < B32) ∧ z.2 ≤ 1 ∧ valD B32 z.1 + z.2 * B32 ^ z.1.length = valD B32 (t.take z.1.length) + valD B32 (v.take z.1.length)) (fun z => y.length - z.1.length) ([], 0) (by
                simp [go_sem, natV, Z5s]) ⟨by simp, by simp, by simp, by simp [valD]⟩ ?_
              rintro ⟨s, c⟩ ⟨hsl, hsd, hc, hbv⟩; simp only at hsl hsd hc hbv
              replace hbv := Hid.mk hbv
              replace hTE := Hid.mk hTE
              replace hsv := Hid.mk hsv
              replace hTW := Hid.mk hTW
              replace hVW' := Hid.mk hVW'
              have h3264 : (0 : Int) ≤ 32 ∧ (32 : Int) < ((64 : Nat) : Int) := ⟨by decide, by decide⟩; by_cases hlt : s.length < y.length
              · have hjs : j + s.length < w.length := by rw [hwl]; exact Nat.lt_trans (Nat.add_lt_add_left hlt j) hjM
                have hgx2 := Z4h (z := 0) hjs; have hwt : w.getD (j + s.length) 0 = t.getD s.length 0 := by
                  rw [← hw3', List.getD_eq_getElem?_getD, List.getD_eq_getElem?_getD, List.getElem?_take, if_pos hlt, List.getElem?_drop]
                rw [hwt] at hgx2; have hst := Hid.mk (Zgx hbv.out); have hdt := Z0q htd (show s.length < t.length by rw [htM]; exact hlt); have hvt2 : s.length < v.length := by rw [hvl, ← hm]; exact hlt
                have hgv := Z0e hvt2; have hdv2 := Z0q hvd hvt2; have hset2 := fun v => Z3b (z := 0) (v := v) hjs
                have hrl2 := Z13 (o := w) (i := j) (r := s) (z := 0) (Nat.le_of_lt hjs); generalize t.getD s.length 0 = td at hgx2 hst hdt; generalize v.getD s.length 0 = vd at hgv hst hdv2; obtain ⟨k, hk⟩ : ∃ k, k = td + vd + c := ⟨_, rfl⟩; obtain ⟨htv64, hk64, hkB, hkI⟩ := Zsa hdt hdv2 hc hk; have hkw : IntKind.u32.wrap (k : Int) = ((k % B32 : Nat) : Int) := Z1p k; have hkd : (k : Int) / 2 ^ Int.toNat 32 = ((k / B32 : Nat) : Int) := by
                  have : (2 : Int) ^ Int.toNat 32 = ((B32 : Nat) : Int) := rfl; rw [this, Int.natCast_ediv]
                have hkm := Nat.mod_lt k (show 0 < B32 by decide); have hset2' : ((mulR w j s 0).map u32V).set (j + s.length) (.int .u32 ((k % B32 : Nat) : Int)) = (mulR w j (s ++ [k % B32]) 0).map u32V := hset2 _; have hltI : (s.length : Int) < ((m + 1 + 1 : Nat) : Int) := Int.ofNat_lt.2 (hm ▸ hlt); obtain ⟨htjI, htjB, hti1⟩ := Zed (L := x.length + 1) hlt (by rw [← husl]; exact hjM) hL2; have hrl3 : j + s.length < (mulR w j s 0).length := by rw [hrl2, Nat.add_zero]; exact hjs
                have hlen : (s ++ [k % B32]).length = s.length + 1 := by simp
                rw [← hk] at hst; refine Wd [(40, 16)] ?_; simp -implicitDefEqProofs only [natV, List.length_map, hltI, hgv, hw1 vd hdv2, hw1 td hdt, Z4s s.length j, hgx2, hkI, hkw, hkd, hset2', hvl, go_sem]; refine ⟨htjI, htjB, hrl3, htv64, hk64, htjI, h3264, htjB, ⟨hrl3, rfl⟩, hti1, (s ++ [k % B32], k / B32), ⟨⟨rfl, by simp⟩, .inl rfl⟩, ⟨by simp only; rw [hlen]; exact hlt, fun d hd => ?_, hkB, ?_⟩, by simp only; rw [hlen]; exact Nat.sub_lt_sub_left hlt (Nat.lt_succ_self _)⟩
                · rcases List.mem_append.1 hd with hd | hd
                  · exact hsd d hd
                  · rw [List.mem_singleton] at hd; subst hd; exact hkm
                · simp only
                  rw [hlen]; exact hst.out
              · have hltI : ¬ (s.length : Int) < ((m + 1 + 1 : Nat) : Int) := fun h => hlt (by rw [hm]; exact Int.ofNat_lt.1 h)
                have hsM : s.length = y.length := Nat.le_antisymm hsl (Nat.le_of_not_lt hlt); have hb := hbv.out; rw [hsM, List.take_of_length_le (Nat.le_of_eq htM), List.take_of_length_le (Nat.le_of_eq (hvl.trans hm.symm)), hVv.out] at hb; have hSW := Z6c hsd (show s.length ≤ s.length from Nat.le_refl _); rw [List.take_length, hsM] at hSW; obtain ⟨hc1, hsE⟩ := Zgy hSW (Nat.mod_lt _ hVpos) hVW'.out hTE.out hb; subst hc1; have hjs : j + s.length < w.length := by rw [hwl, hsM]; exact hjM
                have hgx2 := Z4h (z := 0) hjs; have hset2 := Z3b (z := 0) (v := 0) hjs; have hrl2 := Z13 (o := w) (i := j) (r := s) (z := 0) (Nat.le_of_lt hjs); have htw2 := htwice s 0 (hsM.trans htM.symm); rw [hsM, hw4] at hgx2; rw [hsM, htw2] at hset2; have hset2' : ((mulR w j s 0).map u32V).set (j + y.length) (.int .u32 0) = (mulR us j (s ++ [0]) 0).map u32V := hset2; have hw1' : IntKind.u32.wrap ((1 : Nat) : Int) = ((1 : Nat) : Int) := Z16 (by decide); have hws := Zdr; have hgx3 : ((mulR w j s 0).map u32V).getD (j + y.length) default = .int .u32 4294967295 := hgx2; have hrl3 : j + y.length < (mulR w j s 0).length := by rw [hrl2, Nat.add_zero, hwl]; exact hjM
                refine Wd [(40, 16)] ?_; simp -implicitDefEqProofs only [natV, List.length_map, hltI, hix.out.1, hgx3, hw1', hws, hset2', go_sem]; exact ⟨hjMi, hjMb, hrl3, hjMb, ⟨hrl3, rfl⟩, s, .inl rfl, hsM, hsd, hsE⟩
            · rintro rem ⟨hrl2, hrd, hrv⟩
              have hqset := Zbe j Q qs; have hgw : IntKind.u32.wrap (Q : Int) = Q := Z16 hQB; have hjI : InR .i64 ((j : Int) - 1) := hj1I; have hn := hnext rem hrl2 hrd hrv; refine Wd [] ?_; simp -implicitDefEqProofs only [hgw, Int.toNat_natCast, hqset, go_sem]; refine ⟨hjK, ⟨hjq, rfl⟩, ?_⟩; refine Wd [] ?_; simp -implicitDefEqProofs only [natV, go_sem]; exact ⟨hjI, (j, mulR us j (rem ++ [0]) 0, Q :: qs), ⟨rfl, .inl rfl, .inl rfl⟩, hn, Nat.lt_succ_self j⟩
  · rintro ⟨us, qs⟩ ⟨husl, hqsl, husd, hqsd, hval, hlt2, hzero⟩
    simp only at husl hqsl husd hqsd hval hlt2 hzero; rw [hVe] at hval hlt2; obtain ⟨hq, hr, hu0⟩ := Zj2 hn hpos hyp (by omega) hval hlt2; clear hcmp hlt hneg hval hlt2; refine AWp.seq (Wd [] ?_); simp -implicitDefEqProofs only [Int.toNat_natCast, go_sem]; refine ⟨by omega, ?_⟩; refine AWp.seq (Wd [] ?_); simp -implicitDefEqProofs only [go_sem]
    refine AWp.loopI (fun o : List Nat => ⟨mkF 295 [(8, .p (.int .i64 n)), (9, .own 0 (x.length + 1)), (12, .own 1 (K + 1)), (26, .own 2 y.length), (261, .p (.int .i64 y.length)), (262, .p (.int .i64 o.length))], [.row 136 1 (us.map u32V) .own, .row 136 1 (qs.map u32V) .own, .row 136 1 (upR o (y.length - o.length)) .own]⟩)
      (fun o => o.length ≤ y.length ∧ (∀ d ∈ o, d < B32) ∧ valD B32 (us.take o.length) + us.getD o.length 0 % 2 ^ n * B32 ^ o.length = 2 ^ n * valD B32 o) (fun o => y.length - o.length) [] (by
        simp [go_sem, Zkp]) ⟨Nat.zero_le _, by simp, by rw [List.length_nil, List.take_zero, hu0]; simp [valD]⟩ ?_
    rintro o ⟨hol, hod, hov⟩; by_cases hlt : o.length < y.length
    · have hou : o.length + 1 < us.length := by omega
      have hg0 := Z0e (l := us) (i := o.length) (Nat.lt_of_succ_lt hou); have hg1 := Z0e hou; have hd0 := Z0q husd (Nat.lt_of_succ_lt hou); have hst := Zhv (e := 0) hn (by rw [Nat.zero_add]; exact hov); obtain ⟨hdB, hdk, hpp, hww⟩ := Ze4 (us.getD (o.length + 1) 0) hn hd0; generalize us.getD o.length 0 = u at hg0 hd0 hst hdB hdk; generalize hwe : us.getD (o.length + 1) 0 = w at hg1 hst hdB hww; obtain ⟨z, hz⟩ : ∃ z, y.length - o.length = z + 1 := ⟨y.length - o.length - 1, by omega⟩; have hltI : (o.length : Int) < (y.length : Int) := Int.ofNat_lt.2 hlt; have hsh : (u : Int) / 2 ^ n = ((u / 2 ^ n : Nat) : Int) := by rw [Int.natCast_ediv]; simp
      have hset := Zko o z (u / 2 ^ n); have hget := Zkq o z (u / 2 ^ n); have hover := fun v => Zhl o z (u / 2 ^ n) v
      have hl0 := Zdu o (z + 1); have hl1 := Zdu (o ++ [u / 2 ^ n]) z; have ho1 := Hid.mk (show ((o.length : Int) + 1).toNat = o.length + 1 by omega); have hoI : InR .i64 ((o.length : Int) + 1) := by simp only [InR]; omega
      have ho0 : (0 : Int) ≤ (o.length : Int) ∧ (o.length : Int) < ((x.length : Int) + 1) := by omega
      have hn64 : (n : Int) < ((32 : Nat) : Int) := by omega
      rw [hz]; by_cases hn0 : n = 0
      · subst hn0
        have hnI : ¬ (0 : Int) < ((0 : Nat) : Int) := by omega
        refine Wd [(51, 14)] ?_; simp -implicitDefEqProofs only [hltI, List.length_map, Int.toNat_natCast, hg0, hsh, hset, hnI, go_sem]; have hw0 : w % 2 ^ 0 = 0 := Nat.mod_one w; rw [hw0] at hst hdB; rw [Nat.zero_mul, Nat.add_zero] at hdB; have hlen : (o ++ [u / 2 ^ 0]).length = o.length + 1 := by simp
        refine ⟨by omega, by omega, by omega, ⟨by omega, rfl⟩, hoI, o ++ [u / 2 ^ 0], ⟨by simp, .inl ?_⟩, ⟨by rw [hlen]; exact hlt, fun d hd => ?_, ?_⟩, by rw [hlen]; omega⟩
        · rw [hlen, show y.length - (o.length + 1) = z by omega]
        · rcases List.mem_append.1 hd with hd | hd
          · exact hod d hd
          · rw [List.mem_singleton] at hd; subst hd; exact hdB
        · rw [hlen, hwe, hw0]
          simpa using hst
      · have hnI : (0 : Int) < (n : Int) := by omega
        have h32 := Hid.mk (show ((32 : Int) - (n : Int)).toNat = 32 - n by omega); have hk1 : (w : Int) * 2 ^ (32 - n) = ((w * 2 ^ (32 - n) : Nat) : Int) := by simp
        have hor : Z1n .or .u32 ((u / 2 ^ n : Nat) : Int) (IntKind.u32.wrap ((w : Int) * 2 ^ (32 - n))) = ((u / 2 ^ n + w % 2 ^ n * 2 ^ (32 - n) : Nat) : Int) := by rw [hk1, hww]; exact Zjz hdk hdB
        obtain ⟨d, hd⟩ : ∃ d, d = u / 2 ^ n + w % 2 ^ n * 2 ^ (32 - n) := ⟨_, rfl⟩; rw [← hd] at hst hdB hor; have hov2 := hover d; refine Wd [(51, 14)] ?_; simp -implicitDefEqProofs only [hltI, List.length_map, Int.toNat_natCast, hg0, hsh, hset, hnI, hget, ho1.out, hg1, h32.out, hor, hov2, go_sem]; have hlen : (o ++ [d]).length = o.length + 1 := by simp
        have hlen2 : (o ++ [u / 2 ^ n]).length = o.length + 1 := by simp
        have hl3 : o.length < (upR (o ++ [u / 2 ^ n]) z).length := by omega
        refine ⟨by omega, by omega, by omega, ⟨by omega, rfl⟩, hl3, hoI, ⟨by omega, by omega⟩, hou, by simp only [InR]; omega, ⟨by omega, by omega⟩, ⟨hl3, rfl⟩, hoI, o ++ [d], ⟨by simp, .inl ?_⟩, ⟨by rw [hlen]; exact hlt, fun e he => ?_, ?_⟩, by rw [hlen]; omega⟩
        · rw [hlen, show y.length - (o.length + 1) = z by omega]
        · rcases List.mem_append.1 he with he | he
          · exact hod e he
          · rw [List.mem_singleton] at he; subst he; exact hdB
        · rw [hlen, hwe, hst, Nat.zero_add]
    · have hltI : ¬ (o.length : Int) < (y.length : Int) := fun h => hlt (Int.ofNat_lt.1 h)
      have hoM : o.length = y.length := Nat.le_antisymm hol (Nat.le_of_not_lt hlt); rw [hoM, hzero, Nat.zero_mod, Nat.zero_mul, Nat.add_zero, hr, Nat.mul_comm] at hov; have hoE : valD B32 o = valD B32 x % valD B32 y := (Nat.eq_of_mul_eq_mul_left (Nat.two_pow_pos n) hov).symm; rw [hoM, Nat.sub_self, Zhm]; refine Wd [(51, 14)] ?_; simp -implicitDefEqProofs only [hltI, Nat.lt_irrefl, go_sem]; refine AWp.freeze 1 rfl ?_; refine AWp.freeze 2 rfl ?_; refine Wd [] ?_; simp -implicitDefEqProofs only [Z17, go_sem]; have eq1 := u91 qs (by omega); rw [Z1q (B := B32) (by decide) hqsd, hq] at eq1; have eq2 := u91 o (by omega); rw [Z1q (B := B32) (by decide) hod, hoE] at eq2; refine Z0 eq1 (.pures rfl) ?_; simp -implicitDefEqProofs only [go_sem]; refine Z0 eq2 (.pures rfl) ?_; simp -implicitDefEqProofs only [natV, go_sem]

theorem Z60 {E : Env} {tm : List AV} {h : List AObj} {KS : St → Prop} {d : Option Nat} {b : Nat} {args : List AV} {ks : List Nat} {R : AV → List AObj → Prop} (hf : YC E.P b args h ks R) (hks : ∀ k ∈ ks, E.n0 ≤ k ∨ k ∈ E.ks)
    (hk : ∀ v h', R v h' → KS ⟨putD (Za ks tm) d v, h'⟩) : Z37 E ⟨tm, h⟩ d (.yld b) args KS := ⟨ks, R, hf, hks, hk⟩

theorem Z1l {n : Nat} (h : n < capN) : (digD B32 n).length ≤ 1000 := by have := Z0i h; omega
theorem Z56 {n : Nat} : digD B32 n = [] ↔ n = 0 := ⟨fun h => Z8y (by decide) h, fun h => by rw [h]; rfl⟩

theorem Zkn (a b : Nat) (ha : a < capN) (hb : b < capN) (hb0 : b ≠ 0) : PFn Tryz.prog 237 [natV (digD B32 a), natV (digD B32 b)] [natV (digD B32 (a / b)), natV (digD B32 (a % b))] := by
  have := v167 (digD B32 a) (digD B32 b) (Zv (by decide) a) (Zv (by decide) b) (Z1l ha) (Z1l hb) (fun h => hb0 (Z56.1 h))
  rwa [Z8 (by decide), Z8 (by decide)] at this

def gcH (A B : List AV) (last : AV) (x y : Nat) (rec : AObj) : List AObj := [.box A, .box B, .box [.p (.bool false), .p (.str [])], .box [last], .box [.p (natV (digD B32 x))], .box [.p (natV (digD B32 y))], rec]

theorem v166 {h : List AObj} (x y : PV) (hx : ∃ l, x = .sl l) (hy : ∃ l, y = .sl l) : AC Tryz.prog 236 [.p x, .p y] h [] (fun v h' => v = .fn 260 [.ptr h.length 0, .ptr (h.length + 1) 0] ∧ h' = h ++ [.box [.p x], .box [.p y]]) := by
  obtain ⟨lx, rfl⟩ := hx; obtain ⟨ly, rfl⟩ := hy; refine AC.of_bodyE hΓ Tryz.func236 (by kernel_rfl) rfl (AWp.mono (Q := fun e st => AM.Ends e ∧ st.tmps.getD 4 .junk = .fn 260 [.ptr h.length 0, .ptr (h.length + 1) 0] ∧ st.h = h ++ [.box [.p (.sl lx)], .box [.p (.sl ly)]]) ?_ ?_)
  rotate_left
  · rintro e ⟨tm, h'⟩ ⟨he, h1, h2⟩
    simp only at h1 h2; subst h2; refine ⟨he, _, Less.refl _, ?_⟩; unfold Z4q; simp +contextual -implicitDefEqProofs only [Tryz.results236, h1, go_sem]; exact ⟨h.length + 2, by omega, .inl (by simp), List.take_of_length_le (by simp)⟩
  refine Wd [] ?_; simp -implicitDefEqProofs only [Tryz.ntmps236, Nat.reduceAdd, Nat.reduceSub, go_sem]; simp

theorem c193 {A B : List AV} (L : AV) (x y : Nat) (rec : AObj) (hx : x < capN) (hy : y < capN)
    (hround : ∀ (L : AV) (x y : Nat), YC Tryz.prog 6 [.p (natV (digD B32 x)), .p (natV (digD B32 y))] (gcH A B L x y rec) [] (fun v h' => v = .p (.bool true) ∧ h' = gcH A B (.p (natV (digD B32 x))) x y rec)) :
    AC Tryz.prog 260 [.yld 6, .ptr 4 0, .ptr 5 0] (gcH A B L x y rec) [] (fun _ h' => h' = gcH A B (.p (natV (digD B32 (Nat.gcd x y)))) (Nat.gcd x y) 0 rec) := by
  refine AC.of_bodyE hΓ Tryz.func260 (by kernel_rfl) rfl (AWp.mono (Q := fun e st => AM.Ends e ∧ st.h = gcH A B (.p (natV (digD B32 (Nat.gcd x y)))) (Nat.gcd x y) 0 rec) ?_ ?_)
  rotate_left
  · rintro e ⟨tm, h'⟩ ⟨he, h2⟩
    simp only at h2; subst h2; refine ⟨he, _, Less.refl _, ?_⟩; unfold Z4q; simp -implicitDefEqProofs only [Tryz.results260, go_sem]; exact ⟨7, by simp [gcH], .inl rfl, List.take_of_length_le (by simp [gcH])⟩
  refine Wd [] ?_; simp -implicitDefEqProofs only [Tryz.ntmps260, Nat.reduceAdd, Nat.reduceSub, go_sem]
  refine AWp.loopI (fun z : AV × Nat × Nat => ⟨mkF 23 [(0, .yld 6), (1, .ptr 4 0), (2, .ptr 5 0)], gcH A B z.1 z.2.1 z.2.2 rec⟩)
    (fun z => Nat.gcd z.2.1 z.2.2 = Nat.gcd x y ∧ z.2.1 < capN ∧ z.2.2 < capN) (fun z => z.2.2) (L, x, y) (by simp [go_sem, Zy]) ⟨rfl, hx, hy⟩ ?_
  rintro ⟨L, X, Y⟩ ⟨hg, hX, hY⟩; simp only at hg hX hY; refine Wd [] ?_; unfold gcH; simp -implicitDefEqProofs only [go_sem]; refine Z60 (hround L X Y) (by simp) ?_; rintro v h' ⟨rfl, rfl⟩; unfold gcH; by_cases hY0 : Y = 0
  · subst hY0
    have hz : ¬ (0 : Int) < ((0 : Nat) : Int) := by omega
    simp -implicitDefEqProofs only [Za, List.foldl, natV, Z4m, List.map_nil, hz, go_sem]; rw [Nat.gcd_zero_right] at hg; rw [← hg]; exact ⟨rfl, rfl⟩
  · have hp : (0 : Int) < ((digD B32 Y).length : Int) := by
      have : digD B32 Y ≠ [] := fun h => hY0 (Z56.1 h)
      have := List.length_pos_iff.2 this; omega
    simp -implicitDefEqProofs only [Za, List.foldl, natV, List.length_map, hp, go_sem]; refine Z0 (Zkn X Y hX hY hY0) (.pures rfl) ?_; simp -implicitDefEqProofs only [natV, go_sem]; have hm := Nat.mod_lt X (Nat.pos_of_ne_zero hY0); refine ⟨(.p (.sl ((digD B32 X).map u32V)), Y, X % Y), ⟨rfl, rfl, rfl⟩, ⟨?_, hY, by simp only; omega⟩, hm⟩; simp only; rw [← hg, Nat.gcd_comm X Y, Nat.gcd_rec Y X, Nat.gcd_comm]

theorem Z54 {a b : Nat} (ha : a < capN) (hb : b < capN) : Nat.gcd a b < capN := by
  rcases Nat.eq_zero_or_pos a with h | h
  · subst h; rwa [Nat.gcd_zero_left]
  · exact Nat.lt_of_le_of_lt (Nat.gcd_le_left b h) ha

theorem v140 (s t : Bool) (a b : Nat) (ha : a < capN) (hb : b < capN) : PFn Tryz.prog 190 [intN s a, intN t b] [intN false (Nat.gcd a b)] := by
  have ea := u69n s a ha; have eb := u69n t b hb; have hG := Z54 ha hb; have e2 := u66 false (digD B32 (Nat.gcd a b)) (Z02 _) (by have := Z1l hG; omega); rw [Z8 (by decide)] at e2; unfold intN intV at ea eb ⊢; generalize (s && decide (a ≠ 0)) = S at ea ⊢; generalize (t && decide (b ≠ 0)) = T at eb ⊢; refine PFn.of_body hΓ Tryz.func190 (by kernel_rfl) rfl (Wd [(2, 1000)] ?_); simp -implicitDefEqProofs only [Tryz.ntmps190, Tryz.results190, Nat.reduceAdd, Nat.reduceSub, go_sem]; refine AWp.planL (.q 0 (.q 2 (.e 1 (.s 2 (.e 3 (.e 4 .fin .nil) .nil)) .nil))) hΓ hmix (by kernel_rfl) ?_; simp -implicitDefEqProofs only [go_sem]; refine Z0 ea (.still rfl) ?_; simp -implicitDefEqProofs only [go_sem]; refine Z0 eb (.still rfl) ?_; simp -implicitDefEqProofs only [go_sem]; refine Zl (v166 _ _ ⟨_, rfl⟩ ⟨_, rfl⟩) (by simp) ?_; rintro v h' ⟨rfl, rfl⟩; simp -implicitDefEqProofs only [Za, List.foldl, List.cons_append, List.nil_append, List.length_cons, List.length_nil, Nat.reduceAdd, go_sem]; rw [show (#[12, 13] : Array Nat) = [12, 13].toArray from rfl]; refine AWp.rangeFunc (ks := []) (R := fun _ h' => h' = gcH [.p (.bool S), .p (.str (magB a))] [.p (.bool T), .p (.str (magB b))] (.p (natV (digD B32 (Nat.gcd a b)))) (Nat.gcd a b) 0 (.lp _ _ _ _ _)) rfl (c193 (A := [.p (.bool S), .p (.str (magB a))]) (B := [.p (.bool T), .p (.str (magB b))]) (.full []) a b (.lp _ _ _ _ _) ha hb ?_) (by simp) (by simp) ?_
  · intro L x y
    unfold gcH natV; refine YC.of_body (Γ := Γ) rfl rfl (by simp) ?_; intro rr; refine Wd [] ?_; simp -implicitDefEqProofs only [setP, go_sem]; unfold Zcy; refine ⟨rfl, ?_⟩; simp -implicitDefEqProofs only [go_sem]; refine Wd [] ?_; simp -implicitDefEqProofs only [go_sem]; unfold Z87; simp -implicitDefEqProofs only [go_sem]; refine ⟨_, ?_, .inl rfl, ?_⟩
    rotate_left
    · rw [List.take_length]
    · simp
  · rintro v h' rfl
    unfold Z88 gcH; simp -implicitDefEqProofs only [Za, List.foldl, go_sem]; refine Z0 e2 (.pures rfl) ?_; unfold intN intV; simp -implicitDefEqProofs only [go_sem]

theorem v141 (a b : Nat) (ha : a < capN) (hb : b < capN) (hb0 : b ≠ 0) : PFn Tryz.prog 191 [intN false a, intN false b] [intN false (a / b), intN false (a % b), .int .i64 0] := by
  have ea := u69n false a ha; have eb := u69n false b hb; have hq : a / b < capN := Nat.lt_of_le_of_lt (Nat.div_le_self _ _) ha; have hr : a % b < capN := Nat.lt_trans (Nat.mod_lt _ (Nat.pos_of_ne_zero hb0)) hb; have e1 := u66 false (digD B32 (a / b)) (Z02 _) (by have := Z1l hq; omega); have e2 := u66 false (digD B32 (a % b)) (Z02 _) (by have := Z1l hr; omega); rw [Z8 (by decide)] at e1 e2; have hbl : ¬ ((digD B32 b).length : Int) = 0 := by
    have : digD B32 b ≠ [] := fun h => hb0 (Z56.1 h)
    have := List.length_pos_iff.2 this; omega
  have hff : (false != false) = false := rfl; refine PFn.of_body hΓ Tryz.func191 (by kernel_rfl) rfl (Wd [(1, 1000), (7, 1000)] ?_); simp -implicitDefEqProofs only [Tryz.ntmps191, Tryz.results191, Nat.reduceAdd, Nat.reduceSub, Z4, go_sem]; refine AWp.planL (.q 0 (.q 2 (.e 1 (.s 2 (.e 3 (.q 4 (.q 5 .fin)) .nil)) .nil))) hΓ hmix (by kernel_rfl) ?_; simp -implicitDefEqProofs only [go_sem]; refine Z0 ea (.still rfl) ?_; simp -implicitDefEqProofs only [go_sem]; refine Z0 eb (.still rfl) ?_; simp -implicitDefEqProofs only [natV, List.length_map, hbl, go_sem]; refine Z0 (Zkn a b ha hb hb0) (.pures rfl) ?_; simp -implicitDefEqProofs only [hff, go_sem]; refine AWp.planL (.q 0 (.q 1 (.q 2 (.q 3 (.q 4 (.q 5 (.q 7 (.q 8 (.q 9 (.e 6 (.s 7 (.s 8 (.s 9 (.e 10 (.e 11 (.e 12 (.q 13 .fin) .nil) .nil) .nil)))) .nil)))))))))) hΓ hmix (by kernel_rfl) ?_; simp -implicitDefEqProofs only [hff, go_sem]; refine Z0 e1 (.pures rfl) ?_; simp -implicitDefEqProofs only [go_sem]; refine Z0 e2 (.pures rfl) ?_; simp -implicitDefEqProofs only [Z4, go_sem]

theorem u36 (a b : Nat) (ha : a < capN) (hb : b < capN) : PFn Tryz.prog 105 [intN false a, intN false b] [intN false (a * b)] := by
  have ea := u69n false a ha; have eb := u69n false b hb; have la := Z0i ha; have lb := Z0i hb; have e1 := u68 (digD B32 a) (digD B32 b) (Z02 a) (Z02 b) (by omega) (by omega); rw [Z8 (by decide), Z8 (by decide)] at e1; have hl : (digD B32 (a * b)).length ≤ 100 := by
    refine Z2a (by decide) ?_; rw [show (100 : Nat) = 50 + 50 from rfl, Nat.pow_add, ← Z90]; exact Nat.mul_lt_mul_of_lt_of_lt ha hb
  have e2 := u66 false (digD B32 (a * b)) (Z02 _) (by omega); rw [Z8 (by decide)] at e2; have hff : (false != false) = false := rfl; refine PFn.of_body hΓ Tryz.func105 (by kernel_rfl) rfl (Wd [(1, 11)] ?_); simp -implicitDefEqProofs only [Tryz.ntmps105, Tryz.results105, Nat.reduceAdd, Nat.reduceSub, Z4, go_sem]; refine Z1 ea (.still rfl) ?_; simp -implicitDefEqProofs only [go_sem]; refine Z1 eb (.still rfl) ?_; simp -implicitDefEqProofs only [go_sem]; refine Z1 e1 (.pures rfl) ?_; simp -implicitDefEqProofs only [hff, go_sem]; refine Z1 e2 (.pures rfl) ?_; simp -implicitDefEqProofs only [Z4, go_sem]

def ratV (n d : Nat) : PV := .agg [.bool false, .str (magB (n / Nat.gcd n d)), .bool false, .str (magB (d / Nat.gcd n d))]
theorem ratV_zero {d : Nat} (hd : d ≠ 0) : ratV 0 d = .agg [.bool false, .str (magB 0), .bool false, .str (magB 1)] := by
  unfold ratV; rw [Nat.gcd_zero_left, Nat.zero_div, Nat.div_self (Nat.pos_of_ne_zero hd)]
theorem one_cap : 1 < capN := Nat.one_lt_pow (by decide) (by decide)

theorem v100 (n d : Nat) (hn : n < capN) (hd : d < capN) (hd0 : d ≠ 0) : PFn Tryz.prog 138 [intN false n, intN false d] [ratV n d] := by
  have c1 := u33 d 0 hd Z0a; rw [Z0b (Nat.pos_of_ne_zero hd0)] at c1; have c2 := u33 n 0 hn Z0a; have h10 : ¬ (1 : Int) = 0 := by omega
  have h11 : ¬ (1 : Int) < 0 := by omega
  have e1 := u34 1 (by omega); by_cases hn0 : n = 0
  · subst hn0
    rw [Z24] at c2; rw [ratV_zero hd0]; refine PFn.of_body hΓ Tryz.func138 (by kernel_rfl) rfl (Wd [(5, 1000)] ?_); simp -implicitDefEqProofs only [Tryz.ntmps138, Tryz.results138, Nat.reduceAdd, Nat.reduceSub, Z4, go_sem]; refine Z0 c1 (.still rfl) ?_; simp -implicitDefEqProofs only [h10, go_sem]; refine Z0 c2 (.still rfl) ?_; simp -implicitDefEqProofs only [go_sem]; refine Z0 e1 (.pures rfl) ?_; simp -implicitDefEqProofs only [Z4, go_sem]; exact magB_zero.symm
  · rw [Z0b (Nat.pos_of_ne_zero hn0)] at c2
    have hG := Z54 hn hd; have hg0 : Nat.gcd n d ≠ 0 := fun h => hn0 (Nat.eq_zero_of_gcd_eq_zero_left h)
    have eg := v140 false false n d hn hd; have d1 := v141 n (Nat.gcd n d) hn hG hg0; have d2 := v141 d (Nat.gcd n d) hd hG hg0; refine PFn.of_body hΓ Tryz.func138 (by kernel_rfl) rfl (Wd [(5, 1000)] ?_); simp -implicitDefEqProofs only [Tryz.ntmps138, Tryz.results138, Nat.reduceAdd, Nat.reduceSub, Z4, go_sem]; refine Z0 c1 (.still rfl) ?_; simp -implicitDefEqProofs only [h10, go_sem]; refine Z0 c2 (.still rfl) ?_; simp -implicitDefEqProofs only [h10, h11, go_sem]; refine Z0 eg (.still rfl) ?_; simp -implicitDefEqProofs only [Z4, go_sem]; refine Z0 d1 (.still rfl) ?_; simp -implicitDefEqProofs only [Z4, go_sem]; refine Z0 d2 (.still rfl) ?_; simp -implicitDefEqProofs only [Z4, ratV, go_sem]; omega

theorem v96 (n d : Nat) (hn : n < capN) (hd : d < capN) (hd0 : d ≠ 0) : PFn Tryz.prog 100 [intN false n, intN false d] [ratV n d, .int .i64 0] := by
  have c1 := u33 d 0 hd Z0a; rw [Z0b (Nat.pos_of_ne_zero hd0)] at c1; have h10 : ¬ (1 : Int) = 0 := by omega
  have e := v100 n d hn hd hd0; refine PFn.of_body hΓ Tryz.func100 (by kernel_rfl) rfl (Wd [] ?_); simp -implicitDefEqProofs only [Tryz.ntmps100, Tryz.results100, Nat.reduceAdd, Nat.reduceSub, Z4, go_sem]; refine Z0 c1 (.still rfl) ?_; simp -implicitDefEqProofs only [h10, go_sem]; refine Z0 e (.still rfl) ?_; simp -implicitDefEqProofs only [ratV, go_sem]

theorem v52 (n : Nat) (hn : n < capN) : PFn Tryz.prog 72 [intN false n] [ratV n 1] := by
  have e1 := u34 1 (by omega); have e := v100 n 1 hn one_cap (by omega); refine PFn.of_body hΓ Tryz.func72 (by kernel_rfl) rfl (Wd [(1, 3)] ?_); simp -implicitDefEqProofs only [Tryz.ntmps72, Tryz.results72, Nat.reduceAdd, Nat.reduceSub, Z4, go_sem]; refine Z1 e1 (.pures rfl) ?_; simp -implicitDefEqProofs only [go_sem]; refine Z1 e (.still rfl) ?_; simp -implicitDefEqProofs only [ratV, go_sem]

def lowN (n d : Nat) : Nat := n / Nat.gcd n d
def lowD (n d : Nat) : Nat := d / Nat.gcd n d
theorem ratV_low (n d : Nat) : ratV n d = .agg [.bool false, .str (magB (lowN n d)), .bool false, .str (magB (lowD n d))] := rfl
theorem low_mul {n d : Nat} : lowN n d * d = n * lowD n d := by
  unfold lowN lowD; rcases Nat.eq_zero_or_pos (Nat.gcd n d) with h | h
  · rw [Nat.eq_zero_of_gcd_eq_zero_left h, Nat.eq_zero_of_gcd_eq_zero_right h]; simp
  · obtain ⟨a, ha⟩ := Nat.gcd_dvd_left n d
    obtain ⟨b, hb⟩ := Nat.gcd_dvd_right n d; generalize Nat.gcd n d = g at *; have e1 : n / g = a := by rw [ha]; exact Nat.mul_div_cancel_left a h
    have e2 : d / g = b := by rw [hb]; exact Nat.mul_div_cancel_left b h
    rw [e1, e2, ha, hb, ← Nat.mul_assoc, Nat.mul_comm a g]
theorem lowD_pos {n d : Nat} (hd : d ≠ 0) : lowD n d ≠ 0 := by
  unfold lowD; have h : 0 < Nat.gcd n d := Nat.pos_of_ne_zero fun h => hd (Nat.eq_zero_of_gcd_eq_zero_right h)
  exact Nat.ne_of_gt (Nat.div_pos (Nat.le_of_dvd (Nat.pos_of_ne_zero hd) (Nat.gcd_dvd_right n d)) h)
theorem Z3v {n d : Nat} (hd : d ≠ 0) : Nat.gcd (lowN n d) (lowD n d) = 1 := by
  have h : 0 < Nat.gcd n d := Nat.pos_of_ne_zero fun h => hd (Nat.eq_zero_of_gcd_eq_zero_right h)
  have h1 : Nat.gcd n d * lowN n d = n := Nat.mul_div_cancel' (Nat.gcd_dvd_left n d); have h2 : Nat.gcd n d * lowD n d = d := Nat.mul_div_cancel' (Nat.gcd_dvd_right n d); have h3 := Nat.gcd_mul_left (Nat.gcd n d) (lowN n d) (lowD n d); rw [h1, h2] at h3; exact (Nat.eq_of_mul_eq_mul_left h (by rw [Nat.mul_one]; exact h3)).symm
theorem Zf9 {n d : Nat} (hd : d ≠ 0) : ratV (lowN n d) (lowD n d) = ratV n d := by
  rw [ratV_low n d]; unfold ratV; rw [Z3v hd, Nat.div_one, Nat.div_one]
theorem low_eq {n d m e : Nat} (hd : d ≠ 0) (he : e ≠ 0) : ratV n d = ratV m e ↔ n * e = m * d := by
  constructor
  · intro h
    rw [ratV_low, ratV_low] at h
    injection h with h
    injection h with _ h
    injection h with h1 h
    injection h with _ h
    injection h with h2 _
    injection h1 with h1
    injection h2 with h2
    have e1 : lowN n d = lowN m e := by have := congrArg Z3p h1; rwa [Z1j, Z1j] at this
    have e2 : lowD n d = lowD m e := by have := congrArg Z3p h2; rwa [Z1j, Z1j] at this
    have f1 := low_mul (n := n) (d := d); have f2 := low_mul (n := m) (d := e); rw [← e1, ← e2] at f2; have hp := lowD_pos (n := n) hd; generalize lowN n d = a at *; generalize lowD n d = b at *
    apply Nat.eq_of_mul_eq_mul_right (Nat.pos_of_ne_zero hp)
    rw [Nat.mul_right_comm n e b, ← f1, Nat.mul_right_comm m d b, ← f2, Nat.mul_right_comm]
  · intro h
    have key : lowN n d = lowN m e ∧ lowD n d = lowD m e := by
      have f1 := low_mul (n := n) (d := d); have f2 := low_mul (n := m) (d := e); have c1 := Z3v (n := n) hd; have c2 := Z3v (n := m) he; have p1 := lowD_pos (n := n) hd; have p2 := lowD_pos (n := m) he; generalize lowN n d = a at *; generalize lowD n d = b at *; generalize lowN m e = x at *; generalize lowD m e = y at *
      -- a / b = n / d = m / e = x / y
      have hx : a * y = x * b := by
        apply Nat.eq_of_mul_eq_mul_right (Nat.pos_of_ne_zero hd)
        apply Nat.eq_of_mul_eq_mul_right (Nat.pos_of_ne_zero he)
        calc a * y * d * e = a * d * (y * e) := by rw [Nat.mul_right_comm a y d, Nat.mul_assoc]
          _ = n * b * (y * e) := by rw [f1]
          _ = n * e * (b * y) := by rw [Nat.mul_comm y e, Nat.mul_mul_mul_comm]
          _ = m * d * (b * y) := by rw [h]
          _ = m * y * (b * d) := by rw [Nat.mul_comm b y, Nat.mul_mul_mul_comm, Nat.mul_comm d b]
          _ = x * e * (b * d) := by rw [← f2]
          _ = x * b * d * e := by rw [Nat.mul_mul_mul_comm, Nat.mul_comm e d, ← Nat.mul_assoc]
      have h1 : b ∣ y := by
        have : b ∣ a * y := ⟨x, by rw [hx, Nat.mul_comm]⟩; exact Nat.Coprime.dvd_of_dvd_mul_left (Nat.Coprime.symm c1) this
      have h2 : y ∣ b := by
        have : y ∣ x * b := ⟨a, by rw [← hx, Nat.mul_comm]⟩; exact Nat.Coprime.dvd_of_dvd_mul_left (Nat.Coprime.symm c2) this
      have hby := Nat.dvd_antisymm h1 h2; subst hby; exact ⟨Nat.eq_of_mul_eq_mul_right (Nat.pos_of_ne_zero p1) hx, rfl⟩
    rw [ratV_low, ratV_low, key.1, key.2]
theorem Z0w {n d : Nat} (hn : n < capN) (hd : d < capN) : lowN n d < capN ∧ lowD n d < capN :=
  ⟨Nat.lt_of_le_of_lt (Nat.div_le_self _ _) hn, Nat.lt_of_le_of_lt (Nat.div_le_self _ _) hd⟩

theorem v97 (n d : Nat) (hn : n < capN) (hd : d < capN) (hd0 : d ≠ 0) : PFn Tryz.prog 103 [ratV n d] [ratV n d] := by
  obtain ⟨h1, h2⟩ := Z0w hn hd; have e := v100 (lowN n d) (lowD n d) h1 h2 (lowD_pos hd0); rw [Zf9 hd0] at e; rw [ratV_low] at e ⊢; refine PFn.of_body hΓ Tryz.func103 (by kernel_rfl) rfl (Wd [] ?_); simp -implicitDefEqProofs only [Tryz.ntmps103, Tryz.results103, Nat.reduceAdd, Nat.reduceSub, Z4, go_sem]; refine ⟨by omega, Z0 e (.still rfl) ?_⟩; simp -implicitDefEqProofs only [go_sem]

theorem Zgg {a b k : Nat} (hk : k ≠ 0) : cmpN (a * k) (b * k) = cmpN a b := by
  unfold cmpN; have h1 : a * k < b * k ↔ a < b := Nat.mul_lt_mul_right (Nat.pos_of_ne_zero hk); have h2 : a * k = b * k ↔ a = b := ⟨fun h => Nat.eq_of_mul_eq_mul_right (Nat.pos_of_ne_zero hk) h, fun h => by rw [h]⟩; simp only [h1, h2]
theorem Zm6 {n d m e : Nat} (hd : d ≠ 0) (he : e ≠ 0) : cmpN (lowN n d * lowD m e) (lowN m e * lowD n d) = cmpN (n * e) (m * d) := by
  have f1 := low_mul (n := n) (d := d); have f2 := low_mul (n := m) (d := e); have p1 := lowD_pos (n := n) hd; have p2 := lowD_pos (n := m) he; generalize lowN n d = a at *; generalize lowD n d = b at *; generalize lowN m e = x at *; generalize lowD m e = y at *; have h1 := Zgg (a := a * y) (b := x * b) (k := d * e) (Nat.mul_ne_zero hd he); have h2 := Zgg (a := n * e) (b := m * d) (k := b * y) (Nat.mul_ne_zero p1 p2); rw [← h1, ← h2]
  congr 1
  · rw [Nat.mul_mul_mul_comm, f1, Nat.mul_mul_mul_comm n e b y, Nat.mul_comm e y]
  · rw [Nat.mul_comm d e, Nat.mul_mul_mul_comm, f2, Nat.mul_comm b y, Nat.mul_mul_mul_comm m d y b, Nat.mul_comm d b]

theorem v51 (n d m e : Nat) (hn : n < capN) (hd : d < capN) (hm : m < capN) (he : e < capN) (hd0 : d ≠ 0) (he0 : e ≠ 0) (h1 : n * e < capN) (h2 : m * d < capN) : PFn Tryz.prog 49 [ratV n d, ratV m e] [.int .i64 (cmpN (n * e) (m * d))] := by
  obtain ⟨a1, a2⟩ := Z0w hn hd; obtain ⟨b1, b2⟩ := Z0w hm he; have e1 := v97 n d hn hd hd0; have e2 := v97 m e hm he he0; have m1 := u36 (lowN n d) (lowD m e) a1 b2; have m2 := u36 (lowN m e) (lowD n d) b1 a2; have k1 : lowN n d * lowD m e < capN := Nat.lt_of_le_of_lt (Nat.mul_le_mul (Nat.div_le_self _ _) (Nat.div_le_self _ _)) h1; have k2 : lowN m e * lowD n d < capN := Nat.lt_of_le_of_lt (Nat.mul_le_mul (Nat.div_le_self _ _) (Nat.div_le_self _ _)) h2; have c := u33 _ _ k1 k2; rw [Zm6 hd0 he0] at c; rw [ratV_low, ratV_low] at *; refine PFn.of_body hΓ Tryz.func49 (by kernel_rfl) rfl (Wd [(1, 1000), (2, 1000)] ?_); simp -implicitDefEqProofs only [Tryz.ntmps49, Tryz.results49, Nat.reduceAdd, Nat.reduceSub, Z4, go_sem]; refine AWp.planL (.q 0 (.q 2 (.e 1 (.s 2 (.e 3 (.e 4 (.e 5 .fin .nil) .nil) .nil)) .nil))) hΓ hmix (by kernel_rfl) ?_; simp -implicitDefEqProofs only [go_sem]; refine Z0 e1 (.still rfl) ?_; simp -implicitDefEqProofs only [go_sem]; refine Z0 e2 (.still rfl) ?_; simp -implicitDefEqProofs only [go_sem]; refine AWp.planL (.q 0 (.q 1 (.q 2 (.q 3 (.q 5 (.q 6 (.q 7 (.q 8 (.e 4 (.s 5 (.s 6 (.s 7 (.s 8 (.e 9 (.e 10 (.q 11 .fin) .nil) .nil))))) .nil))))))))) hΓ hmix (by kernel_rfl) ?_; simp -implicitDefEqProofs only [go_sem]; refine ⟨by omega, by omega, Z0 m1 (.still rfl) ?_⟩; simp -implicitDefEqProofs only [go_sem]; refine ⟨by omega, Z0 m2 (.still rfl) ?_⟩; simp -implicitDefEqProofs only [go_sem]; refine Z0 c (.still rfl) ?_; simp -implicitDefEqProofs only [go_sem]

def ratQ (a b : Nat) : PV := .agg [.bool false, .str (magB a), .bool false, .str (magB b)]
theorem Z1h (n d : Nat) : ratV n d = ratQ (lowN n d) (lowD n d) := rfl

theorem v248 (a b c d : Nat) (ha : a < capN) (hb : b < capN) (hc : c < capN) (hd : d < capN) (h1 : a * d < capN) (h2 : c * b < capN) : PFn Tryz.prog 248 [ratQ a b, ratQ c d] [intN false (a * d + c * b), intN false (b * d)] := by
  have m1 := u36 a d ha hd; have m2 := u36 c b hc hb; have m3 := u36 b d hb hd; have s := u89 (a * d) (c * b) h1 h2; refine PFn.of_body hΓ Tryz.func248 (by kernel_rfl) rfl (Wd [(1, 1000)] ?_); simp -implicitDefEqProofs only [Tryz.ntmps248, Tryz.results248, Nat.reduceAdd, Nat.reduceSub, Z4, ratQ, go_sem]; refine AWp.planL (.q 0 (.q 1 (.q 2 (.q 3 (.q 5 (.q 6 (.q 7 (.q 8 (.q 11 (.q 12 (.q 13 (.q 14 (.e 4 (.s 5 (.s 6 (.s 7 (.s 8 (.s 11 (.s 12 (.s 13 (.s 14 (.e 9 (.s 11 (.s 12 (.s 13 (.s 14 (.e 10 (.s 11 (.s 12 (.s 13 (.s 14 (.e 15 (.e 16 (.e 17 .fin .nil) .nil) .nil))))) .nil))))) .nil))))))))) .nil))))))))))))) hΓ hmix (by kernel_rfl) ?_; simp -implicitDefEqProofs only [go_sem]; refine ⟨by omega, by omega, Z0 m1 (.still rfl) ?_⟩; simp -implicitDefEqProofs only [Z4, go_sem]; refine ⟨by omega, Z0 m2 (.still rfl) ?_⟩; simp -implicitDefEqProofs only [Z4, go_sem]; refine Z0 s (.still rfl) ?_; simp -implicitDefEqProofs only [Z4, go_sem]; refine Z0 m3 (.still rfl) ?_; simp -implicitDefEqProofs only [Z4, go_sem]
  try rfl
theorem v250 (a b c d : Nat) (ha : a < capN) (hb : b < capN) (hc : c < capN) (hd : d < capN) : PFn Tryz.prog 250 [ratQ a b, ratQ c d] [intN false (a * c), intN false (b * d)] := by
  have m1 := u36 a c ha hc; have m3 := u36 b d hb hd; refine PFn.of_body hΓ Tryz.func250 (by kernel_rfl) rfl (Wd [(1, 1000)] ?_); simp -implicitDefEqProofs only [Tryz.ntmps250, Tryz.results250, Nat.reduceAdd, Nat.reduceSub, Z4, ratQ, go_sem]; refine AWp.planL (.q 0 (.q 1 (.q 2 (.q 3 (.q 5 (.q 6 (.q 7 (.q 8 (.e 4 (.s 5 (.s 6 (.s 7 (.s 8 (.e 9 (.e 10 (.e 11 .fin .nil) .nil) .nil))))) .nil))))))))) hΓ hmix (by kernel_rfl) ?_; simp -implicitDefEqProofs only [go_sem]; refine ⟨by omega, by omega, Z0 m1 (.still rfl) ?_⟩; simp -implicitDefEqProofs only [Z4, go_sem]; refine Z0 m3 (.still rfl) ?_; simp -implicitDefEqProofs only [Z4, go_sem]
  try rfl
def rbox (a b : Nat) : AObj := .box [.p (.bool false), .p (.str (magB a)), .p (.bool false), .p (.str (magB b))]
def zbox : AObj := .box [.p (.bool false), .p (.str []), .p (.bool false), .p (.str [])]
theorem c217 (a b c d : Nat) : AC Tryz.prog 217 [] [rbox a b, rbox c d, zbox] [] (fun v h' => v = .agg [.fn 248 [], .fn 249 [], .fn 250 [], .fn 251 []] ∧ h' = [rbox a b, rbox c d, zbox]) := by
  unfold rbox zbox; refine AC.of_body 3 hΓ Tryz.func217 (by kernel_rfl) rfl (by simp) ?_; refine AWp.seq ?_; refine Wd [] ?_; simp -implicitDefEqProofs only [Tryz.ntmps217, Tryz.results217, Nat.reduceAdd, Nat.reduceSub, go_sem]; refine AWp.seq ?_; refine Wd [] ?_; simp -implicitDefEqProofs only [go_sem]; refine Wd [] ?_; simp -implicitDefEqProofs only [go_sem]; simp [AV.one, AV.under, AV.under.underL, setL, AObj.under]
theorem Zik {a b x y n d m e : Nat} (f1 : a * d = n * b) (f2 : x * e = m * y) : (a * y + x * b) * (d * e) = (n * e + m * d) * (b * y) := by grind
theorem Zij {a b x y n d m e : Nat} (f1 : a * d = n * b) (f2 : x * e = m * y) : (a * x) * (d * e) = (n * m) * (b * y) := by grind
theorem Zcb {n d m e : Nat} (hd : d ≠ 0) (he : e ≠ 0) : ratV (lowN n d * lowD m e + lowN m e * lowD n d) (lowD n d * lowD m e) = ratV (n * e + m * d) (d * e) :=
  (low_eq (Nat.mul_ne_zero (lowD_pos hd) (lowD_pos he)) (Nat.mul_ne_zero hd he)).2 (Zik low_mul low_mul)
theorem Zca {n d m e : Nat} (hd : d ≠ 0) (he : e ≠ 0) : ratV (lowN n d * lowN m e) (lowD n d * lowD m e) = ratV (n * m) (d * e) :=
  (low_eq (Nat.mul_ne_zero (lowD_pos hd) (lowD_pos he)) (Nat.mul_ne_zero hd he)).2 (Zij low_mul low_mul)
theorem Z5a (n d : Nat) : lowN n d ≤ n ∧ lowD n d ≤ d := ⟨Nat.div_le_self _ _, Nat.div_le_self _ _⟩

theorem v174s (n d m e : Nat) (hn : n < capN) (hd : d < capN) (hm : m < capN) (he : e < capN) (hd0 : d ≠ 0) (he0 : e ≠ 0) (h1 : n * e + m * d < capN) (h2 : d * e < capN) :
    PFn Tryz.prog 174 [.int .i64 0, ratV n d, ratV m e] [ratV (n * e + m * d) (d * e)] := by
  obtain ⟨a1, a2⟩ := Z0w hn hd; obtain ⟨b1, b2⟩ := Z0w hm he; have l1 := Z5a n d; have l2 := Z5a m e; have k1 : lowN n d * lowD m e ≤ n * e := Nat.mul_le_mul l1.1 l2.2; have k2 : lowN m e * lowD n d ≤ m * d := Nat.mul_le_mul l2.1 l1.2; have k3 : lowD n d * lowD m e ≤ d * e := Nat.mul_le_mul l1.2 l2.2; have e1 := v97 n d hn hd hd0; have e2 := v97 m e hm he he0; have e3 := v248 (lowN n d) (lowD n d) (lowN m e) (lowD m e) a1 a2 b1 b2 (by omega) (by omega); have e4 := v100 (lowN n d * lowD m e + lowN m e * lowD n d) (lowD n d * lowD m e) (by omega) (by omega) (Nat.mul_ne_zero (lowD_pos hd0) (lowD_pos he0)); rw [Zcb hd0 he0] at e4; obtain ⟨x, y, hR⟩ : ∃ x y, ratV (n * e + m * d) (d * e) = ratQ x y := ⟨_, _, Z1h _ _⟩; rw [hR] at e4 ⊢; clear hR; rw [Z1h n d] at e1 ⊢; rw [Z1h m e] at e2 ⊢; have e0 := c217 (lowN n d) (lowD n d) (lowN m e) (lowD m e); unfold ratQ at e1 e2 e3 e4 ⊢; unfold rbox zbox at e0; refine PFn.of_body hΓ Tryz.func174 (by kernel_rfl) rfl (Wd [(1, 1000)] ?_); simp -implicitDefEqProofs only [Tryz.ntmps174, Tryz.results174, Nat.reduceAdd, Nat.reduceSub, go_sem]; refine AWp.planL (.q 1 (.q 4 (.q 6 (.e 0 (.s 1 (.s 4 (.s 6 (.q 2 (.q 3 (.e 5 (.s 1 (.s 6 (.s 2 (.s 3 (.e 7 (.s 1 (.s 2 (.s 3 (.e 8 (.q 9 (.q 10 (.e 11 (.e 12 .fin .nil) .nil))) .nil)))) .nil))))) .nil)))))) .nil)))) hΓ hmix (by kernel_rfl) ?_; simp -implicitDefEqProofs only [go_sem]; refine Zl e0 (by simp) ?_; rintro v h' ⟨rfl, rfl⟩; have hsl : List.take 1 (List.drop (Int.toNat 0 * 1) [AV.fn 248 [], AV.fn 249 [], AV.fn 250 [], AV.fn 251 []]) = [AV.fn 248 []] := rfl; have h4 : (0 : Int) < ((4 : Nat) : Int) := by decide
  simp -implicitDefEqProofs only [Za, List.foldl, hsl, h4, List.length_cons, List.length_nil, go_sem]; refine ⟨by decide, Z0 e1 (.still rfl) ?_⟩; simp -implicitDefEqProofs only [go_sem]; refine ⟨⟨by decide, by decide, rfl⟩, Z0 e2 (.still rfl) ?_⟩; simp -implicitDefEqProofs only [go_sem]; refine ⟨⟨by decide, by decide, rfl⟩, Z0 e3 (.still rfl) ?_⟩; simp -implicitDefEqProofs only [Z4, go_sem]; refine Z0 e4 (.still rfl) ?_; simp -implicitDefEqProofs only [go_sem]
theorem v112 (n d m e : Nat) (hn : n < capN) (hd : d < capN) (hm : m < capN) (he : e < capN) (hd0 : d ≠ 0) (he0 : e ≠ 0) (h1 : n * e + m * d < capN) (h2 : d * e < capN) :
    PFn Tryz.prog 112 [ratV n d, ratV m e] [ratV (n * e + m * d) (d * e)] := by
  have e1 := v174s n d m e hn hd hm he hd0 he0 h1 h2; obtain ⟨x, y, hR⟩ : ∃ x y, ratV (n * e + m * d) (d * e) = ratQ x y := ⟨_, _, Z1h _ _⟩; rw [hR] at e1 ⊢; clear hR; rw [Z1h n d, Z1h m e] at e1 ⊢; unfold ratQ at e1 ⊢; refine PFn.of_body hΓ Tryz.func112 (by kernel_rfl) rfl (Wd [] ?_); simp -implicitDefEqProofs only [Tryz.ntmps112, Tryz.results112, Nat.reduceAdd, Nat.reduceSub, go_sem]; refine Z0 e1 (.still rfl) ?_; simp -implicitDefEqProofs only [go_sem]
theorem v174p (n d m e : Nat) (hn : n < capN) (hd : d < capN) (hm : m < capN) (he : e < capN) (hd0 : d ≠ 0) (he0 : e ≠ 0) (h1 : n * m < capN) (h2 : d * e < capN) :
    PFn Tryz.prog 174 [.int .i64 2, ratV n d, ratV m e] [ratV (n * m) (d * e)] := by
  obtain ⟨a1, a2⟩ := Z0w hn hd; obtain ⟨b1, b2⟩ := Z0w hm he; have l1 := Z5a n d; have l2 := Z5a m e; have k1 : lowN n d * lowN m e ≤ n * m := Nat.mul_le_mul l1.1 l2.1; have k3 : lowD n d * lowD m e ≤ d * e := Nat.mul_le_mul l1.2 l2.2; have e1 := v97 n d hn hd hd0; have e2 := v97 m e hm he he0; have e3 := v250 (lowN n d) (lowD n d) (lowN m e) (lowD m e) a1 a2 b1 b2; have e4 := v100 (lowN n d * lowN m e) (lowD n d * lowD m e) (by omega) (by omega) (Nat.mul_ne_zero (lowD_pos hd0) (lowD_pos he0)); rw [Zca hd0 he0] at e4; obtain ⟨x, y, hR⟩ : ∃ x y, ratV (n * m) (d * e) = ratQ x y := ⟨_, _, Z1h _ _⟩; rw [hR] at e4 ⊢; clear hR; rw [Z1h n d] at e1 ⊢; rw [Z1h m e] at e2 ⊢; have e0 := c217 (lowN n d) (lowD n d) (lowN m e) (lowD m e); unfold ratQ at e1 e2 e3 e4 ⊢; unfold rbox zbox at e0; refine PFn.of_body hΓ Tryz.func174 (by kernel_rfl) rfl (Wd [(1, 1000)] ?_); simp -implicitDefEqProofs only [Tryz.ntmps174, Tryz.results174, Nat.reduceAdd, Nat.reduceSub, go_sem]; refine AWp.planL (.q 1 (.q 4 (.q 6 (.e 0 (.s 1 (.s 4 (.s 6 (.q 2 (.q 3 (.e 5 (.s 1 (.s 6 (.s 2 (.s 3 (.e 7 (.s 1 (.s 2 (.s 3 (.e 8 (.q 9 (.q 10 (.e 11 (.e 12 .fin .nil) .nil))) .nil)))) .nil))))) .nil)))))) .nil)))) hΓ hmix (by kernel_rfl) ?_; simp -implicitDefEqProofs only [go_sem]; refine Zl e0 (by simp) ?_; rintro v h' ⟨rfl, rfl⟩; have hsl : List.take 1 (List.drop (Int.toNat 2 * 1) [AV.fn 248 [], AV.fn 249 [], AV.fn 250 [], AV.fn 251 []]) = [AV.fn 250 []] := rfl; have h4 : (2 : Int) < ((4 : Nat) : Int) := by decide
  simp -implicitDefEqProofs only [Za, List.foldl, hsl, h4, List.length_cons, List.length_nil, go_sem]; refine ⟨by decide, by decide, Z0 e1 (.still rfl) ?_⟩; simp -implicitDefEqProofs only [go_sem]; refine ⟨⟨by decide, by decide, rfl⟩, Z0 e2 (.still rfl) ?_⟩; simp -implicitDefEqProofs only [go_sem]; refine ⟨⟨by decide, by decide, rfl⟩, Z0 e3 (.still rfl) ?_⟩; simp -implicitDefEqProofs only [Z4, go_sem]; refine Z0 e4 (.still rfl) ?_; simp -implicitDefEqProofs only [go_sem]
theorem v113 (n d m e : Nat) (hn : n < capN) (hd : d < capN) (hm : m < capN) (he : e < capN) (hd0 : d ≠ 0) (he0 : e ≠ 0) (h1 : n * m < capN) (h2 : d * e < capN) :
    PFn Tryz.prog 113 [ratV n d, ratV m e] [ratV (n * m) (d * e)] := by
  have e1 := v174p n d m e hn hd hm he hd0 he0 h1 h2; obtain ⟨x, y, hR⟩ : ∃ x y, ratV (n * m) (d * e) = ratQ x y := ⟨_, _, Z1h _ _⟩; rw [hR] at e1 ⊢; clear hR; rw [Z1h n d, Z1h m e] at e1 ⊢; unfold ratQ at e1 ⊢; refine PFn.of_body hΓ Tryz.func113 (by kernel_rfl) rfl (Wd [] ?_); simp -implicitDefEqProofs only [Tryz.ntmps113, Tryz.results113, Nat.reduceAdd, Nat.reduceSub, go_sem]; refine Z0 e1 (.still rfl) ?_; simp -implicitDefEqProofs only [go_sem]
end Go.Proofs.YtpljmccnfmkmfaaGreat.Kn
end

