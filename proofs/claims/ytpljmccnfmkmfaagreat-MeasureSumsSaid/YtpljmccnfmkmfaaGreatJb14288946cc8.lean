/-
  Texts of this claim, joined.
-/
import Derived.Shelf.Spec.SlicesGrow
import Derived.Shelf.SlGeneric
import Derived.Ground.Names8Prog
import Derived.Test.YtpljmccnfmkmfaaGreatProg
import Derived.Test.YtpljmccnfmkmfaaGreatJ85e9d9b12164
import Derived.Test.YtpljmccnfmkmfaaGreatJ1cd7948eb424
import Derived.Test.YtpljmccnfmkmfaaGreatJ530593ee3862
import Derived.Test.YtpljmccnfmkmfaaGreatJ7cb4b7e9e247
import Derived.Test.YtpljmccnfmkmfaaGreatJd16cf1e4a705

set_option linter.unusedSimpArgs false
set_option maxRecDepth 100000
set_option maxHeartbeats 4000000
section
namespace Go.Proofs
open Go.Shelf
end Go.Proofs
end

section
namespace Go.Proofs.YtpljmccnfmkmfaaGreat
open Go Go.AM Go.RowKit

end Go.Proofs.YtpljmccnfmkmfaaGreat
end

section
namespace Go.Proofs.YtpljmccnfmkmfaaGreat
open Go Go.AM


theorem Z60 {E : Env} {tm : List AV} {h : List AObj} {KS : St → Prop} {d : Option Nat} {b : Nat} {args : List AV} {ks : List Nat} {R : AV → List AObj → Prop} (hf : YC E.P b args h ks R) (hks : ∀ k ∈ ks, E.n0 ≤ k ∨ k ∈ E.ks)
    (hk : ∀ v h', R v h' → KS ⟨putD (Za ks tm) d v, h'⟩) : Z37 E ⟨tm, h⟩ d (.yld b) args KS := ⟨ks, R, hf, hks, hk⟩

end Go.Proofs.YtpljmccnfmkmfaaGreat
end

section
namespace Go.Proofs.YtpljmccnfmkmfaaGreat.Kn
open Go Go.AM

theorem Zae {q : Nat} (h0 : q ≠ 0) (h : q < B32) : digD B32 q = [q] := by
  have := Z8x (B := B32) (by decide) (l := [q]) ⟨fun d hd => by rw [List.mem_singleton] at hd; omega, by simpa using h0⟩
  simpa [valD] using this

theorem v132 (q : Nat) (h0 : q ≠ 0) (h : q < B32) : PFn Tryz.prog 157 [natV (digD B32 q)] [.int .i64 (Lib.bitLen q : Int)] := by
  rw [Zae h0 h]; have e := v164 q h; have hb : Lib.bitLen q ≤ 32 := Lib.bitLen_le q 32 (by omega) h; have h1 : ¬ ((1 : Nat) : Int) = 0 := by omega
  have hg : [PV.int .u32 (q : Int)].getD (((1 : Nat) : Int) - 1).toNat default = .int .u32 (q : Int) := rfl; unfold natV; refine PFn.of_body hΓ Tryz.func157 (by kernel_rfl) rfl (Wd [] ?_); simp -implicitDefEqProofs only [Tryz.ntmps157, Tryz.results157, Nat.reduceAdd, Nat.reduceSub, List.map_cons, List.map_nil, List.length_cons, List.length_nil, u32V, h1, hg, go_sem]; refine ⟨by simp only [InR]; omega, by simp only [InR]; omega, by simp only [InR]; omega, ⟨by omega, by omega⟩, Z0 e (.pures rfl) ?_⟩; simp -implicitDefEqProofs only [go_sem]; refine ⟨by simp only [InR]; omega, ?_⟩; simp

theorem Zja {n b : Nat} : n / 2 ^ b = 2 * (n / 2 ^ (b + 1)) + n / 2 ^ b % 2 := by
  have : n / 2 ^ (b + 1) = n / 2 ^ b / 2 := by rw [Nat.pow_succ, Nat.div_div_eq_div_mul]
  rw [this]; omega

theorem v133 (q n : Nat) (h0 : q ≠ 0) (h : q < B32) (hn : n ≤ 64) (hc : q ^ n < capN) : PFn Tryz.prog 158 [natV (digD B32 q), .int .i64 n] [natV (digD B32 (q ^ n))] := by
  have hq1 : 1 ≤ q := Nat.pos_of_ne_zero h0; have hw : IntKind.u64.wrap (n : Int) = n := Z42 (by omega); have e := v130 n (by omega); have hb : Lib.bitLen n ≤ 64 := Lib.bitLen_le n 64 (by omega) (by omega); have htop : n / 2 ^ Lib.bitLen n = 0 := by
    by_cases hn0 : n = 0
    · subst hn0; simp
    · exact Nat.div_eq_of_lt (Z74 n hn0 (by omega)).2.2
  generalize Lib.bitLen n = B at *; have hone : digD B32 1 = [1] := Zae (by decide) (by decide); have hqc : q < capN := by
    have h1 : q < 256 ^ 4 := h; exact Z1u h1 (by decide)
  refine PFn.of_body hΓ Tryz.func158 (by kernel_rfl) rfl (AWp.seq (Wd [] ?_)); simp -implicitDefEqProofs only [Tryz.ntmps158, Tryz.results158, Nat.reduceAdd, Nat.reduceSub, go_sem]; refine AWp.seq (Wd [] ?_); simp -implicitDefEqProofs only [go_sem]; refine ⟨⟨by simp [Zu, PV.cells], by omega⟩, ?_⟩; refine AWp.seq (Wd [] ?_); simp -implicitDefEqProofs only [hw, go_sem]; refine Z0 e (.pures rfl) ?_; simp -implicitDefEqProofs only [go_sem]; refine ⟨by simp only [InR]; omega, ?_⟩; refine AWp.fullP 5 rfl ?_
  refine AWp.loopI (fun k : Nat => ⟨mkF 28 [(0, .p (natV (digD B32 q))), (1, .p (.int .i64 n)), (5, .p (natV (digD B32 (q ^ (n / 2 ^ k))))), (6, .p (.int .i64 ((k : Int) - 1)))], []⟩)
    (fun k => k ≤ 64) (fun k => k) B ?_ hb ?_
  · rw [htop, Nat.pow_zero, hone]
    simp [go_sem, natV, u32V]
  rintro k hk
  cases k with
  | zero =>
    have hz : ¬ (0 : Int) ≤ (((0 : Nat) : Int) - 1) := by omega
    refine Wd [] ?_; simp -implicitDefEqProofs only [hz, go_sem]; refine Wd [] ?_; simp -implicitDefEqProofs only [natV, go_sem]; rw [Nat.pow_zero, Nat.div_one]
  | succ k =>
    have hs := Zja (n := n) (b := k); have h1 : (0 : Int) ≤ (((k + 1 : Nat) : Int) - 1) := by omega
    have h2 : (((k + 1 : Nat) : Int) - 1) = (k : Int) := by omega
    have hdv : (n : Int) / 2 ^ k = ((n / 2 ^ k : Nat) : Int) := by rw [Int.natCast_ediv]; simp
    have hP : q ^ (n / 2 ^ (k + 1)) < capN := Nat.lt_of_le_of_lt (Nat.pow_le_pow_right hq1 (Nat.div_le_self _ _)) hc; have hPP : q ^ (n / 2 ^ k) < capN := Nat.lt_of_le_of_lt (Nat.pow_le_pow_right hq1 (Nat.div_le_self _ _)) hc; have hle : q ^ (n / 2 ^ (k + 1)) * q ^ (n / 2 ^ (k + 1)) ≤ q ^ (n / 2 ^ k) := by
      rw [← Nat.pow_add]; exact Nat.pow_le_pow_right hq1 (by omega)
    have m1 := u68 (digD B32 (q ^ (n / 2 ^ (k + 1)))) (digD B32 (q ^ (n / 2 ^ (k + 1)))) (Z02 _) (Z02 _) (by have := Z1l hP; omega) (by have := Z1l hP; omega); rw [Z8 (by decide)] at m1; have m2 := u68 (digD B32 (q ^ (n / 2 ^ (k + 1)) * q ^ (n / 2 ^ (k + 1)))) (digD B32 q) (Z02 _) (Z02 _) (by have := Z1l (Nat.lt_of_le_of_lt hle hPP); omega) (by have := Z1l hqc; omega); rw [Z8 (by decide), Z8 (by decide)] at m2; have hand := Znh (n / 2 ^ k) (by have := Nat.div_le_self n (2 ^ k); omega); have hpow : q ^ (n / 2 ^ k) = q ^ (n / 2 ^ (k + 1)) * q ^ (n / 2 ^ (k + 1)) * q ^ (n / 2 ^ k % 2) := by
      rw [← Nat.pow_add, ← Nat.pow_add, ← Nat.two_mul, ← hs]
    have hkI : InR .i64 ((k : Int) - 1) := by simp only [InR]; omega
    refine Wd [] ?_; by_cases hbit : n / 2 ^ k % 2 = 1
    · have hb1 : ((n / 2 ^ k % 2 : Nat) : Int) = 1 := by omega
      simp -implicitDefEqProofs only [h2, h1, go_sem]; refine Z0 m1 (.pures rfl) ?_; simp -implicitDefEqProofs only [h2, hdv, hand, hb1, go_sem]; refine ⟨by omega, Z0 m2 (.pures rfl) ?_⟩; simp -implicitDefEqProofs only [h2, go_sem]; rw [hbit, Nat.pow_one] at hpow; exact ⟨hkI, k, ⟨by rw [hpow], rfl⟩, by omega, by omega⟩
    · have hb1 : ¬ ((n / 2 ^ k % 2 : Nat) : Int) = 1 := by omega
      simp -implicitDefEqProofs only [h2, h1, go_sem]; refine Z0 m1 (.pures rfl) ?_; simp -implicitDefEqProofs only [h2, hdv, hand, hb1, go_sem]; rw [show n / 2 ^ k % 2 = 0 by omega, Nat.pow_zero, Nat.mul_one] at hpow; exact ⟨by omega, hkI, k, ⟨by rw [hpow], rfl⟩, by omega, by omega⟩

theorem v94 (q n : Nat) (h0 : q ≠ 0) (h : q ≤ 16) (hn : n ≤ 64) : PFn Tryz.prog 98 [intN false q, .int .i64 n] [intN false (q ^ n), .int .i64 0] := by
  have hB : B32 = 4294967296 := rfl; have hc : q ^ n < capN := by
    have h1 : q ^ n ≤ 16 ^ n := Nat.pow_le_pow_left h n; have h2 : 16 ^ n ≤ 16 ^ 64 := Nat.pow_le_pow_right (by decide) hn; have h3 : 16 ^ 64 < capN := Z1u (n := 16 ^ 64) (k := 33) (by decide) (by decide); omega
  have hqc : q < capN := Z1u (n := q) (k := 1) (by omega) (by decide); have e1 := u69n false q hqc; have e2 := v132 q h0 (by omega); have e3 := v133 q n h0 (by omega) hn hc; have e4 := u66 false (digD B32 (q ^ n)) (Z02 _) (by have := Z1l hc; omega); rw [Z8 (by decide)] at e4; have hbl : Lib.bitLen q ≤ 5 := Lib.bitLen_le q 5 (by omega) (by omega); have hlim : n * Lib.bitLen q ≤ 64 * 5 := Nat.mul_le_mul hn hbl; have hn0 : ¬ (n : Int) < 0 := by omega
  have hn1 : ¬ (4096 : Int) < (n : Int) := by omega
  have hnb : (n : Int) * (Lib.bitLen q : Int) = ((n * Lib.bitLen q : Nat) : Int) := by simp
  have hn2 : ¬ (65536 : Int) < ((n * Lib.bitLen q : Nat) : Int) := by omega
  refine PFn.of_body hΓ Tryz.func98 (by kernel_rfl) rfl (Wd [] ?_); simp -implicitDefEqProofs only [Tryz.ntmps98, Tryz.results98, Nat.reduceAdd, Nat.reduceSub, Z4, hn0, hn1, go_sem]; refine Z0 e1 (.still rfl) ?_; simp -implicitDefEqProofs only [go_sem]; refine Z0 e2 (.pures rfl) ?_; simp -implicitDefEqProofs only [hnb, hn2, go_sem]; refine ⟨by simp only [InR]; omega, Z0 e3 (.pures rfl) ?_⟩; simp -implicitDefEqProofs only [go_sem]; refine Z0 e4 (.pures rfl) ?_; simp -implicitDefEqProofs only [Z4, go_sem]

def iV (n : Int) : PV := .int .i64 n
def Zfj (l : List Int) : PV := .sl (l.map iV)

theorem c92 {h : List AObj} {g : FuncId} {caps : List AV} {pr : Int → Bool} (ws : List Int) (hl : ws.length ≤ 9223372036854775807)
    (hg : ∀ w ∈ ws, AC Tryz.prog g (.p (.int .i64 w) :: caps) h [] (fun v h' => v = .p (.bool (pr w)) ∧ h' = h)) :
    AC Tryz.prog 137 [.p (.sl (ws.map iV)), .fn g caps] h [] (fun v h' => (∃ i : Int, v = .p (.int .i64 i) ∧ decide (0 ≤ i) = ws.any pr) ∧ h' = h) := by
  refine AC.of_bodyE hΓ Tryz.func137 (by kernel_rfl) rfl (AWp.mono (Q := fun e st => AM.Ends e ∧ (∃ i : Int, st.tmps.getD 4 .junk = .p (.int .i64 i) ∧ decide (0 ≤ i) = ws.any pr) ∧ st.h = h) ?_ ?_)
  rotate_left
  · rintro e ⟨tm, h'⟩ ⟨he, ⟨i, h1, h3⟩, h2⟩
    simp only at h1 h2; subst h2; refine ⟨he, _, Less.refl _, ?_⟩; unfold Z4q; simp +contextual -implicitDefEqProofs only [Tryz.results137, h1, go_sem]; exact ⟨_, Nat.le_refl _, .inl rfl, ⟨i, rfl, h3⟩, List.take_length⟩
  refine Wd [] ?_; simp +contextual -implicitDefEqProofs only [Tryz.ntmps137, Nat.reduceAdd, Nat.reduceSub, go_sem]
  refine AWp.loopI (fun k : Nat => ⟨mkF 19 [(0, .p (.sl (ws.map iV))), (1, .fn g caps), (7, .p (.int .i64 ws.length)), (8, .p (.int .i64 k))], h⟩)
    (fun k => k ≤ ws.length ∧ (ws.take k).any pr = false) (fun k => ws.length - k) 0 (by simp [go_sem, Zy]) (by simp) ?_
  rintro k ⟨hk, h0⟩; refine Wd [] ?_; by_cases hlt : k < ws.length
  · have hgk : (ws.map iV).getD k default = .int .i64 ws[k] := by rw [Z5 _ _ _ _ hlt]; rfl
    simp -implicitDefEqProofs only [List.length_map, hlt, hgk, Int.toNat_natCast, go_sem]; refine Zl (hg ws[k] (List.getElem_mem hlt)) (by simp) ?_; rintro v h' ⟨rfl, rfl⟩
    cases hp : pr ws[k]
    · simp -implicitDefEqProofs only [Za, List.foldl, go_sem]
      refine ⟨by simp only [InR]; omega, k + 1, by simp [Zy], ⟨hlt, ?_⟩, by omega⟩; rw [List.take_succ_eq_append_getElem hlt, List.any_append, h0]; simp [hp]
    · simp -implicitDefEqProofs only [Za, List.foldl, go_sem]
      refine ⟨k, rfl, ?_⟩; rw [List.any_eq_true.2 ⟨_, List.getElem_mem hlt, hp⟩]; simp
  · simp -implicitDefEqProofs only [hlt, go_sem]
    exact ⟨-1, rfl, by rw [List.take_of_length_le (by omega)] at h0; rw [h0]; rfl⟩

theorem c48 {h : List AObj} {g : FuncId} {caps : List AV} {pr : Int → Bool} (ws : List Int) (hl : ws.length ≤ 9223372036854775807)
    (hg : ∀ w ∈ ws, AC Tryz.prog g (.p (.int .i64 w) :: caps) h [] (fun v h' => v = .p (.bool (pr w)) ∧ h' = h)) :
    AC Tryz.prog 70 [.p (.sl (ws.map iV)), .fn g caps] h [] (fun v h' => v = .p (.bool (ws.any pr)) ∧ h' = h) := by
  refine AC.of_bodyE hΓ Tryz.func70 (by kernel_rfl) rfl (AWp.mono (Q := fun e st => AM.Ends e ∧ st.tmps.getD 4 .junk = .p (.bool (ws.any pr)) ∧ st.h = h) ?_ ?_)
  rotate_left
  · rintro e ⟨tm, h'⟩ ⟨he, h1, h2⟩
    simp only at h1 h2; subst h2; refine ⟨he, _, Less.refl _, ?_⟩; unfold Z4q; simp +contextual -implicitDefEqProofs only [Tryz.results70, h1, go_sem]; exact ⟨_, Nat.le_refl _, .inl rfl, List.take_length⟩
  refine Wd [] ?_; simp +contextual -implicitDefEqProofs only [Tryz.ntmps70, Nat.reduceAdd, Nat.reduceSub, go_sem]; refine Zl (c92 ws hl hg) (by simp) ?_; rintro v h' ⟨⟨i, rfl, hi⟩, rfl⟩; simp -implicitDefEqProofs only [Za, List.foldl, go_sem]; exact hi

def badL (n : Int) : Bool := decide (n < 1) || decide (32 < n)
theorem v93 (n : Int) : PFn Tryz.prog 97 [.int .i64 n] [.bool (badL n)] := by
  unfold badL; refine PFn.of_body hΓ Tryz.func97 (by kernel_rfl) rfl (Wd [] ?_); by_cases h1 : n < 1
  · simp -implicitDefEqProofs only [Tryz.ntmps97, Tryz.results97, Nat.reduceAdd, Nat.reduceSub, h1, go_sem]
    try simp [h1]
  · simp -implicitDefEqProofs only [Tryz.ntmps97, Tryz.results97, Nat.reduceAdd, Nat.reduceSub, h1, go_sem]
    try simp [h1]
theorem c93a {h : List AObj} (n : Int) : AC Tryz.prog 97 [.p (.int .i64 n)] h [] (fun v h' => v = .p (.bool (badL n)) ∧ h' = h) := by
  have := AC.of_fn (h := h) (v93 n) (args := [.p (.int .i64 n)]) (.inl rfl); exact this
theorem v48 (ws : List Int) (hl : ws.length ≤ 9223372036854775807) {h : List AObj} : AC Tryz.prog 70 [.p (.sl (ws.map iV)), .fn 97 []] h [] (fun v h' => v = .p (.bool (ws.any badL)) ∧ h' = h) :=
  c48 ws hl fun w _ => c93a w

theorem v58 : PFn Tryz.prog 91 [] [ratV 1 1] := by
  have e1 := u34 1 (by omega); have e2 := v52 1 one_cap; refine PFn.of_body hΓ Tryz.func91 (by kernel_rfl) rfl (Wd [] ?_); simp -implicitDefEqProofs only [Tryz.ntmps91, Tryz.results91, Nat.reduceAdd, Nat.reduceSub, go_sem]; refine Z0 e1 (.pures rfl) ?_; simp -implicitDefEqProofs only [go_sem]; refine Z0 e2 (.pures rfl) ?_; simp -implicitDefEqProofs only [ratV, go_sem]

def krS (q : Nat) (l : List Nat) : Nat := (l.map fun n => q ^ (32 - n)).sum
theorem Zme (q : Nat) : krS q [] = 0 := rfl
theorem krS_snoc (q : Nat) (l : List Nat) (n : Nat) : krS q (l ++ [n]) = krS q l + q ^ (32 - n) := by simp [krS]
theorem Z8j {q n : Nat} (h : q ≤ 16) : q ^ (32 - n) ≤ 16 ^ 32 := Nat.le_trans (Nat.pow_le_pow_left h _) (Nat.pow_le_pow_right (by decide) (by omega))
theorem krS_le {q : Nat} (hq : q ≤ 16) : ∀ l : List Nat, krS q l ≤ l.length * 16 ^ 32
  | [] => Nat.zero_le _
  | n :: l => by
    have ih := krS_le hq l; have h1 := Z8j (q := q) (n := n) hq; have e : krS q (n :: l) = q ^ (32 - n) + krS q l := by simp [krS]
    rw [e, List.length_cons, Nat.succ_mul]; omega
theorem krS_cap {q : Nat} (hq : q ≤ 16) {l : List Nat} (hl : l.length ≤ 4096) : krS q l < capN := by
  have h1 := krS_le hq l; have h2 : l.length * 16 ^ 32 ≤ 4096 * 16 ^ 32 := Nat.mul_le_mul_right _ hl; have h3 : 4096 * 16 ^ 32 < capN := Z1u (n := 4096 * 16 ^ 32) (k := 18) (by decide) (by decide); omega
theorem Zl9 {q : Nat} (hq : q ≤ 16) : q ^ 32 < capN := by
  have h1 := Z8j (q := q) (n := 0) hq; have h3 : 16 ^ 32 < capN := Z1u (n := 16 ^ 32) (k := 17) (by decide) (by decide); rw [Nat.sub_zero] at h1; omega
def krE (q : Int) (l : List Int) : Int := if q < 2 ∨ 16 < q then 12 else if 4096 < l.length then 4 else if l.any badL then 2 else 0
def zeroR : PV := .agg [.bool false, .str [], .bool false, .str []]

theorem v50e (q : Int) (l : List Int) (hl : l.length ≤ 9223372036854775807) (he : krE q l ≠ 0) : PFn Tryz.prog 47 [.int .i64 q, Zfj l] [zeroR, .int .i64 (krE q l)] := by
  unfold krE at *; by_cases h1 : q < 2
  · rw [if_pos (.inl h1)]
    refine PFn.of_body hΓ Tryz.func47 (by kernel_rfl) rfl (Wd [] ?_); simp -implicitDefEqProofs only [Tryz.ntmps47, Tryz.results47, Nat.reduceAdd, Nat.reduceSub, Zfj, h1, go_sem]
    try rfl
  by_cases h2 : 16 < q
  · rw [if_pos (.inr h2)]
    refine PFn.of_body hΓ Tryz.func47 (by kernel_rfl) rfl (Wd [] ?_); simp -implicitDefEqProofs only [Tryz.ntmps47, Tryz.results47, Nat.reduceAdd, Nat.reduceSub, Zfj, h1, h2, go_sem]
    try rfl
  rw [if_neg (by omega)] at he ⊢; by_cases h3 : 4096 < l.length
  · rw [if_pos h3]
    have h3' : (4096 : Int) < (l.length : Int) := by omega
    refine PFn.of_body hΓ Tryz.func47 (by kernel_rfl) rfl (Wd [] ?_); simp -implicitDefEqProofs only [Tryz.ntmps47, Tryz.results47, Nat.reduceAdd, Nat.reduceSub, Zfj, h1, h2, List.length_map, h3', go_sem]
    try rfl
  rw [if_neg h3] at he ⊢; by_cases h4 : l.any badL = true
  · rw [if_pos h4]
    have h3' : ¬ (4096 : Int) < (l.length : Int) := by omega
    refine PFn.of_body hΓ Tryz.func47 (by kernel_rfl) rfl (Wd [] ?_); simp -implicitDefEqProofs only [Tryz.ntmps47, Tryz.results47, Nat.reduceAdd, Nat.reduceSub, Zfj, h1, h2, List.length_map, h3', go_sem]; refine Zl (v48 l hl) (by simp) ?_; rintro v h' ⟨rfl, rfl⟩; simp -implicitDefEqProofs only [Za, List.foldl, h4, go_sem]
    try rfl
  · rw [if_neg h4] at he
    exact absurd rfl he

def nV (n : Nat) : PV := .int .i64 (n : Int)
theorem v50 (q : Nat) (ns : List Nat) (hq2 : 2 ≤ q) (hq : q ≤ 16) (hl : ns.length ≤ 4096) (hn : ∀ n ∈ ns, 1 ≤ n ∧ n ≤ 32) : PFn Tryz.prog 47 [.int .i64 q, .sl (ns.map nV)] [ratV (krS q ns) (q ^ 32), .int .i64 0] := by
  have hq1 : ¬ (q : Int) < 2 := by omega
  have hq3 : ¬ (16 : Int) < (q : Int) := by omega
  have hl' : ¬ (4096 : Int) < (ns.length : Int) := by omega
  have hmap : (ns.map nV) = (ns.map fun n : Nat => (n : Int)).map iV := by rw [List.map_map]; rfl
  have hany : (ns.map fun n : Nat => (n : Int)).any badL = false := by
    rw [List.any_eq_false]; intro x hx; obtain ⟨n, hn', rfl⟩ := List.mem_map.1 hx; have := hn n hn'; unfold badL; simp only [Bool.or_eq_true, decide_eq_true_eq]; omega
  have hc := v48 (ns.map fun n : Nat => (n : Int)) (by simp; omega) (h := [.box [.p (.bool false), .p (.str []), .p (.bool false), .p (.str [])]]); rw [← hmap, hany] at hc; have eq := u34 q (by omega); have e32 := v94 q 32 (by omega) hq (by omega); have enew := v96 (krS q ns) (q ^ 32) (krS_cap hq hl) (Zl9 hq) (Nat.ne_of_gt (Nat.pow_pos (by omega))); refine PFn.of_body hΓ Tryz.func47 (by kernel_rfl) rfl (Wd [] ?_); simp -implicitDefEqProofs only [Tryz.ntmps47, Tryz.results47, Nat.reduceAdd, Nat.reduceSub, hq1, hq3, List.length_map, hl', go_sem]; refine Zl hc (by simp) ?_; rintro v h' ⟨rfl, rfl⟩; simp -implicitDefEqProofs only [Za, List.foldl, go_sem]
  refine AWp.loopJ (fun i : Nat => ⟨mkF 59 [(0, .p (.int .i64 q)), (4, .ptr 0 0), (6, .ptr 1 0), (30, .p (.sl (ns.map nV))), (31, .p (.int .i64 ns.length)), (32, .p (.int .i64 i))], [.box [.p (.bool false), .p (.str []), .p (.bool false), .p (.str [])], .box [.p (.bool false), .p (.str (magB (krS q (ns.take i))))]]⟩)
    (fun i => i ≤ ns.length) (fun i => ns.length - i) 0 (fun i => ⟨by simp, by simp [mkF, AV.blw, AV.blw.blwL], by simp [blwH, AObj.blw, AV.blw, AV.blw.blwL]⟩) (by simp [go_sem, Zme, magB_zero]) (by simp) ?_
  rintro i hi; refine Wd [] ?_; by_cases hlt : i < ns.length
  · have hlt' : (i : Int) < (ns.length : Int) := by omega
    have hni := hn ns[i] (List.getElem_mem hlt); have hgi : (ns.map nV).getD i default = .int .i64 (ns[i] : Int) := Z5 _ _ _ _ hlt; have hsub : (32 : Int) - (ns[i] : Int) = ((32 - ns[i] : Nat) : Int) := by omega
    have ep := v94 q (32 - ns[i]) (by omega) hq (by omega); have htk : ns.take (i + 1) = ns.take i ++ [ns[i]] := List.take_succ_eq_append_getElem hlt; have hcap1 := krS_cap hq (l := ns.take i) (by rw [List.length_take]; omega); have hp16 := Z8j (q := q) (n := ns[i]) hq; have hcap2 : q ^ (32 - ns[i]) < capN := Nat.lt_of_le_of_lt hp16 (Z1u (n := 16 ^ 32) (k := 17) (by decide) (by decide)); have ea := u89 (krS q (ns.take i)) (q ^ (32 - ns[i])) hcap1 hcap2; rw [← krS_snoc, ← htk] at ea; simp -implicitDefEqProofs only [hlt', hgi, Int.toNat_natCast, go_sem]; refine Z0 eq (.pures rfl) ?_; simp -implicitDefEqProofs only [hsub, Z4, go_sem]; refine ⟨by simp only [InR]; omega, Z0 ep (.pures rfl) ?_⟩; simp -implicitDefEqProofs only [Z4, go_sem]; refine Z0 ea (.still rfl) ?_; simp -implicitDefEqProofs only [Z4, go_sem]; exact ⟨by simp only [InR]; omega, i + 1, ⟨by simp, rfl⟩, hlt, by omega⟩
  · have hlt' : ¬ (i : Int) < (ns.length : Int) := by omega
    have : i = ns.length := by omega
    subst this; rw [List.take_length]; simp -implicitDefEqProofs only [hlt', Int.lt_irrefl, Nat.lt_irrefl, go_sem]; refine Z0 eq (.pures rfl) ?_; simp -implicitDefEqProofs only [Z4, go_sem]; refine Z0 e32 (.still rfl) ?_; simp -implicitDefEqProofs only [Z4, go_sem]; refine Z0 enew (.still rfl) ?_; simp -implicitDefEqProofs only [ratV, go_sem]
end Go.Proofs.YtpljmccnfmkmfaaGreat.Kn
end

section
namespace Go.Proofs.YtpljmccnfmkmfaaGreat
end Go.Proofs.YtpljmccnfmkmfaaGreat
end

section
namespace Go.Proofs.YtpljmccnfmkmfaaGreat
open Go Go.AM

theorem cm28 (q : Int) (ws : List (List UInt8)) (hc : Zb q ws = 0) : PFn Tryz.prog 44 [Zz q ws] [Kn.ratV (Kn.krS q.toNat (ws.map List.length)) (q.toNat ^ 32), .int .i64 0] := by
  have hv := Z2b hc; have h2 := hv.q2; have h16 := hv.q16; have hq : ((q.toNat : Nat) : Int) = q := by omega
  have hlen := hv.len; have e45 := t45 q ws; rw [hc] at e45; have hz : ((0 : Int) = 0) = True := by simp
  have ek := Kn.v50 q.toNat (ws.map List.length) (by omega) (by omega) (by simp; omega) (fun n hn => by
    obtain ⟨w, hw, rfl⟩ := List.mem_map.1 hn; obtain ⟨h1, h3, _⟩ := hv.words w hw; have := List.length_pos_iff.2 h1
    omega)
  rw [hq] at ek; refine PFn.of_body hΓ Tryz.func44 (by kernel_rfl) rfl (Wd [] ?_); simp -implicitDefEqProofs only [Tryz.ntmps44, Tryz.results44, Nat.reduceAdd, Nat.reduceSub, Zz, go_sem]; refine Z0 e45 (.still rfl) ?_; simp -implicitDefEqProofs only [go_sem]; refine AWp.adopt (l := []) 4 3 1 (by rfl) (by simp) ?_; simp -implicitDefEqProofs only [go_sem]
  refine AWp.loopI (fun i : Nat => ⟨mkF 30 [(1, .ptr 0 0), (2, .ptr 1 0), (4, .own 2 ((ws.map List.length).take i).length), (12, .p (.sl (ws.map .str))), (13, .p (.int .i64 ws.length)), (14, .p (.int .i64 i))], [Z1b q ws, .box [.p (.bool false), .p (.str []), .p (.bool false), .p (.str [])], .row 3 1 (((ws.map List.length).take i).map Kn.nV) .lax]⟩)
    (fun i => i ≤ ws.length) (fun i => ws.length - i) 0 (by simp [go_sem, Z1b]) (by simp) ?_
  intro i hi; refine Wd [] ?_; by_cases hlt : i < ws.length
  · have hlt' : (i : Int) < (ws.length : Int) := by omega
    have hgi : (ws.map PV.str).getD i default = .str ws[i] := Z5 _ _ _ _ hlt; have htk : (ws.map List.length).take (i + 1) = (ws.map List.length).take i ++ [ws[i].length] := by
      rw [List.take_succ_eq_append_getElem (by simpa using hlt), List.getElem_map]
    have hli : ((ws.map List.length).take i).length = i := by simp; omega
    have hs1 : Zu [PV.int .i64 (ws[i].length : Int)] 1 := by simp [Zu, PV.cells]
    have ho1 : Z4z [PV.int .i64 (ws[i].length : Int)] := by simp [Z4z, PV.cells, PV.isAgg]
    simp -implicitDefEqProofs only [hlt', hgi, Z1b, Int.toNat_natCast, go_sem]; refine ⟨⟨hs1, by omega⟩, ⟨hs1, ho1⟩, ⟨by simp, by rw [hli]; omega, by rw [hli]; omega⟩, by simp only [InR]; omega, i + 1, ⟨⟨by rw [htk]; simp, by simp⟩, .inr ?_⟩, hlt, by omega⟩; rw [htk]; simp [Kn.nV]
  · have hlt' : ¬ (i : Int) < (ws.length : Int) := by omega
    have : i = ws.length := by omega
    subst this; rw [List.take_of_length_le (by simp)]; simp -implicitDefEqProofs only [Int.lt_irrefl, Nat.lt_irrefl, Z1b, go_sem]; refine Z0 ek (.owned rfl rfl) ?_; simp -implicitDefEqProofs only [Kn.ratV, go_sem]

theorem aggR {A B C D : List UInt8} {x y : AV} {K : AV → Prop} (hx : x.pure = some (.agg [.bool false, .str A, .bool false, .str B])) (hy : y.pure = some (.agg [.bool false, .str C, .bool false, .str D]))
    (hK : K (.p (.bool (decide (A = C) && decide (B = D))))) : aggK Γ .eql 55 x y K := by
  have he : ∃ te fs, Γ 55 = some te ∧ te.td = .struct fs ∧ te.eqs = true ∧ Z3k Γ fs [.bool false, .str A, .bool false, .str B] [.bool false, .str C, .bool false, .str D] =
      some (((false == false) && (decide (A = C) && true)) && (((false == false) && (decide (B = D) && true)) && true)) := ⟨_, _, rfl, rfl, rfl, rfl⟩
  obtain ⟨te, fs, h1, h2, h3, h4⟩ := he; have e : (((false == false) && (decide (A = C) && true)) && (((false == false) && (decide (B = D) && true)) && true)) = (decide (A = C) && decide (B = D)) := by simp
  rw [e] at h4; unfold aggK; rw [hx, hy]; simp only [tyAt, h1, h2, h3, h4]; exact ⟨⟨trivial, rfl, rfl⟩, hK⟩

theorem Zi1 {q : Nat} (hq : q ≤ 16) : q ^ 32 < capN := by
  have h1 : q ^ 32 ≤ 16 ^ 32 := Nat.pow_le_pow_left hq 32; have h2 : 16 ^ 32 < capN := Nat.lt_of_lt_of_le (by decide : 16 ^ 32 < 256 ^ 17) (Nat.pow_le_pow_right (by decide) (by decide)); omega

theorem cm14 (q : Nat) (ns : List Nat) (hq : 2 ≤ q) (hq16 : q ≤ 16) (hn : ns.length < 20) (h32 : ∀ n ∈ ns, 1 ≤ n ∧ n ≤ 32) :
    PFn Tryz.prog 46 [.int .i64 q, .sl (ns.map Kn.nV)] [.bool (decide (Kn.krS q ns ≤ q ^ 32)), .int .i64 0] := by
  have e50 := Kn.v50 q ns hq hq16 (by omega) h32; have hkl := Kn.krS_le hq16 ns; have hc1 := Zi1 hq16; have hcap : (ns.length * 16 ^ 32) * 1 < capN := by
    have h2 : ns.length * 16 ^ 32 ≤ 20 * 16 ^ 32 := Nat.mul_le_mul_right _ (by omega); have h3 : 20 * 16 ^ 32 < capN := Nat.lt_of_lt_of_le (by decide : 20 * 16 ^ 32 < 256 ^ 18) (Nat.pow_le_pow_right (by decide) (by decide)); omega
  have hq0 : q ^ 32 ≠ 0 := Nat.pos_iff_ne_zero.1 (Nat.pow_pos (by omega)); have h1c := Kn.one_cap; have e58 := Kn.v58; have e51 := Kn.v51 (Kn.krS q ns) (q ^ 32) 1 1 (by omega) hc1 h1c h1c hq0 (by omega) (by omega) (by omega); rw [Nat.mul_one, Nat.one_mul] at e51; unfold Kn.ratV at e50 e51 e58; refine PFn.of_body hΓ Tryz.func46 (by kernel_rfl) rfl (AWp.seq (Wd [] ?_)); simp -implicitDefEqProofs only [Tryz.ntmps46, Tryz.results46, Nat.reduceAdd, Nat.reduceSub, go_sem]; refine AWp.seq (Wd [] ?_); simp -implicitDefEqProofs only [go_sem]; refine Z0 e50 (.pures rfl) ?_; simp -implicitDefEqProofs only [go_sem]; refine Wd [(2, 11)] ?_; simp -implicitDefEqProofs only [go_sem]; refine Z1 e58 (.pures rfl) ?_; simp -implicitDefEqProofs only [go_sem]; refine Z1 e51 (.still rfl) ?_; simp -implicitDefEqProofs only [go_sem]; by_cases h : Kn.krS q ns ≤ q ^ 32
  · have hc : cmpN (Kn.krS q ns) (q ^ 32) ≤ 0 := by
      by_cases he : Kn.krS q ns = q ^ 32
      · rw [he, Z24]; decide
      · rw [Z2k (by omega)]; decide
    rw [decide_eq_true h, decide_eq_true hc]
  · rw [Z0b (by omega), decide_eq_false h]
    rfl

end Go.Proofs.YtpljmccnfmkmfaaGreat
end

