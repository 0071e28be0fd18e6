/-
  Texts of this claim, joined.
-/
import Derived.Test.YtpljmccnfmkmfaaGreatJ3a7774dbd111

set_option linter.unusedSimpArgs false
set_option maxRecDepth 100000
set_option maxHeartbeats 4000000
section
namespace Go.Proofs.YtpljmccnfmkmfaaGreat.Kn
open Go Go.AM

def negV (n : Nat) : PV := .agg [.bool true, .str (magB n)]
def sgV (s : Bool) (n : Nat) : PV := .agg [.bool (s && decide (n ≠ 0)), .str (magB n)]
theorem s205 (s : Bool) (n : Nat) (h : (magB n).length ≤ 1000000) : PFn Tryz.prog 205 [sgV s n] [sgV s n] := by
  have e := q91 (s && decide (n ≠ 0)) (magB n) h; rw [Z7] at e; have h2 : intN (s && decide (n ≠ 0)) n = sgV s n := by
    unfold sgV intN intV
    cases s <;> simp
  rw [h2] at e; exact e
theorem s206 (n : Nat) (_ : n ≠ 0) (hn : n < 256 ^ 7) : PFn Tryz.prog 206 [negV n] [.int .i64 (-(n : Int))] := by
  have e := u124 (magB n) (mag7 hn); rw [Z7] at e; unfold negV; generalize magB n = l at *; refine PFn.of_body hΓ Tryz.func206 (by kernel_rfl) rfl (Wd [] ?_); simp -implicitDefEqProofs only [Tryz.ntmps206, Tryz.results206, Nat.reduceAdd, Nat.reduceSub, go_sem]; refine Z0 e (.pures rfl) ?_; simp -implicitDefEqProofs only [go_sem]; simp only [InR]; omega
theorem s179 (n : Nat) (hn0 : n ≠ 0) (hn : n < 9223372036854775808) : PFn Tryz.prog 179 [.int .i64 (-(n : Int))] [negV n] := by
  have e := u99 n hn; have h0 : ¬ (0 : Int) ≤ -(n : Int) := by omega
  have h1 : ¬ -(n : Int) = - -(n : Int) := by omega
  have h2 : - -(n : Int) = (n : Int) := by omega
  unfold negV; generalize magB n = l at *; refine PFn.of_body hΓ Tryz.func179 (by kernel_rfl) rfl (Wd [] ?_); simp -implicitDefEqProofs only [Tryz.ntmps179, Tryz.results179, Nat.reduceAdd, Nat.reduceSub, h0, go_sem]; refine ⟨by simp only [InR]; omega, fun h => absurd h h1, fun _ => ⟨by simp only [InR]; omega, ?_⟩⟩; rw [h2]; refine Z0 e (.pures rfl) ?_; simp -implicitDefEqProofs only [go_sem]; omega
theorem s171 (n : Nat) (hn0 : n ≠ 0) (hn : (magB n).length ≤ 1000000) : PFn Tryz.prog 215 [negV n, intN false 0] [.int .i64 (-1)] := by
  have ea := s205 true n hn; have eb := u96 0; unfold sgV at ea; rw [decide_eq_true hn0, Bool.and_self] at ea; unfold negV; simp only [Z4] at eb ⊢; generalize magB n = x at *; generalize magB 0 = y at *; refine PFn.of_body hΓ Tryz.func215 (by kernel_rfl) rfl (AWp.seq (Wd [] ?_)); simp -implicitDefEqProofs only [Tryz.ntmps215, Tryz.results215, Nat.reduceAdd, Nat.reduceSub, go_sem]; refine Wd [(1, 4)] ?_; simp -implicitDefEqProofs only [go_sem]; refine Z1 ea (.still rfl) ?_; simp -implicitDefEqProofs only [go_sem]; refine Z1 eb (.still rfl) ?_; have hz : (true != false) = true := rfl; simp -implicitDefEqProofs only [hz, go_sem]
theorem s171n (n : Nat) (hn0 : n ≠ 0) (hn : (magB n).length ≤ 1000000) : PFn Tryz.prog 171 [negV n] [.int .i64 (-1)] := by
  have e := s171 n hn0 hn; rw [Z4, magB_zero] at e; unfold negV at e ⊢; refine PFn.of_body hΓ Tryz.func171 (by kernel_rfl) rfl (Wd [] ?_); simp -implicitDefEqProofs only [Tryz.ntmps171, Tryz.results171, Nat.reduceAdd, Nat.reduceSub, go_sem]; refine Z0 e (.still rfl) ?_; simp -implicitDefEqProofs only [go_sem]
theorem s211 (n : Nat) : PFn Tryz.prog 211 [intN false n] [sgV true n] := by
  have ea := u96 n; unfold sgV; simp only [Z4] at ea ⊢; refine PFn.of_body hΓ Tryz.func211 (by kernel_rfl) rfl (AWp.seq (Wd [] ?_)); simp -implicitDefEqProofs only [Tryz.ntmps211, Tryz.results211, Nat.reduceAdd, Nat.reduceSub, go_sem]; refine AWp.seq (Wd [] ?_); simp -implicitDefEqProofs only [go_sem]; refine Z0 ea (.still rfl) ?_; simp -implicitDefEqProofs only [go_sem]; by_cases h : n = 0
  · subst h
    rw [magB_zero]; refine Wd [] ?_; simp -implicitDefEqProofs only [Bool.not_false, go_sem]; omega
  · have hm : ¬ magB n = [] := fun e => h (Zq e)
    rw [decide_eq_true h]; refine Wd [] ?_; simp -implicitDefEqProofs only [Bool.not_false, hm, go_sem]; omega
theorem s168 (n : Nat) (hn0 : n ≠ 0) (hn : n < capN) : PFn Tryz.prog 168 [negV 1, intN false n] [negV n] := by
  have ea := s205 true 1 (by have := Z0y one_cap; omega); have eb := u96 n; unfold sgV at ea; rw [decide_eq_true (show (1 : Nat) ≠ 0 by omega), Bool.and_self] at ea; have hx : ¬ magB 1 = [] := fun e => by have := Zq e; omega
  have hy : ¬ magB n = [] := fun e => hn0 (Zq e)
  have h1l : (magB 1).length = 1 := by rw [Z5t 1 (by omega) (by omega)]; rfl
  have li : InR IntKind.i64 (((magB 1).length : Int) + ((magB n).length : Int)) := by have := Z0y hn; simp only [InR]; omega
  by_cases hs : (magB 1).length + (magB n).length < 8
  · have h7 := Zx (n := n) (by omega)
    have va := s206 1 (by omega) (by omega); have vb := u110 n h7; have eo := s179 n hn0 (by omega); have ls : ((magB 1).length : Int) + ((magB n).length : Int) < 8 := by omega
    have hm : -((1 : Nat) : Int) * (n : Int) = -(n : Int) := by omega
    have hi : InR IntKind.i64 (-(n : Int)) := by simp only [InR]; omega
    unfold negV at va eo ⊢; simp only [Z4] at eb vb ⊢; generalize magB n = y at *; generalize magB 1 = x at *; refine PFn.of_body hΓ Tryz.func168 (by kernel_rfl) rfl (AWp.seq (Wd [] ?_)); simp -implicitDefEqProofs only [Tryz.ntmps168, Tryz.results168, Nat.reduceAdd, Nat.reduceSub, go_sem]; refine Wd [(1, 4), (5, 6), (6, 10)] ?_; simp -implicitDefEqProofs only [go_sem]; refine Z1 ea (.still rfl) ?_; simp -implicitDefEqProofs only [go_sem]; refine Z1 eb (.still rfl) ?_; simp -implicitDefEqProofs only [hx, hy, ls, go_sem]; refine ⟨li, Z1 va (.still rfl) ?_⟩; simp -implicitDefEqProofs only [go_sem]; refine Z1 vb (.still rfl) ?_; simp -implicitDefEqProofs only [hm, go_sem]; refine ⟨hi, Z1 eo (.still rfl) ?_⟩; simp -implicitDefEqProofs only [go_sem]
  · have ls : ¬ ((magB 1).length : Int) + ((magB n).length : Int) < 8 := by omega
    have e108 := q108 (magB 1) (magB n) (by omega) (by have := Z0y hn; omega); rw [Z7, Z7, Nat.one_mul] at e108; unfold negV; simp only [Z4] at eb ⊢; generalize magB n = y at *; generalize magB 1 = x at *; refine PFn.of_body hΓ Tryz.func168 (by kernel_rfl) rfl (AWp.seq (Wd [] ?_)); simp -implicitDefEqProofs only [Tryz.ntmps168, Tryz.results168, Nat.reduceAdd, Nat.reduceSub, go_sem]; refine Wd [(1, 4), (5, 6), (6, 10)] ?_; simp -implicitDefEqProofs only [go_sem]; refine Z1 ea (.still rfl) ?_; simp -implicitDefEqProofs only [go_sem]; refine Z1 eb (.still rfl) ?_; have hz : (true != false) = true := rfl; simp -implicitDefEqProofs only [hx, hy, ls, hz, go_sem]; refine ⟨li, Z1 e108 (.pures rfl) ?_⟩; simp -implicitDefEqProofs only [go_sem]; omega
def difV (x y : Nat) : PV := if y ≤ x then intN false (x - y) else negV (y - x)
theorem s167 (x y : Nat) (hx : x < capN) (hy : y < capN) (hy0 : y ≠ 0) : PFn Tryz.prog 167 [intN false x, negV y] [difV x y] := by
  have ea := u96 x; have eb := s205 true y (by have := Z0y hy; omega); unfold sgV at eb; rw [decide_eq_true hy0, Bool.and_self] at eb; have hxl := Z0y hx; have hyl := Z0y hy; unfold negV; by_cases hs : (magB x).length < 8 ∧ (magB y).length < 8
  · have h7a := Zx hs.1
    have h7b := Zx hs.2; have va := u110 x h7a; have vb := s206 y hy0 h7b; have la : ((magB x).length : Int) < 8 := by omega
    have lb : ((magB y).length : Int) < 8 := by omega
    have hi : InR IntKind.i64 ((x : Int) + -(y : Int)) := by simp only [InR]; omega
    have eo : ∃ s M, difV x y = .agg [.bool s, .str M] ∧ PFn Tryz.prog 179 [.int .i64 ((x : Int) + -(y : Int))] [.agg [.bool s, .str M]] := by
      unfold difV; by_cases hle : y ≤ x
      · rw [if_pos hle]
        have := u76 (x - y) (by omega); rw [show (((x - y : Nat)) : Int) = (x : Int) + -(y : Int) by omega] at this; exact ⟨false, _, rfl, this⟩
      · rw [if_neg hle]
        have := s179 (y - x) (by omega) (by omega); rw [show -(((y - x : Nat)) : Int) = (x : Int) + -(y : Int) by omega] at this; exact ⟨true, _, rfl, this⟩
    obtain ⟨s, M, hd, eo⟩ := eo; rw [hd]; unfold negV at vb; simp only [Z4] at ea va ⊢; generalize magB x = A at *; generalize magB y = B at *; refine PFn.of_body hΓ Tryz.func167 (by kernel_rfl) rfl (AWp.seq (Wd [] ?_)); simp -implicitDefEqProofs only [Tryz.ntmps167, Tryz.results167, Nat.reduceAdd, Nat.reduceSub, go_sem]; refine Wd [(1, 4), (3, 6), (5, 8), (10, 8), (11, 8)] ?_; simp -implicitDefEqProofs only [la, lb, go_sem]; refine Z1 ea (.still rfl) ?_; simp -implicitDefEqProofs only [la, lb, go_sem]; refine Z1 eb (.still rfl) ?_; simp -implicitDefEqProofs only [la, lb, go_sem]; refine Z1 va (.still rfl) ?_; simp -implicitDefEqProofs only [la, lb, go_sem]; refine Z1 vb (.still rfl) ?_; simp -implicitDefEqProofs only [go_sem]; refine ⟨hi, Z1 eo (.still rfl) ?_⟩; simp -implicitDefEqProofs only [go_sem]
  · have ec := u97 x y
    have hz : (false == true) = false := rfl; rcases Nat.lt_trichotomy x y with h | h | h
    · have e209 := q209 (magB y) (magB x) (by omega) (Z3c (Nat.le_of_lt h)) (by rw [Z7, Z7]; omega)
      rw [Z7, Z7] at e209; rw [Z2k h] at ec; have hW : difV x y = .agg [.bool true, .str (magB (y - x))] := by unfold difV; rw [if_neg (by omega)]; rfl
      rw [hW]; have h1 : ¬ (-1 : Int) = 0 := by omega
      have h2 : ¬ (0 : Int) < -1 := by omega
      simp only [Z4] at ea ⊢; generalize magB x = A at *; generalize magB y = B at *; refine PFn.of_body hΓ Tryz.func167 (by kernel_rfl) rfl (AWp.seq (Wd [] ?_)); simp -implicitDefEqProofs only [Tryz.ntmps167, Tryz.results167, Nat.reduceAdd, Nat.reduceSub, go_sem]; refine Wd [(1, 4), (3, 6), (5, 8), (10, 8), (11, 8)] ?_; by_cases hA : A.length < 8
      · have hB : ¬ B.length < 8 := fun h => hs ⟨hA, h⟩
        have lA : (A.length : Int) < 8 := by omega
        have lB : ¬ (B.length : Int) < 8 := by omega
        simp -implicitDefEqProofs only [lA, lB, go_sem]; refine Z1 ea (.still rfl) ?_; simp -implicitDefEqProofs only [lA, lB, go_sem]; refine Z1 eb (.still rfl) ?_; simp -implicitDefEqProofs only [lA, lB, hz, go_sem]; refine Z0 ec (.pures rfl) ?_; simp -implicitDefEqProofs only [h1, h2, go_sem]; refine Z1 e209 (.pures rfl) ?_; simp -implicitDefEqProofs only [go_sem]; omega
      · have lA : ¬ (A.length : Int) < 8 := by omega
        simp -implicitDefEqProofs only [lA, go_sem]; refine Z1 ea (.still rfl) ?_; simp -implicitDefEqProofs only [lA, go_sem]; refine Z1 eb (.still rfl) ?_; simp -implicitDefEqProofs only [lA, hz, go_sem]; refine Z0 ec (.pures rfl) ?_; simp -implicitDefEqProofs only [h1, h2, go_sem]; refine Z1 e209 (.pures rfl) ?_; simp -implicitDefEqProofs only [go_sem]; omega
    · subst h
      rw [Z24] at ec; have hW : difV x x = .agg [.bool false, .str []] := by unfold difV; rw [if_pos (Nat.le_refl _), Nat.sub_self, Z4, magB_zero]
      rw [hW]; have lA : ¬ ((magB x).length : Int) < 8 := fun h => hs ⟨by omega, by omega⟩
      simp only [Z4] at ea ⊢; generalize magB x = A at *; refine PFn.of_body hΓ Tryz.func167 (by kernel_rfl) rfl (AWp.seq (Wd [] ?_)); simp -implicitDefEqProofs only [Tryz.ntmps167, Tryz.results167, Nat.reduceAdd, Nat.reduceSub, go_sem]; refine Wd [(1, 4), (3, 6), (5, 8), (10, 8), (11, 8)] ?_; simp -implicitDefEqProofs only [lA, go_sem]; refine Z1 ea (.still rfl) ?_; simp -implicitDefEqProofs only [lA, go_sem]; refine Z1 eb (.still rfl) ?_; simp -implicitDefEqProofs only [lA, hz, go_sem]; refine Z0 ec (.pures rfl) ?_; simp -implicitDefEqProofs only [go_sem]
    · have e209 := q209 (magB x) (magB y) (by omega) (Z3c (Nat.le_of_lt h)) (by rw [Z7, Z7]; omega)
      rw [Z7, Z7] at e209; rw [Z0b h] at ec; have hW : difV x y = .agg [.bool false, .str (magB (x - y))] := by unfold difV; rw [if_pos (by omega)]; rfl
      rw [hW]; have h1 : ¬ (1 : Int) = 0 := by omega
      have h2 : (0 : Int) < 1 := by omega
      simp only [Z4] at ea ⊢; generalize magB x = A at *; generalize magB y = B at *; refine PFn.of_body hΓ Tryz.func167 (by kernel_rfl) rfl (AWp.seq (Wd [] ?_)); simp -implicitDefEqProofs only [Tryz.ntmps167, Tryz.results167, Nat.reduceAdd, Nat.reduceSub, go_sem]; refine Wd [(1, 4), (3, 6), (5, 8), (10, 8), (11, 8)] ?_; by_cases hA : A.length < 8
      · have hB : ¬ B.length < 8 := fun h => hs ⟨hA, h⟩
        have lA : (A.length : Int) < 8 := by omega
        have lB : ¬ (B.length : Int) < 8 := by omega
        simp -implicitDefEqProofs only [lA, lB, go_sem]; refine Z1 ea (.still rfl) ?_; simp -implicitDefEqProofs only [lA, lB, go_sem]; refine Z1 eb (.still rfl) ?_; simp -implicitDefEqProofs only [lA, lB, hz, go_sem]; refine Z0 ec (.pures rfl) ?_; simp -implicitDefEqProofs only [h1, h2, go_sem]; refine Z1 e209 (.pures rfl) ?_; simp -implicitDefEqProofs only [go_sem]; omega
      · have lA : ¬ (A.length : Int) < 8 := by omega
        simp -implicitDefEqProofs only [lA, go_sem]; refine Z1 ea (.still rfl) ?_; simp -implicitDefEqProofs only [lA, go_sem]; refine Z1 eb (.still rfl) ?_; simp -implicitDefEqProofs only [lA, hz, go_sem]; refine Z0 ec (.pures rfl) ?_; simp -implicitDefEqProofs only [h1, h2, go_sem]; refine Z1 e209 (.pures rfl) ?_; simp -implicitDefEqProofs only [go_sem]; omega

theorem s213 (a b : Nat) (ha : (magB a).length ≤ 900) (hb : (magB b).length ≤ 900) (hb0 : b ≠ 0) (ha0 : a ≠ 0) (hd : a % b = 0) : PFn Tryz.prog 213 [negV a, intN false b] [negV (a / b), intN false 0, .int .i64 0] := by
  have ea := s205 true a (by omega); unfold sgV at ea; rw [decide_eq_true ha0, Bool.and_self] at ea; have eb := u96 b; have hbn : ¬ magB b = [] := fun e => hb0 (Zq e)
  have hq0 : a / b ≠ 0 := fun h => ha0 (by have := Nat.div_add_mod a b; rw [h, hd] at this; omega)
  have en := s211 (a / b); unfold sgV at en; rw [decide_eq_true hq0, Bool.and_self] at en; have hz : (true != false) = true := rfl; unfold negV; by_cases hs : (magB a).length < 8 ∧ (magB b).length < 8
  · have h7a := Zx hs.1
    have h7b := Zx hs.2; have va := u124 (magB a) (by omega); have vb := u124 (magB b) (by omega); rw [Z7] at va vb; have hdl : a / b ≤ a := Nat.div_le_self a b; have hml : a % b < b := Nat.mod_lt a (by omega); have e1 := u76 (a / b) (by omega); have e2 := u76 (a % b) (by omega); have la : ((magB a).length : Int) < 8 := by omega
    have lb : ((magB b).length : Int) < 8 := by omega
    rw [hd] at e2; have hdi : (a : Int) % (b : Int) = ((0 : Nat) : Int) := by rw [← Int.natCast_emod, hd]
    simp only [Z4, magB_zero] at ea eb e1 e2 en ⊢; rw [Int.natCast_ediv] at e1; have hib : ¬ (b : Int) = 0 := by omega
    refine PFn.of_body hΓ Tryz.func213 (by kernel_rfl) rfl (AWp.seq (Wd [] ?_)); simp -implicitDefEqProofs only [Tryz.ntmps213, Tryz.results213, Nat.reduceAdd, Nat.reduceSub, go_sem]; refine Wd [(1, 4), (6, 8), (7, 8), (13, 3), (17, 1000)] ?_; simp -implicitDefEqProofs only [la, lb, hbn, go_sem]; refine Z1 ea (.still rfl) ?_; simp -implicitDefEqProofs only [la, lb, hbn, go_sem]; refine Z1 eb (.still rfl) ?_; simp -implicitDefEqProofs only [la, lb, hbn, go_sem]; refine Z1 va (.still rfl) ?_; simp -implicitDefEqProofs only [go_sem]; refine Z1 vb (.still rfl) ?_; simp -implicitDefEqProofs only [hib, hdi, go_sem]; refine ⟨⟨by omega, by simp only [InR]; omega⟩, Z1 e1 (.still rfl) ?_⟩; simp -implicitDefEqProofs only [hib, hdi, go_sem]; refine ⟨by omega, Z1 e2 (.still rfl) ?_⟩; simp -implicitDefEqProofs only [hz, go_sem]; refine Z0 en (.still rfl) ?_; simp -implicitDefEqProofs only [go_sem]; refine AWp.planL (.q 0 (.q 1 (.e 2 (.s 1 (.e 3 (.q 4 .fin) .nil)) .nil))) hΓ hmix (by kernel_rfl) ?_; simp -implicitDefEqProofs only [go_sem]
  · have e245 := q245 a b ha hb hb0
    rw [hd, magB_zero] at e245; simp only [Z4, magB_zero] at ea eb en ⊢; refine PFn.of_body hΓ Tryz.func213 (by kernel_rfl) rfl (AWp.seq (Wd [] ?_)); simp -implicitDefEqProofs only [Tryz.ntmps213, Tryz.results213, Nat.reduceAdd, Nat.reduceSub, go_sem]; refine Wd [(1, 4), (6, 8), (7, 8), (13, 3), (17, 1000)] ?_; by_cases hx : (magB a).length < 8
    · have hy : ¬ (magB b).length < 8 := fun h => hs ⟨hx, h⟩
      have lx : ((magB a).length : Int) < 8 := by omega
      have ly : ¬ ((magB b).length : Int) < 8 := by omega
      simp -implicitDefEqProofs only [lx, ly, hbn, go_sem]; refine Z1 ea (.still rfl) ?_; simp -implicitDefEqProofs only [lx, ly, hbn, go_sem]; refine Z1 eb (.still rfl) ?_; simp -implicitDefEqProofs only [lx, ly, hbn, go_sem]; refine Z0 e245 (.still rfl) ?_; simp -implicitDefEqProofs only [hz, go_sem]; refine Z0 en (.still rfl) ?_; simp -implicitDefEqProofs only [go_sem]; refine AWp.planL (.q 0 (.q 1 (.e 2 (.s 1 (.e 3 (.q 4 .fin) .nil)) .nil))) hΓ hmix (by kernel_rfl) ?_; simp -implicitDefEqProofs only [go_sem]
    · have lx : ¬ ((magB a).length : Int) < 8 := by omega
      simp -implicitDefEqProofs only [lx, hbn, go_sem]; refine Z1 ea (.still rfl) ?_; simp -implicitDefEqProofs only [lx, hbn, go_sem]; refine Z1 eb (.still rfl) ?_; simp -implicitDefEqProofs only [lx, hbn, go_sem]; refine Z0 e245 (.still rfl) ?_; simp -implicitDefEqProofs only [hz, go_sem]; refine Z0 en (.still rfl) ?_; simp -implicitDefEqProofs only [go_sem]; refine AWp.planL (.q 0 (.q 1 (.e 2 (.s 1 (.e 3 (.q 4 .fin) .nil)) .nil))) hΓ hmix (by kernel_rfl) ?_; simp -implicitDefEqProofs only [go_sem]

theorem s169 (n d : Nat) (hn0 : n ≠ 0) (hn : n < capN) (hd : d < capN) (hd0 : d ≠ 0) : PFn Tryz.prog 169 [negV n, intN false d] [.agg [.bool true, .str (magB (n / Nat.gcd n d)), .bool false, .str (magB (d / Nat.gcd n d))]] := by
  have c1 := w171 d; rw [Z0b (Nat.pos_of_ne_zero hd0)] at c1; have h11 : ¬ (1 : Int) < 0 := by omega
  have hG := Z54 hn hd; have hg0 : Nat.gcd n d ≠ 0 := fun h => hd0 (Nat.eq_zero_of_gcd_eq_zero_right h)
  have eg := Zpq true n d (cap9 hn) (cap9 hd); have d1 := s213 n (Nat.gcd n d) (cap9 hn) (cap9 hG) hg0 hn0 (Nat.mod_eq_zero_of_dvd (Nat.gcd_dvd_left n d)); have d2 := q213 d (Nat.gcd n d) (cap9 hd) (cap9 hG) hg0; unfold negV at d1 ⊢; simp only [Z4] at c1 eg d1 d2 ⊢; refine PFn.of_body hΓ Tryz.func169 (by kernel_rfl) rfl (AWp.seq (Wd [] ?_)); simp -implicitDefEqProofs only [Tryz.ntmps169, Tryz.results169, Nat.reduceAdd, Nat.reduceSub, go_sem]; refine Wd [(2, 4)] ?_; simp -implicitDefEqProofs only [go_sem]; refine Z0 c1 (.still rfl) ?_; simp -implicitDefEqProofs only [h11, go_sem]; refine Z0 eg (.still rfl) ?_; simp -implicitDefEqProofs only [go_sem]; refine Z0 d1 (.still rfl) ?_; simp -implicitDefEqProofs only [go_sem]; refine Z0 d2 (.still rfl) ?_; simp -implicitDefEqProofs only [go_sem]; omega
def Z7q : PV := .agg [.bool true, .str (magB 1), .bool false, .str (magB 1)]
theorem s166 : PFn Tryz.prog 166 [Z7q] [Z7q] := by
  have c1 := w171 1; rw [Z0b (by omega)] at c1; have h10 : ¬ (1 : Int) = 0 := by omega
  have e := s169 1 1 (by omega) one_cap one_cap (by omega); rw [Nat.gcd_self, Nat.div_self (by omega)] at e; unfold negV at e; unfold Z7q; simp only [Z4] at c1 e; generalize magB 1 = x at *; refine PFn.of_body hΓ Tryz.func166 (by kernel_rfl) rfl (Wd [] ?_); simp -implicitDefEqProofs only [Tryz.ntmps166, Tryz.results166, Nat.reduceAdd, Nat.reduceSub, go_sem]; refine Z0 c1 (.still rfl) ?_; simp -implicitDefEqProofs only [h10, go_sem]; refine ⟨by omega, Z0 e (.still rfl) ?_⟩; simp -implicitDefEqProofs only [go_sem]
theorem s216 : PFn Tryz.prog 216 [ratV 1 1] [Z7q] := by
  have e1 := w166 1 1 one_cap one_cap (by omega); have e2 := s211 1; unfold sgV at e2; rw [decide_eq_true (show (1 : Nat) ≠ 0 by omega), Bool.and_self] at e2; rw [rat_inv] at e1 ⊢; unfold Z7q; simp only [Z4] at e2; generalize magB 1 = x at *; refine PFn.of_body hΓ Tryz.func216 (by kernel_rfl) rfl (AWp.seq (Wd [] ?_)); simp -implicitDefEqProofs only [Tryz.ntmps216, Tryz.results216, Nat.reduceAdd, Nat.reduceSub, go_sem]; refine Wd [(2, 6)] ?_; simp -implicitDefEqProofs only [go_sem]; refine Z0 e1 (.still rfl) ?_; simp -implicitDefEqProofs only [go_sem]; refine ⟨by omega, Z1 e2 (.still rfl) ?_⟩; simp -implicitDefEqProofs only [go_sem]; omega
theorem Zjj {t s4 s5 : Bool} {t2 : Bool} {A B C D z1 z2 z3 z4 x y : List UInt8} (e1 : PFn Tryz.prog 166 [.agg [.bool false, .str A, .bool false, .str B]] [.agg [.bool false, .str A, .bool false, .str B]]) (e2 : PFn Tryz.prog 166 [.agg [.bool t, .str C, .bool false, .str D]] [.agg [.bool t, .str C, .bool false, .str D]])
    (m1 : PFn Tryz.prog 168 [.agg [.bool false, .str A], .agg [.bool false, .str D]] [.agg [.bool false, .str z1]]) (m2 : PFn Tryz.prog 168 [.agg [.bool t, .str C], .agg [.bool false, .str B]] [.agg [.bool t2, .str z2]])
    (m3 : PFn Tryz.prog 168 [.agg [.bool false, .str B], .agg [.bool false, .str D]] [.agg [.bool false, .str z3]]) (s1 : PFn Tryz.prog 167 [.agg [.bool false, .str z1], .agg [.bool t2, .str z2]] [.agg [.bool s4, .str z4]])
    (e4 : PFn Tryz.prog 169 [.agg [.bool s4, .str z4], .agg [.bool false, .str z3]] [.agg [.bool s5, .str x, .bool false, .str y]]) :
    PFn Tryz.prog 106 [.agg [.bool false, .str A, .bool false, .str B], .agg [.bool t, .str C, .bool false, .str D]] [.agg [.bool s5, .str x, .bool false, .str y]] := by
  refine PFn.of_body hΓ Tryz.func106 (by kernel_rfl) rfl (AWp.seq (Wd [] ?_)); simp -implicitDefEqProofs only [Tryz.ntmps106, Tryz.results106, Nat.reduceAdd, Nat.reduceSub, go_sem]; refine AWp.seq (Wd [(1, 4)] ?_); simp -implicitDefEqProofs only [go_sem]; refine Z1 e1 (.still rfl) ?_; simp -implicitDefEqProofs only [go_sem]; refine Z1 e2 (.still rfl) ?_; simp -implicitDefEqProofs only [go_sem]
  refine AWp.seqM (fun _ : Unit => ⟨mkF 28 [(2, .ptr 0 0), (3, .ptr 1 0), (4, .ptr 2 0), (5, .ptr 3 0)], [.box [.p (.bool false), .p (.str A), .p (.bool false), .p (.str B)], .box [.p (.bool t), .p (.str C), .p (.bool false), .p (.str D)], .box [.p (.bool false), .p (.str []), .p (.bool false), .p (.str [])], .box [.p (.bool s4), .p (.str z4)]]⟩)
    (fun _ => True) (Wd [(2, 1000)] ?_) ?_
  · simp -implicitDefEqProofs only [go_sem]
    refine AWp.planL (.q 0 (.q 1 (.q 2 (.q 3 (.q 5 (.q 6 (.q 7 (.q 8 (.e 4 (.s 5 (.s 6 (.s 7 (.s 8 (.e 9 (.e 10 (.e 11 (.s 0 (.s 1 (.s 2 (.s 3 (.s 5 (.s 6 (.s 7 (.s 8 (.e 12 .fin .nil))))))))) .nil) (.e 11 (.s 0 (.s 1 (.s 2 (.s 3 (.s 5 (.s 6 (.s 7 (.s 8 (.e 10 (.e 12 .fin .nil) .nil))))))))) .nil)) (.e 11 (.s 0 (.s 1 (.s 2 (.s 3 (.s 5 (.s 6 (.s 7 (.s 8 (.e 9 (.e 10 (.e 12 .fin .nil) .nil) .nil))))))))) .nil)))))) (.e 11 (.s 0 (.s 1 (.s 2 (.s 3 (.s 5 (.s 6 (.s 7 (.s 8 (.e 4 (.s 5 (.s 6 (.s 7 (.s 8 (.e 9 (.e 10 (.e 12 .fin .nil) .nil) .nil))))) .nil))))))))) .nil)))))))))) hΓ hmix (by kernel_rfl) ?_; simp -implicitDefEqProofs only [go_sem]; refine ⟨by omega, by omega, ?_, ?_⟩
    · refine Z0 m1 (.still rfl) ?_
      simp -implicitDefEqProofs only [go_sem]; refine ⟨by omega, ?_, ?_⟩
      · refine Z0 m2 (.still rfl) ?_
        simp -implicitDefEqProofs only [go_sem]; refine ⟨?_, ?_⟩
        · refine Z0 s1 (.still rfl) ?_
          simp -implicitDefEqProofs only [go_sem]; exact ⟨by omega, by omega, (), trivial⟩
        · refine ⟨by omega, by omega, Z0 s1 (.still rfl) ?_⟩
          simp -implicitDefEqProofs only [go_sem]; exact ⟨(), trivial⟩
      · refine ⟨by omega, by omega, Z0 m2 (.still rfl) ?_⟩
        simp -implicitDefEqProofs only [go_sem]; refine Z0 s1 (.still rfl) ?_; simp -implicitDefEqProofs only [go_sem]; exact ⟨(), trivial⟩
    · refine ⟨by omega, by omega, Z0 m1 (.still rfl) ?_⟩
      simp -implicitDefEqProofs only [go_sem]; refine ⟨by omega, Z0 m2 (.still rfl) ?_⟩; simp -implicitDefEqProofs only [go_sem]; refine Z0 s1 (.still rfl) ?_; simp -implicitDefEqProofs only [go_sem]; exact ⟨(), trivial⟩
  intro _ _; refine Wd [(3, 7)] ?_; simp -implicitDefEqProofs only [go_sem]; refine Z1 m3 (.still rfl) ?_; simp -implicitDefEqProofs only [go_sem]; refine Z1 e4 (.still rfl) ?_; simp -implicitDefEqProofs only [go_sem]

theorem s108 (K D : Nat) (hK : K < capN) (hD : D < capN) (hD0 : D ≠ 0) : ∃ c : Int, PFn Tryz.prog 108 [ratV K D, ratV 1 1] [.int .i64 c] ∧ (c ≤ 0 ↔ K ≤ D) := by
  obtain ⟨a1, a2⟩ := Z0w hK hD; have p1 := lowD_pos (n := K) hD0; have e1 := w166 K D hK hD hD0; have e2 := s166; have m1 := q73 (lowN K D) 1 a1 one_cap; have m2 := s168 (lowD K D) p1 a2; have m3 := q73 (lowD K D) 1 a2 one_cap; have s1 := s167 (lowN K D) (lowD K D) a1 a2 p1; have e216 := s216; rw [Nat.mul_one] at m1 m3; have hlow : lowD K D ≤ lowN K D ↔ D ≤ K := by
    have h := low_mul (n := K) (d := D)
    constructor
    · intro hh
      have h2 : lowD K D * D ≤ lowN K D * D := Nat.mul_le_mul_right _ hh; rw [h, Nat.mul_comm K] at h2; exact Nat.le_of_mul_le_mul_left h2 (Nat.pos_of_ne_zero p1)
    · intro hh
      have h2 : D * lowD K D ≤ K * lowD K D := Nat.mul_le_mul_right _ hh; rw [← h, Nat.mul_comm D] at h2; exact Nat.le_of_mul_le_mul_right h2 (Nat.pos_of_ne_zero hD0)
  have hlow2 : lowN K D = lowD K D ↔ K = D := by
    have h := low_mul (n := K) (d := D)
    constructor
    · intro hh
      rw [hh, Nat.mul_comm K] at h; exact (Nat.eq_of_mul_eq_mul_left (Nat.pos_of_ne_zero p1) h).symm
    · intro hh
      rw [hh] at h; have h3 := Nat.eq_of_mul_eq_mul_left (Nat.pos_of_ne_zero hD0) ((Nat.mul_comm _ _).trans h); rw [hh]; exact h3
  rw [ratV_low K D] at e1 ⊢; generalize lowN K D = x at *; generalize lowD K D = y at *; have fin : ∃ (s4 s5 : Bool) (z4 u v : List UInt8) (c : Int), difV x y = .agg [.bool s4, .str z4] ∧ PFn Tryz.prog 169 [.agg [.bool s4, .str z4], intN false y] [.agg [.bool s5, .str u, .bool false, .str v]] ∧ PFn Tryz.prog 171 [.agg [.bool s5, .str u]] [.int .i64 c] ∧ (c ≤ 0 ↔ K ≤ D) := by
    unfold difV; by_cases hle : y ≤ x
    · rw [if_pos hle]
      have e := w169 (x - y) y (by omega) a2 p1; have c1 := w171 (lowN (x - y) y); refine ⟨false, false, _, _, _, _, rfl, e, c1, ?_⟩; by_cases hxy : x = y
      · have hl0 : lowN (x - y) y = 0 := by unfold lowN; rw [hxy, Nat.sub_self, Nat.zero_div]
        rw [hl0, Z24]; have := hlow2.1 hxy; omega
      · have hl0 : 0 < lowN (x - y) y := by
          unfold lowN; have hg : 0 < Nat.gcd (x - y) y := Nat.pos_of_ne_zero fun h => p1 (Nat.eq_zero_of_gcd_eq_zero_right h)
          exact Nat.div_pos (Nat.le_of_dvd (by omega) (Nat.gcd_dvd_left _ _)) hg
        rw [Z0b hl0]; have h1 : K ≠ D := fun e => hxy (hlow2.2 e)
        have h2 := hlow.1 hle; omega
    · rw [if_neg hle]
      have hn0 : y - x ≠ 0 := by omega
      have e := s169 (y - x) y hn0 (by omega) a2 p1; have hg : 0 < Nat.gcd (y - x) y := Nat.pos_of_ne_zero fun h => p1 (Nat.eq_zero_of_gcd_eq_zero_right h)
      have hl0 : (y - x) / Nat.gcd (y - x) y ≠ 0 := Nat.ne_of_gt (Nat.div_pos (Nat.le_of_dvd (by omega) (Nat.gcd_dvd_left _ _)) hg); have hll := Nat.div_le_self (y - x) (Nat.gcd (y - x) y); have c1 := s171n ((y - x) / Nat.gcd (y - x) y) hl0 (by have := Z0y (n := (y - x) / Nat.gcd (y - x) y) (by omega); omega); refine ⟨true, true, _, _, _, _, rfl, e, c1, ?_⟩; have : ¬ D ≤ K := fun h => hle (hlow.2 h)
      omega
  obtain ⟨s4, s5, z4, u, v, c, hd, e4, c1, hc⟩ := fin; rw [hd] at s1; refine ⟨c, ?_, hc⟩; unfold negV at m2 s1; unfold Z7q at e2 e216; simp only [Z4] at m1 m2 m3 s1 e4; have ea := Zjj e1 e2 m1 m2 m3 s1 e4; have es : PFn Tryz.prog 172 [.agg [.bool false, .str (magB x), .bool false, .str (magB y)], ratV 1 1] [.agg [.bool s5, .str u, .bool false, .str v]] := by
    rw [rat_inv] at e216 ⊢; generalize magB x = X at *; generalize magB y = Y at *; generalize magB 1 = W at *; refine PFn.of_body hΓ Tryz.func172 (by kernel_rfl) rfl (AWp.seq (Wd [] ?_)); simp -implicitDefEqProofs only [Tryz.ntmps172, Tryz.results172, Nat.reduceAdd, Nat.reduceSub, go_sem]; refine Wd [(1, 4)] ?_; simp -implicitDefEqProofs only [go_sem]; refine Z1 e216 (.still rfl) ?_; simp -implicitDefEqProofs only [go_sem]; refine Z1 ea (.still rfl) ?_; simp -implicitDefEqProofs only [go_sem]
  rw [rat_inv] at es ⊢; generalize magB x = X at *; generalize magB y = Y at *; generalize magB 1 = W at *; refine PFn.of_body hΓ Tryz.func108 (by kernel_rfl) rfl (AWp.seq (Wd [] ?_)); simp -implicitDefEqProofs only [Tryz.ntmps108, Tryz.results108, Nat.reduceAdd, Nat.reduceSub, go_sem]; refine Wd [] ?_; simp -implicitDefEqProofs only [go_sem]; refine Z0 es (.still rfl) ?_; simp -implicitDefEqProofs only [go_sem]; refine ⟨by omega, Z0 c1 (.still rfl) ?_⟩; simp -implicitDefEqProofs only [go_sem]
end Go.Proofs.YtpljmccnfmkmfaaGreat.Kn
end

section
namespace Go.Proofs.YtpljmccnfmkmfaaGreat.Kn
open Go Go.AM Go.RowKit

theorem r171 (s : Bool) (A : List UInt8) (hA : A.length ≤ 3) : PFn Tryz.prog 171 [intV s A] [.int .i64 (sgC s (beN A))] := by
  have ea := q91 s A (by omega); have eb := u96 0; rw [Zf] at eb; have hI : ∀ (b : Bool) {n : Nat}, n ≠ 0 → intN b n = .agg [.bool b, .str (magB n)] := fun b n h => by unfold intN intV; rw [decide_eq_true h, Bool.and_true]
  have e : PFn Tryz.prog 215 [intV s A, .agg [.bool false, .str []]] [.int .i64 (sgC s (beN A))] := by
    unfold sgC; by_cases h0 : beN A = 0
    · rw [if_pos h0]
      rw [h0, Zf] at ea; have ec := u97 0 0; rw [magB_zero, Z24] at ec; have hz : (false != false) = false := rfl; unfold intV at *; refine PFn.of_body hΓ Tryz.func215 (by kernel_rfl) rfl (AWp.seq (Wd [] ?_)); simp -implicitDefEqProofs only [Tryz.ntmps215, Tryz.results215, Nat.reduceAdd, Nat.reduceSub, go_sem]; refine Wd [(1, 4)] ?_; simp -implicitDefEqProofs only [go_sem]; refine Z1 ea (.still rfl) ?_; simp -implicitDefEqProofs only [go_sem]; refine Z1 eb (.still rfl) ?_; simp -implicitDefEqProofs only [hz, go_sem]; refine Z0 ec (.still rfl) ?_; simp -implicitDefEqProofs only [go_sem]
    rw [if_neg h0]; rw [hI s h0] at ea; have ec := u97 (beN A) 0; rw [magB_zero, Z0b (by omega)] at ec; unfold intV at *
    cases s
    · have hz : (false != false) = false := rfl
      refine PFn.of_body hΓ Tryz.func215 (by kernel_rfl) rfl (AWp.seq (Wd [] ?_)); simp -implicitDefEqProofs only [Tryz.ntmps215, Tryz.results215, Nat.reduceAdd, Nat.reduceSub, go_sem]; refine Wd [(1, 4)] ?_; simp -implicitDefEqProofs only [go_sem]; refine Z1 ea (.still rfl) ?_; simp -implicitDefEqProofs only [go_sem]; refine Z1 eb (.still rfl) ?_; simp -implicitDefEqProofs only [hz, go_sem]; refine Z0 ec (.still rfl) ?_; simp -implicitDefEqProofs only [go_sem]
    · have hz : (true != false) = true := rfl
      refine PFn.of_body hΓ Tryz.func215 (by kernel_rfl) rfl (AWp.seq (Wd [] ?_)); simp -implicitDefEqProofs only [Tryz.ntmps215, Tryz.results215, Nat.reduceAdd, Nat.reduceSub, go_sem]; refine Wd [(1, 4)] ?_; simp -implicitDefEqProofs only [go_sem]; refine Z1 ea (.still rfl) ?_; simp -implicitDefEqProofs only [go_sem]; refine Z1 eb (.still rfl) ?_; simp -implicitDefEqProofs only [hz, go_sem]
  unfold intV at *; refine PFn.of_body hΓ Tryz.func171 (by kernel_rfl) rfl (Wd [] ?_); simp -implicitDefEqProofs only [Tryz.ntmps171, Tryz.results171, Nat.reduceAdd, Nat.reduceSub, go_sem]; refine Z0 e (.still rfl) ?_; simp -implicitDefEqProofs only [go_sem]
theorem r211 (s : Bool) (A : List UInt8) (hA : A.length ≤ 3) : PFn Tryz.prog 211 [intV s A] [intN (!s) (beN A)] := by
  have ea := q91 s A (by omega); by_cases h : beN A = 0
  · rw [h, Zf] at ea
    rw [h, Zf]; unfold intV; refine PFn.of_body hΓ Tryz.func211 (by kernel_rfl) rfl (AWp.seq (Wd [] ?_)); simp -implicitDefEqProofs only [Tryz.ntmps211, Tryz.results211, Nat.reduceAdd, Nat.reduceSub, go_sem]; refine AWp.seq (Wd [] ?_); simp -implicitDefEqProofs only [go_sem]; refine Z0 ea (.still rfl) ?_; simp -implicitDefEqProofs only [go_sem]; refine Wd [] ?_; simp -implicitDefEqProofs only [Bool.not_false, go_sem]
    try omega
  have hm : ¬ magB (beN A) = [] := fun e => h (Zq e)
  unfold intN intV at *; rw [decide_eq_true h] at *
  cases s
  · refine PFn.of_body hΓ Tryz.func211 (by kernel_rfl) rfl (AWp.seq (Wd [] ?_))
    simp -implicitDefEqProofs only [Tryz.ntmps211, Tryz.results211, Nat.reduceAdd, Nat.reduceSub, go_sem]; refine AWp.seq (Wd [] ?_); simp -implicitDefEqProofs only [go_sem]; refine Z0 ea (.still rfl) ?_; simp -implicitDefEqProofs only [go_sem]; refine Wd [] ?_; simp -implicitDefEqProofs only [Bool.not_false, hm, Bool.false_and, Bool.true_and, Bool.and_true, go_sem]
    try omega
  · refine PFn.of_body hΓ Tryz.func211 (by kernel_rfl) rfl (AWp.seq (Wd [] ?_))
    simp -implicitDefEqProofs only [Tryz.ntmps211, Tryz.results211, Nat.reduceAdd, Nat.reduceSub, go_sem]; refine AWp.seq (Wd [] ?_); simp -implicitDefEqProofs only [go_sem]; refine Z0 ea (.still rfl) ?_; simp -implicitDefEqProofs only [go_sem]; refine Wd [] ?_; simp -implicitDefEqProofs only [Bool.not_true, hm, Bool.false_and, Bool.true_and, Bool.and_true, go_sem]
    try omega
theorem r212 (s t : Bool) (A B : List UInt8) (hA : A.length ≤ 3) (hB : B.length ≤ 3) : PFn Tryz.prog 212 [intV s A, intV t B] [intN false (Nat.gcd (beN A) (beN B))] := by
  have ha : (magB (beN A)).length ≤ 900 := by have := mag3 hA; omega
  have hb : (magB (beN B)).length ≤ 900 := by have := mag3 hB; omega
  have ea := q113 A (by omega); have eb := q113 B (by omega); obtain ⟨a, hae⟩ : ∃ a, a = beN A := ⟨_, rfl⟩; obtain ⟨b, hbe⟩ : ∃ b, b = beN B := ⟨_, rfl⟩; rw [← hae] at ea ha ⊢; rw [← hbe] at eb hb ⊢; unfold intV; simp only [intF]; refine PFn.of_body hΓ Tryz.func212 (by kernel_rfl) rfl (AWp.seq (Wd [] ?_)); simp -implicitDefEqProofs only [Tryz.ntmps212, Tryz.results212, Nat.reduceAdd, Nat.reduceSub, go_sem]; refine AWp.seq (Wd [(1, 8)] ?_); simp -implicitDefEqProofs only [go_sem]; refine Z1 ea (.pures rfl) ?_; simp -implicitDefEqProofs only [go_sem]; refine Z1 eb (.pures rfl) ?_; simp -implicitDefEqProofs only [go_sem]; refine AWp.seq (AWp.block ?_)
  refine AWp.loopI (fun z : Nat × Nat => ⟨mkF 53 [(4, .ptr 2 0), (5, .p (.str (magB z.1))), (6, .p (.str (magB z.2)))], [.box [.p (.bool s), .p (.str A)], .box [.p (.bool t), .p (.str B)], .box [.p (.bool false), .p (.str [])]]⟩)
    (fun z => (magB z.1).length ≤ 900 ∧ (magB z.2).length ≤ 900 ∧ Nat.gcd z.1 z.2 = Nat.gcd a b) (fun z => z.2) (a, b) (by simp [go_sem]) ⟨ha, hb, rfl⟩ ?_
  rintro ⟨x, y⟩ ⟨hx, hy, hg⟩; simp only at hx hy hg; by_cases hgo : y ≠ 0 ∧ (7 < (magB x).length ∨ 7 < (magB y).length)
  · obtain ⟨hy0, h7⟩ := hgo
    have hyn : ¬ magB y = [] := fun e => hy0 (Zq e)
    have e245 := q245 x y hx hy hy0; have hml := Nat.mod_lt x (Nat.pos_of_ne_zero hy0); have hcond : ∀ K : Prop, (7 < (magB x).length → K) → (¬ 7 < (magB x).length → 7 < (magB y).length → K) → K := fun K h1 h2 => (Classical.em (7 < (magB x).length)).elim h1 fun h => h2 h (h7.resolve_left h)
    refine Wd [] ?_; by_cases hx7 : 7 < (magB x).length
    · have hx7' : (7 : Int) < ((magB x).length : Int) := by omega
      simp -implicitDefEqProofs only [hyn, hx7', go_sem]; refine Z0 e245 (.still rfl) ?_; simp -implicitDefEqProofs only [go_sem]; exact ⟨(y, x % y), ⟨rfl, rfl⟩, ⟨hy, Nat.le_trans (Z3c (Nat.le_of_lt hml)) hy, by rw [← hg]; simp only; rw [Nat.gcd_comm y, ← Nat.gcd_rec, Nat.gcd_comm]⟩, hml⟩
    · have hx7' : ¬ (7 : Int) < ((magB x).length : Int) := by omega
      have hy7' : (7 : Int) < ((magB y).length : Int) := by omega
      simp -implicitDefEqProofs only [hyn, hx7', hy7', go_sem]; refine Z0 e245 (.still rfl) ?_; simp -implicitDefEqProofs only [go_sem]; exact ⟨(y, x % y), ⟨rfl, rfl⟩, ⟨hy, Nat.le_trans (Z3c (Nat.le_of_lt hml)) hy, by rw [← hg]; simp only; rw [Nat.gcd_comm y, ← Nat.gcd_rec, Nat.gcd_comm]⟩, hml⟩
  refine Wd [] ?_; by_cases hy0 : y = 0
  · subst hy0
    rw [magB_zero]; simp -implicitDefEqProofs only [go_sem]; rw [Nat.gcd_zero_right] at hg; rw [← hg]; refine AWp.seq (Wd [] ?_); simp -implicitDefEqProofs only [go_sem]
  have hyn : ¬ magB y = [] := fun e => hy0 (Zq e)
  have hx7' : ¬ (7 : Int) < ((magB x).length : Int) := fun h => hgo ⟨hy0, .inl (by omega)⟩
  have hy7' : ¬ (7 : Int) < ((magB y).length : Int) := fun h => hgo ⟨hy0, .inr (by omega)⟩
  have vx := u124 (magB x) (by omega); have vy := u124 (magB y) (by omega); rw [Z7] at vx vy; simp -implicitDefEqProofs only [hyn, hx7', hy7', go_sem]; have hx56 : x < 256 ^ 7 := Zx (by omega); have hy56 : y < 256 ^ 7 := Zx (by omega); refine AWp.seq (Wd [] ?_); simp -implicitDefEqProofs only [hyn, go_sem]; refine AWp.seq (Wd [] ?_); simp -implicitDefEqProofs only [go_sem]; refine Z0 vx (.pures rfl) ?_; simp -implicitDefEqProofs only [go_sem]; refine Z0 vy (.pures rfl) ?_; simp -implicitDefEqProofs only [go_sem]; refine AWp.seq (AWp.block ?_)
  refine AWp.loopI (fun z : Nat × Nat => ⟨mkF 53 [(4, .ptr 2 0), (9, .p (.int .i64 z.1)), (10, .p (.int .i64 z.2))], [.box [.p (.bool s), .p (.str A)], .box [.p (.bool t), .p (.str B)], .box [.p (.bool false), .p (.str [])]]⟩)
    (fun z => z.1 < 256 ^ 7 ∧ z.2 < 256 ^ 7 ∧ Nat.gcd z.1 z.2 = Nat.gcd a b) (fun z => z.2) (x, y) (by simp [go_sem]) ⟨hx56, hy56, hg⟩ ?_
  clear hx hy hg hgo hy0 hyn hx7' hy7' vx vy hx56 hy56 x y; rintro ⟨m, n⟩ ⟨hm, hn, hg⟩; simp only at hm hn hg; refine Wd [(9, 6)] ?_; by_cases hn0 : 0 < n
  · have hn0' : (0 : Int) < (n : Int) := by omega
    have hnz : ¬ (n : Int) = 0 := by omega
    have hq4 : Int.tmod (m : Int) (n : Int) = ((m % n : Nat) : Int) := rfl; have hml := Nat.mod_lt m hn0; simp -implicitDefEqProofs only [hn0', hnz, hq4, go_sem]; exact ⟨(n, m % n), ⟨rfl, rfl⟩, ⟨hn, by simp only; omega, by rw [← hg]; simp only; rw [Nat.gcd_comm n, ← Nat.gcd_rec, Nat.gcd_comm]⟩, hml⟩
  · have hnz : n = 0 := by omega
    subst hnz; rw [Nat.gcd_zero_right] at hg; have e1 := u76 m (by omega); rw [← hg]; have hn0' : ¬ (0 : Int) < ((0 : Nat) : Int) := by omega
    simp -implicitDefEqProofs only [hn0', go_sem]; refine Wd [] ?_; simp -implicitDefEqProofs only [go_sem]; simp only [intF] at e1; refine Z0 e1 (.pures rfl) ?_; simp -implicitDefEqProofs only [go_sem]
theorem r213p (s : Bool) (A : List UInt8) (b : Nat) (hA : A.length ≤ 3) (hb : (magB b).length ≤ 900) (hb0 : b ≠ 0) (hs : (s && decide (beN A ≠ 0)) = false) : PFn Tryz.prog 213 [intV s A, intN false b] [intN false (beN A / b), intN false (beN A % b), .int .i64 0] := by
  have ea := q91 s A (by omega); have ha : (magB (beN A)).length ≤ 900 := by have := mag3 hA; omega
  obtain ⟨a, hae⟩ : ∃ a, a = beN A := ⟨_, rfl⟩; rw [← hae] at ea ha hs ⊢; have hI : intN s a = intN false a := by unfold intN; rw [hs, Bool.false_and]
  rw [hI] at ea; clear hI hs; unfold intV; have eb := u96 b; have hbn : ¬ magB b = [] := fun e => hb0 (Zq e)
  by_cases hs : (magB a).length < 8 ∧ (magB b).length < 8
  · have h7a := Zx hs.1
    have h7b := Zx hs.2; have va := u124 (magB a) (by omega); have vb := u124 (magB b) (by omega); rw [Z7] at va vb; have hdl : a / b ≤ a := Nat.div_le_self a b; have hml : a % b < b := Nat.mod_lt a (by omega); have e1 := u76 (a / b) (by omega); have e2 := u76 (a % b) (by omega); have la : ((magB a).length : Int) < 8 := by omega
    have lb : ((magB b).length : Int) < 8 := by omega
    simp only [intF] at ea eb e1 e2 ⊢; refine PFn.of_body hΓ Tryz.func213 (by kernel_rfl) rfl (AWp.seq (Wd [] ?_)); simp -implicitDefEqProofs only [Tryz.ntmps213, Tryz.results213, Nat.reduceAdd, Nat.reduceSub, go_sem]; refine Wd [(1, 4), (6, 8), (7, 8), (13, 3), (17, 1000)] ?_; simp -implicitDefEqProofs only [la, lb, hbn, go_sem]; refine Z1 ea (.still rfl) ?_; simp -implicitDefEqProofs only [la, lb, hbn, go_sem]; refine Z1 eb (.still rfl) ?_; simp -implicitDefEqProofs only [la, lb, hbn, go_sem]; refine Z1 va (.still rfl) ?_; simp -implicitDefEqProofs only [go_sem]; refine Z1 vb (.still rfl) ?_; have hib : ¬ (b : Int) = 0 := by omega
    simp -implicitDefEqProofs only [hib, go_sem]; rw [Int.natCast_ediv] at e1; rw [Int.natCast_emod] at e2; refine ⟨⟨by omega, by simp only [InR]; omega⟩, Z1 e1 (.still rfl) ?_⟩; simp -implicitDefEqProofs only [hib, go_sem]; refine ⟨by omega, Z1 e2 (.still rfl) ?_⟩; simp -implicitDefEqProofs only [bne_self_eq_false, go_sem]; refine AWp.planL (.q 0 (.q 1 (.e 2 (.s 1 (.e 3 (.q 4 .fin) .nil)) .nil))) hΓ hmix (by kernel_rfl) ?_; simp -implicitDefEqProofs only [go_sem]
  · have e245 := q245 a b ha hb hb0
    simp only [intF] at ea eb ⊢; refine PFn.of_body hΓ Tryz.func213 (by kernel_rfl) rfl (AWp.seq (Wd [] ?_)); simp -implicitDefEqProofs only [Tryz.ntmps213, Tryz.results213, Nat.reduceAdd, Nat.reduceSub, go_sem]; refine Wd [(1, 4), (6, 8), (7, 8), (13, 3), (17, 1000)] ?_; by_cases hx : (magB a).length < 8
    · have hy : ¬ (magB b).length < 8 := fun h => hs ⟨hx, h⟩
      have lx : ((magB a).length : Int) < 8 := by omega
      have ly : ¬ ((magB b).length : Int) < 8 := by omega
      simp -implicitDefEqProofs only [lx, ly, hbn, go_sem]; refine Z1 ea (.still rfl) ?_; simp -implicitDefEqProofs only [lx, ly, hbn, go_sem]; refine Z1 eb (.still rfl) ?_; simp -implicitDefEqProofs only [lx, ly, hbn, go_sem]; refine Z0 e245 (.still rfl) ?_; simp -implicitDefEqProofs only [bne_self_eq_false, go_sem]; refine AWp.planL (.q 0 (.q 1 (.e 2 (.s 1 (.e 3 (.q 4 .fin) .nil)) .nil))) hΓ hmix (by kernel_rfl) ?_; simp -implicitDefEqProofs only [go_sem]
    · have lx : ¬ ((magB a).length : Int) < 8 := by omega
      simp -implicitDefEqProofs only [lx, hbn, go_sem]; refine Z1 ea (.still rfl) ?_; simp -implicitDefEqProofs only [lx, hbn, go_sem]; refine Z1 eb (.still rfl) ?_; simp -implicitDefEqProofs only [lx, hbn, go_sem]; refine Z0 e245 (.still rfl) ?_; simp -implicitDefEqProofs only [bne_self_eq_false, go_sem]; refine AWp.planL (.q 0 (.q 1 (.e 2 (.s 1 (.e 3 (.q 4 .fin) .nil)) .nil))) hΓ hmix (by kernel_rfl) ?_; simp -implicitDefEqProofs only [go_sem]
theorem r213n (A : List UInt8) (b : Nat) (hA : A.length ≤ 3) (hb : (magB b).length ≤ 900) (hb0 : b ≠ 0) (ha0 : beN A ≠ 0) (hd : beN A % b = 0) : PFn Tryz.prog 213 [intV true A, intN false b] [negV (beN A / b), intN false 0, .int .i64 0] := by
  have ea := q91 true A (by omega); have ha : (magB (beN A)).length ≤ 900 := by have := mag3 hA; omega
  obtain ⟨a, hae⟩ : ∃ a, a = beN A := ⟨_, rfl⟩; rw [← hae] at ea ha ha0 hd ⊢; rw [Z2h ha0] at ea; unfold intV; have eb := u96 b; have hbn : ¬ magB b = [] := fun e => hb0 (Zq e)
  have hq0 : a / b ≠ 0 := fun h => ha0 (by have := Nat.div_add_mod a b; rw [h, hd] at this; omega)
  have en := s211 (a / b); unfold sgV at en; rw [decide_eq_true hq0, Bool.and_self] at en; have hz : (true != false) = true := rfl; unfold negV; by_cases hs : (magB a).length < 8 ∧ (magB b).length < 8
  · have h7a := Zx hs.1
    have h7b := Zx hs.2; have va := u124 (magB a) (by omega); have vb := u124 (magB b) (by omega); rw [Z7] at va vb; have hdl : a / b ≤ a := Nat.div_le_self a b; have hml : a % b < b := Nat.mod_lt a (by omega); have e1 := u76 (a / b) (by omega); have e2 := u76 (a % b) (by omega); have la : ((magB a).length : Int) < 8 := by omega
    have lb : ((magB b).length : Int) < 8 := by omega
    rw [hd] at e2; have hdi : (a : Int) % (b : Int) = ((0 : Nat) : Int) := by rw [← Int.natCast_emod, hd]
    simp only [Z4, magB_zero] at ea eb e1 e2 en ⊢; rw [Int.natCast_ediv] at e1; have hib : ¬ (b : Int) = 0 := by omega
    refine PFn.of_body hΓ Tryz.func213 (by kernel_rfl) rfl (AWp.seq (Wd [] ?_)); simp -implicitDefEqProofs only [Tryz.ntmps213, Tryz.results213, Nat.reduceAdd, Nat.reduceSub, go_sem]; refine Wd [(1, 4), (6, 8), (7, 8), (13, 3), (17, 1000)] ?_; simp -implicitDefEqProofs only [la, lb, hbn, go_sem]; refine Z1 ea (.still rfl) ?_; simp -implicitDefEqProofs only [la, lb, hbn, go_sem]; refine Z1 eb (.still rfl) ?_; simp -implicitDefEqProofs only [la, lb, hbn, go_sem]; refine Z1 va (.still rfl) ?_; simp -implicitDefEqProofs only [go_sem]; refine Z1 vb (.still rfl) ?_; simp -implicitDefEqProofs only [hib, hdi, go_sem]; refine ⟨⟨by omega, by simp only [InR]; omega⟩, Z1 e1 (.still rfl) ?_⟩; simp -implicitDefEqProofs only [hib, hdi, go_sem]; refine ⟨by omega, Z1 e2 (.still rfl) ?_⟩; simp -implicitDefEqProofs only [hz, go_sem]; refine Z0 en (.still rfl) ?_; simp -implicitDefEqProofs only [go_sem]; refine AWp.planL (.q 0 (.q 1 (.e 2 (.s 1 (.e 3 (.q 4 .fin) .nil)) .nil))) hΓ hmix (by kernel_rfl) ?_; simp -implicitDefEqProofs only [go_sem]
  · have e245 := q245 a b ha hb hb0
    rw [hd, magB_zero] at e245; simp only [Z4, magB_zero] at ea eb en ⊢; refine PFn.of_body hΓ Tryz.func213 (by kernel_rfl) rfl (AWp.seq (Wd [] ?_)); simp -implicitDefEqProofs only [Tryz.ntmps213, Tryz.results213, Nat.reduceAdd, Nat.reduceSub, go_sem]; refine Wd [(1, 4), (6, 8), (7, 8), (13, 3), (17, 1000)] ?_; by_cases hx : (magB a).length < 8
    · have hy : ¬ (magB b).length < 8 := fun h => hs ⟨hx, h⟩
      have lx : ((magB a).length : Int) < 8 := by omega
      have ly : ¬ ((magB b).length : Int) < 8 := by omega
      simp -implicitDefEqProofs only [lx, ly, hbn, go_sem]; refine Z1 ea (.still rfl) ?_; simp -implicitDefEqProofs only [lx, ly, hbn, go_sem]; refine Z1 eb (.still rfl) ?_; simp -implicitDefEqProofs only [lx, ly, hbn, go_sem]; refine Z0 e245 (.still rfl) ?_; simp -implicitDefEqProofs only [hz, go_sem]; refine Z0 en (.still rfl) ?_; simp -implicitDefEqProofs only [go_sem]; refine AWp.planL (.q 0 (.q 1 (.e 2 (.s 1 (.e 3 (.q 4 .fin) .nil)) .nil))) hΓ hmix (by kernel_rfl) ?_; simp -implicitDefEqProofs only [go_sem]
    · have lx : ¬ ((magB a).length : Int) < 8 := by omega
      simp -implicitDefEqProofs only [lx, hbn, go_sem]; refine Z1 ea (.still rfl) ?_; simp -implicitDefEqProofs only [lx, hbn, go_sem]; refine Z1 eb (.still rfl) ?_; simp -implicitDefEqProofs only [lx, hbn, go_sem]; refine Z0 e245 (.still rfl) ?_; simp -implicitDefEqProofs only [hz, go_sem]; refine Z0 en (.still rfl) ?_; simp -implicitDefEqProofs only [go_sem]; refine AWp.planL (.q 0 (.q 1 (.e 2 (.s 1 (.e 3 (.q 4 .fin) .nil)) .nil))) hΓ hmix (by kernel_rfl) ?_; simp -implicitDefEqProofs only [go_sem]

theorem Z1z (b : Bool) {n : Nat} (h : n ≠ 0) : intN b n = .agg [.bool b, .str (magB n)] := by unfold intN intV; rw [decide_eq_true h, Bool.and_true]
theorem r213 (s : Bool) (A : List UInt8) (b : Nat) (hA : A.length ≤ 3) (hb : (magB b).length ≤ 900) (hb0 : b ≠ 0) (hd : beN A % b = 0) : PFn Tryz.prog 213 [intV s A, intN false b] [intN s (beN A / b), intN false 0, .int .i64 0] := by
  cases hs : (s && decide (beN A ≠ 0))
  · have e := r213p s A b hA hb hb0 hs
    rw [hd] at e; have : intN s (beN A / b) = intN false (beN A / b) := by
      by_cases h0 : beN A = 0
      · rw [h0, Nat.zero_div, Zf, Zf]
      · rw [decide_eq_true h0, Bool.and_true] at hs
        rw [hs]
    rw [this]; exact e
  · simp only [Bool.and_eq_true, decide_eq_true_eq] at hs
    obtain ⟨rfl, h0⟩ := hs; have e := r213n A b hA hb hb0 h0 hd; have hq : beN A / b ≠ 0 := fun h => h0 (by have := Nat.div_add_mod (beN A) b; rw [h, hd] at this; omega)
    rw [Z1z true hq]; exact e
theorem Zqu {n : Nat} (h : n < 16777216) : (magB n).length ≤ 900 := cap9 (cap24 h)
theorem r169 (s t : Bool) (A B : List UInt8) (hA : A.length ≤ 3) (hB : B.length ≤ 3) (hd : beN B ≠ 0) : PFn Tryz.prog 169 [intV s A, intV t B] [canV s A t B] := by
  have c1 := r171 t B hB; have hg0 : Nat.gcd (beN A) (beN B) ≠ 0 := fun h => hd (Nat.eq_zero_of_gcd_eq_zero_right h)
  have hgB : Nat.gcd (beN A) (beN B) < 16777216 := Nat.lt_of_le_of_lt (Nat.gcd_le_right _ (Nat.pos_of_ne_zero hd)) (beN3 hB); have hG := Zqu hgB; have hq2 : beN B / Nat.gcd (beN A) (beN B) ≠ 0 := fun h => hd (by have := Nat.div_mul_cancel (Nat.gcd_dvd_right (beN A) (beN B)); rw [h] at this; omega)
  have hres : canV s A t B = .agg [.bool ((s != t) && decide (beN A / Nat.gcd (beN A) (beN B) ≠ 0)), .str (magB (beN A / Nat.gcd (beN A) (beN B))), .bool false, .str (magB (beN B / Nat.gcd (beN A) (beN B)))] := by
    unfold canV; by_cases h0 : beN A = 0
    · rw [if_pos (.inl h0), h0, Nat.zero_div, magB_zero, Nat.gcd_zero_left, Nat.div_self (Nat.pos_of_ne_zero hd)]
      simp
    · have hq1 : beN A / Nat.gcd (beN A) (beN B) ≠ 0 := fun h => h0 (by have := Nat.div_mul_cancel (Nat.gcd_dvd_left (beN A) (beN B)); rw [h] at this; omega)
      rw [if_neg (by omega), decide_eq_true hq1, Bool.and_true]
  rw [hres]
  cases t
  · have hcn : ¬ sgC false (beN B) < 0 := by unfold sgC; rw [if_neg hd]; decide
    have eg := r212 s false A B hA hB; have d1 := r213 s A _ hA hG hg0 (Nat.mod_eq_zero_of_dvd (Nat.gcd_dvd_left _ _)); have d2 := r213 false B _ hB hG hg0 (Nat.mod_eq_zero_of_dvd (Nat.gcd_dvd_right _ _)); rw [Z1z false hg0] at eg; rw [Zf, Z1z false hg0] at d1; rw [Z1z false hq2, Zf, Z1z false hg0] at d2; have hx : (s != false) = s := by cases s <;> rfl
    rw [hx]; unfold intN at d1; unfold intV at *; generalize (s && decide (beN A / Nat.gcd (beN A) (beN B) ≠ 0)) = S at *; generalize sgC false (beN B) = c at *; refine PFn.of_body hΓ Tryz.func169 (by kernel_rfl) rfl (AWp.seq (Wd [] ?_)); simp -implicitDefEqProofs only [Tryz.ntmps169, Tryz.results169, Nat.reduceAdd, Nat.reduceSub, go_sem]; refine Wd [(2, 4)] ?_; simp -implicitDefEqProofs only [go_sem]; refine Z0 c1 (.still rfl) ?_; simp -implicitDefEqProofs only [hcn, go_sem]; refine Z0 eg (.still rfl) ?_; simp -implicitDefEqProofs only [go_sem]; refine Z0 d1 (.still rfl) ?_; simp -implicitDefEqProofs only [go_sem]; refine Z0 d2 (.still rfl) ?_; simp -implicitDefEqProofs only [go_sem]
    try omega
  · have hcn : sgC true (beN B) < 0 := by unfold sgC; rw [if_neg hd]; decide
    have n1 := r211 s A hA; have n2 := r211 true B hB; rw [show (!true) = false from rfl] at n2; have hA' := mag3 hA; have hB' := mag3 hB; have eg := r212 ((!s) && decide (beN A ≠ 0)) false (magB (beN A)) (magB (beN B)) hA' hB'; have d1 := r213 ((!s) && decide (beN A ≠ 0)) (magB (beN A)) (Nat.gcd (beN A) (beN B)) hA' hG hg0 (by rw [Z7]; exact Nat.mod_eq_zero_of_dvd (Nat.gcd_dvd_left _ _)); have d2 := r213 false (magB (beN B)) (Nat.gcd (beN A) (beN B)) hB' hG hg0 (by rw [Z7]; exact Nat.mod_eq_zero_of_dvd (Nat.gcd_dvd_right _ _)); rw [Z7, Z7, Z1z false hg0] at eg; rw [Z7, Zf, Z1z false hg0] at d1; rw [Z7, Z1z false hq2, Zf, Z1z false hg0] at d2; rw [Z1z false hd] at n2; have hy : (((!s) && decide (beN A ≠ 0)) && decide (beN A / Nat.gcd (beN A) (beN B) ≠ 0)) = ((s != true) && decide (beN A / Nat.gcd (beN A) (beN B) ≠ 0)) := by
      have hx : (s != true) = !s := by cases s <;> rfl
      rw [hx]; by_cases h0 : beN A = 0
      · rw [h0, Nat.zero_div]; simp
      · rw [decide_eq_true h0, Bool.and_true]
    unfold intN at d1 n1; unfold intV at *; rw [hy] at d1; generalize ((s != true) && decide (beN A / Nat.gcd (beN A) (beN B) ≠ 0)) = S at *; generalize ((!s) && decide (beN A ≠ 0)) = S' at *; generalize sgC true (beN B) = c at *; refine PFn.of_body hΓ Tryz.func169 (by kernel_rfl) rfl (AWp.seq (Wd [] ?_)); simp -implicitDefEqProofs only [Tryz.ntmps169, Tryz.results169, Nat.reduceAdd, Nat.reduceSub, go_sem]; refine Wd [(2, 4)] ?_; simp -implicitDefEqProofs only [go_sem]; refine Z0 c1 (.still rfl) ?_; simp -implicitDefEqProofs only [hcn, go_sem]; refine Z1 n1 (.still rfl) ?_; simp -implicitDefEqProofs only [go_sem]; refine Z1 n2 (.still rfl) ?_; simp -implicitDefEqProofs only [go_sem]; refine Z0 eg (.still rfl) ?_; simp -implicitDefEqProofs only [go_sem]; refine Z0 d1 (.still rfl) ?_; simp -implicitDefEqProofs only [go_sem]; refine Z0 d2 (.still rfl) ?_; simp -implicitDefEqProofs only [go_sem]
    try omega
theorem r204 : PFn Tryz.prog 204 [] [intN false 1] := by
  have e1 := u76 1 (by omega); refine PFn.of_body hΓ Tryz.func204 (by kernel_rfl) rfl (Wd [] ?_); simp -implicitDefEqProofs only [Tryz.ntmps204, Tryz.results204, Nat.reduceAdd, Nat.reduceSub, Z4, go_sem]; refine Z0 e1 (.pures rfl) ?_; simp -implicitDefEqProofs only [Z4, go_sem]
theorem r166 (r : RT) (h : shT r) : PFn Tryz.prog 166 [rvT r] [rvT (canT r)] := by
  have c1 := r171 r.2.2.1 r.2.2.2 h.2; have e0 := Zgk r; obtain ⟨s, A, t, B⟩ := r; by_cases hd : beN B = 0
  · have hz : canT (s, A, t, B) = (false, [], false, magB 1) := if_pos (.inr hd)
    rw [hz]; have hc : sgC t (beN B) = 0 := if_pos hd; simp only at c1; rw [hc] at c1; have e1 := r204; rw [Z4] at e1; unfold rvT intV at *; refine PFn.of_body hΓ Tryz.func166 (by kernel_rfl) rfl (Wd [] ?_); simp -implicitDefEqProofs only [Tryz.ntmps166, Tryz.results166, Nat.reduceAdd, Nat.reduceSub, go_sem]; refine Z0 c1 (.still rfl) ?_; simp -implicitDefEqProofs only [go_sem]; refine Z0 e1 (.pures rfl) ?_; simp -implicitDefEqProofs only [go_sem]
  have h10 : ¬ sgC t (beN B) = 0 := by unfold sgC; rw [if_neg hd]; cases t <;> decide
  have e := r169 s t A B h.1 h.2 hd; simp only at e0 c1; rw [e0] at e; generalize canT (s, A, t, B) = z at *; obtain ⟨a, x, b, y⟩ := z; generalize sgC t (beN B) = c at *; unfold rvT intV at *; refine PFn.of_body hΓ Tryz.func166 (by kernel_rfl) rfl (Wd [] ?_); simp -implicitDefEqProofs only [Tryz.ntmps166, Tryz.results166, Nat.reduceAdd, Nat.reduceSub, go_sem]; refine Z0 c1 (.still rfl) ?_; simp -implicitDefEqProofs only [h10, go_sem]; refine ⟨by omega, Z0 e (.still rfl) ?_⟩; simp -implicitDefEqProofs only [go_sem]
theorem r115 (r : RT) (h : shT r) : PFn Tryz.prog 115 [rvT r] [.int .i64 (if okT r then 0 else 1)] := by
  have e1 := r166 r h; obtain ⟨s, A, t, B⟩ := r; unfold okT; generalize canT (s, A, t, B) = z at *; obtain ⟨a, x, b, y⟩ := z; unfold rvT at *; by_cases hk : (a, x, b, y) = (s, A, t, B)
  · rw [decide_eq_true hk, if_pos rfl]
    refine PFn.of_body hΓ Tryz.func115 (by kernel_rfl) rfl (AWp.seq (Wd [] ?_)); simp -implicitDefEqProofs only [Tryz.ntmps115, Tryz.results115, Nat.reduceAdd, Nat.reduceSub, go_sem]; refine Wd [(1, 1000)] ?_; simp -implicitDefEqProofs only [go_sem]; refine AWp.planL (.q 0 (.q 2 (.e 1 (.s 2 (.q 3 .fin)) .nil))) hΓ hmix (by kernel_rfl) ?_; simp -implicitDefEqProofs only [go_sem]; refine Z0 e1 (.still rfl) ?_; simp -implicitDefEqProofs only [go_sem]; refine Z97 rfl rfl ?_; rw [decide_eq_true hk]; simp -implicitDefEqProofs only [Bool.not_true, go_sem]
  · rw [decide_eq_false hk, if_neg (by simp)]
    refine PFn.of_body hΓ Tryz.func115 (by kernel_rfl) rfl (AWp.seq (Wd [] ?_)); simp -implicitDefEqProofs only [Tryz.ntmps115, Tryz.results115, Nat.reduceAdd, Nat.reduceSub, go_sem]; refine Wd [(1, 1000)] ?_; simp -implicitDefEqProofs only [go_sem]; refine AWp.planL (.q 0 (.q 2 (.e 1 (.s 2 (.q 3 .fin)) .nil))) hΓ hmix (by kernel_rfl) ?_; simp -implicitDefEqProofs only [go_sem]; refine Z0 e1 (.still rfl) ?_; simp -implicitDefEqProofs only [go_sem]; refine Z97 rfl rfl ?_; rw [decide_eq_false hk]; simp -implicitDefEqProofs only [Bool.not_false, go_sem]

theorem Zf6 {k : Nat} (hk : k < 16777216) : (magB k).length ≤ 3 := by
  rcases Nat.lt_or_ge 3 (magB k).length with h2 | h2
  · obtain ⟨j, hj⟩ : ∃ j, (magB k).length = j + 1 := ⟨(magB k).length - 1, by omega⟩
    have h3 := Z6o hj; have h4 : 256 ^ 3 ≤ 256 ^ j := Nat.pow_le_pow_right (by decide) (by omega); have h5 : (256 : Nat) ^ 3 = 16777216 := by decide
    omega
  · exact h2
theorem r168n (n : Nat) (hn0 : n ≠ 0) (hn : n < 16777216) : PFn Tryz.prog 168 [negV n, intN false 1] [negV n] := by
  have h3 := Zf6 hn; have ea := s205 true n (by omega); have eb := u96 1; unfold sgV at ea; rw [decide_eq_true hn0, Bool.and_self] at ea; have hx : ¬ magB 1 = [] := fun e => by have := Zq e; omega
  have hy : ¬ magB n = [] := fun e => hn0 (Zq e)
  have h1l : (magB 1).length = 1 := by rw [Z5t 1 (by omega) (by omega)]; rfl
  have li : InR IntKind.i64 (((magB n).length : Int) + ((magB 1).length : Int)) := by simp only [InR]; omega
  have va := s206 n hn0 (by omega); have vb := u110 1 (by omega); have eo := s179 n hn0 (by omega); have ls : ((magB n).length : Int) + ((magB 1).length : Int) < 8 := by omega
  have hm : -((n : Nat) : Int) * ((1 : Nat) : Int) = -(n : Int) := by omega
  have hi : InR IntKind.i64 (-(n : Int)) := by simp only [InR]; omega
  unfold negV at va eo ⊢; simp only [Z4] at eb vb ⊢; generalize magB n = y at *; generalize magB 1 = x at *; refine PFn.of_body hΓ Tryz.func168 (by kernel_rfl) rfl (AWp.seq (Wd [] ?_)); simp -implicitDefEqProofs only [Tryz.ntmps168, Tryz.results168, Nat.reduceAdd, Nat.reduceSub, go_sem]; refine Wd [(1, 4), (5, 6), (6, 10)] ?_; simp -implicitDefEqProofs only [go_sem]; refine Z1 ea (.still rfl) ?_; simp -implicitDefEqProofs only [go_sem]; refine Z1 eb (.still rfl) ?_; simp -implicitDefEqProofs only [hx, hy, ls, go_sem]; refine ⟨li, Z1 va (.still rfl) ?_⟩; simp -implicitDefEqProofs only [go_sem]; refine Z1 vb (.still rfl) ?_; simp -implicitDefEqProofs only [hm, go_sem]; refine ⟨hi, Z1 eo (.still rfl) ?_⟩; simp -implicitDefEqProofs only [go_sem]
theorem r167n (n : Nat) (hn0 : n ≠ 0) (hn : n < 16777216) : PFn Tryz.prog 167 [negV n, intN false 0] [negV n] := by
  have h3 := Zf6 hn; have ea := s205 true n (by omega); have eb := u96 0; unfold sgV at ea; rw [decide_eq_true hn0, Bool.and_self] at ea; have va := s206 n hn0 (by omega); have vb := u110 0 (by omega); have eo := s179 n hn0 (by omega); have la : ((magB n).length : Int) < 8 := by omega
  have lb : ((magB 0).length : Int) < 8 := by rw [magB_zero]; decide
  have hm : -((n : Nat) : Int) + ((0 : Nat) : Int) = -(n : Int) := by omega
  have hi : InR IntKind.i64 (-(n : Int)) := by simp only [InR]; omega
  unfold negV at va eo ⊢; simp only [Z4] at eb vb ⊢; generalize magB n = y at *; generalize magB 0 = x at *; refine PFn.of_body hΓ Tryz.func167 (by kernel_rfl) rfl (AWp.seq (Wd [] ?_)); simp -implicitDefEqProofs only [Tryz.ntmps167, Tryz.results167, Nat.reduceAdd, Nat.reduceSub, go_sem]; refine Wd [(1, 4), (3, 6), (5, 8), (10, 8), (11, 8)] ?_; simp -implicitDefEqProofs only [la, lb, go_sem]; refine Z1 ea (.still rfl) ?_; simp -implicitDefEqProofs only [la, lb, go_sem]; refine Z1 eb (.still rfl) ?_; simp -implicitDefEqProofs only [la, lb, go_sem]; refine Z1 va (.still rfl) ?_; simp -implicitDefEqProofs only [la, lb, go_sem]; refine Z1 vb (.still rfl) ?_; simp -implicitDefEqProofs only [hm, go_sem]; refine ⟨hi, Z1 eo (.still rfl) ?_⟩; simp -implicitDefEqProofs only [go_sem]
theorem r216 : PFn Tryz.prog 216 [ratV 0 1] [ratV 0 1] := by
  have e1 := w166 0 1 Z0a one_cap (by omega); have e2 := s211 0; unfold sgV at e2; rw [show (true && decide ((0 : Nat) ≠ 0)) = false from rfl] at e2; rw [ratV_zero (by omega)] at e1 ⊢; simp only [Z4] at e2; generalize magB 1 = x at *; generalize magB 0 = y at *; refine PFn.of_body hΓ Tryz.func216 (by kernel_rfl) rfl (AWp.seq (Wd [] ?_)); simp -implicitDefEqProofs only [Tryz.ntmps216, Tryz.results216, Nat.reduceAdd, Nat.reduceSub, go_sem]; refine Wd [(2, 6)] ?_; simp -implicitDefEqProofs only [go_sem]; refine Z0 e1 (.still rfl) ?_; simp -implicitDefEqProofs only [go_sem]; refine ⟨by omega, Z1 e2 (.still rfl) ?_⟩; simp -implicitDefEqProofs only [go_sem]
  try omega
theorem Zh8 {t1 t s4 s5 m0 : Bool} {t2 : Bool} {A B C D z1 z2 z3 z4 x y : List UInt8} (e1 : PFn Tryz.prog 166 [.agg [.bool t1, .str A, .bool false, .str B]] [.agg [.bool t1, .str A, .bool false, .str B]]) (e2 : PFn Tryz.prog 166 [.agg [.bool t, .str C, .bool false, .str D]] [.agg [.bool t, .str C, .bool false, .str D]])
    (m1 : PFn Tryz.prog 168 [.agg [.bool t1, .str A], .agg [.bool false, .str D]] [.agg [.bool m0, .str z1]]) (m2 : PFn Tryz.prog 168 [.agg [.bool t, .str C], .agg [.bool false, .str B]] [.agg [.bool t2, .str z2]])
    (m3 : PFn Tryz.prog 168 [.agg [.bool false, .str B], .agg [.bool false, .str D]] [.agg [.bool false, .str z3]]) (s1 : PFn Tryz.prog 167 [.agg [.bool m0, .str z1], .agg [.bool t2, .str z2]] [.agg [.bool s4, .str z4]])
    (e4 : PFn Tryz.prog 169 [.agg [.bool s4, .str z4], .agg [.bool false, .str z3]] [.agg [.bool s5, .str x, .bool false, .str y]]) :
    PFn Tryz.prog 106 [.agg [.bool t1, .str A, .bool false, .str B], .agg [.bool t, .str C, .bool false, .str D]] [.agg [.bool s5, .str x, .bool false, .str y]] := by
  refine PFn.of_body hΓ Tryz.func106 (by kernel_rfl) rfl (AWp.seq (Wd [] ?_)); simp -implicitDefEqProofs only [Tryz.ntmps106, Tryz.results106, Nat.reduceAdd, Nat.reduceSub, go_sem]; refine AWp.seq (Wd [(1, 4)] ?_); simp -implicitDefEqProofs only [go_sem]; refine Z1 e1 (.still rfl) ?_; simp -implicitDefEqProofs only [go_sem]; refine Z1 e2 (.still rfl) ?_; simp -implicitDefEqProofs only [go_sem]
  refine AWp.seqM (fun _ : Unit => ⟨mkF 28 [(2, .ptr 0 0), (3, .ptr 1 0), (4, .ptr 2 0), (5, .ptr 3 0)], [.box [.p (.bool t1), .p (.str A), .p (.bool false), .p (.str B)], .box [.p (.bool t), .p (.str C), .p (.bool false), .p (.str D)], .box [.p (.bool false), .p (.str []), .p (.bool false), .p (.str [])], .box [.p (.bool s4), .p (.str z4)]]⟩)
    (fun _ => True) (Wd [(2, 1000)] ?_) ?_
  · simp -implicitDefEqProofs only [go_sem]
    refine AWp.planL (.q 0 (.q 1 (.q 2 (.q 3 (.q 5 (.q 6 (.q 7 (.q 8 (.e 4 (.s 5 (.s 6 (.s 7 (.s 8 (.e 9 (.e 10 (.e 11 (.s 0 (.s 1 (.s 2 (.s 3 (.s 5 (.s 6 (.s 7 (.s 8 (.e 12 .fin .nil))))))))) .nil) (.e 11 (.s 0 (.s 1 (.s 2 (.s 3 (.s 5 (.s 6 (.s 7 (.s 8 (.e 10 (.e 12 .fin .nil) .nil))))))))) .nil)) (.e 11 (.s 0 (.s 1 (.s 2 (.s 3 (.s 5 (.s 6 (.s 7 (.s 8 (.e 9 (.e 10 (.e 12 .fin .nil) .nil) .nil))))))))) .nil)))))) (.e 11 (.s 0 (.s 1 (.s 2 (.s 3 (.s 5 (.s 6 (.s 7 (.s 8 (.e 4 (.s 5 (.s 6 (.s 7 (.s 8 (.e 9 (.e 10 (.e 12 .fin .nil) .nil) .nil))))) .nil))))))))) .nil)))))))))) hΓ hmix (by kernel_rfl) ?_; simp -implicitDefEqProofs only [go_sem]; refine ⟨by omega, by omega, ?_, ?_⟩
    · refine Z0 m1 (.still rfl) ?_
      simp -implicitDefEqProofs only [go_sem]; refine ⟨by omega, ?_, ?_⟩
      · refine Z0 m2 (.still rfl) ?_
        simp -implicitDefEqProofs only [go_sem]; refine ⟨?_, ?_⟩
        · refine Z0 s1 (.still rfl) ?_
          simp -implicitDefEqProofs only [go_sem]; exact ⟨by omega, by omega, (), trivial⟩
        · refine ⟨by omega, by omega, Z0 s1 (.still rfl) ?_⟩
          simp -implicitDefEqProofs only [go_sem]; exact ⟨(), trivial⟩
      · refine ⟨by omega, by omega, Z0 m2 (.still rfl) ?_⟩
        simp -implicitDefEqProofs only [go_sem]; refine Z0 s1 (.still rfl) ?_; simp -implicitDefEqProofs only [go_sem]; exact ⟨(), trivial⟩
    · refine ⟨by omega, by omega, Z0 m1 (.still rfl) ?_⟩
      simp -implicitDefEqProofs only [go_sem]; refine ⟨by omega, Z0 m2 (.still rfl) ?_⟩; simp -implicitDefEqProofs only [go_sem]; refine Z0 s1 (.still rfl) ?_; simp -implicitDefEqProofs only [go_sem]; exact ⟨(), trivial⟩
  intro _ _; refine Wd [(3, 7)] ?_; simp -implicitDefEqProofs only [go_sem]; refine Z1 m3 (.still rfl) ?_; simp -implicitDefEqProofs only [go_sem]; refine Z1 e4 (.still rfl) ?_; simp -implicitDefEqProofs only [go_sem]

theorem Zeg {a b c : Bool} {A B C D : List UInt8} {z : Int} (e1 : PFn Tryz.prog 106 [.agg [.bool a, .str A, .bool false, .str B], ratV 0 1] [.agg [.bool b, .str C, .bool c, .str D]]) (e2 : PFn Tryz.prog 171 [.agg [.bool b, .str C]] [.int .i64 z]) :
    PFn Tryz.prog 108 [.agg [.bool a, .str A, .bool false, .str B], ratV 0 1] [.int .i64 z] := by
  have e216 := r216; rw [ratV_zero (by omega)] at e1 e216 ⊢; generalize magB 1 = x at *; generalize magB 0 = y at *; have e172 : PFn Tryz.prog 172 [.agg [.bool a, .str A, .bool false, .str B], .agg [.bool false, .str y, .bool false, .str x]] [.agg [.bool b, .str C, .bool c, .str D]] := by
    refine PFn.of_body hΓ Tryz.func172 (by kernel_rfl) rfl (Wd [(1, 4)] ?_); simp -implicitDefEqProofs only [Tryz.ntmps172, Tryz.results172, Nat.reduceAdd, Nat.reduceSub, go_sem]; refine Z1 e216 (.still rfl) ?_; simp -implicitDefEqProofs only [go_sem]; refine Z1 e1 (.still rfl) ?_; simp -implicitDefEqProofs only [go_sem]
  refine PFn.of_body hΓ Tryz.func108 (by kernel_rfl) rfl (Wd [] ?_); simp -implicitDefEqProofs only [Tryz.ntmps108, Tryz.results108, Nat.reduceAdd, Nat.reduceSub, go_sem]; refine Z0 e172 (.still rfl) ?_; simp -implicitDefEqProofs only [go_sem]; refine ⟨by omega, Z0 e2 (.still rfl) ?_⟩; simp -implicitDefEqProofs only [go_sem]
theorem r108p (n d : Nat) (hn : n < capN) (hd : d < capN) (hd0 : d ≠ 0) : PFn Tryz.prog 108 [ratV n d, ratV 0 1] [.int .i64 (cmpN (lowN n d) 0)] := by
  have e1 := w106 n d 0 1 hn hd Z0a one_cap hd0 (by omega) (by rw [Nat.mul_one, Nat.zero_mul]; exact hn) (by rw [Nat.mul_one]; exact hd); rw [Nat.mul_one, Nat.zero_mul, Nat.mul_one, Nat.add_zero] at e1; have e2 := w171 (lowN n d); rw [ratV_low n d] at e1 ⊢; rw [Z4] at e2; exact Zeg e1 e2
theorem r108n (n d : Nat) (hn0 : n ≠ 0) (hn : n < 16777216) (hd : d < 16777216) (hd0 : d ≠ 0) (hg : canT (true, magB n, false, magB d) = (true, magB n, false, magB d)) : PFn Tryz.prog 108 [rvT (true, magB n, false, magB d), ratV 0 1] [.int .i64 (-1)] := by
  have e1 := r166 _ (show shT (true, magB n, false, magB d) from ⟨Zf6 hn, Zf6 hd⟩); rw [hg] at e1; have e2 := w166 0 1 Z0a one_cap (by omega); have m1 := r168n n hn0 hn; have m2 := q73 0 d Z0a (cap24 hd); have m3 := q73 d 1 (cap24 hd) one_cap; rw [Nat.zero_mul] at m2; rw [Nat.mul_one] at m3; have s1 := r167n n hn0 hn; have e4 := s169 n d hn0 (cap24 hn) (cap24 hd) hd0; have hgc : .agg [.bool true, .str (magB (n / Nat.gcd n d)), .bool false, .str (magB (d / Nat.gcd n d))] = rvT (true, magB n, false, magB d) := by
    have h := Zgk (true, magB n, false, magB d); rw [hg] at h; rw [← h]; unfold canV; simp only [Z7]; rw [if_neg (by omega)]
    rfl
  rw [hgc] at e4; have c := r171 true (magB n) (Zf6 hn); rw [Z7] at c; unfold sgC at c; rw [if_neg hn0, if_pos rfl] at c; rw [ratV_zero (by omega)] at e2; simp only [Z4] at m1 m2 m3 s1 e4; unfold rvT at *; unfold negV at *; unfold intV at *
  dsimp only at *
  have ea := Zh8 e1 e2 m1 m2 m3 s1 e4; rw [← ratV_zero (show (1 : Nat) ≠ 0 by omega)] at ea; exact Zeg ea c
end Go.Proofs.YtpljmccnfmkmfaaGreat.Kn
end

section
namespace Go.Proofs.YtpljmccnfmkmfaaGreat
open Go Go.AM

abbrev NQ := Nat × Nat
def addQ (x y : NQ) : NQ := (x.1 * y.2 + y.1 * x.2, x.2 * y.2)
def mulQ (x y : NQ) : NQ := (x.1 * y.1, x.2 * y.2)
def sumQ (l : List NQ) : NQ := l.foldl addQ (0, 1)
def Z18 (l : List NQ) : NQ := l.foldl mulQ (1, 1)
theorem Z2u {l : List NQ} {k : Nat} (h : k < l.length) : sumQ (l.take (k + 1)) = addQ (sumQ (l.take k)) l[k] := by
  unfold sumQ; rw [List.take_succ_eq_append_getElem h, List.foldl_append]; rfl
theorem Z4x {l : List NQ} {k : Nat} (h : k < l.length) : Z18 (l.take (k + 1)) = mulQ (Z18 (l.take k)) l[k] := by
  unfold Z18; rw [List.take_succ_eq_append_getElem h, List.foldl_append]; rfl
def inQ (M : Nat) (x : NQ) : Prop := x.1 ≤ M ∧ 1 ≤ x.2 ∧ x.2 ≤ M
theorem Zdz {M : Nat} {l : List NQ} (hM : 1 ≤ M) (h : ∀ x ∈ l, inQ M x) : ∀ k, k ≤ l.length → (sumQ (l.take k)).1 ≤ k * M ^ k ∧ 1 ≤ (sumQ (l.take k)).2 ∧ (sumQ (l.take k)).2 ≤ M ^ k
  | 0, _ => by simp [sumQ]
  | k + 1, hk => by
    obtain ⟨h1, h2, h3⟩ := Zdz hM h k (by omega); obtain ⟨x1, x2, x3⟩ := h _ (List.getElem_mem hk); rw [Z2u hk]; generalize sumQ (l.take k) = s at *; generalize l[k] = x at *; unfold addQ; simp only; have a1 : s.1 * x.2 ≤ (k * M ^ k) * M := Nat.mul_le_mul h1 x3; have a2 : x.1 * s.2 ≤ M * M ^ k := Nat.mul_le_mul x1 h3; have a3 : s.2 * x.2 ≤ M ^ k * M := Nat.mul_le_mul h3 x3; have a4 : 1 * 1 ≤ s.2 * x.2 := Nat.mul_le_mul h2 x2; have a5 : (k + 1) * M ^ (k + 1) = (k * M ^ k) * M + M * M ^ k := by rw [Nat.pow_succ]; grind
    refine ⟨by omega, by omega, by rw [Nat.pow_succ]; exact a3⟩
theorem Zc5 {M : Nat} {l : List NQ} (hM : 1 ≤ M) (h : ∀ x ∈ l, inQ M x) : ∀ k, k ≤ l.length → inQ (M ^ k) (Z18 (l.take k))
  | 0, _ => by simp [Z18, inQ]
  | k + 1, hk => by
    obtain ⟨h1, h2, h3⟩ := Zc5 hM h k (by omega); obtain ⟨x1, x2, x3⟩ := h _ (List.getElem_mem hk); rw [Z4x hk]; generalize Z18 (l.take k) = s at *; generalize l[k] = x at *; unfold mulQ inQ; simp only; have a1 : s.1 * x.1 ≤ M ^ k * M := Nat.mul_le_mul h1 x1; have a3 : s.2 * x.2 ≤ M ^ k * M := Nat.mul_le_mul h3 x3; have a4 : 1 * 1 ≤ s.2 * x.2 := Nat.mul_le_mul h2 x2; rw [Nat.pow_succ]; exact ⟨a1, by omega, a3⟩
theorem Zip {M M' : Nat} {x : NQ} (h : inQ M x) (hM : M ≤ M') : inQ M' x := ⟨Nat.le_trans h.1 hM, h.2.1, Nat.le_trans h.2.2 hM⟩

def nq (r : Kn.RT) : NQ := (beN r.2.1, beN r.2.2.2)
def posT (r : Kn.RT) : Bool := Kn.okT r && (!r.1 && decide (beN r.2.1 ≠ 0))
def qV (x : NQ) : PV := Kn.ratV x.1 x.2
theorem Z5r {r : Kn.RT} (h : Kn.okT r = true) : r.2.2.1 = false ∧ r.2.1 = magB (beN r.2.1) ∧ r.2.2.2 = magB (beN r.2.2.2) ∧ beN r.2.2.2 ≠ 0 ∧ (beN r.2.1 = 0 → r = (false, [], false, magB 1)) := by
  unfold Kn.okT at h; have h := of_decide_eq_true h; unfold Kn.canT at h; by_cases h0 : beN r.2.1 = 0 ∨ beN r.2.2.2 = 0
  · rw [if_pos h0] at h
    rw [← h]; refine ⟨rfl, ?_, ?_, ?_, fun _ => rfl⟩
    · exact (by rw [show beN ([] : List UInt8) = 0 from rfl, magB_zero])
    · simp only [Z7]
    · simp only [Z7]; omega
  · rw [if_neg h0] at h
    have h1 := congrArg (fun r : Kn.RT => r.2.1) h; have h2 := congrArg (fun r : Kn.RT => r.2.2.2) h; have h3 := congrArg (fun r : Kn.RT => r.2.2.1) h; simp only at h1 h2 h3; refine ⟨h3.symm, ?_, ?_, by omega, fun h4 => absurd (.inl h4) h0⟩
    · have := congrArg beN h1
      rw [Z7] at this; rw [this] at h1; exact h1.symm
    · have := congrArg beN h2
      rw [Z7] at this; rw [this] at h2; exact h2.symm
theorem Z9t {r : Kn.RT} (h : Kn.okT r = true) (hs : r.1 = false) : Kn.rvT r = qV (nq r) := by
  obtain ⟨p1, p2, p3, p4, p5⟩ := Z5r h; by_cases h0 : beN r.2.1 = 0
  · rw [p5 h0]
    unfold qV nq Kn.rvT; simp only [Z7]; rw [show beN ([] : List UInt8) = 0 from rfl, Kn.ratV_zero (by omega), magB_zero]
  · have h' := of_decide_eq_true h
    unfold Kn.canT at h'; rw [if_neg (by omega)] at h'; unfold qV nq Kn.ratV; have h1 := congrArg (fun r : Kn.RT => r.2.1) h'; have h2 := congrArg (fun r : Kn.RT => r.2.2.2) h'; simp only at h1 h2; unfold Kn.rvT; rw [hs, p1, h1, h2]
theorem Zev {r : Kn.RT} (h : Kn.okT r = true) (hs : Kn.shT r) : inQ 16777216 (nq r) := by
  obtain ⟨p1, p2, p3, p4, p5⟩ := Z5r h; have h1 := Kn.beN3 hs.1; have h2 := Kn.beN3 hs.2; exact ⟨Nat.le_of_lt h1, by unfold nq; simp only; omega, Nat.le_of_lt h2⟩
theorem Zql {r : Kn.RT} (h : Kn.okT r = true) (hn : r.1 = true) : beN r.2.1 ≠ 0 ∧ r = (true, magB (beN r.2.1), false, magB (beN r.2.2.2)) := by
  obtain ⟨p1, p2, p3, p4, p5⟩ := Z5r h; refine ⟨fun h0 => ?_, ?_⟩
  · rw [p5 h0] at hn; cases hn
  · obtain ⟨a, b, c, d⟩ := r
    simp only at *; rw [hn, p1, ← p2, ← p3]
theorem Zco (r : Kn.RT) (h : Kn.okT r = true) (hs : Kn.shT r) : ∃ c d : Int, PFn Tryz.prog 49 [Kn.rvT r, Kn.ratV 0 1] [.int .i64 c] ∧ PFn Tryz.prog 108 [Kn.rvT r, Kn.ratV 0 1] [.int .i64 d] ∧ (c ≤ 0 ↔ posT r = false) ∧ (d ≤ 0 ↔ posT r = false) := by
  obtain ⟨p1, p2, p3, p4, p5⟩ := Z5r h; have h1 := Kn.beN3 hs.1; have h2 := Kn.beN3 hs.2
  cases hn : r.1
  · rw [Z9t h hn]
    unfold qV; have hp : posT r = decide (beN r.2.1 ≠ 0) := by unfold posT; rw [h, hn]; rfl
    rw [hp]; show ∃ c d : Int, PFn Tryz.prog 49 [Kn.ratV (beN r.2.1) (beN r.2.2.2), _] _ ∧ PFn Tryz.prog 108 [Kn.ratV (beN r.2.1) (beN r.2.2.2), _] _ ∧ _; generalize beN r.2.1 = n at *; generalize beN r.2.2.2 = d at *; have e1 := Kn.v51 n d 0 1 (Kn.cap24 h1) (Kn.cap24 h2) Z0a Kn.one_cap p4 (by omega) (by rw [Nat.mul_one]; exact Kn.cap24 h1) (by rw [Nat.zero_mul]; exact Z0a); have e2 := Kn.r108p n d (Kn.cap24 h1) (Kn.cap24 h2) p4; refine ⟨_, _, e1, e2, ?_, ?_⟩
    · rw [Nat.mul_one, Nat.zero_mul, decide_eq_false_iff_not]
      by_cases h0 : n = 0
      · rw [h0, Z24]; decide
      · rw [Z0b (by omega)]; omega
    · rw [decide_eq_false_iff_not]
      by_cases h0 : n = 0
      · have : Kn.lowN n d = 0 := by unfold Kn.lowN; rw [h0, Nat.zero_div]
        rw [this, Z24]; omega
      · have hl : Kn.lowN n d ≠ 0 := fun hl => by
          have := Kn.low_mul (n := n) (d := d); rw [hl, Nat.zero_mul] at this; exact absurd this.symm (Nat.mul_ne_zero h0 (Kn.lowD_pos p4))
        rw [Z0b (by omega)]; omega
  · obtain ⟨n0, hr⟩ := Zql h hn
    have hp : posT r = false := by unfold posT; rw [hn]; simp
    rw [hp]; have hg : Kn.canT (true, magB (beN r.2.1), false, magB (beN r.2.2.2)) = (true, magB (beN r.2.1), false, magB (beN r.2.2.2)) := by
      rw [← hr]; exact of_decide_eq_true h
    have e1 := Kn.g49 _ _ n0 h1 h2 hg; have e2 := Kn.r108n _ _ n0 h1 h2 p4 hg; rw [← hr] at e1 e2; exact ⟨_, _, e1, e2, by simp, by simp⟩

def wtQ (rs : List Kn.RT) (b : UInt8) : NQ := nq (rs.getD (ixB b L16 0).toNat default)
def outQ (rs : List Kn.RT) (ws : List (List UInt8)) : List NQ := ws.map fun w => Z18 (w.map (wtQ rs))
def wE (q : Int) (ws : List (List UInt8)) (rs : List Kn.RT) : Int :=
  if Zb q ws ≠ 0 then 1 else if (rs.length : Int) ≠ q then 11 else if rs.any (fun r => !Kn.okT r) then 1 else if rs.any (fun r => !posT r) then 27 else if (sumQ (rs.map nq)).1 = (sumQ (rs.map nq)).2 then 0 else 27
def zrV : PV := .agg [.bool false, .str [], .bool false, .str []]
def wV (q : Int) (ws : List (List UInt8)) (rs : List Kn.RT) : PV := if wE q ws rs = 0 then qV (sumQ (outQ rs ws)) else zrV

theorem Zpa {q : Int} {ws : List (List UInt8)} {rs : List Kn.RT} (h : Zb q ws = 0) (hl : (rs.length : Int) = q) (hk : rs.any (fun r => !Kn.okT r) = false) : wE q ws rs = if rs.any (fun r => !posT r) then 27 else if (sumQ (rs.map nq)).1 = (sumQ (rs.map nq)).2 then 0 else 27 := by
  unfold wE; rw [if_neg (by simpa using h), if_neg (by simpa using hl), hk]
  rfl
theorem qcap {n : Nat} (h : n ≤ 64 * 1329227995784915872903807060280344576 ^ 7) : n < capN := Z1u (k := 110) (Nat.lt_of_le_of_lt h (by decide)) (by decide)
theorem q4 {k : Nat} (hk : k ≤ 5) : 16777216 ^ k ≤ 1329227995784915872903807060280344576 := by
  have h1 : 16777216 ^ k ≤ 16777216 ^ 5 := Nat.pow_le_pow_right (by decide) hk; have h2 : (16777216 : Nat) ^ 5 = 1329227995784915872903807060280344576 := by decide
  omega
theorem c53e (q : Int) (ws : List (List UInt8)) (rs : List Kn.RT) (hlr : rs.length ≤ 4) (hsh : ∀ r ∈ rs, Kn.shT r) (h : Zb q ws ≠ 0 ∨ (rs.length : Int) ≠ q ∨ rs.any (fun r => !Kn.okT r) = true) :
    PFn Tryz.prog 53 [Zz q ws, .sl (rs.map Kn.rvT)] [zrV, .int .i64 (wE q ws rs)] := by
  have e80 := t45 q ws; unfold wE zrV; by_cases hc : Zb q ws = 0
  rotate_left
  · rw [if_pos (by simpa using hc)]
    unfold Zz at e80; refine PFn.of_body hΓ Tryz.func53 (by kernel_rfl) rfl (AWp.seq (Wd [] ?_)); simp -implicitDefEqProofs only [Tryz.ntmps53, Tryz.results53, Nat.reduceAdd, Nat.reduceSub, Zz, go_sem]; refine AWp.seq (AWp.block ?_); refine Wd [] ?_; simp -implicitDefEqProofs only [go_sem]; refine Z0 e80 (.still rfl) ?_; simp -implicitDefEqProofs only [hc, go_sem]
  rw [if_neg (by simpa using hc)]; rw [hc] at e80; unfold Zz at e80; by_cases hl : (rs.length : Int) = q
  rotate_left
  · rw [if_pos hl]
    refine PFn.of_body hΓ Tryz.func53 (by kernel_rfl) rfl (AWp.seq (Wd [] ?_)); simp -implicitDefEqProofs only [Tryz.ntmps53, Tryz.results53, Nat.reduceAdd, Nat.reduceSub, Zz, go_sem]; refine AWp.seq (AWp.block ?_); refine Wd [] ?_; simp -implicitDefEqProofs only [go_sem]; refine Z0 e80 (.still rfl) ?_; simp -implicitDefEqProofs only [hl, List.length_map, go_sem]
  rw [if_neg (by simpa using hl)]; have hb : rs.any (fun r => !Kn.okT r) = true := h.elim (fun h => absurd hc h) fun h => h.elim (fun h => absurd hl h) id
  rw [hb, if_pos rfl]; have hc109 := fun h => Kn.g109 (h := h) (g := 110) (caps := []) (pr := fun r => !Kn.okT r) rs (by omega) (fun r hr => AC.of_fn (h := h) (args := [.p (Kn.rvT r)]) (Kn.g110 r (hsh r hr)) (.inl rfl))
  rw [hb] at hc109; refine PFn.of_body hΓ Tryz.func53 (by kernel_rfl) rfl (AWp.seq (Wd [] ?_)); simp -implicitDefEqProofs only [Tryz.ntmps53, Tryz.results53, Nat.reduceAdd, Nat.reduceSub, Zz, go_sem]; refine AWp.seq (AWp.block ?_); refine Wd [] ?_; simp -implicitDefEqProofs only [go_sem]; refine Z0 e80 (.still rfl) ?_; simp -implicitDefEqProofs only [hl, List.length_map, go_sem]; refine Zl (hc109 _) (by simp) ?_; rintro v h' ⟨rfl, rfl⟩; simp -implicitDefEqProofs only [Za, List.foldl, go_sem]
def okQ (x : NQ) : Prop := x.1 < capN ∧ x.2 < capN ∧ x.2 ≠ 0
theorem addR {x y : NQ} (hx : okQ x) (hy : okQ y) (hz : okQ (addQ x y)) : PFn Tryz.prog 112 [qV x, qV y] [qV (addQ x y)] :=
  Kn.v112 x.1 x.2 y.1 y.2 hx.1 hx.2.1 hy.1 hy.2.1 hx.2.2 hy.2.2 hz.1 hz.2.1
theorem mulR' {x y : NQ} (hx : okQ x) (hy : okQ y) (hz : okQ (mulQ x y)) : PFn Tryz.prog 113 [qV x, qV y] [qV (mulQ x y)] :=
  Kn.v113 x.1 x.2 y.1 y.2 hx.1 hx.2.1 hy.1 hy.2.1 hx.2.2 hy.2.2 hz.1 hz.2.1
theorem addW {x y : NQ} (hx : okQ x) (hy : okQ y) (hz : okQ (addQ x y)) : PFn Tryz.prog 106 [qV x, qV y] [qV (addQ x y)] :=
  Kn.w106 x.1 x.2 y.1 y.2 hx.1 hx.2.1 hy.1 hy.2.1 hx.2.2 hy.2.2 hz.1 hz.2.1
theorem mulW {x y : NQ} (hx : okQ x) (hy : okQ y) (hz : okQ (mulQ x y)) : PFn Tryz.prog 116 [qV x, qV y] [qV (mulQ x y)] :=
  Kn.w116 x.1 x.2 y.1 y.2 hx.1 hx.2.1 hy.1 hy.2.1 hx.2.2 hy.2.2 hz.1 hz.2.1
theorem Z7e {M : Nat} {x : NQ} (hM : M ≤ 64 * 1329227995784915872903807060280344576 ^ 7) (h : inQ M x) : okQ x := ⟨qcap (Nat.le_trans h.1 hM), qcap (Nat.le_trans h.2.2 hM), by have := h.2.1; omega⟩
theorem Zbr {l : List NQ} {M : Nat} (hM : 1 ≤ M) (hMb : M ≤ 1329227995784915872903807060280344576) (h : ∀ x ∈ l, inQ M x) (hl : l.length ≤ 6) {k : Nat} (hk : k ≤ l.length) : okQ (sumQ (l.take k)) := by
  obtain ⟨h1, h2, h3⟩ := Zdz hM h k hk; have h4 : M ^ k ≤ 1329227995784915872903807060280344576 ^ 6 := Nat.le_trans (Nat.pow_le_pow_left hMb k) (Nat.pow_le_pow_right (by decide) (by omega)); have h5 : k * M ^ k ≤ 6 * 1329227995784915872903807060280344576 ^ 6 := Nat.mul_le_mul (by omega) h4; have h6 : 6 * 1329227995784915872903807060280344576 ^ 6 ≤ 64 * 1329227995784915872903807060280344576 ^ 7 := by decide
  exact ⟨qcap (by omega), qcap (by omega), by omega⟩
theorem Z3s : (16777216 : Nat) ≤ 64 * 1329227995784915872903807060280344576 ^ 7 ∧ (1329227995784915872903807060280344576 : Nat) ≤ 64 * 1329227995784915872903807060280344576 ^ 7 := by decide
theorem Zel {l : List NQ} (h : ∀ x ∈ l, inQ 16777216 x) (hl : l.length ≤ 5) {k : Nat} (hk : k ≤ l.length) : inQ 1329227995784915872903807060280344576 (Z18 (l.take k)) :=
  Zip (Zc5 (by decide) h k hk) (q4 (by omega))

theorem Zhg {rs : List Kn.RT} (hok : ∀ r ∈ rs, Kn.okT r = true) (hsh : ∀ r ∈ rs, Kn.shT r) {a : Nat} (ha : a < rs.length) {b : UInt8} (hb : ixB b L16 0 = a) : wtQ rs b = nq rs[a] ∧ inQ 16777216 (wtQ rs b) := by
  have e : wtQ rs b = nq rs[a] := by
    unfold wtQ; rw [hb, Int.toNat_natCast, List.getD_eq_getElem?_getD, List.getElem?_eq_getElem ha, Option.getD_some]
  exact ⟨e, by rw [e]; exact Zev (hok _ (List.getElem_mem ha)) (hsh _ (List.getElem_mem ha))⟩

theorem c53o (q : Nat) (ws : List (List UInt8)) (rs : List Kn.RT) (hcode : Zb (q : Int) ws = 0) (hw6 : ws.length ≤ 6) (hw5 : ∀ w ∈ ws, w.length ≤ 5) (hrl : rs.length = q) (hlr : rs.length ≤ 4) (hsh : ∀ r ∈ rs, Kn.shT r) (hok : ∀ r ∈ rs, Kn.okT r = true) :
    PFn Tryz.prog 53 [Zz q ws, .sl (rs.map Kn.rvT)] [wV q ws rs, .int .i64 (wE q ws rs)] := by
  have hv := Z2b hcode; have h2 := hv.q2; have hws := hv.words; have e80 := t45 (q : Int) ws; rw [hcode] at e80; have hnb : rs.any (fun r => !Kn.okT r) = false := List.any_eq_false.2 fun r hr => by rw [hok r hr]; simp
  have hwe := Zpa (ws := ws) hcode (show (rs.length : Int) = (q : Int) by omega) hnb; have hc109 := fun h => Kn.g109 (h := h) (g := 110) (caps := []) (pr := fun r => !Kn.okT r) rs (by omega) (fun r hr => AC.of_fn (h := h) (args := [.p (Kn.rvT r)]) (Kn.g110 r (hsh r hr)) (.inl rfl))
  rw [hnb] at hc109; obtain ⟨nqs, hnq⟩ : ∃ l, l = rs.map nq := ⟨_, rfl⟩; have hnl : nqs.length = q := by rw [hnq, List.length_map, hrl]
  have hin : ∀ x ∈ nqs, inQ 16777216 x := fun x hx => by
    rw [hnq] at hx; obtain ⟨r, hr, rfl⟩ := List.mem_map.1 hx; exact Zev (hok r hr) (hsh r hr)
  have hsok : ∀ k, k ≤ q → okQ (sumQ (nqs.take k)) := fun k hk => Zbr (by decide) (by decide) hin (by omega) (by omega)
  obtain ⟨sA, hsA⟩ : ∃ f : Nat → List UInt8, f = fun i => magB (Kn.lowN (sumQ (nqs.take i)).1 (sumQ (nqs.take i)).2) := ⟨_, rfl⟩
  obtain ⟨sB, hsB⟩ : ∃ f : Nat → List UInt8, f = fun i => magB (Kn.lowD (sumQ (nqs.take i)).1 (sumQ (nqs.take i)).2) := ⟨_, rfl⟩
  have hsV : ∀ i, qV (sumQ (nqs.take i)) = .agg [.bool false, .str (sA i), .bool false, .str (sB i)] := fun i => by rw [hsA, hsB]; rfl
  have hz : Kn.ratV 0 1 = .agg [.bool false, .str (sA 0), .bool false, .str (sB 0)] := hsV 0; obtain ⟨uA, huA⟩ : ∃ l, l = magB (Kn.lowN 1 1) := ⟨_, rfl⟩; obtain ⟨uB, huB⟩ : ∃ l, l = magB (Kn.lowD 1 1) := ⟨_, rfl⟩; have hone : Kn.ratV 1 1 = .agg [.bool false, .str uA, .bool false, .str uB] := by rw [huA, huB]; rfl
  have e72 := Kn.v52 0 Z0a; have e91 := Kn.v58; rw [hz] at e72; rw [hone] at e91; obtain ⟨PL, hPL⟩ : ∃ PL, PL = rs.map Kn.rvT := ⟨_, rfl⟩; have hPLl : PL.length = q := by rw [hPL, List.length_map, hrl]
  have hPLg : ∀ k (hk : k < rs.length), PL.getD k default = Kn.rvT rs[k] := fun k hk => by
    rw [hPL, Z5 _ _ _ _ hk]
  rw [← hPL] at hc109 ⊢; unfold Zz at e80; rw [show wV (q : Int) ws rs = if wE q ws rs = 0 then qV (sumQ (outQ rs ws)) else zrV from rfl, hwe, ← hnq]; clear hwe; refine PFn.of_body hΓ Tryz.func53 (by kernel_rfl) rfl (AWp.seq (Wd [] ?_)); simp -implicitDefEqProofs only [Tryz.ntmps53, Tryz.results53, Nat.reduceAdd, Nat.reduceSub, Zz, go_sem]; refine AWp.seq (AWp.block ?_); refine Wd [] ?_; simp -implicitDefEqProofs only [go_sem]; refine Z0 e80 (.still rfl) ?_; simp -implicitDefEqProofs only [hPLl, go_sem]; refine Zl (hc109 _) (by simp) ?_; rintro v h' ⟨rfl, rfl⟩; simp -implicitDefEqProofs only [Za, List.foldl, go_sem]; refine AWp.seq (Wd [] ?_); simp -implicitDefEqProofs only [go_sem]; refine Z0 e72 (.still rfl) ?_; simp -implicitDefEqProofs only [go_sem]; refine AWp.seq (Wd [] ?_); simp -implicitDefEqProofs only [go_sem]; refine AWp.seq (AWp.seq (Wd [] ?_)); simp -implicitDefEqProofs only [hPLl, go_sem]; refine AWp.block ?_
  refine AWp.loopJ (fun i : Nat => ⟨mkF 82 [(1, .p (.sl PL)), (2, .ptr 0 0), (4, .ptr 1 0), (5, .p (.int .i64 0)), (6, .ptr 2 0), (7, .ptr 3 0), (34, .p (.sl PL)), (35, .p (.int .i64 q)), (36, .p (.int .i64 i))],
      [.box [.p (.int .i64 q), .p (.sl (ws.map .str))], .box [.p (.bool false), .p (.str []), .p (.bool false), .p (.str [])], .box [.p (.bool false), .p (.str (sA 0)), .p (.bool false), .p (.str (sB 0))], .box [.p (.bool false), .p (.str (sA i)), .p (.bool false), .p (.str (sB i))]]⟩)
    (fun i => i ≤ q ∧ ∀ r ∈ rs.take i, posT r = true) (fun i => q - i) 0 (fun x => by simp [Z15, mkF, AV.blw, AV.blw.blwL, blwH, AObj.blw]) (by simp [go_sem]) ⟨Nat.zero_le _, by simp⟩ ?_
  rintro i ⟨hi, hps⟩; simp -implicitDefEqProofs only [go_sem]; refine Wd [] ?_; by_cases hlt : i < q
  · have hlt' : (i : Int) < (q : Int) := by omega
    have hiL : i < rs.length := by omega
    have hiN : i < nqs.length := by omega
    have hgi := hPLg i hiL; have hmem := List.getElem_mem hiL; obtain ⟨c, _, e49, _, hc, _⟩ := Zco rs[i] (hok _ hmem) (hsh _ hmem); rw [hz] at e49
    cases hpos : posT rs[i]
    · have hany : rs.any (fun r => !posT r) = true := List.any_eq_true.2 ⟨_, hmem, by rw [hpos]; rfl⟩
      have hc0 := hc.2 hpos; rw [hany]; obtain ⟨x1, x2, x3, x4, hx⟩ : ∃ a A b B, Kn.rvT rs[i] = .agg [.bool a, .str A, .bool b, .str B] := ⟨_, _, _, _, rfl⟩; rw [hx] at hgi e49; simp -implicitDefEqProofs only [hlt', hgi, hPLl, hlt, Int.toNat_natCast, go_sem]; refine Z0 e49 (.still rfl) ?_; simp -implicitDefEqProofs only [hc0, go_sem]
      rfl
    have hc0 : ¬ c ≤ 0 := fun h => by have := hc.1 h; rw [hpos] at this; cases this
    have hr1 : rs[i].1 = false := by
      unfold posT at hpos; simp only [Bool.and_eq_true, Bool.not_eq_true'] at hpos; exact hpos.2.1
    have hrv := Z9t (hok _ hmem) hr1; have hst := Z2u hiN; have hne : nqs[i] = nq rs[i] := by simp only [hnq, List.getElem_map]
    rw [hne] at hst; have e112 := addR (hsok i hi) (Z7e Z3s.1 (Zev (hok _ hmem) (hsh _ hmem))) (by rw [← hst]; exact hsok (i + 1) hlt); rw [← hst, hsV (i + 1), hsV i, ← hrv] at e112; have hps' : ∀ r ∈ rs.take (i + 1), posT r = true := fun r hr => by
      rw [List.take_succ_eq_append_getElem hiL] at hr; rcases List.mem_append.1 hr with hr | hr
      · exact hps r hr
      · rw [List.mem_singleton.1 hr]; exact hpos
    obtain ⟨x1, x2, x3, x4, hx⟩ : ∃ a A b B, Kn.rvT rs[i] = .agg [.bool a, .str A, .bool b, .str B] := ⟨_, _, _, _, rfl⟩; rw [hx] at hgi e49 e112; simp -implicitDefEqProofs only [hlt', hgi, hPLl, hlt, Int.toNat_natCast, go_sem]; refine Z0 e49 (.still rfl) ?_; simp -implicitDefEqProofs only [hc0, go_sem]; refine Z0 e112 (.still rfl) ?_; simp -implicitDefEqProofs only [go_sem]; exact ⟨by simp only [InR]; omega, i + 1, ⟨by omega, rfl, rfl⟩, ⟨by omega, hps'⟩, by omega⟩
  have hiq : q = i := by omega
  subst hiq; rw [List.take_of_length_le (by omega)] at hps; have hany : rs.any (fun r => !posT r) = false := List.any_eq_false.2 fun r hr => by rw [hps r hr]; simp
  rw [hany]; have hr1 : ∀ r ∈ rs, r.1 = false := fun r hr => by
    have hpos := hps r hr; unfold posT at hpos; simp only [Bool.and_eq_true, Bool.not_eq_true'] at hpos; exact hpos.2.1
  have hsq := hsV q; rw [List.take_of_length_le (by omega)] at hsq; have hkey : (decide (sA q = uA) && decide (sB q = uB)) = decide ((sumQ nqs).1 = (sumQ nqs).2) := by
    rw [← Bool.decide_and]; refine decide_eq_decide.2 ?_; have hl := Kn.low_eq (n := (sumQ nqs).1) (d := (sumQ nqs).2) (m := 1) (e := 1) (by have := (hsok q (Nat.le_refl _)).2.2; rwa [List.take_of_length_le (by omega)] at this) (by omega); rw [Nat.mul_one, Nat.one_mul, show Kn.ratV (sumQ nqs).1 (sumQ nqs).2 = qV (sumQ nqs) from rfl, hsq, hone] at hl; rw [← hl]
    constructor
    · rintro ⟨h1, h2⟩
      rw [h1, h2]
    · intro h1
      injection h1 with h1
      injection h1 with _ h1
      injection h1 with h2 h1
      injection h1 with _ h1
      injection h1 with h3 _
      injection h2 with h2
      injection h3 with h3
      exact ⟨h2, h3⟩
  simp -implicitDefEqProofs only [Int.lt_irrefl, go_sem]; refine AWp.seq (Wd [(16, 1000)] ?_); simp -implicitDefEqProofs only [go_sem]; refine AWp.planL (.q 0 (.e 1 (.s 0 (.q 2 .fin)) .nil)) hΓ hmix (by kernel_rfl) ?_; simp -implicitDefEqProofs only [go_sem]; refine Z0 e91 (.still rfl) ?_; simp -implicitDefEqProofs only [go_sem]; refine Zkk rfl rfl ?_; rw [hkey]; by_cases hS1 : (sumQ nqs).1 = (sumQ nqs).2
  rotate_left
  · rw [decide_eq_false hS1, if_neg hS1]
    unfold zrV; simp -implicitDefEqProofs only [Bool.not_false, go_sem]
    rfl
  rw [decide_eq_true hS1, if_pos hS1]; simp -implicitDefEqProofs only [Bool.not_true, go_sem]; obtain ⟨O, hO⟩ : ∃ O, O = outQ rs ws := ⟨_, rfl⟩; have hOl : O.length = ws.length := by rw [hO]; unfold outQ; rw [List.length_map]
  have hwt : ∀ w ∈ ws, ∀ x ∈ w.map (wtQ rs), inQ 16777216 x := fun w hw x hx => by
    obtain ⟨b, hb, rfl⟩ := List.mem_map.1 hx; have hal := Z96 (hws w hw).2.2; rw [Int.toNat_natCast] at hal; obtain ⟨a, ha, hba⟩ := hal b hb; exact (Zhg hok hsh (a := a) (by omega) (by rw [hba]; exact Z8t (by omega))).2
  have hpin : ∀ w ∈ ws, ∀ k, k ≤ w.length → inQ 1329227995784915872903807060280344576 (Z18 ((w.map (wtQ rs)).take k)) := fun w hw k hk => Zel (hwt w hw) (by rw [List.length_map]; exact hw5 w hw) (by rw [List.length_map]; exact hk)
  have hpinA : ∀ w ∈ ws, inQ 1329227995784915872903807060280344576 (Z18 (w.map (wtQ rs))) := fun w hw => by
    have := hpin w hw w.length (Nat.le_refl _)
    rwa [List.take_of_length_le (by rw [List.length_map]; omega)] at this
  have hOin : ∀ x ∈ O, inQ 1329227995784915872903807060280344576 x := fun x hx => by
    rw [hO] at hx; unfold outQ at hx; obtain ⟨w, hw, rfl⟩ := List.mem_map.1 hx; exact hpinA w hw
  have hook : ∀ k, k ≤ ws.length → okQ (sumQ (O.take k)) := fun k hk => Zbr (by decide) (by decide) hOin (by omega) (by omega)
  obtain ⟨oA, hoA⟩ : ∃ f : Nat → List UInt8, f = fun i => magB (Kn.lowN (sumQ (O.take i)).1 (sumQ (O.take i)).2) := ⟨_, rfl⟩
  obtain ⟨oB, hoB⟩ : ∃ f : Nat → List UInt8, f = fun i => magB (Kn.lowD (sumQ (O.take i)).1 (sumQ (O.take i)).2) := ⟨_, rfl⟩
  have hoV : ∀ i, qV (sumQ (O.take i)) = .agg [.bool false, .str (oA i), .bool false, .str (oB i)] := fun i => by rw [hoA, hoB]; rfl
  have hz2 : sA 0 = oA 0 ∧ sB 0 = oB 0 := by rw [hsA, hoA, hsB, hoB]; exact ⟨rfl, rfl⟩
  rw [← hO]; refine AWp.seq (Wd [] ?_); simp -implicitDefEqProofs only [go_sem]; refine AWp.seq (AWp.seq (Wd [] ?_)); simp -implicitDefEqProofs only [List.length_map, go_sem]; refine AWp.block ?_
  refine AWp.loopJ (fun i : Nat => ⟨mkF 82 [(1, .p (.sl PL)), (2, .ptr 0 0), (4, .ptr 1 0), (5, .p (.int .i64 0)), (10, .ptr 4 0), (55, .p (.sl (ws.map .str))), (56, .p (.int .i64 ws.length)), (57, .p (.int .i64 i))],
      [.box [.p (.int .i64 q), .p (.sl (ws.map .str))], .box [.p (.bool false), .p (.str []), .p (.bool false), .p (.str [])], .box [.p (.bool false), .p (.str (sA 0)), .p (.bool false), .p (.str (sB 0))], .box [.p (.bool false), .p (.str (sA q)), .p (.bool false), .p (.str (sB q))],
        .box [.p (.bool false), .p (.str (oA i)), .p (.bool false), .p (.str (oB i))]]⟩)
    (fun i => i ≤ ws.length) (fun i => ws.length - i) 0 (fun x => by simp [Z15, mkF, AV.blw, AV.blw.blwL, blwH, AObj.blw]) (by simp [go_sem, hz2]) (Nat.zero_le _) ?_
  clear hi; intro i hi; simp -implicitDefEqProofs only [go_sem]; refine Wd [(26, 1000)] ?_; by_cases hlt : i < ws.length
  rotate_left
  · have hiw : ws.length = i := by omega
    subst hiw; have hfin := hoV ws.length; rw [List.take_of_length_le (by omega)] at hfin; rw [hfin]; simp -implicitDefEqProofs only [Int.lt_irrefl, go_sem]; refine Wd [] ?_; simp -implicitDefEqProofs only [go_sem]
  have hlt' : (i : Int) < (ws.length : Int) := by omega
  have hmw := List.getElem_mem hlt; have hw := hw5 _ hmw; have hal := Z96 (hws _ hmw).2.2; rw [Int.toNat_natCast] at hal; have hgw : (ws.map PV.str).getD i default = .str ws[i] := Z5 _ _ _ _ hlt; have hiO : i < O.length := by omega
  have hst := Z2u hiO; have hne : O[i] = Z18 (ws[i].map (wtQ rs)) := by simp only [hO, outQ, List.getElem_map]
  rw [hne] at hst; have e112 := addR (hook i hi) (Z7e Z3s.2 (hpinA _ hmw)) (by rw [← hst]; exact hook (i + 1) hlt); rw [← hst, hoV (i + 1), hoV i] at e112; have hwtw := hwt _ hmw; have hpinw := hpin _ hmw; generalize ws[i] = w at *; obtain ⟨pA, hpA⟩ : ∃ f : Nat → List UInt8, f = fun k => magB (Kn.lowN (Z18 ((w.map (wtQ rs)).take k)).1 (Z18 ((w.map (wtQ rs)).take k)).2) := ⟨_, rfl⟩
  obtain ⟨pB, hpB⟩ : ∃ f : Nat → List UInt8, f = fun k => magB (Kn.lowD (Z18 ((w.map (wtQ rs)).take k)).1 (Z18 ((w.map (wtQ rs)).take k)).2) := ⟨_, rfl⟩
  have hpV : ∀ k, qV (Z18 ((w.map (wtQ rs)).take k)) = .agg [.bool false, .str (pA k), .bool false, .str (pB k)] := fun k => by rw [hpA, hpB]; rfl
  have hpw := hpV w.length; rw [List.take_of_length_le (by rw [List.length_map]; omega)] at hpw; rw [hpw] at e112; have hp02 : uA = pA 0 ∧ uB = pB 0 := by rw [huA, huB, hpA, hpB]; exact ⟨rfl, rfl⟩
  simp -implicitDefEqProofs only [hlt', hgw, hlt, Int.toNat_natCast, List.length_map, go_sem]; refine Z0 e91 (.still rfl) ?_; simp -implicitDefEqProofs only [go_sem]
  refine AWp.loopJ (fun k : Nat => ⟨mkF 82 [(1, .p (.sl PL)), (2, .ptr 0 0), (4, .ptr 1 0), (5, .p (.int .i64 0)), (10, .ptr 4 0), (12, .p (.str w)), (13, .ptr 5 0), (55, .p (.sl (ws.map .str))), (56, .p (.int .i64 ws.length)), (57, .p (.int .i64 i)), (63, .p (.int .i64 w.length)), (64, .p (.int .i64 k))],
      [.box [.p (.int .i64 q), .p (.sl (ws.map .str))], .box [.p (.bool false), .p (.str []), .p (.bool false), .p (.str [])], .box [.p (.bool false), .p (.str (sA 0)), .p (.bool false), .p (.str (sB 0))], .box [.p (.bool false), .p (.str (sA q)), .p (.bool false), .p (.str (sB q))],
        .box [.p (.bool false), .p (.str (oA i)), .p (.bool false), .p (.str (oB i))], .box [.p (.bool false), .p (.str (pA k)), .p (.bool false), .p (.str (pB k))]]⟩)
    (fun k => k ≤ w.length) (fun k => w.length - k) 0 (fun x => by simp [Z15, mkF, AV.blw, AV.blw.blwL, blwH, AObj.blw]) (by simp [go_sem, hp02]) (Nat.zero_le _) ?_
  intro k hk; simp -implicitDefEqProofs only [go_sem]; refine Wd [(26, 1000)] ?_; by_cases hkl : k < w.length
  rotate_left
  · have hkw : w.length = k := by omega
    rw [hkw] at e112; have hkw' : ¬ (k : Int) < (w.length : Int) := by omega
    simp -implicitDefEqProofs only [hkw', go_sem]; refine Z0 e112 (.still rfl) ?_; simp -implicitDefEqProofs only [go_sem]; exact ⟨by simp only [InR]; omega, i + 1, ⟨by omega, rfl, rfl⟩, by omega, by omega⟩
  have hkl' : (k : Int) < (w.length : Int) := by omega
  obtain ⟨a, ha, hba⟩ := hal w[k] (List.getElem_mem hkl); have hix : ixB w[k] L16 0 = a := by rw [hba]; exact Z8t (by omega)
  have haL : a < rs.length := by omega
  obtain ⟨hwk, hwin⟩ := Zhg hok hsh haL hix; have hgb : w.getD k 0 = w[k] := by rw [List.getD_eq_getElem?_getD, List.getElem?_eq_getElem hkl, Option.getD_some]
  have e114 := t101 [48, 49, 50, 51, 52, 53, 54, 55, 56, 57, 97, 98, 99, 100, 101, 102] (w[k].toNat : Int); rw [show ((w[k].toNat : Int)).toNat.toUInt8 = w[k] by simp, show ixB w[k] [48, 49, 50, 51, 52, 53, 54, 55, 56, 57, 97, 98, 99, 100, 101, 102] 0 = a from hix] at e114; have hkM : k < (w.map (wtQ rs)).length := by rw [List.length_map]; exact hkl
  have hpst := Z4x hkM; have hpe : (w.map (wtQ rs))[k] = wtQ rs w[k] := by simp
  rw [hpe] at hpst; have e113 := mulR' (Z7e Z3s.2 (hpinw k hk)) (Z7e Z3s.1 hwin) (by rw [← hpst]; exact Z7e Z3s.2 (hpinw (k + 1) hkl)); have hrv := Z9t (hok _ (List.getElem_mem haL)) (hr1 _ (List.getElem_mem haL)); rw [← hpst, hpV (k + 1), hpV k, hwk, ← hrv] at e113; have hga := hPLg a haL; obtain ⟨x1, x2, x3, x4, hx⟩ : ∃ a' A b B, Kn.rvT rs[a] = .agg [.bool a', .str A, .bool b, .str B] := ⟨_, _, _, _, rfl⟩; rw [hx] at hga e113; have haP : a < PL.length := by omega
  simp -implicitDefEqProofs only [hkl', go_sem]; refine AWp.planL (.q 0 (.q 1 (.q 2 (.q 3 (.q 4 (.e 5 (.s 0 (.s 1 (.q 6 (.q 7 (.e 8 (.e 9 .fin .nil) .nil))))) .nil)))))) hΓ hmix (by kernel_rfl) ?_; simp -implicitDefEqProofs only [hkl, hgb, Int.toNat_natCast, go_sem]; refine Z0 e114 (.still rfl) ?_; simp -implicitDefEqProofs only [haP, hga, Int.toNat_natCast, go_sem]; refine Z0 e113 (.still rfl) ?_; simp -implicitDefEqProofs only [go_sem]; exact ⟨by simp only [InR]; omega, k + 1, ⟨by omega, rfl, rfl⟩, by omega, by omega⟩

theorem Zqv : ∀ i a : Fin 16, ((([48, 49, 50, 51, 52, 53, 54, 55, 56, 57, 97, 98, 99, 100, 101, 102] : List UInt8).getD i.1 0).toNat : Int) = ((Kn.ltr a.1).toNat : Int) ↔ i = a := by decide +kernel
theorem h117 (a : Nat) (ha : a < 16) : PFn Tryz.prog 117 [.int .u8 ((Kn.ltr a).toNat : Int)] [.int .i64 a] := by
  refine PFn.of_body hΓ Tryz.func117 (by kernel_rfl) rfl (Wd [] ?_); simp +contextual -implicitDefEqProofs only [Tryz.ntmps117, Tryz.results117, Nat.reduceAdd, Nat.reduceSub, go_sem]; refine AWp.loopI (fun i : Nat => ⟨mkF 13 [(0, .p (.int .u8 ((Kn.ltr a).toNat : Int))), (3, .p (.int .i64 i))], []⟩) (fun i => i ≤ a) (fun i => a - i) 0 (by simp [go_sem]) (by simp) ?_; intro i hi; refine Wd [] ?_; have h16 : (i : Int) < 16 := by omega
  have h16' : i < 16 := by omega
  have hk := Zqv ⟨i, h16'⟩ ⟨a, ha⟩; simp only [Fin.mk.injEq] at hk; by_cases hia : i = a
  · have hk' := hk.2 hia
    simp -implicitDefEqProofs only [h16, h16', hk', Int.toNat_natCast, List.length_cons, List.length_nil, Nat.reduceAdd, go_sem]; omega
  · have hk' := fun h => hia (hk.1 h)
    simp -implicitDefEqProofs only [h16, h16', hk', Int.toNat_natCast, List.length_cons, List.length_nil, Nat.reduceAdd, go_sem]; exact ⟨fun h => hk.1 (by rw [h]), fun _ => ⟨by simp only [InR]; omega, i + 1, by simp, by omega, by omega⟩⟩

theorem h54e (q : Int) (ws : List (List UInt8)) (rs : List Kn.RT) (hlr : rs.length ≤ 4) (hsh : ∀ r ∈ rs, Kn.shT r) (h : Zb q ws ≠ 0 ∨ (rs.length : Int) ≠ q ∨ rs.any (fun r => !Kn.okT r) = true) :
    PFn Tryz.prog 54 [Zz q ws, .sl (rs.map Kn.rvT)] [zrV, .int .i64 (wE q ws rs)] := by
  have e80 := t44 q ws; unfold wE zrV; by_cases hc : Zb q ws = 0
  rotate_left
  · rw [if_pos (by simpa using hc)]
    unfold Zz at e80; refine PFn.of_body hΓ Tryz.func54 (by kernel_rfl) rfl (AWp.seq (Wd [] ?_)); simp -implicitDefEqProofs only [Tryz.ntmps54, Tryz.results54, Nat.reduceAdd, Nat.reduceSub, Zz, go_sem]; refine AWp.seq (Wd [] ?_); simp -implicitDefEqProofs only [go_sem]; refine Z0 e80 (.still rfl) ?_; simp -implicitDefEqProofs only [hc, go_sem]
  rw [if_neg (by simpa using hc)]; rw [hc] at e80; unfold Zz at e80; by_cases hl : (rs.length : Int) = q
  rotate_left
  · rw [if_pos hl]
    refine PFn.of_body hΓ Tryz.func54 (by kernel_rfl) rfl (AWp.seq (Wd [] ?_)); simp -implicitDefEqProofs only [Tryz.ntmps54, Tryz.results54, Nat.reduceAdd, Nat.reduceSub, Zz, go_sem]; refine AWp.seq (Wd [] ?_); simp -implicitDefEqProofs only [go_sem]; refine Z0 e80 (.still rfl) ?_; simp -implicitDefEqProofs only [go_sem]; refine AWp.seq (Wd [] ?_); simp -implicitDefEqProofs only [hl, List.length_map, go_sem]
  rw [if_neg (by simpa using hl)]; have hb : rs.any (fun r => !Kn.okT r) = true := h.elim (fun h => absurd hc h) fun h => h.elim (fun h => absurd hl h) id
  rw [hb, if_pos rfl]; have e93 := Kn.w93 0 1 (by omega) (by omega) (by omega); rw [Kn.ratV_low] at e93; generalize magB (Kn.lowN 0 1) = zA at *; generalize magB (Kn.lowD 0 1) = zB at *; refine PFn.of_body hΓ Tryz.func54 (by kernel_rfl) rfl (AWp.seq (Wd [] ?_)); simp -implicitDefEqProofs only [Tryz.ntmps54, Tryz.results54, Nat.reduceAdd, Nat.reduceSub, Zz, go_sem]; refine AWp.seq (Wd [] ?_); simp -implicitDefEqProofs only [go_sem]; refine Z0 e80 (.still rfl) ?_; simp -implicitDefEqProofs only [go_sem]; refine AWp.seq (Wd [] ?_); simp -implicitDefEqProofs only [hl, List.length_map, go_sem]; refine AWp.seq (Wd [] ?_); simp -implicitDefEqProofs only [go_sem]; refine Z0 e93 (.pures rfl) ?_; simp -implicitDefEqProofs only [go_sem]; refine AWp.seq (AWp.seq (Wd [] ?_)); simp -implicitDefEqProofs only [go_sem]; refine AWp.block ?_
  refine AWp.loopI (fun i : Nat => ⟨mkF 97 [(1, .p (.sl (rs.map Kn.rvT))), (2, .ptr 0 0), (4, .ptr 1 0), (6, .ptr 2 0), (7, .p (.int .i64 i))],
      [.box [.p (.int .i64 q), .p (.sl (ws.map .str))], .box [.p (.bool false), .p (.str []), .p (.bool false), .p (.str [])], .box [.p (.bool false), .p (.str zA), .p (.bool false), .p (.str zB)]]⟩)
    (fun i => i ≤ rs.length ∧ ∀ r ∈ rs.take i, Kn.okT r = true) (fun i => rs.length - i) 0 (by simp [go_sem]) (by simp) ?_
  rintro i ⟨hi, hps⟩; refine Wd [] ?_; by_cases hlt : i < rs.length
  rotate_left
  · rw [List.take_of_length_le (by omega)] at hps
    obtain ⟨r, hr, hk⟩ := List.any_eq_true.1 hb; rw [hps r hr] at hk
    cases hk
  have hlt' : (i : Int) < (rs.length : Int) := by omega
  have hmem := List.getElem_mem hlt; have hgi : (rs.map Kn.rvT).getD i default = Kn.rvT rs[i] := Z5 _ _ _ _ hlt; have e115 := Kn.r115 rs[i] (hsh _ hmem); obtain ⟨x1, x2, x3, x4, hx⟩ : ∃ a A b B, Kn.rvT rs[i] = .agg [.bool a, .str A, .bool b, .str B] := ⟨_, _, _, _, rfl⟩; rw [hx] at hgi e115
  cases hk : Kn.okT rs[i]
  · rw [hk, if_neg (by simp)] at e115
    have h10 : ¬ (1 : Int) = 0 := by omega
    simp -implicitDefEqProofs only [hlt', hgi, hlt, Int.toNat_natCast, List.length_map, go_sem]; refine Z0 e115 (.still rfl) ?_; simp -implicitDefEqProofs only [h10, go_sem]
  · rw [hk, if_pos rfl] at e115
    simp -implicitDefEqProofs only [hlt', hgi, hlt, Int.toNat_natCast, List.length_map, go_sem]; refine Z0 e115 (.still rfl) ?_; simp -implicitDefEqProofs only [go_sem]; refine ⟨by simp only [InR]; omega, i + 1, by simp, ⟨by omega, fun r hr => ?_⟩, by omega⟩; rw [List.take_succ_eq_append_getElem hlt] at hr; rcases List.mem_append.1 hr with hr | hr
    · exact hps r hr
    · rw [List.mem_singleton.1 hr]; exact hk
theorem h54o (q : Nat) (ws : List (List UInt8)) (rs : List Kn.RT) (hcode : Zb (q : Int) ws = 0) (hw6 : ws.length ≤ 6) (hw5 : ∀ w ∈ ws, w.length ≤ 5) (hrl : rs.length = q) (hlr : rs.length ≤ 4) (hsh : ∀ r ∈ rs, Kn.shT r) (hok : ∀ r ∈ rs, Kn.okT r = true) :
    PFn Tryz.prog 54 [Zz q ws, .sl (rs.map Kn.rvT)] [wV q ws rs, .int .i64 (wE q ws rs)] := by
  have hv := Z2b hcode; have h2 := hv.q2; have hws := hv.words; have e80 := t44 (q : Int) ws; rw [hcode] at e80; have hnb : rs.any (fun r => !Kn.okT r) = false := List.any_eq_false.2 fun r hr => by rw [hok r hr]; simp
  have hwe := Zpa (ws := ws) hcode (show (rs.length : Int) = (q : Int) by omega) hnb; obtain ⟨nqs, hnq⟩ : ∃ l, l = rs.map nq := ⟨_, rfl⟩; have hnl : nqs.length = q := by rw [hnq, List.length_map, hrl]
  have hin : ∀ x ∈ nqs, inQ 16777216 x := fun x hx => by
    rw [hnq] at hx; obtain ⟨r, hr, rfl⟩ := List.mem_map.1 hx; exact Zev (hok r hr) (hsh r hr)
  have hsok : ∀ k, k ≤ q → okQ (sumQ (nqs.take k)) := fun k hk => Zbr (by decide) (by decide) hin (by omega) (by omega)
  obtain ⟨sA, hsA⟩ : ∃ f : Nat → List UInt8, f = fun i => magB (Kn.lowN (sumQ (nqs.take i)).1 (sumQ (nqs.take i)).2) := ⟨_, rfl⟩
  obtain ⟨sB, hsB⟩ : ∃ f : Nat → List UInt8, f = fun i => magB (Kn.lowD (sumQ (nqs.take i)).1 (sumQ (nqs.take i)).2) := ⟨_, rfl⟩
  have hsV : ∀ i, qV (sumQ (nqs.take i)) = .agg [.bool false, .str (sA i), .bool false, .str (sB i)] := fun i => by rw [hsA, hsB]; rfl
  have hz : Kn.ratV 0 1 = .agg [.bool false, .str (sA 0), .bool false, .str (sB 0)] := hsV 0; obtain ⟨uA, huA⟩ : ∃ l, l = magB (Kn.lowN 1 1) := ⟨_, rfl⟩; obtain ⟨uB, huB⟩ : ∃ l, l = magB (Kn.lowD 1 1) := ⟨_, rfl⟩; have hone : Kn.ratV 1 1 = .agg [.bool false, .str uA, .bool false, .str uB] := by rw [huA, huB]; rfl
  have e0 := Kn.w93 0 1 (by omega) (by omega) (by omega); have e1 := Kn.w93 1 1 (by omega) (by omega) (by omega); rw [hz] at e0; rw [hone] at e1; obtain ⟨PL, hPL⟩ : ∃ PL, PL = rs.map Kn.rvT := ⟨_, rfl⟩; have hPLl : PL.length = q := by rw [hPL, List.length_map, hrl]
  have hPLg : ∀ k (hk : k < rs.length), PL.getD k default = Kn.rvT rs[k] := fun k hk => by
    rw [hPL, Z5 _ _ _ _ hk]
  rw [← hPL]; unfold Zz at e80; rw [show wV (q : Int) ws rs = if wE q ws rs = 0 then qV (sumQ (outQ rs ws)) else zrV from rfl, hwe, ← hnq]; clear hwe; refine PFn.of_body hΓ Tryz.func54 (by kernel_rfl) rfl (AWp.seq (Wd [] ?_)); simp -implicitDefEqProofs only [Tryz.ntmps54, Tryz.results54, Nat.reduceAdd, Nat.reduceSub, Zz, go_sem]; refine AWp.seq (Wd [] ?_); simp -implicitDefEqProofs only [go_sem]; refine Z0 e80 (.still rfl) ?_; simp -implicitDefEqProofs only [go_sem]; refine AWp.seq (Wd [] ?_); simp -implicitDefEqProofs only [hPLl, go_sem]; refine AWp.seq (Wd [] ?_); simp -implicitDefEqProofs only [go_sem]; refine Z0 e0 (.pures rfl) ?_; simp -implicitDefEqProofs only [go_sem]; refine AWp.seq (AWp.seq (Wd [] ?_)); simp -implicitDefEqProofs only [go_sem]; refine AWp.block ?_
  refine AWp.loopI (fun i : Nat => ⟨mkF 97 [(1, .p (.sl PL)), (2, .ptr 0 0), (4, .ptr 1 0), (6, .ptr 2 0), (7, .p (.int .i64 i))],
      [.box [.p (.int .i64 q), .p (.sl (ws.map .str))], .box [.p (.bool false), .p (.str []), .p (.bool false), .p (.str [])], .box [.p (.bool false), .p (.str (sA 0)), .p (.bool false), .p (.str (sB 0))]]⟩)
    (fun i => i ≤ q) (fun i => q - i) 0 (by simp [go_sem]) (Nat.zero_le _) ?_
  intro i hi; refine Wd [] ?_; by_cases hlt : i < q
  · have hlt' : (i : Int) < (q : Int) := by omega
    have hiL : i < rs.length := by omega
    have hgi := hPLg i hiL; have hmem := List.getElem_mem hiL; have e115 := Kn.r115 rs[i] (hsh _ hmem); rw [hok _ hmem, if_pos rfl] at e115; obtain ⟨x1, x2, x3, x4, hx⟩ : ∃ a A b B, Kn.rvT rs[i] = .agg [.bool a, .str A, .bool b, .str B] := ⟨_, _, _, _, rfl⟩; rw [hx] at hgi e115; simp -implicitDefEqProofs only [hlt', hgi, hPLl, hlt, Int.toNat_natCast, go_sem]; refine Z0 e115 (.still rfl) ?_; simp -implicitDefEqProofs only [go_sem]; exact ⟨by simp only [InR]; omega, i + 1, by simp, by omega, by omega⟩
  have hiq : q = i := by omega
  subst hiq; simp -implicitDefEqProofs only [hPLl, Int.lt_irrefl, go_sem]; clear hi; refine AWp.seq (AWp.seq (Wd [] ?_)); simp -implicitDefEqProofs only [go_sem]; refine AWp.block ?_
  refine AWp.loopI (fun i : Nat => ⟨mkF 97 [(1, .p (.sl PL)), (2, .ptr 0 0), (4, .ptr 1 0), (6, .ptr 2 0), (8, .p (.int .i64 i))],
      [.box [.p (.int .i64 q), .p (.sl (ws.map .str))], .box [.p (.bool false), .p (.str []), .p (.bool false), .p (.str [])], .box [.p (.bool false), .p (.str (sA i)), .p (.bool false), .p (.str (sB i))]]⟩)
    (fun i => i ≤ q ∧ ∀ r ∈ rs.take i, posT r = true) (fun i => q - i) 0 (by simp [go_sem]) ⟨Nat.zero_le _, by simp⟩ ?_
  rintro i ⟨hi, hps⟩; refine Wd [(14, 7), (16, 6)] ?_; by_cases hlt2 : i < q
  · have hlt' : (i : Int) < (q : Int) := by omega
    have hiL : i < rs.length := by omega
    have hiN : i < nqs.length := by omega
    have hgi := hPLg i hiL; have hmem := List.getElem_mem hiL; obtain ⟨_, c, _, e108, _, hc⟩ := Zco rs[i] (hok _ hmem) (hsh _ hmem); rw [hz] at e108
    cases hpos : posT rs[i]
    · have hany : rs.any (fun r => !posT r) = true := List.any_eq_true.2 ⟨_, hmem, by rw [hpos]; rfl⟩
      have hc0 := hc.2 hpos; rw [hany]; obtain ⟨x1, x2, x3, x4, hx⟩ : ∃ a A b B, Kn.rvT rs[i] = .agg [.bool a, .str A, .bool b, .str B] := ⟨_, _, _, _, rfl⟩; rw [hx] at hgi e108; simp -implicitDefEqProofs only [hlt', hgi, hPLl, hlt2, Int.toNat_natCast, go_sem]; refine Z1 e0 (.pures rfl) ?_; simp -implicitDefEqProofs only [go_sem]; refine Z1 e108 (.still rfl) ?_; simp -implicitDefEqProofs only [hc0, go_sem]
      rfl
    have hc0 : ¬ c ≤ 0 := fun h => by have := hc.1 h; rw [hpos] at this; cases this
    have hr1 : rs[i].1 = false := by
      unfold posT at hpos; simp only [Bool.and_eq_true, Bool.not_eq_true'] at hpos; exact hpos.2.1
    have hrv := Z9t (hok _ hmem) hr1; have hst := Z2u hiN; have hne : nqs[i] = nq rs[i] := by simp only [hnq, List.getElem_map]
    rw [hne] at hst; have e112 := addW (hsok i hi) (Z7e Z3s.1 (Zev (hok _ hmem) (hsh _ hmem))) (by rw [← hst]; exact hsok (i + 1) hlt2); rw [← hst, hsV (i + 1), hsV i, ← hrv] at e112; have hps' : ∀ r ∈ rs.take (i + 1), posT r = true := fun r hr => by
      rw [List.take_succ_eq_append_getElem hiL] at hr; rcases List.mem_append.1 hr with hr | hr
      · exact hps r hr
      · rw [List.mem_singleton.1 hr]; exact hpos
    obtain ⟨x1, x2, x3, x4, hx⟩ : ∃ a A b B, Kn.rvT rs[i] = .agg [.bool a, .str A, .bool b, .str B] := ⟨_, _, _, _, rfl⟩; rw [hx] at hgi e108 e112; simp -implicitDefEqProofs only [hlt', hgi, hPLl, hlt2, Int.toNat_natCast, go_sem]; refine Z1 e0 (.pures rfl) ?_; simp -implicitDefEqProofs only [go_sem]; refine Z1 e108 (.still rfl) ?_; simp -implicitDefEqProofs only [hc0, hgi, hPLl, hlt2, Int.toNat_natCast, go_sem]; refine Z1 e112 (.still rfl) ?_; simp -implicitDefEqProofs only [go_sem]; exact ⟨by simp only [InR]; omega, i + 1, by simp, ⟨by omega, hps'⟩, by omega⟩
  have hiq : q = i := by omega
  subst hiq; rw [List.take_of_length_le (by omega)] at hps; have hany : rs.any (fun r => !posT r) = false := List.any_eq_false.2 fun r hr => by rw [hps r hr]; simp
  rw [hany]; have hr1 : ∀ r ∈ rs, r.1 = false := fun r hr => by
    have hpos := hps r hr; unfold posT at hpos; simp only [Bool.and_eq_true, Bool.not_eq_true'] at hpos; exact hpos.2.1
  have hsq := hsV q; rw [List.take_of_length_le (by omega)] at hsq; have hkey : (decide (sA q = uA) && decide (sB q = uB)) = decide ((sumQ nqs).1 = (sumQ nqs).2) := by
    rw [← Bool.decide_and]; refine decide_eq_decide.2 ?_; have hl := Kn.low_eq (n := (sumQ nqs).1) (d := (sumQ nqs).2) (m := 1) (e := 1) (by have := (hsok q (Nat.le_refl _)).2.2; rwa [List.take_of_length_le (by omega)] at this) (by omega); rw [Nat.mul_one, Nat.one_mul, show Kn.ratV (sumQ nqs).1 (sumQ nqs).2 = qV (sumQ nqs) from rfl, hsq, hone] at hl; rw [← hl]
    constructor
    · rintro ⟨h1, h2⟩
      rw [h1, h2]
    · intro h1
      injection h1 with h1
      injection h1 with _ h1
      injection h1 with h2 h1
      injection h1 with _ h1
      injection h1 with h3 _
      injection h2 with h2
      injection h3 with h3
      exact ⟨h2, h3⟩
  simp -implicitDefEqProofs only [hPLl, Int.lt_irrefl, go_sem]; refine AWp.seq (Wd [(17, 3)] ?_); simp -implicitDefEqProofs only [go_sem]; refine Z1 e1 (.pures rfl) ?_; simp -implicitDefEqProofs only [go_sem]; refine Zkk rfl rfl ?_; rw [hkey]; by_cases hS1 : (sumQ nqs).1 = (sumQ nqs).2
  rotate_left
  · rw [decide_eq_false hS1, if_neg hS1]
    unfold zrV; simp -implicitDefEqProofs only [Bool.not_false, go_sem]
    rfl
  rw [decide_eq_true hS1, if_pos hS1]; simp -implicitDefEqProofs only [Bool.not_true, go_sem]; obtain ⟨O, hO⟩ : ∃ O, O = outQ rs ws := ⟨_, rfl⟩; have hOl : O.length = ws.length := by rw [hO]; unfold outQ; rw [List.length_map]
  have hwt : ∀ w ∈ ws, ∀ x ∈ w.map (wtQ rs), inQ 16777216 x := fun w hw x hx => by
    obtain ⟨b, hb, rfl⟩ := List.mem_map.1 hx; have hal := Z96 (hws w hw).2.2; rw [Int.toNat_natCast] at hal; obtain ⟨a, ha, hba⟩ := hal b hb; exact (Zhg hok hsh (a := a) (by omega) (by rw [hba]; exact Z8t (by omega))).2
  have hpin : ∀ w ∈ ws, ∀ k, k ≤ w.length → inQ 1329227995784915872903807060280344576 (Z18 ((w.map (wtQ rs)).take k)) := fun w hw k hk => Zel (hwt w hw) (by rw [List.length_map]; exact hw5 w hw) (by rw [List.length_map]; exact hk)
  have hpinA : ∀ w ∈ ws, inQ 1329227995784915872903807060280344576 (Z18 (w.map (wtQ rs))) := fun w hw => by
    have := hpin w hw w.length (Nat.le_refl _)
    rwa [List.take_of_length_le (by rw [List.length_map]; omega)] at this
  have hOin : ∀ x ∈ O, inQ 1329227995784915872903807060280344576 x := fun x hx => by
    rw [hO] at hx; unfold outQ at hx; obtain ⟨w, hw, rfl⟩ := List.mem_map.1 hx; exact hpinA w hw
  have hook : ∀ k, k ≤ ws.length → okQ (sumQ (O.take k)) := fun k hk => Zbr (by decide) (by decide) hOin (by omega) (by omega)
  obtain ⟨oA, hoA⟩ : ∃ f : Nat → List UInt8, f = fun i => magB (Kn.lowN (sumQ (O.take i)).1 (sumQ (O.take i)).2) := ⟨_, rfl⟩
  obtain ⟨oB, hoB⟩ : ∃ f : Nat → List UInt8, f = fun i => magB (Kn.lowD (sumQ (O.take i)).1 (sumQ (O.take i)).2) := ⟨_, rfl⟩
  have hoV : ∀ i, qV (sumQ (O.take i)) = .agg [.bool false, .str (oA i), .bool false, .str (oB i)] := fun i => by rw [hoA, hoB]; rfl
  have hz2 : sA 0 = oA 0 ∧ sB 0 = oB 0 := by rw [hsA, hoA, hsB, hoB]; exact ⟨rfl, rfl⟩
  rw [← hO]; refine AWp.seq (Wd [] ?_); simp -implicitDefEqProofs only [go_sem]; refine Z0 e0 (.pures rfl) ?_; simp -implicitDefEqProofs only [go_sem]; refine AWp.seq (AWp.seq (Wd [] ?_)); simp -implicitDefEqProofs only [go_sem]; refine AWp.block ?_
  refine AWp.loopJ (fun i : Nat => ⟨mkF 97 [(1, .p (.sl PL)), (2, .ptr 0 0), (4, .ptr 1 0), (9, .ptr 3 0), (10, .p (.int .i64 i))],
      [.box [.p (.int .i64 q), .p (.sl (ws.map .str))], .box [.p (.bool false), .p (.str []), .p (.bool false), .p (.str [])], .box [.p (.bool false), .p (.str (sA q)), .p (.bool false), .p (.str (sB q))],
        .box [.p (.bool false), .p (.str (oA i)), .p (.bool false), .p (.str (oB i))]]⟩)
    (fun i => i ≤ ws.length) (fun i => ws.length - i) 0 (fun x => by simp [Z15, mkF, AV.blw, AV.blw.blwL, blwH, AObj.blw]) (by simp [go_sem, hz2]) (Nat.zero_le _) ?_
  clear hi; intro i hi; simp -implicitDefEqProofs only [go_sem]; refine Wd [] ?_; by_cases hlt : i < ws.length
  rotate_left
  · have hiw : ws.length = i := by omega
    subst hiw; have hfin := hoV ws.length; rw [List.take_of_length_le (by omega)] at hfin; rw [hfin]; simp -implicitDefEqProofs only [Int.lt_irrefl, List.length_map, go_sem]; refine Wd [] ?_; simp -implicitDefEqProofs only [go_sem]
  have hlt' : (i : Int) < (ws.length : Int) := by omega
  have hmw := List.getElem_mem hlt; have hw := hw5 _ hmw; have hal := Z96 (hws _ hmw).2.2; rw [Int.toNat_natCast] at hal; have hgw : (ws.map PV.str).getD i default = .str ws[i] := Z5 _ _ _ _ hlt; have hiO : i < O.length := by omega
  have hst := Z2u hiO; have hne : O[i] = Z18 (ws[i].map (wtQ rs)) := by simp only [hO, outQ, List.getElem_map]
  rw [hne] at hst; have e112 := addW (hook i hi) (Z7e Z3s.2 (hpinA _ hmw)) (by rw [← hst]; exact hook (i + 1) hlt); rw [← hst, hoV (i + 1), hoV i] at e112; have hwtw := hwt _ hmw; have hpinw := hpin _ hmw; generalize ws[i] = w at *; obtain ⟨pA, hpA⟩ : ∃ f : Nat → List UInt8, f = fun k => magB (Kn.lowN (Z18 ((w.map (wtQ rs)).take k)).1 (Z18 ((w.map (wtQ rs)).take k)).2) := ⟨_, rfl⟩
  obtain ⟨pB, hpB⟩ : ∃ f : Nat → List UInt8, f = fun k => magB (Kn.lowD (Z18 ((w.map (wtQ rs)).take k)).1 (Z18 ((w.map (wtQ rs)).take k)).2) := ⟨_, rfl⟩
  have hpV : ∀ k, qV (Z18 ((w.map (wtQ rs)).take k)) = .agg [.bool false, .str (pA k), .bool false, .str (pB k)] := fun k => by rw [hpA, hpB]; rfl
  have hpw := hpV w.length; rw [List.take_of_length_le (by rw [List.length_map]; omega)] at hpw; rw [hpw] at e112; have hp02 : uA = pA 0 ∧ uB = pB 0 := by rw [huA, huB, hpA, hpB]; exact ⟨rfl, rfl⟩
  simp -implicitDefEqProofs only [hlt', List.length_map, go_sem]; refine Z0 e1 (.pures rfl) ?_; simp -implicitDefEqProofs only [go_sem]
  refine AWp.loopJ (fun k : Nat => ⟨mkF 97 [(1, .p (.sl PL)), (2, .ptr 0 0), (4, .ptr 1 0), (9, .ptr 3 0), (10, .p (.int .i64 i)), (11, .ptr 4 0), (12, .p (.int .i64 k))],
      [.box [.p (.int .i64 q), .p (.sl (ws.map .str))], .box [.p (.bool false), .p (.str []), .p (.bool false), .p (.str [])], .box [.p (.bool false), .p (.str (sA q)), .p (.bool false), .p (.str (sB q))],
        .box [.p (.bool false), .p (.str (oA i)), .p (.bool false), .p (.str (oB i))], .box [.p (.bool false), .p (.str (pA k)), .p (.bool false), .p (.str (pB k))]]⟩)
    (fun k => k ≤ w.length) (fun k => w.length - k) 0 (fun x => by simp [Z15, mkF, AV.blw, AV.blw.blwL, blwH, AObj.blw]) (by simp [go_sem, hp02]) (Nat.zero_le _) ?_
  intro k hk; simp -implicitDefEqProofs only [go_sem]; refine Wd [(27, 13)] ?_; by_cases hkl : k < w.length
  rotate_left
  · have hkw : w.length = k := by omega
    rw [hkw] at e112; have hkw' : ¬ (k : Int) < (w.length : Int) := by omega
    simp -implicitDefEqProofs only [hkw', hgw, hlt, Int.toNat_natCast, List.length_map, go_sem]; refine Z0 e112 (.still rfl) ?_; simp -implicitDefEqProofs only [go_sem]; exact ⟨by simp only [InR]; omega, i + 1, ⟨by omega, rfl, rfl⟩, by omega, by omega⟩
  have hkl' : (k : Int) < (w.length : Int) := by omega
  obtain ⟨a, ha, hba⟩ := hal w[k] (List.getElem_mem hkl); have hix : ixB w[k] L16 0 = a := by rw [hba]; exact Z8t (by omega)
  have haL : a < rs.length := by omega
  obtain ⟨hwk, hwin⟩ := Zhg hok hsh haL hix; have hgb : w.getD k 0 = w[k] := by rw [List.getD_eq_getElem?_getD, List.getElem?_eq_getElem hkl, Option.getD_some]
  have e117 := h117 a (by omega); rw [← hba] at e117; have hkM : k < (w.map (wtQ rs)).length := by rw [List.length_map]; exact hkl
  have hpst := Z4x hkM; have hpe : (w.map (wtQ rs))[k] = wtQ rs w[k] := by simp
  rw [hpe] at hpst; have e113 := mulW (Z7e Z3s.2 (hpinw k hk)) (Z7e Z3s.1 hwin) (by rw [← hpst]; exact Z7e Z3s.2 (hpinw (k + 1) hkl)); have hrv := Z9t (hok _ (List.getElem_mem haL)) (hr1 _ (List.getElem_mem haL)); rw [← hpst, hpV (k + 1), hpV k, hwk, ← hrv] at e113; have hga := hPLg a haL; obtain ⟨x1, x2, x3, x4, hx⟩ : ∃ a' A b B, Kn.rvT rs[a] = .agg [.bool a', .str A, .bool b, .str B] := ⟨_, _, _, _, rfl⟩; rw [hx] at hga e113; have haP : a < PL.length := by omega
  simp -implicitDefEqProofs only [hkl', hgw, hlt, hkl, hgb, Int.toNat_natCast, List.length_map, go_sem]; refine Z1 e117 (.pures rfl) ?_; simp -implicitDefEqProofs only [haP, hga, Int.toNat_natCast, go_sem]; refine Z1 e113 (.still rfl) ?_; simp -implicitDefEqProofs only [go_sem]; exact ⟨by simp only [InR]; omega, k + 1, ⟨by omega, rfl, rfl⟩, by omega, by omega⟩
end Go.Proofs.YtpljmccnfmkmfaaGreat
end

