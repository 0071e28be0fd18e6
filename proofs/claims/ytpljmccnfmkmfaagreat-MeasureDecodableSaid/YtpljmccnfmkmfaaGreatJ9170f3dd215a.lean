/-
  rational.Add and rational.Mul: a table of functions.
-/
import Derived.Test.YtpljmccnfmkmfaaGreatJ13b131067210
import Derived.Test.YtpljmccnfmkmfaaGreatJ41f6a8d41adc

namespace Go.Proofs.YtpljmccnfmkmfaaGreat.Kn
open Go Go.AM
set_option maxRecDepth 100000
set_option maxHeartbeats 4000000
set_option linter.unusedSimpArgs false

def ratQ (a b : Nat) : PV := .agg [.bool false, .str (magB a), .bool false, .str (magB b)]
theorem ratV_Q (n d : Nat) : ratV n d = ratQ (lowN n d) (lowD n d) := rfl

theorem v248 (a b c d : Nat) (ha : a < capN) (hb : b < capN) (hc : c < capN) (hd : d < capN) (h1 : a * d < capN) (h2 : c * b < capN) : PFn Tryz.prog 248 [ratQ a b, ratQ c d] [intN false (a * d + c * b), intN false (b * d)] := by
  have m1 := u36 a d ha hd
  have m2 := u36 c b hc hb
  have m3 := u36 b d hb hd
  have s := u89 (a * d) (c * b) h1 h2
  refine PFn.of_body hΓ Tryz.func248 (by kernel_rfl) rfl (AWp.of_awpD [(1, 1000)] hΓ hmix (by kernel_rfl) ?_)
  simp -implicitDefEqProofs only [Tryz.ntmps248, Tryz.results248, Nat.reduceAdd, Nat.reduceSub, intN_pos, ratQ, go_sem]
  refine AWp.planL (.q 0 (.q 1 (.q 2 (.q 3 (.q 5 (.q 6 (.q 7 (.q 8 (.q 11 (.q 12 (.q 13 (.q 14 (.e 4 (.s 5 (.s 6 (.s 7 (.s 8 (.s 11 (.s 12 (.s 13 (.s 14 (.e 9 (.s 11 (.s 12 (.s 13 (.s 14 (.e 10 (.s 11 (.s 12 (.s 13 (.s 14 (.e 15 (.e 16 (.e 17 .fin .nil) .nil) .nil))))) .nil))))) .nil))))))))) .nil))))))))))))) hΓ hmix (by kernel_rfl) ?_
  simp -implicitDefEqProofs only [go_sem]
  refine ⟨by omega, by omega, callK_fn m1 (.still rfl) ?_⟩
  simp -implicitDefEqProofs only [intN_pos, go_sem]
  refine ⟨by omega, callK_fn m2 (.still rfl) ?_⟩
  simp -implicitDefEqProofs only [intN_pos, go_sem]
  refine callK_fn s (.still rfl) ?_
  simp -implicitDefEqProofs only [intN_pos, go_sem]
  refine callK_fn m3 (.still rfl) ?_
  simp -implicitDefEqProofs only [intN_pos, go_sem]
  try rfl
theorem v250 (a b c d : Nat) (ha : a < capN) (hb : b < capN) (hc : c < capN) (hd : d < capN) : PFn Tryz.prog 250 [ratQ a b, ratQ c d] [intN false (a * c), intN false (b * d)] := by
  have m1 := u36 a c ha hc
  have m3 := u36 b d hb hd
  refine PFn.of_body hΓ Tryz.func250 (by kernel_rfl) rfl (AWp.of_awpD [(1, 1000)] hΓ hmix (by kernel_rfl) ?_)
  simp -implicitDefEqProofs only [Tryz.ntmps250, Tryz.results250, Nat.reduceAdd, Nat.reduceSub, intN_pos, ratQ, go_sem]
  refine AWp.planL (.q 0 (.q 1 (.q 2 (.q 3 (.q 5 (.q 6 (.q 7 (.q 8 (.e 4 (.s 5 (.s 6 (.s 7 (.s 8 (.e 9 (.e 10 (.e 11 .fin .nil) .nil) .nil))))) .nil))))))))) hΓ hmix (by kernel_rfl) ?_
  simp -implicitDefEqProofs only [go_sem]
  refine ⟨by omega, by omega, callK_fn m1 (.still rfl) ?_⟩
  simp -implicitDefEqProofs only [intN_pos, go_sem]
  refine callK_fn m3 (.still rfl) ?_
  simp -implicitDefEqProofs only [intN_pos, go_sem]
  try rfl
def rbox (a b : Nat) : AObj := .box [.p (.bool false), .p (.str (magB a)), .p (.bool false), .p (.str (magB b))]
def zbox : AObj := .box [.p (.bool false), .p (.str []), .p (.bool false), .p (.str [])]
theorem c217 (a b c d : Nat) : AC Tryz.prog 217 [] [rbox a b, rbox c d, zbox] [] (fun v h' => v = .agg [.fn 248 [], .fn 249 [], .fn 250 [], .fn 251 []] ∧ h' = [rbox a b, rbox c d, zbox]) := by
  unfold rbox zbox
  refine AC.of_body 3 hΓ Tryz.func217 (by kernel_rfl) rfl (by simp) ?_
  refine AWp.seq ?_
  refine AWp.of_awpD [] hΓ hmix (by kernel_rfl) ?_
  simp -implicitDefEqProofs only [Tryz.ntmps217, Tryz.results217, Nat.reduceAdd, Nat.reduceSub, go_sem]
  refine AWp.seq ?_
  refine AWp.of_awpD [] hΓ hmix (by kernel_rfl) ?_
  simp -implicitDefEqProofs only [go_sem]
  refine AWp.of_awpD [] hΓ hmix (by kernel_rfl) ?_
  simp -implicitDefEqProofs only [go_sem]
  simp [AV.one, AV.under, AV.under.underL, setL, AObj.under]
theorem low_add' {a b x y n d m e : Nat} (f1 : a * d = n * b) (f2 : x * e = m * y) : (a * y + x * b) * (d * e) = (n * e + m * d) * (b * y) := by grind
theorem low_mul' {a b x y n d m e : Nat} (f1 : a * d = n * b) (f2 : x * e = m * y) : (a * x) * (d * e) = (n * m) * (b * y) := by grind
theorem low_addV {n d m e : Nat} (hd : d ≠ 0) (he : e ≠ 0) : ratV (lowN n d * lowD m e + lowN m e * lowD n d) (lowD n d * lowD m e) = ratV (n * e + m * d) (d * e) :=
  (low_eq (Nat.mul_ne_zero (lowD_pos hd) (lowD_pos he)) (Nat.mul_ne_zero hd he)).2 (low_add' low_mul low_mul)
theorem low_mulV {n d m e : Nat} (hd : d ≠ 0) (he : e ≠ 0) : ratV (lowN n d * lowN m e) (lowD n d * lowD m e) = ratV (n * m) (d * e) :=
  (low_eq (Nat.mul_ne_zero (lowD_pos hd) (lowD_pos he)) (Nat.mul_ne_zero hd he)).2 (low_mul' low_mul low_mul)
theorem low_le (n d : Nat) : lowN n d ≤ n ∧ lowD n d ≤ d := ⟨Nat.div_le_self _ _, Nat.div_le_self _ _⟩

theorem v174s (n d m e : Nat) (hn : n < capN) (hd : d < capN) (hm : m < capN) (he : e < capN) (hd0 : d ≠ 0) (he0 : e ≠ 0) (h1 : n * e + m * d < capN) (h2 : d * e < capN) :
    PFn Tryz.prog 174 [.int .i64 0, ratV n d, ratV m e] [ratV (n * e + m * d) (d * e)] := by
  obtain ⟨a1, a2⟩ := low_cap hn hd
  obtain ⟨b1, b2⟩ := low_cap hm he
  have l1 := low_le n d
  have l2 := low_le m e
  have k1 : lowN n d * lowD m e ≤ n * e := Nat.mul_le_mul l1.1 l2.2
  have k2 : lowN m e * lowD n d ≤ m * d := Nat.mul_le_mul l2.1 l1.2
  have k3 : lowD n d * lowD m e ≤ d * e := Nat.mul_le_mul l1.2 l2.2
  have e1 := v97 n d hn hd hd0
  have e2 := v97 m e hm he he0
  have e3 := v248 (lowN n d) (lowD n d) (lowN m e) (lowD m e) a1 a2 b1 b2 (by omega) (by omega)
  have e4 := v100 (lowN n d * lowD m e + lowN m e * lowD n d) (lowD n d * lowD m e) (by omega) (by omega) (Nat.mul_ne_zero (lowD_pos hd0) (lowD_pos he0))
  rw [low_addV hd0 he0] at e4
  obtain ⟨x, y, hR⟩ : ∃ x y, ratV (n * e + m * d) (d * e) = ratQ x y := ⟨_, _, ratV_Q _ _⟩
  rw [hR] at e4 ⊢
  clear hR
  rw [ratV_Q n d] at e1 ⊢
  rw [ratV_Q m e] at e2 ⊢
  have e0 := c217 (lowN n d) (lowD n d) (lowN m e) (lowD m e)
  unfold ratQ at e1 e2 e3 e4 ⊢
  unfold rbox zbox at e0
  refine PFn.of_body hΓ Tryz.func174 (by kernel_rfl) rfl (AWp.of_awpD [(1, 1000)] hΓ hmix (by kernel_rfl) ?_)
  simp -implicitDefEqProofs only [Tryz.ntmps174, Tryz.results174, Nat.reduceAdd, Nat.reduceSub, go_sem]
  refine AWp.planL (.q 1 (.q 4 (.q 6 (.e 0 (.s 1 (.s 4 (.s 6 (.q 2 (.q 3 (.e 5 (.s 1 (.s 6 (.s 2 (.s 3 (.e 7 (.s 1 (.s 2 (.s 3 (.e 8 (.q 9 (.q 10 (.e 11 (.e 12 .fin .nil) .nil))) .nil)))) .nil))))) .nil)))))) .nil)))) hΓ hmix (by kernel_rfl) ?_
  simp -implicitDefEqProofs only [go_sem]
  refine callK_ac e0 (by simp) ?_
  rintro v h' ⟨rfl, rfl⟩
  have hsl : List.take 1 (List.drop (Int.toNat 0 * 1) [AV.fn 248 [], AV.fn 249 [], AV.fn 250 [], AV.fn 251 []]) = [AV.fn 248 []] := rfl
  have h4 : (0 : Int) < ((4 : Nat) : Int) := by decide
  simp -implicitDefEqProofs only [killAll, List.foldl, hsl, h4, List.length_cons, List.length_nil, go_sem]
  refine ⟨by decide, callK_fn e1 (.still rfl) ?_⟩
  simp -implicitDefEqProofs only [go_sem]
  refine ⟨⟨by decide, by decide, rfl⟩, callK_fn e2 (.still rfl) ?_⟩
  simp -implicitDefEqProofs only [go_sem]
  refine ⟨⟨by decide, by decide, rfl⟩, callK_fn e3 (.still rfl) ?_⟩
  simp -implicitDefEqProofs only [intN_pos, go_sem]
  refine callK_fn e4 (.still rfl) ?_
  simp -implicitDefEqProofs only [go_sem]
theorem v112 (n d m e : Nat) (hn : n < capN) (hd : d < capN) (hm : m < capN) (he : e < capN) (hd0 : d ≠ 0) (he0 : e ≠ 0) (h1 : n * e + m * d < capN) (h2 : d * e < capN) :
    PFn Tryz.prog 112 [ratV n d, ratV m e] [ratV (n * e + m * d) (d * e)] := by
  have e1 := v174s n d m e hn hd hm he hd0 he0 h1 h2
  obtain ⟨x, y, hR⟩ : ∃ x y, ratV (n * e + m * d) (d * e) = ratQ x y := ⟨_, _, ratV_Q _ _⟩
  rw [hR] at e1 ⊢
  clear hR
  rw [ratV_Q n d, ratV_Q m e] at e1 ⊢
  unfold ratQ at e1 ⊢
  refine PFn.of_body hΓ Tryz.func112 (by kernel_rfl) rfl (AWp.of_awpD [] hΓ hmix (by kernel_rfl) ?_)
  simp -implicitDefEqProofs only [Tryz.ntmps112, Tryz.results112, Nat.reduceAdd, Nat.reduceSub, go_sem]
  refine callK_fn e1 (.still rfl) ?_
  simp -implicitDefEqProofs only [go_sem]
theorem v174p (n d m e : Nat) (hn : n < capN) (hd : d < capN) (hm : m < capN) (he : e < capN) (hd0 : d ≠ 0) (he0 : e ≠ 0) (h1 : n * m < capN) (h2 : d * e < capN) :
    PFn Tryz.prog 174 [.int .i64 2, ratV n d, ratV m e] [ratV (n * m) (d * e)] := by
  obtain ⟨a1, a2⟩ := low_cap hn hd
  obtain ⟨b1, b2⟩ := low_cap hm he
  have l1 := low_le n d
  have l2 := low_le m e
  have k1 : lowN n d * lowN m e ≤ n * m := Nat.mul_le_mul l1.1 l2.1
  have k3 : lowD n d * lowD m e ≤ d * e := Nat.mul_le_mul l1.2 l2.2
  have e1 := v97 n d hn hd hd0
  have e2 := v97 m e hm he he0
  have e3 := v250 (lowN n d) (lowD n d) (lowN m e) (lowD m e) a1 a2 b1 b2
  have e4 := v100 (lowN n d * lowN m e) (lowD n d * lowD m e) (by omega) (by omega) (Nat.mul_ne_zero (lowD_pos hd0) (lowD_pos he0))
  rw [low_mulV hd0 he0] at e4
  obtain ⟨x, y, hR⟩ : ∃ x y, ratV (n * m) (d * e) = ratQ x y := ⟨_, _, ratV_Q _ _⟩
  rw [hR] at e4 ⊢
  clear hR
  rw [ratV_Q n d] at e1 ⊢
  rw [ratV_Q m e] at e2 ⊢
  have e0 := c217 (lowN n d) (lowD n d) (lowN m e) (lowD m e)
  unfold ratQ at e1 e2 e3 e4 ⊢
  unfold rbox zbox at e0
  refine PFn.of_body hΓ Tryz.func174 (by kernel_rfl) rfl (AWp.of_awpD [(1, 1000)] hΓ hmix (by kernel_rfl) ?_)
  simp -implicitDefEqProofs only [Tryz.ntmps174, Tryz.results174, Nat.reduceAdd, Nat.reduceSub, go_sem]
  refine AWp.planL (.q 1 (.q 4 (.q 6 (.e 0 (.s 1 (.s 4 (.s 6 (.q 2 (.q 3 (.e 5 (.s 1 (.s 6 (.s 2 (.s 3 (.e 7 (.s 1 (.s 2 (.s 3 (.e 8 (.q 9 (.q 10 (.e 11 (.e 12 .fin .nil) .nil))) .nil)))) .nil))))) .nil)))))) .nil)))) hΓ hmix (by kernel_rfl) ?_
  simp -implicitDefEqProofs only [go_sem]
  refine callK_ac e0 (by simp) ?_
  rintro v h' ⟨rfl, rfl⟩
  have hsl : List.take 1 (List.drop (Int.toNat 2 * 1) [AV.fn 248 [], AV.fn 249 [], AV.fn 250 [], AV.fn 251 []]) = [AV.fn 250 []] := rfl
  have h4 : (2 : Int) < ((4 : Nat) : Int) := by decide
  simp -implicitDefEqProofs only [killAll, List.foldl, hsl, h4, List.length_cons, List.length_nil, go_sem]
  refine ⟨by decide, by decide, callK_fn e1 (.still rfl) ?_⟩
  simp -implicitDefEqProofs only [go_sem]
  refine ⟨⟨by decide, by decide, rfl⟩, callK_fn e2 (.still rfl) ?_⟩
  simp -implicitDefEqProofs only [go_sem]
  refine ⟨⟨by decide, by decide, rfl⟩, callK_fn e3 (.still rfl) ?_⟩
  simp -implicitDefEqProofs only [intN_pos, go_sem]
  refine callK_fn e4 (.still rfl) ?_
  simp -implicitDefEqProofs only [go_sem]
theorem v113 (n d m e : Nat) (hn : n < capN) (hd : d < capN) (hm : m < capN) (he : e < capN) (hd0 : d ≠ 0) (he0 : e ≠ 0) (h1 : n * m < capN) (h2 : d * e < capN) :
    PFn Tryz.prog 113 [ratV n d, ratV m e] [ratV (n * m) (d * e)] := by
  have e1 := v174p n d m e hn hd hm he hd0 he0 h1 h2
  obtain ⟨x, y, hR⟩ : ∃ x y, ratV (n * m) (d * e) = ratQ x y := ⟨_, _, ratV_Q _ _⟩
  rw [hR] at e1 ⊢
  clear hR
  rw [ratV_Q n d, ratV_Q m e] at e1 ⊢
  unfold ratQ at e1 ⊢
  refine PFn.of_body hΓ Tryz.func113 (by kernel_rfl) rfl (AWp.of_awpD [] hΓ hmix (by kernel_rfl) ?_)
  simp -implicitDefEqProofs only [Tryz.ntmps113, Tryz.results113, Nat.reduceAdd, Nat.reduceSub, go_sem]
  refine callK_fn e1 (.still rfl) ?_
  simp -implicitDefEqProofs only [go_sem]
end Go.Proofs.YtpljmccnfmkmfaaGreat.Kn
