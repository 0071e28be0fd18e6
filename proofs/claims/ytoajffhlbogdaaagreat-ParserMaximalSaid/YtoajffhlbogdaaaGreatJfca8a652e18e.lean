/-
  integer.multiply and Mul; words backwards.
  Long division of naturals, plain: the guess of a digit, the multiples taken off, the shifts.
-/
import Derived.Test.YtoajffhlbogdaaaGreatJ86bbf2e5bc6e

section
namespace Go.Proofs.YtoajffhlbogdaaaGreat
open Go Go.AM
set_option maxRecDepth 100000
set_option linter.unusedSimpArgs false

/-- The row at a step: what lies ahead of i, the new digits, the old ones behind them, zeros. -/
def mulR (o : List Nat) (i : Nat) (r : List Nat) (z : Nat) : List Nat := o.take i ++ r ++ o.drop (i + r.length) ++ List.replicate z 0
theorem mulR_get {o : List Nat} {i : Nat} {r : List Nat} {z : Nat} (h : i + r.length < o.length) : ((mulR o i r z).map u32V).getD (i + r.length) default = .int .u32 ((o.getD (i + r.length) 0 : Nat) : Int) := by
  have hl : (o.take i ++ r).length = i + r.length := by simp; omega
  unfold mulR
  rw [List.getD_eq_getElem?_getD, List.getElem?_map, List.append_assoc, List.getElem?_append_right (by omega), hl, Nat.sub_self, List.drop_eq_getElem_cons h, List.getD_eq_getElem?_getD, List.getElem?_eq_getElem h]; rfl
theorem mulR_set {o : List Nat} {i : Nat} {r : List Nat} {z v : Nat} (h : i + r.length < o.length) : ((mulR o i r z).map u32V).set (i + r.length) (u32V v) = (mulR o i (r ++ [v]) z).map u32V := by
  have hl : (o.take i ++ r).length = i + r.length := by simp; omega
  unfold mulR
  rw [← List.map_set, List.append_assoc (o.take i ++ r), List.set_append_right _ _ (by omega), hl, Nat.sub_self, List.drop_eq_getElem_cons h]
  simp [Nat.add_assoc]
theorem mulR_end {o : List Nat} {i : Nat} {r : List Nat} {z v : Nat} (h : i + r.length = o.length) : ((mulR o i r (z + 1)).map u32V).set (i + r.length) (u32V v) = ((o.take i ++ r ++ [v]) ++ List.replicate z 0).map u32V := by
  have hl : (o.take i ++ r).length = i + r.length := by simp; omega
  unfold mulR
  rw [h, List.drop_length, List.append_nil, ← List.map_set, ← h, List.set_append_right _ _ (by omega), hl, Nat.sub_self, List.replicate_succ]
  simp
theorem mulR_nil {o : List Nat} {i z : Nat} : mulR o i [] z = o ++ List.replicate z 0 := by unfold mulR; simp
theorem mulR_len {o : List Nat} {i : Nat} {r : List Nat} {z : Nat} (h : i + r.length ≤ o.length) : (mulR o i r z).length = o.length + z := by unfold mulR; simp; omega

theorem mul_bound {a b : Nat} (ha : a < B32) (hb : b < B32) : a * b ≤ 4294967295 * 4294967295 := Nat.mul_le_mul (by unfold B32 at ha; omega) (by unfold B32 at hb; omega)

set_option maxHeartbeats 1000000 in
theorem u68 (x y : List Nat) (hx : ∀ d ∈ x, d < B32) (hy : ∀ d ∈ y, d < B32) (hxl : x.length ≤ 500000) (hyl : y.length ≤ 500000) : PFn Tryz.prog 54 [natV x, natV y] [natV (digD B32 (valD B32 x * valD B32 y))] := by
  by_cases hx0 : x = []
  · have h1 : (x.length : Int) = 0 := by rw [hx0]; rfl
    rw [show valD B32 x * valD B32 y = 0 by rw [hx0]; exact Nat.zero_mul _, digD_zero]
    refine PFn.of_body hΓ Tryz.func54 (by kernel_rfl) rfl (AWp.of_awpD [] hΓ hmix (by kernel_rfl) ?_)
    simp -implicitDefEqProofs only [Tryz.ntmps54, Tryz.results54, Nat.reduceAdd, Nat.reduceSub, natV, List.length_map, h1, go_sem]
    try rfl
  by_cases hy0 : y = []
  · have h1 : ¬ (x.length : Int) = 0 := fun h => hx0 (List.length_eq_zero_iff.1 (by omega))
    have h2 : (y.length : Int) = 0 := by rw [hy0]; rfl
    rw [show valD B32 x * valD B32 y = 0 by rw [hy0]; exact Nat.mul_zero _, digD_zero]
    refine PFn.of_body hΓ Tryz.func54 (by kernel_rfl) rfl (AWp.of_awpD [] hΓ hmix (by kernel_rfl) ?_)
    simp -implicitDefEqProofs only [Tryz.ntmps54, Tryz.results54, Nat.reduceAdd, Nat.reduceSub, natV, List.length_map, h1, h2, go_sem]
    try rfl
  have hxp : 0 < x.length := List.length_pos_iff.2 hx0
  have hyp : 0 < y.length := List.length_pos_iff.2 hy0
  have h1 : ¬ (x.length : Int) = 0 := by omega
  have h2 : ¬ (y.length : Int) = 0 := by omega
  have eL : ((x.length : Int) + (y.length : Int)).toNat = x.length + y.length := by omega
  refine PFn.of_body hΓ Tryz.func54 (by kernel_rfl) rfl (AWp.seq (AWp.of_awpD [] hΓ hmix (by kernel_rfl) ?_))
  simp -implicitDefEqProofs only [Tryz.ntmps54, Tryz.results54, Nat.reduceAdd, Nat.reduceSub, natV, go_sem]
  refine AWp.seq (AWp.of_awpD [] hΓ hmix (by kernel_rfl) ?_)
  simp -implicitDefEqProofs only [List.length_map, h1, h2, go_sem]
  refine AWp.seq (AWp.of_awpD [] hΓ hmix (by kernel_rfl) ?_)
  simp -implicitDefEqProofs only [List.length_map, eL, go_sem]
  refine ⟨by simp only [InR]; omega, ⟨by omega, by omega, by omega⟩, ?_⟩
  refine AWp.seq (AWp.of_awpD [] hΓ hmix (by kernel_rfl) ?_)
  simp -implicitDefEqProofs only [List.length_map, go_sem]
  refine AWp.loopI (fun z : Nat × List Nat => ⟨mkF 76 [(0, .p (natV x)), (1, .p (natV y)), (5, .own 0 (x.length + y.length)), (26, .p (natV x)), (27, .p (.int .i64 x.length)), (28, .p (.int .i64 z.1))], [.row 72 1 ((z.2 ++ List.replicate (x.length - z.1) 0).map u32V) .own]⟩)
    (fun z => z.1 ≤ x.length ∧ z.2.length = z.1 + y.length ∧ (∀ d ∈ z.2, d < B32) ∧ valD B32 z.2 = valD B32 (x.take z.1) * valD B32 y) (fun z => x.length - z.1) (0, List.replicate y.length 0) (by
      simp [go_sem, natV, u32V, List.replicate_append_replicate, Nat.add_comm]) ⟨by simp, by simp, fun d hd => by rw [List.eq_of_mem_replicate hd]; decide, by simp [valD, valD_zeros]⟩ ?_
  rintro ⟨i, o⟩ ⟨hi, ho, hod, hval⟩
  simp only at hi ho hod hval
  refine AWp.of_awpD [] hΓ hmix (by kernel_rfl) ?_
  by_cases hlt : i < x.length
  · have hgx : (x.map u32V).getD i default = .int .u32 ((x.getD i 0 : Nat) : Int) := by
      rw [getD_map_lt _ _ _ _ hlt, List.getD_eq_getElem?_getD, List.getElem?_eq_getElem hlt]; rfl
    have dx : x.getD i 0 < B32 := by
      rw [List.getD_eq_getElem?_getD, List.getElem?_eq_getElem hlt, Option.getD_some]; exact hx _ (List.getElem_mem hlt)
    have tx := valD_take (l := x) B32 i
    generalize x.getD i 0 = a at *
    have hwa : IntKind.u64.wrap (a : Int) = a := InR.wrap (k := .u64) (by simp only [InR]; unfold B32 at dx; omega)
    simp -implicitDefEqProofs only [natV, List.length_map, hlt, hgx, go_sem]
    refine AWp.loopI (fun z : List Nat × Nat => ⟨mkF 76 [(0, .p (natV x)), (1, .p (natV y)), (5, .own 0 (x.length + y.length)), (6, .p (.int .i64 i)), (7, .p (.int .u32 a)), (8, .p (.int .u64 z.2)), (26, .p (natV x)), (27, .p (.int .i64 x.length)), (28, .p (.int .i64 i)), (33, .p (natV y)), (34, .p (.int .i64 y.length)), (35, .p (.int .i64 z.1.length))], [.row 72 1 ((mulR o i z.1 (x.length - i)).map u32V) .own]⟩)
      (fun z => z.1.length ≤ y.length ∧ (∀ d ∈ z.1, d < B32) ∧ z.2 < B32 ∧ valD B32 z.1 + z.2 * B32 ^ z.1.length = valD B32 ((o.drop i).take z.1.length) + a * valD B32 (y.take z.1.length)) (fun z => y.length - z.1.length) ([], 0) (by
        simp [go_sem, natV, mulR_nil]) ⟨by simp, by simp, by decide, by simp [valD]⟩ ?_
    rintro ⟨r, c⟩ ⟨hr, hrd, hc, hv⟩
    simp only at hr hrd hc hv
    refine AWp.of_awpD [] hΓ hmix (by kernel_rfl) ?_
    by_cases hlt2 : r.length < y.length
    · have hgy : (y.map u32V).getD r.length default = .int .u32 ((y.getD r.length 0 : Nat) : Int) := by
        rw [getD_map_lt _ _ _ _ hlt2, List.getD_eq_getElem?_getD, List.getElem?_eq_getElem hlt2]; rfl
      have dy : y.getD r.length 0 < B32 := by
        rw [List.getD_eq_getElem?_getD, List.getElem?_eq_getElem hlt2, Option.getD_some]; exact hy _ (List.getElem_mem hlt2)
      have hio : i + r.length < o.length := by omega
      have ty := valD_take (l := y) B32 r.length
      have to := valD_take (l := o.drop i) B32 r.length
      have hgo2 : (o.drop i).getD r.length 0 = o.getD (i + r.length) 0 := by
        rw [List.getD_eq_getElem?_getD, List.getElem?_drop, List.getD_eq_getElem?_getD]
      have hgo := mulR_get (z := x.length - i) hio
      have dO : o.getD (i + r.length) 0 < B32 := by
        rw [List.getD_eq_getElem?_getD, List.getElem?_eq_getElem hio, Option.getD_some]; exact hod _ (List.getElem_mem hio)
      rw [hgo2] at to
      generalize y.getD r.length 0 = b at *
      generalize hqv : o.getD (i + r.length) 0 = qv at *
      have hab := mul_bound dx dy
      obtain ⟨ab, habE⟩ : ∃ ab, ab = a * b := ⟨_, rfl⟩
      rw [← habE] at hab
      have habI : (a : Int) * (b : Int) = (ab : Int) := by rw [habE]; simp
      have hwb : IntKind.u64.wrap (b : Int) = b := InR.wrap (k := .u64) (by simp only [InR]; unfold B32 at dy; omega)
      have hwq : IntKind.u64.wrap (qv : Int) = qv := InR.wrap (k := .u64) (by simp only [InR]; unfold B32 at dO; omega)
      obtain ⟨s, hs⟩ : ∃ s, s = ab + qv + c := ⟨_, rfl⟩
      have hsI : (ab : Int) + (qv : Int) + (c : Int) = (s : Int) := by omega
      have hs32 : IntKind.u32.wrap (s : Int) = ((s % B32 : Nat) : Int) := wrap_u32 s
      have hsd : (s : Int) / 2 ^ Int.toNat 32 = ((s / B32 : Nat) : Int) := by
        have : (2 : Int) ^ Int.toNat 32 = ((B32 : Nat) : Int) := rfl
        rw [this, Int.natCast_ediv]
      have hsb : s < 4294967296 * 4294967296 := by unfold B32 at dO hc; omega
      have hset := mulR_set (z := x.length - i) (v := s % B32) hio
      have hlen := mulR_len (z := x.length - i) (Nat.le_of_lt hio)
      have eik : ((i : Int) + (r.length : Int)).toNat = i + r.length := by omega
      simp -implicitDefEqProofs only [natV, List.length_map, hlt2, hgy, hwa, hwb, habI, eik, hgo, hwq, hsI, hs32, hsd, hset, go_sem]
      have hrl : (r ++ [s % B32]).length = r.length + 1 := by simp
      have hvv : valD B32 (r ++ [s % B32]) + s / B32 * B32 ^ (r.length + 1) = valD B32 ((o.drop i).take (r.length + 1)) + a * valD B32 (y.take (r.length + 1)) := by
        rw [to, ty, valD_append, Nat.pow_succ]
        have e1 : valD B32 [s % B32] = s % B32 := by simp [valD]
        rw [e1]
        have e2 : s % B32 + B32 * (s / B32) = s := Nat.mod_add_div s B32
        generalize hP : B32 ^ r.length = P at *
        have e3 : P * (s % B32) + s / B32 * (P * B32) = P * s := by
          conv => rhs; rw [← e2, Nat.mul_add]
          rw [Nat.mul_comm (s / B32), Nat.mul_assoc]
        have e4 : P * s = ab * P + qv * P + c * P := by rw [hs, Nat.mul_comm, Nat.add_mul, Nat.add_mul]
        have e5 : a * (valD B32 (y.take r.length) + b * P) = a * valD B32 (y.take r.length) + ab * P := by rw [Nat.mul_add, habE, Nat.mul_assoc]
        omega
      have hset' : ((mulR o i r (x.length - i)).map u32V).set (i + r.length) (.int .u32 ((s % B32 : Nat) : Int)) = (mulR o i (r ++ [s % B32]) (x.length - i)).map u32V := hset
      have hcb : s / B32 < B32 := by unfold B32; omega
      refine ⟨by simp only [InR]; omega, by simp only [InR]; omega, ⟨by omega, by omega⟩, by omega, by simp only [InR]; unfold B32 at dO; omega, by simp only [InR]; omega, by simp only [InR]; omega, ⟨by omega, by omega⟩, ⟨by omega, by omega⟩, ⟨by omega, rfl⟩, by simp only [InR]; omega, (r ++ [s % B32], s / B32), ⟨⟨rfl, by simp⟩, .inl hset'.symm⟩, ⟨by simp only; omega, fun d hd => ?_, hcb, by simp only; rw [hrl]; exact hvv⟩, by simp only; omega⟩
      rcases List.mem_append.1 hd with hd | hd
      · exact hrd d hd
      · rw [List.mem_singleton] at hd; subst hd; exact Nat.mod_lt _ (by decide)
    · have hrn : r.length = y.length := by omega
      have hz : ¬ (y.length : Int) < y.length := by omega
      have hcw : IntKind.u32.wrap (c : Int) = (c : Int) := InR.wrap (k := .u32) (by unfold B32 at hc; simp only [InR]; omega)
      have hend := mulR_end (o := o) (i := i) (r := r) (z := x.length - (i + 1)) (v := c) (by omega)
      rw [show x.length - (i + 1) + 1 = x.length - i by omega, hrn] at hend
      have hend' : ((mulR o i r (x.length - i)).map u32V).set (i + y.length) (.int .u32 (c : Int)) = ((o.take i ++ r ++ [c]) ++ List.replicate (x.length - (i + 1)) 0).map u32V := hend
      have hlen := mulR_len (o := o) (i := i) (r := r) (z := x.length - i) (by omega)
      have eik : ((i : Int) + (y.length : Int)).toNat = i + y.length := by omega
      rw [hrn] at hv ⊢
      have hvt : (o.drop i).take y.length = o.drop i := List.take_of_length_le (by simp; omega)
      rw [hvt, List.take_of_length_le (Nat.le_refl _)] at hv
      have hvo := valD_split B32 i o
      have htl : (o.take i).length = i := by simp; omega
      rw [htl] at hvo
      have hvn : valD B32 (o.take i ++ r ++ [c]) = valD B32 (x.take (i + 1)) * valD B32 y := by
        rw [valD_append, valD_append, htl, tx]
        have e1 : valD B32 [c] = c := by simp [valD]
        have e2 : (o.take i ++ r).length = i + y.length := by simp [htl, hrn]
        rw [e1, e2, Nat.pow_add]
        generalize B32 ^ i = P at *
        generalize B32 ^ y.length = Q at *
        have e3 : P * (valD B32 r + c * Q) = P * (valD B32 (o.drop i) + a * valD B32 y) := by rw [hv]
        rw [Nat.mul_add, Nat.mul_add] at e3
        have e4 : P * Q * c = P * (c * Q) := by rw [Nat.mul_assoc, Nat.mul_comm Q]
        have e5 : (valD B32 (x.take i) + a * P) * valD B32 y = valD B32 (x.take i) * valD B32 y + P * (a * valD B32 y) := by
          rw [Nat.add_mul, Nat.mul_comm a P, Nat.mul_assoc]
        rw [e4, e5, ← hval]
        omega
      simp -implicitDefEqProofs only [natV, List.length_map, hz, hcw, eik, hend', go_sem]
      refine ⟨by simp only [InR]; omega, ⟨by omega, by omega⟩, ⟨by omega, rfl⟩, by simp only [InR]; omega, (i + 1, o.take i ++ r ++ [c]), ⟨rfl, .inl rfl⟩, ⟨hlt, by simp [htl, hrn]; omega, fun d hd => ?_, hvn⟩, by simp only; omega⟩
      rcases List.mem_append.1 hd with hd | hd
      · rcases List.mem_append.1 hd with hd | hd
        · exact hod d (List.mem_of_mem_take hd)
        · exact hrd d hd
      · rw [List.mem_singleton] at hd; subst hd; exact hc
  · simp -implicitDefEqProofs only [natV, List.length_map, hlt, go_sem]
    have hin : i = x.length := by omega
    have hrow : o ++ List.replicate (x.length - i) 0 = o := by rw [hin]; simp
    rw [hin, List.take_of_length_le (Nat.le_refl _)] at hval
    rw [hrow]
    refine AWp.freeze 0 rfl ?_
    refine AWp.of_awpD [] hΓ hmix (by kernel_rfl) ?_
    simp -implicitDefEqProofs only [Frozen, go_sem]
    have e91 := u91 o (by omega)
    rw [trimL_eq (B := B32) (by decide) hod, hval] at e91
    refine callK_fn e91 (.pures rfl) ?_
    simp -implicitDefEqProofs only [natV, go_sem]
end Go.Proofs.YtoajffhlbogdaaaGreat
end

section
namespace Go.Proofs.YtoajffhlbogdaaaGreat.Kn
open Go Go.AM
set_option maxRecDepth 100000
set_option linter.unusedSimpArgs false

/-- A guess that fails the test is too great. -/
theorem guess_dec {B v1 v2 P Vl u0 u1 u2 Ul g r : Nat} (hUl : Ul < P) (h1 : g * v1 + r = u0 * B + u1) (h2 : r * B + u2 < g * v2) :
    (((u0 * B + u1) * B + u2) * P + Ul) < g * ((v1 * B + v2) * P + Vl) := by
  have e1 : g * ((v1 * B + v2) * P + Vl) = (g * v1 * B + g * v2) * P + g * Vl := by
    rw [Nat.mul_add, ← Nat.mul_assoc, Nat.mul_add, Nat.mul_assoc g v1 B]
  have e2 : (g * v1 + r) * B = g * v1 * B + r * B := Nat.add_mul ..
  have e3 : (u0 * B + u1) * B + u2 + 1 ≤ g * v1 * B + g * v2 := by rw [← h1, e2]; omega
  have e4 := Nat.mul_le_mul_right P e3
  rw [Nat.add_mul _ 1 P, Nat.one_mul] at e4
  rw [e1]
  omega

/-- A guess that stands the test is at most one too great. -/
theorem guess_ok {B v1 v2 P Vl u0 u1 u2 Ul g r : Nat} (hVl : Vl < P) (hv : 1 ≤ v1) (hg : g < B) (h1 : g * v1 + r = u0 * B + u1) (h2 : g * v2 ≤ r * B + u2) :
    g * ((v1 * B + v2) * P + Vl) ≤ (((u0 * B + u1) * B + u2) * P + Ul) + ((v1 * B + v2) * P + Vl) := by
  have e1 : g * ((v1 * B + v2) * P + Vl) = (g * v1 * B + g * v2) * P + g * Vl := by
    rw [Nat.mul_add, ← Nat.mul_assoc, Nat.mul_add, Nat.mul_assoc g v1 B]
  have e2 : (g * v1 + r) * B = g * v1 * B + r * B := Nat.add_mul ..
  have e3 : g * v1 * B + g * v2 ≤ (u0 * B + u1) * B + u2 := by rw [← h1, e2]; omega
  have e4 := Nat.mul_le_mul_right P e3
  have e5 : g * Vl ≤ B * P := Nat.mul_le_mul (by omega) (by omega)
  have e6 : B * P ≤ v1 * B * P := by
    have := Nat.mul_le_mul_right (B * P) hv
    rw [Nat.one_mul, ← Nat.mul_assoc] at this
    exact this
  have e7 : (v1 * B + v2) * P = v1 * B * P + v2 * P := Nat.add_mul ..
  rw [e1, e7]
  omega

theorem guess_div {U V g : Nat} (hV : 0 < V) (h1 : U / V ≤ g) (h2 : g * V ≤ U + V) : g = U / V ∨ g = U / V + 1 := by
  have h3 : g ≤ (U + V) / V := (Nat.le_div_iff_mul_le hV).2 h2
  rw [Nat.add_div_right _ hV] at h3
  omega

/-- What stands in the digits when g multiples are taken off: the rest, or the rest and a borrow. -/
theorem sub_ends {U V g T cb top L W : Nat} (hV : 0 < V) (hVW : V ≤ W) (hT : T < W) (hU : U = L + top * W) (h : T + g * V = L + cb * W) (hg : g = U / V ∨ g = U / V + 1) :
    g = U / V ∧ top = cb ∧ T = U % V ∨ g = U / V + 1 ∧ top + 1 = cb ∧ T + V = U % V + W := by
  have hm := Nat.mod_lt U hV
  have hd := Nat.div_add_mod U V
  rw [Nat.mul_comm] at hd
  rcases hg with rfl | rfl
  · left
    have h1 : T + top * W + U / V * V = L + top * W + cb * W := by omega
    have h2 : T + top * W = U % V + cb * W := by omega
    have h3 : top = cb := by
      rcases Nat.lt_trichotomy top cb with h3 | h3 | h3
      · obtain ⟨d, rfl⟩ : ∃ d, cb = top + 1 + d := ⟨cb - top - 1, by omega⟩
        rw [Nat.add_mul, Nat.add_mul] at h2
        have := Nat.zero_le (d * W)
        omega
      · exact h3
      · obtain ⟨d, rfl⟩ : ∃ d, top = cb + 1 + d := ⟨top - cb - 1, by omega⟩
        rw [Nat.add_mul, Nat.add_mul] at h2
        have := Nat.zero_le (d * W)
        omega
    refine ⟨rfl, h3, ?_⟩
    rw [h3] at h2
    omega
  · right
    rw [Nat.add_mul, Nat.one_mul] at h
    have h2 : T + V + top * W = U % V + cb * W := by omega
    have h3 : top + 1 = cb := by
      rcases Nat.lt_trichotomy (top + 1) cb with h3 | h3 | h3
      · obtain ⟨d, rfl⟩ : ∃ d, cb = top + 2 + d := ⟨cb - top - 2, by omega⟩
        rw [Nat.add_mul, Nat.add_mul] at h2
        have := Nat.zero_le (d * W)
        omega
      · exact h3
      · obtain ⟨d, rfl⟩ : ∃ d, top = cb + d := ⟨top - cb, by omega⟩
        rw [Nat.add_mul] at h2
        have := Nat.zero_le (d * W)
        omega
    refine ⟨rfl, h3, ?_⟩
    rw [← h3, Nat.add_mul, Nat.one_mul] at h2
    omega

/-- The multiple is added back once. -/
theorem back_ends {T V R W N c : Nat} (hN : N < W) (hR : R < V) (hV : V ≤ W) (h1 : T + V = R + W) (h2 : N + c * W = T + V) : c = 1 ∧ N = R := by
  have h3 : N + c * W = R + W := by omega
  rcases (by omega : c = 0 ∨ c = 1 ∨ 2 ≤ c) with h | h | h
  · subst h; omega
  · subst h; omega
  · obtain ⟨d, rfl⟩ : ∃ d, c = 2 + d := ⟨c - 2, by omega⟩
    rw [Nat.add_mul] at h3
    have := Nat.zero_le (d * W)
    omega

/-- One digit of a difference of a multiple: what is written, and what goes on. -/
theorem sub_digit {B x v g ca bo : Nat} (hB : 2 ≤ B) (hx : x < B) (hv : v < B) (hg : g < B) (hca : ca < B) (hbo : bo ≤ 1) :
    ∃ s b, s < B ∧ b ≤ 1 ∧ (g * v + ca) / B < B ∧ s + (g * v + ca) % B + bo = x + b * B ∧ ((x : Int) - bo - ((g * v + ca) % B : Nat) < 0 ↔ b = 1) ∧
      s + g * v + ca + bo = x + (((g * v + ca) / B) + b) * B := by
  have h1 : g * v ≤ (B - 1) * (B - 1) := Nat.mul_le_mul (by omega) (by omega)
  have h2 : (g * v + ca) / B < B := by
    rw [Nat.div_lt_iff_lt_mul (by omega)]
    obtain ⟨b, rfl⟩ : ∃ b, B = b + 1 := ⟨B - 1, by omega⟩
    simp only [Nat.add_sub_cancel] at h1
    have : (b + 1) * (b + 1) = b * b + b + b + 1 := by rw [Nat.mul_add, Nat.add_mul]; omega
    omega
  have h3 := Nat.mod_lt (g * v + ca) (show 0 < B by omega)
  have h4 := Nat.div_add_mod (g * v + ca) B
  rw [Nat.mul_comm] at h4
  generalize (g * v + ca) / B = hi at *
  generalize (g * v + ca) % B = lo at *
  by_cases hn : (x : Int) - bo - (lo : Nat) < 0
  · refine ⟨x + B - bo - lo, 1, by omega, by omega, h2, by omega, ⟨fun _ => rfl, fun _ => hn⟩, ?_⟩
    rw [Nat.add_mul]; omega
  · refine ⟨x - bo - lo, 0, by omega, by omega, h2, by omega, ⟨fun h => absurd h hn, fun h => by omega⟩, ?_⟩
    rw [Nat.add_mul]; omega

/-- A list's value below and above a place. -/
theorem valD_cut (B : Nat) (l : List Nat) {i : Nat} (h : i ≤ l.length) : valD B l = valD B (l.take i) + B ^ i * valD B (l.drop i) := by
  have := valD_split B i l
  rwa [List.length_take, Nat.min_eq_left h] at this

/-- One round of long division, by values: the quotient's digit joins those above, the rest takes the place of the window. -/
theorem div_round {X V U Q R A P B hi : Nat} (hX : X = V * (P * B) * hi + (A + P * U)) (hU : U = Q * V + R) : X = V * P * (Q + B * hi) + (A + P * R) := by
  subst hX; subst hU
  have e1 : V * (P * B) * hi = V * P * (B * hi) := by rw [← Nat.mul_assoc V P B, Nat.mul_assoc (V * P) B hi]
  have e2 : P * (Q * V + R) = V * P * Q + P * R := by rw [Nat.mul_add, Nat.mul_comm Q V, ← Nat.mul_assoc, Nat.mul_comm P V]
  have e3 : V * P * (Q + B * hi) = V * P * Q + V * P * (B * hi) := Nat.mul_add ..
  omega
end Go.Proofs.YtoajffhlbogdaaaGreat.Kn
end

