/-
  Texts of this claim, joined.
-/
import Derived.Test.YtpljmccnfmkmfaaGreatJe01266d4e944

set_option linter.unusedSimpArgs false
set_option maxRecDepth 100000
section
namespace Go.Proofs.YtpljmccnfmkmfaaGreat
open Go Go.AM

def cmpN (a b : Nat) : Int := if a < b then -1 else if a = b then 0 else 1
theorem Z2k {a b : Nat} (h : a < b) : cmpN a b = -1 := if_pos h
theorem Z0b {a b : Nat} (h : b < a) : cmpN a b = 1 := by unfold cmpN; rw [if_neg (by omega), if_neg (by omega)]
theorem Z24 (a : Nat) : cmpN a a = 0 := by unfold cmpN; rw [if_neg (by omega), if_pos rfl]

theorem Z26 (B i : Nat) (l : List Nat) : valD B l = valD B (l.take i) + B ^ (l.take i).length * valD B (l.drop i) := by
  conv => lhs; rw [← List.take_append_drop i l]
  rw [Zg]
theorem Zao {B : Nat} (hB : 0 < B) : ∀ {l : List Nat}, Z1o B l → l ≠ [] → B ^ (l.length - 1) ≤ valD B l
  | [], _, h => absurd rfl h
  | [d], h, _ => by
    have : d ≠ 0 := fun e => by subst e; exact h.2 rfl
    simp [valD]; omega
  | d :: e :: l, h, _ => by
    have ih := Zao hB (Z3i h) (by simp); have e1 : valD B (d :: e :: l) = d + B * valD B (e :: l) := rfl; have e2 : B ^ ((d :: e :: l).length - 1) = B * B ^ ((e :: l).length - 1) := by
      simp only [List.length_cons, Nat.add_sub_cancel]; rw [Nat.pow_succ, Nat.mul_comm]
    rw [e1, e2]; have := Nat.mul_le_mul_left B ih; omega
theorem Za3 {B : Nat} (hB : 0 < B) {x y : List Nat} (hx : Z1o B x) (hy : Z1o B y) (h : x.length < y.length) : valD B x < valD B y := by
  refine Nat.lt_of_lt_of_le (Z1x hx.1) (Nat.le_trans (Nat.pow_le_pow_right hB ?_) (Zao hB hy (fun e => by subst e; simp at h))); omega
theorem Zge {B : Nat} {x y : List Nat} {i : Nat} (hx : ∀ d ∈ x, d < B) (hl : x.length = y.length) (hi : i < x.length) (hd : x.drop (i + 1) = y.drop (i + 1)) (h : x.getD i 0 < y.getD i 0) : valD B x < valD B y := by
  rw [Z26 B i x, Z26 B i y]; have h1 : (x.take i).length = i := by simp; omega
  have h2 : (y.take i).length = i := by simp; omega
  have h3 : valD B (x.take i) < B ^ i := by
    have := Z1x (B := B) (l := x.take i) (fun d hd => hx d (List.mem_of_mem_take hd))
    rwa [h1] at this
  have e1 : valD B (x.drop i) = x.getD i 0 + B * valD B (x.drop (i + 1)) := by
    rw [List.drop_eq_getElem_cons hi, List.getD_eq_getElem?_getD, List.getElem?_eq_getElem hi]; rfl
  have e2 : valD B (y.drop i) = y.getD i 0 + B * valD B (y.drop (i + 1)) := by
    rw [List.drop_eq_getElem_cons (show i < y.length by omega), List.getD_eq_getElem?_getD, List.getElem?_eq_getElem (show i < y.length by omega)]; rfl
  rw [h1, h2, e1, e2, hd]; generalize B * valD B (y.drop (i + 1)) = R; have h4 : B ^ i * (x.getD i 0 + R + 1) ≤ B ^ i * (y.getD i 0 + R) := Nat.mul_le_mul_left _ (by omega); rw [Nat.mul_add] at h4; omega

theorem u106 (x y : List Nat) (hx : Z1o B32 x) (hy : Z1o B32 y) (hxl : x.length ≤ 1000000) (_hyl : y.length ≤ 1000000) : PFn Tryz.prog 160 [natV x, natV y] [.int .i64 (cmpN (valD B32 x) (valD B32 y))] := by
  refine PFn.of_body hΓ Tryz.func160 (by kernel_rfl) rfl (AWp.seq (Wd [] ?_)); simp -implicitDefEqProofs only [Tryz.ntmps160, Tryz.results160, Nat.reduceAdd, Nat.reduceSub, natV, go_sem]; by_cases h1 : x.length = y.length
  · have h1' : (x.length : Int) = y.length := by omega
    refine AWp.seq (Wd [] ?_); simp -implicitDefEqProofs only [List.length_map, h1', go_sem]; refine AWp.seq (Wd [] ?_); simp -implicitDefEqProofs only [List.length_map, h1', go_sem]; refine ⟨by simp only [InR]; omega, ?_⟩
    refine AWp.loopI (fun n : Nat => ⟨mkF 41 [(0, .p (natV x)), (1, .p (natV y)), (5, .p (.int .i64 ((n : Int) - 1)))], []⟩)
      (fun n => n ≤ x.length ∧ x.drop n = y.drop n) (fun n => n) x.length (by simp [go_sem, natV, h1]) ⟨Nat.le_refl _, by rw [List.drop_length, h1, List.drop_length]⟩ ?_
    rintro n ⟨hn, hd⟩; refine Wd [(8, 9), (9, 9)] ?_
    cases n with
    | zero =>
      have h2 : ¬ (0 : Int) ≤ ((0 : Nat) : Int) - 1 := by omega
      have : x = y := by simpa using hd
      simp -implicitDefEqProofs only [h2, go_sem]; rw [this, Z24]; refine Wd [] ?_; simp -implicitDefEqProofs only [go_sem]
    | succ n =>
      have h2 : (0 : Int) ≤ ((n + 1 : Nat) : Int) - 1 := by omega
      have e2 : ((n + 1 : Nat) : Int) - 1 = n := by omega
      have hnx : n < x.length := hn; have hny : n < y.length := by omega
      have hgx : (x.map u32V).getD n default = .int .u32 ((x.getD n 0 : Nat) : Int) := by
        rw [Z5 _ _ _ _ hnx, List.getD_eq_getElem?_getD, List.getElem?_eq_getElem hnx]; rfl
      have hgy : (y.map u32V).getD n default = .int .u32 ((y.getD n 0 : Nat) : Int) := by
        rw [Z5 _ _ _ _ hny, List.getD_eq_getElem?_getD, List.getElem?_eq_getElem hny]; rfl
      rcases Nat.lt_trichotomy (x.getD n 0) (y.getD n 0) with h | h | h
      · have h3 : ¬ ((x.getD n 0 : Nat) : Int) = (y.getD n 0 : Nat) := by omega
        have h4 : ((x.getD n 0 : Nat) : Int) < (y.getD n 0 : Nat) := by omega
        have := Zge hx.1 h1 hnx hd h; simp -implicitDefEqProofs only [natV, List.length_map, h2, e2, hgx, hgy, h3, h4, hnx, hny, go_sem]; rw [Z2k this]
      · have hd' : x.drop n = y.drop n := by
          rw [List.drop_eq_getElem_cons hnx, List.drop_eq_getElem_cons hny, hd]
          congr 1
          rwa [List.getD_eq_getElem?_getD, List.getElem?_eq_getElem hnx, Option.getD_some, List.getD_eq_getElem?_getD, List.getElem?_eq_getElem hny, Option.getD_some] at h
        simp -implicitDefEqProofs only [natV, List.length_map, h2, e2, hgx, hgy, h, hnx, hny, go_sem]; exact ⟨by simp only [InR]; omega, n, rfl, ⟨by omega, hd'⟩, by omega⟩
      · have h3 : ¬ ((x.getD n 0 : Nat) : Int) = (y.getD n 0 : Nat) := by omega
        have h4 : ¬ ((x.getD n 0 : Nat) : Int) < (y.getD n 0 : Nat) := by omega
        have := Zge hy.1 h1.symm hny hd.symm h; simp -implicitDefEqProofs only [natV, List.length_map, h2, e2, hgx, hgy, h3, h4, hnx, hny, go_sem]; rw [Z0b this]
  · have h1' : ¬ (x.length : Int) = y.length := by omega
    refine Wd [] ?_; by_cases h2 : x.length < y.length
    · have h2' : (x.length : Int) < y.length := by omega
      have := Za3 (B := B32) (by decide) hx hy h2; simp -implicitDefEqProofs only [List.length_map, h1', h2', go_sem]; rw [Z2k this]
    · have h2' : ¬ (x.length : Int) < y.length := by omega
      have := Za3 (B := B32) (by decide) hy hx (by omega); simp -implicitDefEqProofs only [List.length_map, h1', h2', go_sem]; rw [Z0b this]

theorem u107 (X Y : List Nat) (hX : ∀ d ∈ X, d < B32) (hY : ∀ d ∈ Y, d < B32) (hXl : X.length ≤ 1000000) (hYX : Y.length ≤ X.length) (hle : valD B32 Y ≤ valD B32 X) : PFn Tryz.prog 161 [natV X, natV Y] [natV (digD B32 (valD B32 X - valD B32 Y))] := by
  have eL : ((X.length : Int)).toNat = X.length := by omega
  refine PFn.of_body hΓ Tryz.func161 (by kernel_rfl) rfl (AWp.seq (Wd [] ?_)); simp -implicitDefEqProofs only [Tryz.ntmps161, Tryz.results161, Nat.reduceAdd, Nat.reduceSub, natV, go_sem]; refine AWp.seq (Wd [] ?_); simp -implicitDefEqProofs only [natV, List.length_map, eL, go_sem]; refine ⟨⟨by omega, by omega⟩, ?_⟩; refine AWp.seq (Wd [] ?_); simp -implicitDefEqProofs only [go_sem]; refine AWp.seq (Wd [] ?_); simp -implicitDefEqProofs only [List.length_map, go_sem]
  refine AWp.loopI (fun z : Nat × List Nat × Nat => ⟨mkF 47 [(0, .p (natV X)), (1, .p (natV Y)), (5, .own 0 X.length), (6, .p (.int .i64 z.2.2)), (13, .p (.int .i64 X.length)), (14, .p (.int .i64 z.1))], [.row 136 1 ((z.2.1 ++ List.replicate (X.length - z.1) 0).map u32V) .own]⟩)
    (fun z => z.1 ≤ X.length ∧ z.2.1.length = z.1 ∧ (∀ d ∈ z.2.1, d < B32) ∧ z.2.2 ≤ 1 ∧ valD B32 (X.take z.1) + z.2.2 * B32 ^ z.1 = valD B32 z.2.1 + valD B32 (Y.take z.1)) (fun z => X.length - z.1) (0, [], 0) (by simp [go_sem, natV, u32V]) (by simp [valD]) ?_
  rintro ⟨i, o, c⟩ ⟨hi, ho, hod, hc, hval⟩; simp only at hi ho hod hc hval; refine Wd [] ?_; by_cases hlt : i < X.length
  · have hgX : (X.map u32V).getD i default = .int .u32 ((X.getD i 0 : Nat) : Int) := by
      rw [Z5 _ _ _ _ hlt, List.getD_eq_getElem?_getD, List.getElem?_eq_getElem hlt]; rfl
    have dX : X.getD i 0 < B32 := by
      rw [List.getD_eq_getElem?_getD, List.getElem?_eq_getElem hlt, Option.getD_some]; exact hX _ (List.getElem_mem hlt)
    have dY : Y.getD i 0 < B32 := by
      rw [List.getD_eq_getElem?_getD]
      cases hq : Y[i]? with
      | none => decide
      | some d => exact hY d (List.mem_of_getElem? hq)
    have hwX : IntKind.i64.wrap ((X.getD i 0 : Nat) : Int) = (X.getD i 0 : Nat) := InR.wrap (k := .i64) (by simp only [InR]; unfold B32 at dX; omega); have hwY : IntKind.i64.wrap ((Y.getD i 0 : Nat) : Int) = (Y.getD i 0 : Nat) := InR.wrap (k := .i64) (by simp only [InR]; unfold B32 at dY; omega); have tX := Zh (l := X) B32 i; have tY := Zh (l := Y) B32 i; generalize hxi : X.getD i 0 = xi at *; generalize hyi : Y.getD i 0 = yi at *; have hB : B32 = 4294967296 := rfl; obtain ⟨s, b, hs, hb, hsb⟩ : ∃ s b : Nat, (b = 0 ∧ (s : Int) = (xi : Int) - c - yi ∨ b = 1 ∧ (s : Int) = (xi : Int) - c - yi + 4294967296 ∧ (xi : Int) - c - yi < 0) ∧ b ≤ 1 ∧ s < B32 := by
      by_cases hneg : (xi : Int) - c - yi < 0
      · exact ⟨((xi : Int) - c - yi + 4294967296).toNat, 1, .inr ⟨rfl, by omega, hneg⟩, by omega, by omega⟩
      · exact ⟨((xi : Int) - c - yi).toNat, 0, .inl ⟨rfl, by omega⟩, by omega, by omega⟩
    have hvl : valD B32 (X.take (i + 1)) + b * B32 ^ (i + 1) = valD B32 (o ++ [s]) + valD B32 (Y.take (i + 1)) := by
      rw [tX, tY, Zg, ho, Nat.pow_succ]; have e1 : valD B32 [s] = s := by simp [valD]
      rw [e1]; generalize hP : B32 ^ i = P at *; have e2 : xi + b * B32 = s + yi + c := by
        rcases hs with ⟨rfl, h⟩ | ⟨rfl, h, _⟩ <;> omega
      have e3 : (xi + b * B32) * P = (s + yi + c) * P := by rw [e2]
      rw [Nat.add_mul, Nat.add_mul, Nat.add_mul] at e3; have e4 : b * (P * B32) = b * B32 * P := by rw [Nat.mul_comm P, Nat.mul_assoc]
      rw [e4, Nat.mul_comm P s]; omega
    have hs32 : IntKind.u32.wrap (s : Int) = (s : Int) := InR.wrap (k := .u32) (by simp only [InR]; omega); have hset : ((o ++ List.replicate (X.length - i) 0).map u32V).set i (.int .u32 (s : Int)) = ((o ++ [s]) ++ List.replicate (X.length - (i + 1)) 0).map u32V := by
      have := Z4u o (X.length - (i + 1)) s; rw [ho, show X.length - (i + 1) + 1 = X.length - i by omega] at this; exact this
    have hod' : ∀ d ∈ o ++ [s], d < B32 := fun d hd => by
      rcases List.mem_append.1 hd with hd | hd
      · exact hod d hd
      · rw [List.mem_singleton] at hd; subst hd; exact hsb
    have hlen : i < (o ++ List.replicate (X.length - i) 0).length := by simp; omega
    by_cases hlt2 : (i : Int) < Y.length
    · have hlt2' : i < Y.length := by omega
      have hgY : (Y.map u32V).getD i default = .int .u32 (yi : Int) := by
        rw [Z5 _ _ _ _ hlt2', ← hyi, List.getD_eq_getElem?_getD, List.getElem?_eq_getElem hlt2']; rfl
      rcases hs with ⟨rfl, h⟩ | ⟨rfl, h, hneg⟩
      · have hneg : ¬ (s : Int) < 0 := by omega
        simp -implicitDefEqProofs only [natV, List.length_map, hlt, hgX, hgY, hlt2', hwX, hwY, ← h, hneg, hs32, hset, go_sem]; refine ⟨by simp only [InR]; omega, by simp only [InR]; omega, ⟨hlen, rfl⟩, by simp only [InR]; omega, (i + 1, o ++ [s], 0), ⟨⟨rfl, by simp⟩, .inl rfl⟩, ⟨hlt, by simp [ho], hod', by omega, hvl⟩, by simp only; omega⟩
      · simp -implicitDefEqProofs only [natV, List.length_map, hlt, hgX, hgY, hlt2', hwX, hwY, hneg, ← h, hs32, hset, go_sem]
        refine ⟨by simp only [InR]; omega, by simp only [InR]; omega, by simp only [InR]; omega, ⟨hlen, rfl⟩, by simp only [InR]; omega, (i + 1, o ++ [s], 1), ⟨⟨rfl, by simp⟩, .inl rfl⟩, ⟨hlt, by simp [ho], hod', by omega, hvl⟩, by simp only; omega⟩
    · have hy0 : yi = 0 := by rw [← hyi, List.getD_eq_getElem?_getD, List.getElem?_eq_none (by omega)]; rfl
      rcases hs with ⟨rfl, h⟩ | ⟨rfl, h, hneg⟩
      · have h' : (s : Int) = (xi : Int) - c := by omega
        have hneg : ¬ (s : Int) < 0 := by omega
        simp -implicitDefEqProofs only [natV, List.length_map, hlt, hgX, hlt2, hwX, hwY, ← h', hneg, hs32, hset, go_sem]; refine ⟨by simp only [InR]; omega, ⟨hlen, rfl⟩, by simp only [InR]; omega, (i + 1, o ++ [s], 0), ⟨⟨rfl, by simp⟩, .inl rfl⟩, ⟨hlt, by simp [ho], hod', by omega, hvl⟩, by simp only; omega⟩
      · have h' : (s : Int) = (xi : Int) - c + 4294967296 := by omega
        have hneg' : (xi : Int) - c < 0 := by omega
        simp -implicitDefEqProofs only [natV, List.length_map, hlt, hgX, hlt2, hwX, hwY, hneg', ← h', hs32, hset, go_sem]; refine ⟨by simp only [InR]; omega, by simp only [InR]; omega, ⟨hlen, rfl⟩, by simp only [InR]; omega, (i + 1, o ++ [s], 1), ⟨⟨rfl, by simp⟩, .inl rfl⟩, ⟨hlt, by simp [ho], hod', by omega, hvl⟩, by simp only; omega⟩
  · simp -implicitDefEqProofs only [natV, List.length_map, hlt, go_sem]
    have hin : i = X.length := by omega
    have hall : valD B32 o < B32 ^ o.length := Z1x hod; rw [hin, List.take_of_length_le (Nat.le_refl _), List.take_of_length_le hYX] at hval; have hc0 : c = 0 := by
      rcases (by omega : c = 0 ∨ c = 1) with h | h
      · exact h
      · subst h
        rw [ho, hin] at hall; omega
    subst hc0; have hv : valD B32 o = valD B32 X - valD B32 Y := by simp at hval; omega
    have hrow : o ++ List.replicate (X.length - i) 0 = o := by rw [hin]; simp
    rw [hrow]; refine AWp.freeze 0 rfl ?_; refine Wd [] ?_; simp -implicitDefEqProofs only [Z17, go_sem]; have e91 := u91 o (by omega); rw [Z1q (B := B32) (by decide) hod, hv] at e91; refine Z0 e91 (.pures rfl) ?_; simp -implicitDefEqProofs only [natV, go_sem]

theorem u90 (n : Nat) (hn : n < capN) : PFn Tryz.prog 189 [intN false n] [intN true n] := by
  have e1 := u69n false n hn; have e2 := u66 true (digD B32 n) (Z02 _) (by have := Z0i hn; omega); rw [Z8 (by decide)] at e2; refine PFn.of_body hΓ Tryz.func189 (by kernel_rfl) rfl (Wd [(1, 6)] ?_); simp +contextual -implicitDefEqProofs only [Z4, Tryz.ntmps189, Tryz.results189, Nat.reduceAdd, Nat.reduceSub, go_sem]; refine Z1 e1 (.still rfl) ?_; simp -implicitDefEqProofs only [go_sem]; refine Z1 e2 (.pures rfl) ?_; simp -implicitDefEqProofs only [intN, intV, go_sem]

theorem Z2h {n : Nat} (h : n ≠ 0) : intN true n = .agg [.bool true, .str (magB n)] := by simp [intN, intV, h]

theorem u89m (a b : Nat) (ha : a < capN) (hb : b < capN) (hb0 : b ≠ 0) : PFn Tryz.prog 99 [intN false a, intN true b] [if a < b then intN true (b - a) else intN false (a - b)] := by
  have ea := u69n false a ha; have eb := u69n true b hb; have la := Z0i ha; have lb := Z0i hb; have ec := u106 (digD B32 a) (digD B32 b) (Zv (by decide) a) (Zv (by decide) b) (by omega) (by omega); rw [Z8 (by decide), Z8 (by decide)] at ec; rw [Z2h hb0] at eb ⊢; by_cases h : a < b
  · have hlen : (digD B32 a).length ≤ (digD B32 b).length := by
      rcases Nat.lt_or_ge (digD B32 b).length (digD B32 a).length with hl | hl
      · have := Za3 (B := B32) (by decide) (Zv (by decide) b) (Zv (by decide) a) hl
        rw [Z8 (by decide), Z8 (by decide)] at this; omega
      · exact hl
    have e1 := u107 (digD B32 b) (digD B32 a) (Z02 b) (Z02 a) (by omega) hlen (by rw [Z8 (by decide), Z8 (by decide)]; omega); rw [Z8 (by decide), Z8 (by decide)] at e1; have e2 := u66 true (digD B32 (b - a)) (Z02 _) (by have := Z0i (n := b - a) (by omega); omega); rw [Z8 (by decide)] at e2; rw [Z2k h] at ec; have hft : (false == true) = false := rfl; have hm1 : (-1 : Int) < 0 := by decide
    refine PFn.of_body hΓ Tryz.func99 (by kernel_rfl) rfl (Wd [(1, 6), (3, 6), (5, 6), (6, 6)] ?_); simp +contextual -implicitDefEqProofs only [Z4, Tryz.ntmps99, Tryz.results99, Nat.reduceAdd, Nat.reduceSub, go_sem]; refine Z1 ea (.still rfl) ?_; simp -implicitDefEqProofs only [go_sem]; refine Z1 eb (.still rfl) ?_; simp -implicitDefEqProofs only [hft, go_sem]; refine Z0 ec (.pures rfl) ?_; simp -implicitDefEqProofs only [hm1, go_sem]; refine Z1 e1 (.pures rfl) ?_; simp -implicitDefEqProofs only [go_sem]; refine Z1 e2 (.pures rfl) ?_; simp -implicitDefEqProofs only [h, Z2h (show b - a ≠ 0 by omega), go_sem]
  · have hlen : (digD B32 b).length ≤ (digD B32 a).length := by
      rcases Nat.lt_or_ge (digD B32 a).length (digD B32 b).length with hl | hl
      · have := Za3 (B := B32) (by decide) (Zv (by decide) a) (Zv (by decide) b) hl
        rw [Z8 (by decide), Z8 (by decide)] at this; omega
      · exact hl
    have e1 := u107 (digD B32 a) (digD B32 b) (Z02 a) (Z02 b) (by omega) hlen (by rw [Z8 (by decide), Z8 (by decide)]; omega); rw [Z8 (by decide), Z8 (by decide)] at e1; have e2 := u66 false (digD B32 (a - b)) (Z02 _) (by have := Z0i (n := a - b) (by omega); omega); rw [Z8 (by decide)] at e2; have hft : (false == true) = false := rfl; have hm1 : ¬ cmpN a b < 0 := by unfold cmpN; rw [if_neg h]; split <;> decide
    refine PFn.of_body hΓ Tryz.func99 (by kernel_rfl) rfl (Wd [(1, 6), (3, 6), (5, 6), (6, 6)] ?_); simp +contextual -implicitDefEqProofs only [Z4, Tryz.ntmps99, Tryz.results99, Nat.reduceAdd, Nat.reduceSub, go_sem]; refine Z1 ea (.still rfl) ?_; simp -implicitDefEqProofs only [go_sem]; refine Z1 eb (.still rfl) ?_; simp -implicitDefEqProofs only [hft, go_sem]; refine Z0 ec (.pures rfl) ?_; simp -implicitDefEqProofs only [hm1, go_sem]; refine Z1 e1 (.pures rfl) ?_; simp -implicitDefEqProofs only [go_sem]; refine Z1 e2 (.pures rfl) ?_; simp -implicitDefEqProofs only [h, Z4, go_sem]
theorem u65 (a b : Nat) (ha : a < capN) (hb : b < capN) : PFn Tryz.prog 164 [intN false a, intN false b] [if a < b then intN true (b - a) else intN false (a - b)] := by
  have e1 := u90 b hb; have e2 : PFn Tryz.prog 99 [intN false a, intN true b] [if a < b then intN true (b - a) else intN false (a - b)] := by
    by_cases h : b = 0
    · subst h
      have := u89 a 0 ha hb; rw [if_neg (by omega)]; exact this
    · exact u89m a b ha hb h
  by_cases h : a < b
  · rw [if_pos h] at e2 ⊢
    rw [Z2h (show b - a ≠ 0 by omega)] at e2 ⊢; refine PFn.of_body hΓ Tryz.func164 (by kernel_rfl) rfl (Wd [(1, 4)] ?_); simp -implicitDefEqProofs only [Tryz.ntmps164, Tryz.results164, Nat.reduceAdd, Nat.reduceSub, Z4, go_sem]; refine Z1 e1 (.still rfl) ?_; simp -implicitDefEqProofs only [go_sem]; refine Z1 e2 (.still rfl) ?_; simp -implicitDefEqProofs only [go_sem]
  · rw [if_neg h] at e2 ⊢
    refine PFn.of_body hΓ Tryz.func164 (by kernel_rfl) rfl (Wd [(1, 4)] ?_); simp -implicitDefEqProofs only [Tryz.ntmps164, Tryz.results164, Nat.reduceAdd, Nat.reduceSub, Z4, go_sem]; refine Z1 e1 (.still rfl) ?_; simp -implicitDefEqProofs only [go_sem]; refine Z1 e2 (.still rfl) ?_; simp -implicitDefEqProofs only [Z4, go_sem]
theorem u33 (a b : Nat) (ha : a < capN) (hb : b < capN) : PFn Tryz.prog 104 [intN false a, intN false b] [.int .i64 (cmpN a b)] := by
  have e := u65 a b ha hb; by_cases h : a < b
  · rw [Z2k h]
    rw [if_pos h, Z2h (show b - a ≠ 0 by omega)] at e; refine PFn.of_body hΓ Tryz.func104 (by kernel_rfl) rfl (Wd [] ?_); simp -implicitDefEqProofs only [Tryz.ntmps104, Tryz.results104, Nat.reduceAdd, Nat.reduceSub, Z4, go_sem]; refine Z0 e (.still rfl) ?_; simp -implicitDefEqProofs only [go_sem]
  · rw [if_neg h] at e
    by_cases h2 : a = b
    · subst h2
      rw [Z24]; rw [Nat.sub_self] at e; refine PFn.of_body hΓ Tryz.func104 (by kernel_rfl) rfl (Wd [] ?_); simp -implicitDefEqProofs only [Tryz.ntmps104, Tryz.results104, Nat.reduceAdd, Nat.reduceSub, Z4, go_sem]; refine Z0 e (.still rfl) ?_; simp -implicitDefEqProofs only [Z4, magB_zero, go_sem]
    · rw [Z0b (by omega)]
      have hm : ¬ magB (a - b) = [] := fun e => by have := Zq e; omega
      refine PFn.of_body hΓ Tryz.func104 (by kernel_rfl) rfl (Wd [] ?_); simp -implicitDefEqProofs only [Tryz.ntmps104, Tryz.results104, Nat.reduceAdd, Nat.reduceSub, Z4, go_sem]; refine Z0 e (.still rfl) ?_; simp -implicitDefEqProofs only [Z4, hm, go_sem]

def mulR (o : List Nat) (i : Nat) (r : List Nat) (z : Nat) : List Nat := o.take i ++ r ++ o.drop (i + r.length) ++ List.replicate z 0
theorem Z4h {o : List Nat} {i : Nat} {r : List Nat} {z : Nat} (h : i + r.length < o.length) : ((mulR o i r z).map u32V).getD (i + r.length) default = .int .u32 ((o.getD (i + r.length) 0 : Nat) : Int) := by
  have hl : (o.take i ++ r).length = i + r.length := by simp; omega
  unfold mulR; rw [List.getD_eq_getElem?_getD, List.getElem?_map, List.append_assoc, List.getElem?_append_right (by omega), hl, Nat.sub_self, List.drop_eq_getElem_cons h, List.getD_eq_getElem?_getD, List.getElem?_eq_getElem h]; rfl
theorem Z3b {o : List Nat} {i : Nat} {r : List Nat} {z v : Nat} (h : i + r.length < o.length) : ((mulR o i r z).map u32V).set (i + r.length) (u32V v) = (mulR o i (r ++ [v]) z).map u32V := by
  have hl : (o.take i ++ r).length = i + r.length := by simp; omega
  unfold mulR; rw [← List.map_set, List.append_assoc (o.take i ++ r), List.set_append_right _ _ (by omega), hl, Nat.sub_self, List.drop_eq_getElem_cons h]; simp [Nat.add_assoc]
theorem Zid {o : List Nat} {i : Nat} {r : List Nat} {z v : Nat} (h : i + r.length = o.length) : ((mulR o i r (z + 1)).map u32V).set (i + r.length) (u32V v) = ((o.take i ++ r ++ [v]) ++ List.replicate z 0).map u32V := by
  have hl : (o.take i ++ r).length = i + r.length := by simp; omega
  unfold mulR; rw [h, List.drop_length, List.append_nil, ← List.map_set, ← h, List.set_append_right _ _ (by omega), hl, Nat.sub_self, List.replicate_succ]; simp
theorem Z5s {o : List Nat} {i z : Nat} : mulR o i [] z = o ++ List.replicate z 0 := by unfold mulR; simp
theorem Z13 {o : List Nat} {i : Nat} {r : List Nat} {z : Nat} (h : i + r.length ≤ o.length) : (mulR o i r z).length = o.length + z := by unfold mulR; simp; omega

theorem Zf1 {a b : Nat} (ha : a < B32) (hb : b < B32) : a * b ≤ 4294967295 * 4294967295 := Nat.mul_le_mul (by unfold B32 at ha; omega) (by unfold B32 at hb; omega)

set_option maxHeartbeats 1000000 in
theorem u68 (x y : List Nat) (hx : ∀ d ∈ x, d < B32) (hy : ∀ d ∈ y, d < B32) (hxl : x.length ≤ 500000) (hyl : y.length ≤ 500000) : PFn Tryz.prog 165 [natV x, natV y] [natV (digD B32 (valD B32 x * valD B32 y))] := by
  by_cases hx0 : x = []
  · have h1 : (x.length : Int) = 0 := by rw [hx0]; rfl
    rw [show valD B32 x * valD B32 y = 0 by rw [hx0]; exact Nat.zero_mul _, Z4m]; refine PFn.of_body hΓ Tryz.func165 (by kernel_rfl) rfl (Wd [] ?_); simp -implicitDefEqProofs only [Tryz.ntmps165, Tryz.results165, Nat.reduceAdd, Nat.reduceSub, natV, List.length_map, h1, go_sem]
    try rfl
  by_cases hy0 : y = []
  · have h1 : ¬ (x.length : Int) = 0 := fun h => hx0 (List.length_eq_zero_iff.1 (by omega))
    have h2 : (y.length : Int) = 0 := by rw [hy0]; rfl
    rw [show valD B32 x * valD B32 y = 0 by rw [hy0]; exact Nat.mul_zero _, Z4m]; refine PFn.of_body hΓ Tryz.func165 (by kernel_rfl) rfl (Wd [] ?_); simp -implicitDefEqProofs only [Tryz.ntmps165, Tryz.results165, Nat.reduceAdd, Nat.reduceSub, natV, List.length_map, h1, h2, go_sem]
    try rfl
  have hxp : 0 < x.length := List.length_pos_iff.2 hx0; have hyp : 0 < y.length := List.length_pos_iff.2 hy0; have h1 : ¬ (x.length : Int) = 0 := by omega
  have h2 : ¬ (y.length : Int) = 0 := by omega
  have eL : ((x.length : Int) + (y.length : Int)).toNat = x.length + y.length := by omega
  refine PFn.of_body hΓ Tryz.func165 (by kernel_rfl) rfl (AWp.seq (Wd [] ?_)); simp -implicitDefEqProofs only [Tryz.ntmps165, Tryz.results165, Nat.reduceAdd, Nat.reduceSub, natV, go_sem]; refine AWp.seq (Wd [] ?_); simp -implicitDefEqProofs only [List.length_map, h1, h2, go_sem]; refine AWp.seq (Wd [] ?_); simp -implicitDefEqProofs only [List.length_map, eL, go_sem]; refine ⟨by simp only [InR]; omega, ⟨by omega, by omega, by omega⟩, ?_⟩; refine AWp.seq (Wd [] ?_); simp -implicitDefEqProofs only [List.length_map, go_sem]
  refine AWp.loopI (fun z : Nat × List Nat => ⟨mkF 76 [(0, .p (natV x)), (1, .p (natV y)), (5, .own 0 (x.length + y.length)), (26, .p (natV x)), (27, .p (.int .i64 x.length)), (28, .p (.int .i64 z.1))], [.row 136 1 ((z.2 ++ List.replicate (x.length - z.1) 0).map u32V) .own]⟩)
    (fun z => z.1 ≤ x.length ∧ z.2.length = z.1 + y.length ∧ (∀ d ∈ z.2, d < B32) ∧ valD B32 z.2 = valD B32 (x.take z.1) * valD B32 y) (fun z => x.length - z.1) (0, List.replicate y.length 0) (by
      simp [go_sem, natV, u32V, List.replicate_append_replicate, Nat.add_comm]) ⟨by simp, by simp, fun d hd => by rw [List.eq_of_mem_replicate hd]; decide, by simp [valD, Z7g]⟩ ?_
  rintro ⟨i, o⟩ ⟨hi, ho, hod, hval⟩; simp only at hi ho hod hval; refine Wd [] ?_; by_cases hlt : i < x.length
  · have hgx : (x.map u32V).getD i default = .int .u32 ((x.getD i 0 : Nat) : Int) := by
      rw [Z5 _ _ _ _ hlt, List.getD_eq_getElem?_getD, List.getElem?_eq_getElem hlt]; rfl
    have dx : x.getD i 0 < B32 := by
      rw [List.getD_eq_getElem?_getD, List.getElem?_eq_getElem hlt, Option.getD_some]; exact hx _ (List.getElem_mem hlt)
    have tx := Zh (l := x) B32 i; generalize x.getD i 0 = a at *; have hwa : IntKind.u64.wrap (a : Int) = a := InR.wrap (k := .u64) (by simp only [InR]; unfold B32 at dx; omega); simp -implicitDefEqProofs only [natV, List.length_map, hlt, hgx, go_sem]
    refine AWp.loopI (fun z : List Nat × Nat => ⟨mkF 76 [(0, .p (natV x)), (1, .p (natV y)), (5, .own 0 (x.length + y.length)), (6, .p (.int .i64 i)), (7, .p (.int .u32 a)), (8, .p (.int .u64 z.2)), (26, .p (natV x)), (27, .p (.int .i64 x.length)), (28, .p (.int .i64 i)), (33, .p (natV y)), (34, .p (.int .i64 y.length)), (35, .p (.int .i64 z.1.length))], [.row 136 1 ((mulR o i z.1 (x.length - i)).map u32V) .own]⟩)
      (fun z => z.1.length ≤ y.length ∧ (∀ d ∈ z.1, d < B32) ∧ z.2 < B32 ∧ valD B32 z.1 + z.2 * B32 ^ z.1.length = valD B32 ((o.drop i).take z.1.length) + a * valD B32 (y.take z.1.length)) (fun z => y.length - z.1.length) ([], 0) (by
        simp [go_sem, natV, Z5s]) ⟨by simp, by simp, by decide, by simp [valD]⟩ ?_
    rintro ⟨r, c⟩ ⟨hr, hrd, hc, hv⟩; simp only at hr hrd hc hv; refine Wd [] ?_; by_cases hlt2 : r.length < y.length
    · have hgy : (y.map u32V).getD r.length default = .int .u32 ((y.getD r.length 0 : Nat) : Int) := by
        rw [Z5 _ _ _ _ hlt2, List.getD_eq_getElem?_getD, List.getElem?_eq_getElem hlt2]; rfl
      have dy : y.getD r.length 0 < B32 := by
        rw [List.getD_eq_getElem?_getD, List.getElem?_eq_getElem hlt2, Option.getD_some]; exact hy _ (List.getElem_mem hlt2)
      have hio : i + r.length < o.length := by omega
      have ty := Zh (l := y) B32 r.length; have to := Zh (l := o.drop i) B32 r.length; have hgo2 : (o.drop i).getD r.length 0 = o.getD (i + r.length) 0 := by
        rw [List.getD_eq_getElem?_getD, List.getElem?_drop, List.getD_eq_getElem?_getD]
      have hgo := Z4h (z := x.length - i) hio; have dO : o.getD (i + r.length) 0 < B32 := by
        rw [List.getD_eq_getElem?_getD, List.getElem?_eq_getElem hio, Option.getD_some]; exact hod _ (List.getElem_mem hio)
      rw [hgo2] at to; generalize y.getD r.length 0 = b at *; generalize hqv : o.getD (i + r.length) 0 = qv at *; have hab := Zf1 dx dy; obtain ⟨ab, habE⟩ : ∃ ab, ab = a * b := ⟨_, rfl⟩; rw [← habE] at hab; have habI : (a : Int) * (b : Int) = (ab : Int) := by rw [habE]; simp
      have hwb : IntKind.u64.wrap (b : Int) = b := InR.wrap (k := .u64) (by simp only [InR]; unfold B32 at dy; omega); have hwq : IntKind.u64.wrap (qv : Int) = qv := InR.wrap (k := .u64) (by simp only [InR]; unfold B32 at dO; omega); obtain ⟨s, hs⟩ : ∃ s, s = ab + qv + c := ⟨_, rfl⟩; have hsI : (ab : Int) + (qv : Int) + (c : Int) = (s : Int) := by omega
      have hs32 : IntKind.u32.wrap (s : Int) = ((s % B32 : Nat) : Int) := Z1p s; have hsd : (s : Int) / 2 ^ Int.toNat 32 = ((s / B32 : Nat) : Int) := by
        have : (2 : Int) ^ Int.toNat 32 = ((B32 : Nat) : Int) := rfl; rw [this, Int.natCast_ediv]
      have hsb : s < 4294967296 * 4294967296 := by unfold B32 at dO hc; omega
      have hset := Z3b (z := x.length - i) (v := s % B32) hio; have hlen := Z13 (z := x.length - i) (Nat.le_of_lt hio); have eik : ((i : Int) + (r.length : Int)).toNat = i + r.length := by omega
      simp -implicitDefEqProofs only [natV, List.length_map, hlt2, hgy, hwa, hwb, habI, eik, hgo, hwq, hsI, hs32, hsd, hset, go_sem]; have hrl : (r ++ [s % B32]).length = r.length + 1 := by simp
      have hvv : valD B32 (r ++ [s % B32]) + s / B32 * B32 ^ (r.length + 1) = valD B32 ((o.drop i).take (r.length + 1)) + a * valD B32 (y.take (r.length + 1)) := by
        rw [to, ty, Zg, Nat.pow_succ]; have e1 : valD B32 [s % B32] = s % B32 := by simp [valD]
        rw [e1]; have e2 : s % B32 + B32 * (s / B32) = s := Nat.mod_add_div s B32; generalize hP : B32 ^ r.length = P at *; have e3 : P * (s % B32) + s / B32 * (P * B32) = P * s := by
          conv => rhs; rw [← e2, Nat.mul_add]
          rw [Nat.mul_comm (s / B32), Nat.mul_assoc]
        have e4 : P * s = ab * P + qv * P + c * P := by rw [hs, Nat.mul_comm, Nat.add_mul, Nat.add_mul]
        have e5 : a * (valD B32 (y.take r.length) + b * P) = a * valD B32 (y.take r.length) + ab * P := by rw [Nat.mul_add, habE, Nat.mul_assoc]
        omega
      have hset' : ((mulR o i r (x.length - i)).map u32V).set (i + r.length) (.int .u32 ((s % B32 : Nat) : Int)) = (mulR o i (r ++ [s % B32]) (x.length - i)).map u32V := hset; have hcb : s / B32 < B32 := by unfold B32; omega
      refine ⟨by simp only [InR]; omega, by simp only [InR]; omega, ⟨by omega, by omega⟩, by omega, by simp only [InR]; unfold B32 at dO; omega, by simp only [InR]; omega, by simp only [InR]; omega, ⟨by omega, by omega⟩, ⟨by omega, by omega⟩, ⟨by omega, rfl⟩, by simp only [InR]; omega, (r ++ [s % B32], s / B32), ⟨⟨rfl, by simp⟩, .inl hset'.symm⟩, ⟨by simp only; omega, fun d hd => ?_, hcb, by simp only; rw [hrl]; exact hvv⟩, by simp only; omega⟩; rcases List.mem_append.1 hd with hd | hd
      · exact hrd d hd
      · rw [List.mem_singleton] at hd; subst hd; exact Nat.mod_lt _ (by decide)
    · have hrn : r.length = y.length := by omega
      have hz : ¬ (y.length : Int) < y.length := by omega
      have hcw : IntKind.u32.wrap (c : Int) = (c : Int) := InR.wrap (k := .u32) (by unfold B32 at hc; simp only [InR]; omega); have hend := Zid (o := o) (i := i) (r := r) (z := x.length - (i + 1)) (v := c) (by omega); rw [show x.length - (i + 1) + 1 = x.length - i by omega, hrn] at hend; have hend' : ((mulR o i r (x.length - i)).map u32V).set (i + y.length) (.int .u32 (c : Int)) = ((o.take i ++ r ++ [c]) ++ List.replicate (x.length - (i + 1)) 0).map u32V := hend; have hlen := Z13 (o := o) (i := i) (r := r) (z := x.length - i) (by omega); have eik : ((i : Int) + (y.length : Int)).toNat = i + y.length := by omega
      rw [hrn] at hv ⊢; have hvt : (o.drop i).take y.length = o.drop i := List.take_of_length_le (by simp; omega); rw [hvt, List.take_of_length_le (Nat.le_refl _)] at hv; have hvo := Z26 B32 i o; have htl : (o.take i).length = i := by simp; omega
      rw [htl] at hvo; have hvn : valD B32 (o.take i ++ r ++ [c]) = valD B32 (x.take (i + 1)) * valD B32 y := by
        rw [Zg, Zg, htl, tx]; have e1 : valD B32 [c] = c := by simp [valD]
        have e2 : (o.take i ++ r).length = i + y.length := by simp [htl, hrn]
        rw [e1, e2, Nat.pow_add]; generalize B32 ^ i = P at *; generalize B32 ^ y.length = Q at *; have e3 : P * (valD B32 r + c * Q) = P * (valD B32 (o.drop i) + a * valD B32 y) := by rw [hv]
        rw [Nat.mul_add, Nat.mul_add] at e3; have e4 : P * Q * c = P * (c * Q) := by rw [Nat.mul_assoc, Nat.mul_comm Q]
        have e5 : (valD B32 (x.take i) + a * P) * valD B32 y = valD B32 (x.take i) * valD B32 y + P * (a * valD B32 y) := by
          rw [Nat.add_mul, Nat.mul_comm a P, Nat.mul_assoc]
        rw [e4, e5, ← hval]; omega
      simp -implicitDefEqProofs only [natV, List.length_map, hz, hcw, eik, hend', go_sem]; refine ⟨by simp only [InR]; omega, ⟨by omega, by omega⟩, ⟨by omega, rfl⟩, by simp only [InR]; omega, (i + 1, o.take i ++ r ++ [c]), ⟨rfl, .inl rfl⟩, ⟨hlt, by simp [htl, hrn]; omega, fun d hd => ?_, hvn⟩, by simp only; omega⟩; rcases List.mem_append.1 hd with hd | hd
      · rcases List.mem_append.1 hd with hd | hd
        · exact hod d (List.mem_of_mem_take hd)
        · exact hrd d hd
      · rw [List.mem_singleton] at hd; subst hd; exact hc
  · simp -implicitDefEqProofs only [natV, List.length_map, hlt, go_sem]
    have hin : i = x.length := by omega
    have hrow : o ++ List.replicate (x.length - i) 0 = o := by rw [hin]; simp
    rw [hin, List.take_of_length_le (Nat.le_refl _)] at hval; rw [hrow]; refine AWp.freeze 0 rfl ?_; refine Wd [] ?_; simp -implicitDefEqProofs only [Z17, go_sem]; have e91 := u91 o (by omega); rw [Z1q (B := B32) (by decide) hod, hval] at e91; refine Z0 e91 (.pures rfl) ?_; simp -implicitDefEqProofs only [natV, go_sem]
end Go.Proofs.YtpljmccnfmkmfaaGreat
end

section
namespace Go.Proofs.YtpljmccnfmkmfaaGreat.Kn
open Go Go.AM

theorem Zfr {B v1 v2 P Vl u0 u1 u2 Ul g r : Nat} (hUl : Ul < P) (h1 : g * v1 + r = u0 * B + u1) (h2 : r * B + u2 < g * v2) :
    (((u0 * B + u1) * B + u2) * P + Ul) < g * ((v1 * B + v2) * P + Vl) := by
  have e1 : g * ((v1 * B + v2) * P + Vl) = (g * v1 * B + g * v2) * P + g * Vl := by
    rw [Nat.mul_add, ← Nat.mul_assoc, Nat.mul_add, Nat.mul_assoc g v1 B]
  have e2 : (g * v1 + r) * B = g * v1 * B + r * B := Nat.add_mul ..; have e3 : (u0 * B + u1) * B + u2 + 1 ≤ g * v1 * B + g * v2 := by rw [← h1, e2]; omega
  have e4 := Nat.mul_le_mul_right P e3; rw [Nat.add_mul _ 1 P, Nat.one_mul] at e4; rw [e1]; omega

theorem Zir {B v1 v2 P Vl u0 u1 u2 Ul g r : Nat} (hVl : Vl < P) (hv : 1 ≤ v1) (hg : g < B) (h1 : g * v1 + r = u0 * B + u1) (h2 : g * v2 ≤ r * B + u2) :
    g * ((v1 * B + v2) * P + Vl) ≤ (((u0 * B + u1) * B + u2) * P + Ul) + ((v1 * B + v2) * P + Vl) := by
  have e1 : g * ((v1 * B + v2) * P + Vl) = (g * v1 * B + g * v2) * P + g * Vl := by
    rw [Nat.mul_add, ← Nat.mul_assoc, Nat.mul_add, Nat.mul_assoc g v1 B]
  have e2 : (g * v1 + r) * B = g * v1 * B + r * B := Nat.add_mul ..; have e3 : g * v1 * B + g * v2 ≤ (u0 * B + u1) * B + u2 := by rw [← h1, e2]; omega
  have e4 := Nat.mul_le_mul_right P e3; have e5 : g * Vl ≤ B * P := Nat.mul_le_mul (by omega) (by omega); have e6 : B * P ≤ v1 * B * P := by
    have := Nat.mul_le_mul_right (B * P) hv; rw [Nat.one_mul, ← Nat.mul_assoc] at this; exact this
  have e7 : (v1 * B + v2) * P = v1 * B * P + v2 * P := Nat.add_mul ..; rw [e1, e7]; omega

theorem Zfq {U V g : Nat} (hV : 0 < V) (h1 : U / V ≤ g) (h2 : g * V ≤ U + V) : g = U / V ∨ g = U / V + 1 := by
  have h3 : g ≤ (U + V) / V := (Nat.le_div_iff_mul_le hV).2 h2; rw [Nat.add_div_right _ hV] at h3; omega

theorem Zhp {U V g T cb top L W : Nat} (hV : 0 < V) (hVW : V ≤ W) (hT : T < W) (hU : U = L + top * W) (h : T + g * V = L + cb * W) (hg : g = U / V ∨ g = U / V + 1) :
    g = U / V ∧ top = cb ∧ T = U % V ∨ g = U / V + 1 ∧ top + 1 = cb ∧ T + V = U % V + W := by
  have hm := Nat.mod_lt U hV; have hd := Nat.div_add_mod U V; rw [Nat.mul_comm] at hd; rcases hg with rfl | rfl
  · left
    have h1 : T + top * W + U / V * V = L + top * W + cb * W := by omega
    have h2 : T + top * W = U % V + cb * W := by omega
    have h3 : top = cb := by
      rcases Nat.lt_trichotomy top cb with h3 | h3 | h3
      · obtain ⟨d, rfl⟩ : ∃ d, cb = top + 1 + d := ⟨cb - top - 1, by omega⟩
        rw [Nat.add_mul, Nat.add_mul] at h2; have := Nat.zero_le (d * W); omega
      · exact h3
      · obtain ⟨d, rfl⟩ : ∃ d, top = cb + 1 + d := ⟨top - cb - 1, by omega⟩
        rw [Nat.add_mul, Nat.add_mul] at h2; have := Nat.zero_le (d * W); omega
    refine ⟨rfl, h3, ?_⟩; rw [h3] at h2; omega
  · right
    rw [Nat.add_mul, Nat.one_mul] at h; have h2 : T + V + top * W = U % V + cb * W := by omega
    have h3 : top + 1 = cb := by
      rcases Nat.lt_trichotomy (top + 1) cb with h3 | h3 | h3
      · obtain ⟨d, rfl⟩ : ∃ d, cb = top + 2 + d := ⟨cb - top - 2, by omega⟩
        rw [Nat.add_mul, Nat.add_mul] at h2; have := Nat.zero_le (d * W); omega
      · exact h3
      · obtain ⟨d, rfl⟩ : ∃ d, top = cb + d := ⟨top - cb, by omega⟩
        rw [Nat.add_mul] at h2; have := Nat.zero_le (d * W); omega
    refine ⟨rfl, h3, ?_⟩; rw [← h3, Nat.add_mul, Nat.one_mul] at h2; omega

theorem Zgy {T V R W N c : Nat} (hN : N < W) (hR : R < V) (hV : V ≤ W) (h1 : T + V = R + W) (h2 : N + c * W = T + V) : c = 1 ∧ N = R := by
  have h3 : N + c * W = R + W := by omega
  rcases (by omega : c = 0 ∨ c = 1 ∨ 2 ≤ c) with h | h | h
  · subst h; omega
  · subst h; omega
  · obtain ⟨d, rfl⟩ : ∃ d, c = 2 + d := ⟨c - 2, by omega⟩
    rw [Nat.add_mul] at h3; have := Nat.zero_le (d * W); omega

theorem Ze0 {B x v g ca bo : Nat} (hB : 2 ≤ B) (hx : x < B) (hv : v < B) (hg : g < B) (hca : ca < B) (hbo : bo ≤ 1) :
    ∃ s b, s < B ∧ b ≤ 1 ∧ (g * v + ca) / B < B ∧ s + (g * v + ca) % B + bo = x + b * B ∧ ((x : Int) - bo - ((g * v + ca) % B : Nat) < 0 ↔ b = 1) ∧
      s + g * v + ca + bo = x + (((g * v + ca) / B) + b) * B := by
  have h1 : g * v ≤ (B - 1) * (B - 1) := Nat.mul_le_mul (by omega) (by omega); have h2 : (g * v + ca) / B < B := by
    rw [Nat.div_lt_iff_lt_mul (by omega)]; obtain ⟨b, rfl⟩ : ∃ b, B = b + 1 := ⟨B - 1, by omega⟩; simp only [Nat.add_sub_cancel] at h1; have : (b + 1) * (b + 1) = b * b + b + b + 1 := by rw [Nat.mul_add, Nat.add_mul]; omega
    omega
  have h3 := Nat.mod_lt (g * v + ca) (show 0 < B by omega); have h4 := Nat.div_add_mod (g * v + ca) B; rw [Nat.mul_comm] at h4; generalize (g * v + ca) / B = hi at *; generalize (g * v + ca) % B = lo at *; by_cases hn : (x : Int) - bo - (lo : Nat) < 0
  · refine ⟨x + B - bo - lo, 1, by omega, by omega, h2, by omega, ⟨fun _ => rfl, fun _ => hn⟩, ?_⟩
    rw [Nat.add_mul]; omega
  · refine ⟨x - bo - lo, 0, by omega, by omega, h2, by omega, ⟨fun h => absurd h hn, fun h => by omega⟩, ?_⟩
    rw [Nat.add_mul]; omega

theorem Z8b (B : Nat) (l : List Nat) {i : Nat} (h : i ≤ l.length) : valD B l = valD B (l.take i) + B ^ i * valD B (l.drop i) := by
  have := Z26 B i l
  rwa [List.length_take, Nat.min_eq_left h] at this

theorem Zgd {X V U Q R A P B hi : Nat} (hX : X = V * (P * B) * hi + (A + P * U)) (hU : U = Q * V + R) : X = V * P * (Q + B * hi) + (A + P * R) := by
  subst hX; subst hU; have e1 : V * (P * B) * hi = V * P * (B * hi) := by rw [← Nat.mul_assoc V P B, Nat.mul_assoc (V * P) B hi]
  have e2 : P * (Q * V + R) = V * P * Q + P * R := by rw [Nat.mul_add, Nat.mul_comm Q V, ← Nat.mul_assoc, Nat.mul_comm P V]
  have e3 : V * P * (Q + B * hi) = V * P * Q + V * P * (B * hi) := Nat.mul_add ..; omega
end Go.Proofs.YtpljmccnfmkmfaaGreat.Kn
end

