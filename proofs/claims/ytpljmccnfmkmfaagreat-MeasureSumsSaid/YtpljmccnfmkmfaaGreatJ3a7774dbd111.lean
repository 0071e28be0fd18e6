/-
  Texts of this claim, joined.
-/
import Derived.Test.YtpljmccnfmkmfaaGreatJ85e9d9b12164
import Derived.Test.YtpljmccnfmkmfaaGreatJb14288946cc8
import Derived.Test.YtpljmccnfmkmfaaGreatJe01266d4e944
import Derived.Test.YtpljmccnfmkmfaaGreatJ4a119478812a
import Derived.Test.YtpljmccnfmkmfaaGreatJdb080b7e5952
import Derived.Test.YtpljmccnfmkmfaaGreatJ7cb4b7e9e247
import Derived.Test.YtpljmccnfmkmfaaGreatJf769cdf4d129
import Derived.Test.YtpljmccnfmkmfaaGreatJ530593ee3862
import Derived.Test.YtpljmccnfmkmfaaGreatJ74fcf531d424

set_option linter.unusedSimpArgs false
set_option maxRecDepth 100000
set_option maxHeartbeats 4000000
section
namespace Go.Proofs.YtpljmccnfmkmfaaGreat
open Go Go.AM




def Z8p (w : List UInt8) : Bool := decide (5 < w.length) && decide (w.length ≤ 32)
def Zlz (q : Int) (ws : List (List UInt8)) : Bool := decide (6 < ws.length) || (decide (3 < q) && decide (q ≤ 16))
def Z3w (q : Int) (ws : List (List UInt8)) : Bool := ws.any Z8p || Zlz q ws

theorem gr36 (q : Int) (ws : List (List UInt8)) (hl : ws.length ≤ 9223372036854775807) : PFn Tryz.prog 43 [Zz q ws] [.bool (Z3w q ws)] := by
  refine PFn.of_body hΓ Tryz.func43 (by kernel_rfl) rfl (Wd [] ?_); simp -implicitDefEqProofs only [Tryz.ntmps43, Tryz.results43, Nat.reduceAdd, Nat.reduceSub, Zz, go_sem]
  refine AWp.loopI (fun k : Nat => ⟨mkF 41 [(1, .ptr 0 0), (2, .p (.bool false)), (3, .p (.int .i64 k))], [Z1b q ws]⟩)
    (fun k => k ≤ ws.length ∧ (ws.take k).any Z8p = false) (fun k => ws.length - k) 0 (by simp [go_sem, Z1b]) (by simp) ?_
  rintro k ⟨hk, hno⟩; refine Wd [] ?_; by_cases hlt : k < ws.length
  · by_cases h5 : (5 : Int) < ws[k].length
    · by_cases h32 : (ws[k].length : Int) ≤ 32
      · simp -implicitDefEqProofs only [hlt, h5, h32, Z5, ↓reduceIte, Z1b, go_sem]
        have : ws.any Z8p = true := List.any_eq_true.2 ⟨_, List.getElem_mem hlt, by unfold Z8p; simp only [Bool.and_eq_true, decide_eq_true_eq]; omega⟩; unfold Z3w; rw [this]; rfl
      · have hno' : Z8p ws[k] = false := by unfold Z8p; simp only [Bool.and_eq_false_iff, decide_eq_false_iff_not]; omega
        simp -implicitDefEqProofs only [hlt, h5, h32, Z5, ↓reduceIte, Z1b, go_sem]; exact ⟨by simp only [InR]; omega, k + 1, by simp, ⟨hlt, by rw [List.take_succ_eq_append_getElem hlt, List.any_append, hno]; simp [hno']⟩, by omega⟩
    · have hno' : Z8p ws[k] = false := by unfold Z8p; simp only [Bool.and_eq_false_iff, decide_eq_false_iff_not]; omega
      simp -implicitDefEqProofs only [hlt, h5, Z5, ↓reduceIte, Z1b, go_sem]; exact ⟨by simp only [InR]; omega, k + 1, by simp, ⟨hlt, by rw [List.take_succ_eq_append_getElem hlt, List.any_append, hno]; simp [hno']⟩, by omega⟩
  · rw [List.take_of_length_le (by omega)] at hno
    unfold Z3w Zlz; rw [hno]; by_cases h6 : (6 : Int) < ws.length
    · simp -implicitDefEqProofs only [hlt, h6, Z1b, go_sem]
      rw [decide_eq_true (by omega : 6 < ws.length)]; rfl
    · by_cases h3 : 3 < q
      · simp -implicitDefEqProofs only [hlt, h6, h3, Z1b, go_sem]
        rw [decide_eq_false (by omega : ¬ 6 < ws.length)]; rfl
      · simp -implicitDefEqProofs only [hlt, h6, h3, Z1b, go_sem]
        rw [decide_eq_false (by omega : ¬ 6 < ws.length)]; rfl

end Go.Proofs.YtpljmccnfmkmfaaGreat
end

section
namespace Go.Proofs.YtpljmccnfmkmfaaGreat.Kn
open Go Go.AM

def ltr (a : Nat) : UInt8 := L16.getD a 0
def Alph (q : Nat) (w : List UInt8) : Prop := ∀ b ∈ w, ∃ a, a < q ∧ b = ltr a

structure PCode (q : Nat) (ws : List (List UInt8)) : Prop where
  q0 : 0 < q
  q16 : q ≤ 16
  nodup : ws.Nodup
  free : ∀ x ∈ ws, ∀ y ∈ ws, y.isPrefixOf x = true → x = y
  alph : ∀ w ∈ ws, Alph q w
  short : ∀ w ∈ ws, w.length ≤ 32

end Go.Proofs.YtpljmccnfmkmfaaGreat.Kn
end

section
namespace Go.Proofs.YtpljmccnfmkmfaaGreat
open Go Go.AM

theorem Zfh (c : UInt8) : ∀ (l : List UInt8) (n : Nat), 0 ≤ ixB c l n → ∃ k : Nat, ixB c l n = ((n + k : Nat) : Int) ∧ l.getD k 0 = c
  | [], n, h => by simp [ixB] at h
  | a :: l, n, h => by
    unfold ixB at h ⊢
    cases hb : Nat.beq a.toNat c.toNat with
    | true =>
      rw [hb] at h; exact ⟨0, by simp, by simpa using UInt8.toNat_inj.1 (Nat.eq_of_beq_eq_true hb)⟩
    | false =>
      rw [hb] at h; obtain ⟨k, h1, h2⟩ := Zfh c l (n + 1) h; exact ⟨k + 1, by simp only [h1]; omega, by simpa using h2⟩
theorem Z96 {q : Int} {w : List UInt8} (h : Zj q w = 0) : Kn.Alph q.toNat w := fun b hb => by
  have hw : okW q w = true := by
    unfold Zj at h
    split at h
    · cases h
    · split at h
      · cases h
      · split at h
        · assumption
        · cases h
  have h1 := List.all_eq_true.1 hw b hb; unfold okB at h1; simp only [Bool.and_eq_true, decide_eq_true_eq] at h1; obtain ⟨k, h3, h4⟩ := Zfh b L16 0 h1.1; exact ⟨k, by omega, h4.symm⟩
theorem Z8t {a : Nat} (ha : a < 16) : ixB (Kn.ltr a) L16 0 = a := by
  have key : ∀ a : Fin 16, ixB (L16.getD a.val 0) L16 0 = (a.val : Int) := by decide
  exact key ⟨a, ha⟩
end Go.Proofs.YtpljmccnfmkmfaaGreat
end

section
namespace Go.Proofs.YtpljmccnfmkmfaaGreat
open Go Go.AM Go.RowKit

theorem Zkk {A B C D : List UInt8} {x y : AV} {K : AV → Prop} (hx : x.pure = some (.agg [.bool false, .str A, .bool false, .str B])) (hy : y.pure = some (.agg [.bool false, .str C, .bool false, .str D]))
    (hK : K (.p (.bool (!(decide (A = C) && decide (B = D)))))) : aggK Γ .neq 55 x y K := by
  have he : ∃ te fs, Γ 55 = some te ∧ te.td = .struct fs ∧ te.eqs = true ∧ Z3k Γ fs [.bool false, .str A, .bool false, .str B] [.bool false, .str C, .bool false, .str D] =
      some (((false == false) && (decide (A = C) && true)) && (((false == false) && (decide (B = D) && true)) && true)) := ⟨_, _, rfl, rfl, rfl, rfl⟩
  obtain ⟨te, fs, h1, h2, h3, h4⟩ := he; have e : (((false == false) && (decide (A = C) && true)) && (((false == false) && (decide (B = D) && true)) && true)) = (decide (A = C) && decide (B = D)) := by simp
  rw [e] at h4; unfold aggK; rw [hx, hy]; simp only [tyAt, h1, h2, h3, h4]; exact ⟨⟨trivial, rfl, rfl⟩, hK⟩

end Go.Proofs.YtpljmccnfmkmfaaGreat
end

section
namespace Go.Proofs.YtpljmccnfmkmfaaGreat.Kn
open Go Go.AM

abbrev RT := Bool × List UInt8 × Bool × List UInt8
def rvT (r : RT) : PV := .agg [.bool r.1, .str r.2.1, .bool r.2.2.1, .str r.2.2.2]
def canT (r : RT) : RT := if beN r.2.1 = 0 ∨ beN r.2.2.2 = 0 then (false, [], false, magB 1) else (r.1 != r.2.2.1, magB (beN r.2.1 / Nat.gcd (beN r.2.1) (beN r.2.2.2)), false, magB (beN r.2.2.2 / Nat.gcd (beN r.2.1) (beN r.2.2.2)))
theorem Zgk (r : RT) : canV r.1 r.2.1 r.2.2.1 r.2.2.2 = rvT (canT r) := by
  unfold canV canT rvT
  split <;> rfl
def shT (r : RT) : Prop := r.2.1.length ≤ 3 ∧ r.2.2.2.length ≤ 3
def okT (r : RT) : Bool := decide (canT r = r)
theorem Z97 {a b a' b' : Bool} {A B C D : List UInt8} {x y : AV} {K : AV → Prop} (hx : x.pure = some (.agg [.bool a, .str A, .bool b, .str B])) (hy : y.pure = some (.agg [.bool a', .str C, .bool b', .str D]))
    (hK : K (.p (.bool (!decide ((a, A, b, B) = (a', C, b', D)))))) : aggK Γ .neq 55 x y K := by
  have he : ∃ te fs, Γ 55 = some te ∧ te.td = .struct fs ∧ te.eqs = true ∧ Z3k Γ fs [.bool a, .str A, .bool b, .str B] [.bool a', .str C, .bool b', .str D] =
      some (((a == a') && (decide (A = C) && true)) && (((b == b') && (decide (B = D) && true)) && true)) := ⟨_, _, rfl, rfl, rfl, rfl⟩
  obtain ⟨te, fs, h1, h2, h3, h4⟩ := he; have e : (((a == a') && (decide (A = C) && true)) && (((b == b') && (decide (B = D) && true)) && true)) = decide ((a, A, b, B) = (a', C, b', D)) := by
    simp only [Prod.mk.injEq, Bool.and_true, Bool.decide_and]
    cases a <;> cases a' <;> cases b <;> cases b' <;> simp
  rw [e] at h4; unfold aggK; rw [hx, hy]; simp only [tyAt, h1, h2, h3, h4]; exact ⟨⟨trivial, rfl, rfl⟩, hK⟩

theorem g103 (r : RT) (h : shT r) : PFn Tryz.prog 103 [rvT r] [rvT (canT r)] := by
  have e := g138 r.1 r.2.2.1 r.2.1 r.2.2.2 h.1 h.2; rw [Zgk] at e; obtain ⟨s, A, t, B⟩ := r; generalize canT (s, A, t, B) = z at *; obtain ⟨a, x, b, y⟩ := z; unfold rvT intV at *; refine PFn.of_body hΓ Tryz.func103 (by kernel_rfl) rfl (Wd [] ?_); simp -implicitDefEqProofs only [Tryz.ntmps103, Tryz.results103, Nat.reduceAdd, Nat.reduceSub, go_sem]; refine ⟨by omega, Z0 e (.still rfl) ?_⟩; simp -implicitDefEqProofs only [go_sem]
theorem g111 (r : RT) (h : shT r) : PFn Tryz.prog 111 [rvT r] [.int .i64 (if okT r then 0 else 1)] := by
  have e1 := g103 r h; obtain ⟨s, A, t, B⟩ := r; unfold okT; generalize canT (s, A, t, B) = z at *; obtain ⟨a, x, b, y⟩ := z; unfold rvT at *; by_cases hk : (a, x, b, y) = (s, A, t, B)
  · rw [decide_eq_true hk, if_pos rfl]
    refine PFn.of_body hΓ Tryz.func111 (by kernel_rfl) rfl (AWp.seq (Wd [] ?_)); simp -implicitDefEqProofs only [Tryz.ntmps111, Tryz.results111, Nat.reduceAdd, Nat.reduceSub, go_sem]; refine Wd [(1, 1000)] ?_; simp -implicitDefEqProofs only [go_sem]; refine AWp.planL (.q 0 (.q 2 (.e 1 (.s 2 (.q 3 .fin)) .nil))) hΓ hmix (by kernel_rfl) ?_; simp -implicitDefEqProofs only [go_sem]; refine Z0 e1 (.still rfl) ?_; simp -implicitDefEqProofs only [go_sem]; refine Z97 rfl rfl ?_; rw [decide_eq_true hk]; simp -implicitDefEqProofs only [Bool.not_true, go_sem]
  · rw [decide_eq_false hk, if_neg (by simp)]
    refine PFn.of_body hΓ Tryz.func111 (by kernel_rfl) rfl (AWp.seq (Wd [] ?_)); simp -implicitDefEqProofs only [Tryz.ntmps111, Tryz.results111, Nat.reduceAdd, Nat.reduceSub, go_sem]; refine Wd [(1, 1000)] ?_; simp -implicitDefEqProofs only [go_sem]; refine AWp.planL (.q 0 (.q 2 (.e 1 (.s 2 (.q 3 .fin)) .nil))) hΓ hmix (by kernel_rfl) ?_; simp -implicitDefEqProofs only [go_sem]; refine Z0 e1 (.still rfl) ?_; simp -implicitDefEqProofs only [go_sem]; refine Z97 rfl rfl ?_; rw [decide_eq_false hk]; simp -implicitDefEqProofs only [Bool.not_false, go_sem]
theorem g110 (r : RT) (h : shT r) : PFn Tryz.prog 110 [rvT r] [.bool (!okT r)] := by
  have e1 := g111 r h
  cases hk : okT r
  · rw [hk, if_neg (by simp)] at e1
    unfold rvT at *; have h10 : ¬ (1 : Int) = 0 := by omega
    refine PFn.of_body hΓ Tryz.func110 (by kernel_rfl) rfl (Wd [] ?_); simp -implicitDefEqProofs only [Tryz.ntmps110, Tryz.results110, Nat.reduceAdd, Nat.reduceSub, go_sem]; refine Z0 e1 (.still rfl) ?_; simp -implicitDefEqProofs only [h10, Bool.not_false, go_sem]
  · rw [hk, if_pos rfl] at e1
    unfold rvT at *; refine PFn.of_body hΓ Tryz.func110 (by kernel_rfl) rfl (Wd [] ?_); simp -implicitDefEqProofs only [Tryz.ntmps110, Tryz.results110, Nat.reduceAdd, Nat.reduceSub, go_sem]; refine Z0 e1 (.still rfl) ?_; simp -implicitDefEqProofs only [Bool.not_true, go_sem]

theorem g173 {h : List AObj} {g : FuncId} {caps : List AV} {pr : RT → Bool} (rs : List RT) (hl : rs.length ≤ 9223372036854775807)
    (hg : ∀ r ∈ rs, AC Tryz.prog g (.p (rvT r) :: caps) h [] (fun v h' => v = .p (.bool (pr r)) ∧ h' = h)) :
    AC Tryz.prog 173 [.p (.sl (rs.map rvT)), .fn g caps] h [] (fun v h' => (∃ i : Int, v = .p (.int .i64 i) ∧ decide (0 ≤ i) = rs.any pr) ∧ h' = h) := by
  refine AC.of_bodyE hΓ Tryz.func173 (by kernel_rfl) rfl (AWp.mono (Q := fun e st => AM.Ends e ∧ (∃ i : Int, st.tmps.getD 4 .junk = .p (.int .i64 i) ∧ decide (0 ≤ i) = rs.any pr) ∧ st.h = h) ?_ ?_)
  rotate_left
  · rintro e ⟨tm, h'⟩ ⟨he, ⟨i, h1, h3⟩, h2⟩
    simp only at h1 h2; subst h2; refine ⟨he, _, Less.refl _, ?_⟩; unfold Z4q; simp +contextual -implicitDefEqProofs only [Tryz.results173, h1, go_sem]; exact ⟨_, Nat.le_refl _, .inl rfl, ⟨i, rfl, h3⟩, List.take_length⟩
  refine Wd [] ?_; simp +contextual -implicitDefEqProofs only [Tryz.ntmps173, Nat.reduceAdd, Nat.reduceSub, go_sem]
  refine AWp.loopI (fun k : Nat => ⟨mkF 19 [(0, .p (.sl (rs.map rvT))), (1, .fn g caps), (7, .p (.int .i64 rs.length)), (8, .p (.int .i64 k))], h⟩)
    (fun k => k ≤ rs.length ∧ (rs.take k).any pr = false) (fun k => rs.length - k) 0 (by simp [go_sem, Zy]) (by simp) ?_
  rintro k ⟨hk, h0⟩; refine Wd [] ?_; by_cases hlt : k < rs.length
  · have hgk : (rs.map rvT).getD k default = rvT rs[k] := Z5 _ _ _ _ hlt
    have hac := hg rs[k] (List.getElem_mem hlt); obtain ⟨r, hr⟩ : ∃ r, r = rs[k] := ⟨_, rfl⟩; rw [← hr] at hgk hac; have hmem : r ∈ rs := by rw [hr]; exact List.getElem_mem hlt
    cases hp : pr r
    · rw [hp] at hac
      obtain ⟨s, A, t, B⟩ := r; have hgk : (rs.map rvT).getD k default = .agg [.bool s, .str A, .bool t, .str B] := hgk; unfold rvT at hac
      dsimp only at hac
      simp -implicitDefEqProofs only [List.length_map, hlt, hgk, Int.toNat_natCast, go_sem]; refine Zl hac (by simp) ?_; rintro v h' ⟨rfl, rfl⟩; simp -implicitDefEqProofs only [Za, List.foldl, go_sem]; refine ⟨by simp only [InR]; omega, k + 1, by simp [Zy], ⟨hlt, ?_⟩, by omega⟩; rw [List.take_succ_eq_append_getElem hlt, List.any_append, h0]; simp [← hr, hp]
    · rw [hp] at hac
      obtain ⟨s, A, t, B⟩ := r; have hgk : (rs.map rvT).getD k default = .agg [.bool s, .str A, .bool t, .str B] := hgk; unfold rvT at hac
      dsimp only at hac
      simp -implicitDefEqProofs only [List.length_map, hlt, hgk, Int.toNat_natCast, go_sem]; refine Zl hac (by simp) ?_; rintro v h' ⟨rfl, rfl⟩; simp -implicitDefEqProofs only [Za, List.foldl, go_sem]; refine ⟨k, rfl, ?_⟩; rw [List.any_eq_true.2 ⟨_, hmem, hp⟩]; simp
  · simp -implicitDefEqProofs only [hlt, go_sem]
    exact ⟨-1, rfl, by rw [List.take_of_length_le (by omega)] at h0; rw [h0]; rfl⟩
theorem g109 {h : List AObj} {g : FuncId} {caps : List AV} {pr : RT → Bool} (rs : List RT) (hl : rs.length ≤ 9223372036854775807)
    (hg : ∀ r ∈ rs, AC Tryz.prog g (.p (rvT r) :: caps) h [] (fun v h' => v = .p (.bool (pr r)) ∧ h' = h)) :
    AC Tryz.prog 109 [.p (.sl (rs.map rvT)), .fn g caps] h [] (fun v h' => v = .p (.bool (rs.any pr)) ∧ h' = h) := by
  refine AC.of_bodyE hΓ Tryz.func109 (by kernel_rfl) rfl (AWp.mono (Q := fun e st => AM.Ends e ∧ st.tmps.getD 4 .junk = .p (.bool (rs.any pr)) ∧ st.h = h) ?_ ?_)
  rotate_left
  · rintro e ⟨tm, h'⟩ ⟨he, h1, h2⟩
    simp only at h1 h2; subst h2; refine ⟨he, _, Less.refl _, ?_⟩; unfold Z4q; simp +contextual -implicitDefEqProofs only [Tryz.results109, h1, go_sem]; exact ⟨_, Nat.le_refl _, .inl rfl, List.take_length⟩
  refine Wd [] ?_; simp +contextual -implicitDefEqProofs only [Tryz.ntmps109, Nat.reduceAdd, Nat.reduceSub, go_sem]; refine Zl (g173 rs hl hg) (by simp) ?_; rintro v h' ⟨⟨i, rfl, hi⟩, rfl⟩; simp -implicitDefEqProofs only [Za, List.foldl, go_sem]; exact hi

theorem g49 (n d : Nat) (hn0 : n ≠ 0) (hn : n < 16777216) (hd : d < 16777216) (hg : canT (true, magB n, false, magB d) = (true, magB n, false, magB d)) : PFn Tryz.prog 49 [rvT (true, magB n, false, magB d), ratV 0 1] [.int .i64 (-1)] := by
  have s3 : ∀ {k : Nat}, k < 16777216 → (magB k).length ≤ 3 := fun {k} hk => by
    rcases Nat.lt_or_ge 3 (magB k).length with h2 | h2
    · obtain ⟨j, hj⟩ : ∃ j, (magB k).length = j + 1 := ⟨(magB k).length - 1, by omega⟩
      have h3 := Z6o hj; have h4 : 256 ^ 3 ≤ 256 ^ j := Nat.pow_le_pow_right (by decide) (by omega); have h5 : (256 : Nat) ^ 3 = 16777216 := by decide
      omega
    · exact h2
  have e1 := g103 _ (show shT (true, magB n, false, magB d) from ⟨s3 hn, s3 hd⟩); rw [hg] at e1; have e2 := v97 0 1 Z0a one_cap (by omega); rw [ratV_zero (by omega)] at e2 ⊢; have m1 := g105 true n 1 (cap24 hn) one_cap; rw [Nat.mul_one, Z2h hn0] at m1; have m2 := u36 0 d Z0a (cap24 hd); rw [Nat.zero_mul] at m2; have c := g104 true (magB n) (s3 hn); rw [Z7] at c; unfold sgC at c; rw [if_neg hn0, if_pos rfl] at c; simp only [Z4] at m1 m2 c; unfold rvT intV at *; refine PFn.of_body hΓ Tryz.func49 (by kernel_rfl) rfl (Wd [(1, 1000), (2, 1000)] ?_); simp -implicitDefEqProofs only [Tryz.ntmps49, Tryz.results49, Nat.reduceAdd, Nat.reduceSub, go_sem]; refine AWp.planL (.q 0 (.q 2 (.e 1 (.s 2 (.e 3 (.e 4 (.e 5 .fin .nil) .nil) .nil)) .nil))) hΓ hmix (by kernel_rfl) ?_; simp -implicitDefEqProofs only [go_sem]; refine Z0 e1 (.still rfl) ?_; simp -implicitDefEqProofs only [go_sem]; refine Z0 e2 (.still rfl) ?_; simp -implicitDefEqProofs only [go_sem]; refine AWp.planL (.q 0 (.q 1 (.q 2 (.q 3 (.q 5 (.q 6 (.q 7 (.q 8 (.e 4 (.s 5 (.s 6 (.s 7 (.s 8 (.e 9 (.e 10 (.q 11 .fin) .nil) .nil))))) .nil))))))))) hΓ hmix (by kernel_rfl) ?_; simp -implicitDefEqProofs only [go_sem]; refine ⟨by omega, by omega, Z0 m1 (.still rfl) ?_⟩; simp -implicitDefEqProofs only [go_sem]; refine ⟨by omega, Z0 m2 (.still rfl) ?_⟩; simp -implicitDefEqProofs only [go_sem]; refine Z0 c (.still rfl) ?_; simp -implicitDefEqProofs only [go_sem]
end Go.Proofs.YtpljmccnfmkmfaaGreat.Kn
end

section
namespace Go.Proofs.YtpljmccnfmkmfaaGreat
open Go Go.AM Go.RowKit

def u8d (d : Nat) : PV := .int .u8 (d : Int)
def Z2t (n : Nat) (L : List Nat) : List PV := (List.replicate (n - L.length) 0 ++ L).map u8d
theorem Z9g {n : Nat} {L : List Nat} (h : L.length ≤ n) : (Z2t n L).length = n := by unfold Z2t; simp; omega
theorem Z9f {n d : Nat} {L : List Nat} (h : L.length < n) : (Z2t n L).set (n - (L.length + 1)) (u8d d) = Z2t n (d :: L) := by
  unfold Z2t; obtain ⟨z, hz⟩ : ∃ z, n - L.length = z + 1 := ⟨n - L.length - 1, by omega⟩; have hz2 : n - (L.length + 1) = z := by omega
  rw [List.length_cons, hz, hz2, List.replicate_succ', List.append_assoc, List.map_append, List.map_append]; rw [List.set_append_right _ _ (by simp)]; simp
theorem Z61 (L : List Nat) (h : ∀ d ∈ L, d < 256) : beN (L.map UInt8.ofNat) = valD 256 L.reverse := by
  rw [Z0r]; unfold Z3p lebs
  congr 1
  rw [← List.map_reverse, List.map_map]
  conv => rhs; rw [← List.map_id L.reverse]
  refine List.map_congr_left fun d hd => ?_
  have := h d (List.mem_reverse.1 hd); simp only [Function.comp, id, UInt8.toNat_ofNat']; omega

theorem Z28 (A : List UInt8) (k : Nat) : (lebs A).getD k 0 < 256 := by
  rw [List.getD_eq_getElem?_getD]
  cases h : (lebs A)[k]? with
  | none => decide
  | some d => exact Z52 A d (List.mem_of_getElem? h)
theorem Z8r {A : List UInt8} {k : Nat} (h : A.length ≤ k) : (lebs A).getD k 0 = 0 := by
  rw [List.getD_eq_getElem?_getD, List.getElem?_eq_none (by rw [Z19]; exact h)]; rfl
theorem Zjk (s : Nat) : IntKind.u8.wrap (s : Int) = ((s % 256 : Nat) : Int) := by
  show ((s : Int) % 256) = _; omega

theorem q106 (A C : List UInt8) (hA : A.length ≤ 1000) (hC : C.length ≤ 1000) : PFn Tryz.prog 207 [.str A, .str C] [.str (magB (beN A + beN C))] := by
  obtain ⟨n, hn⟩ : ∃ n, n = max A.length C.length + 1 := ⟨_, rfl⟩; have hAn : A.length < n := by omega
  have hCn : C.length < n := by omega
  have hn1 : n ≤ 1001 := by omega
  have hmax : (if A.length < C.length then (C.length : Int) else (A.length : Int)) + 1 = (n : Int) := by split <;> omega
  refine PFn.of_body hΓ Tryz.func207 (by kernel_rfl) rfl (AWp.seq (Wd [] ?_)); simp -implicitDefEqProofs only [Tryz.ntmps207, Tryz.results207, Nat.reduceAdd, Nat.reduceSub, go_sem]; refine AWp.seq (Wd [] ?_); simp -implicitDefEqProofs only [go_sem]; rw [hmax]; refine ⟨by simp only [InR]; omega, ?_⟩; refine AWp.seq (Wd [] ?_); simp -implicitDefEqProofs only [Int.toNat_natCast, go_sem]; refine ⟨⟨by omega, by omega⟩, ?_⟩; refine AWp.seq (Wd [] ?_); simp -implicitDefEqProofs only [go_sem]; refine AWp.seq (AWp.seq (Wd [] ?_)); simp -implicitDefEqProofs only [go_sem]; refine AWp.block ?_
  refine AWp.loopI (fun z : List Nat × Nat => ⟨mkF 60 [(0, .p (.str A)), (1, .p (.str C)), (5, .p (.int .i64 n)), (6, .own 0 n), (7, .p (.int .i64 z.2)), (8, .p (.int .i64 (z.1.length + 1 : Nat)))], [.row 5 1 (Z2t n z.1) .own]⟩)
    (fun z => z.1.length ≤ n ∧ (∀ d ∈ z.1, d < 256) ∧ z.2 ≤ 1 ∧ valD 256 z.1.reverse + z.2 * 256 ^ z.1.length = valD 256 ((lebs A).take z.1.length) + valD 256 ((lebs C).take z.1.length)) (fun z => n - z.1.length) ([], 0) (by
      simp [go_sem, Z2t, u8d]) ⟨by simp, by simp, by simp, by simp [valD]⟩ ?_
  rintro ⟨L, c⟩ ⟨hL, hLd, hc, hv⟩; simp only at hL hLd hc hv; simp -implicitDefEqProofs only [go_sem]; refine Wd [] ?_; by_cases hlt : L.length < n
  · have hlt' : ((L.length + 1 : Nat) : Int) ≤ (n : Int) := by omega
    obtain ⟨a, ha⟩ : ∃ a, a = (lebs A).getD L.length 0 := ⟨_, rfl⟩; obtain ⟨b, hb⟩ : ∃ b, b = (lebs C).getD L.length 0 := ⟨_, rfl⟩; have ha256 : a < 256 := by rw [ha]; exact Z28 _ _
    have hb256 : b < 256 := by rw [hb]; exact Z28 _ _
    obtain ⟨s, hs⟩ : ∃ s, s = c + a + b := ⟨_, rfl⟩; have hwa : IntKind.i64.wrap (a : Int) = a := InR.wrap (k := .i64) (by simp only [InR]; omega); have hwb : IntKind.i64.wrap (b : Int) = b := InR.wrap (k := .i64) (by simp only [InR]; omega); have hw8 : IntKind.u8.wrap (s : Int) = ((s % 256 : Nat) : Int) := Zjk s; have hsd : (s : Int) / 2 ^ Int.toNat 8 = ((s / 256 : Nat) : Int) := by
      have : (2 : Int) ^ Int.toNat 8 = ((256 : Nat) : Int) := rfl; rw [this, Int.natCast_ediv]
    have eA : ∀ h : L.length + 1 ≤ A.length, ((A.getD ((A.length : Int) - ((L.length + 1 : Nat) : Int)).toNat 0).toNat : Nat) = a := fun h => by
      rw [ha, Z2g (by omega)]; congr 2; omega
    have eC : ∀ h : L.length + 1 ≤ C.length, ((C.getD ((C.length : Int) - ((L.length + 1 : Nat) : Int)).toNat 0).toNat : Nat) = b := fun h => by
      rw [hb, Z2g (by omega)]; congr 2; omega
    have zA : ¬ L.length + 1 ≤ A.length → a = 0 := fun h => by rw [ha]; exact Z8r (by omega)
    have zC : ¬ L.length + 1 ≤ C.length → b = 0 := fun h => by rw [hb]; exact Z8r (by omega)
    have eik : ((n : Int) - ((L.length + 1 : Nat) : Int)).toNat = n - (L.length + 1) := by omega
    have hset : (Z2t n L).set (n - (L.length + 1)) (.int .u8 ((s % 256 : Nat) : Int)) = Z2t n (s % 256 :: L) := Z9f hlt; have hlen := Z9g hL; have hnew : valD 256 (s % 256 :: L).reverse + s / 256 * 256 ^ (L.length + 1) = valD 256 ((lebs A).take (L.length + 1)) + valD 256 ((lebs C).take (L.length + 1)) := by
      rw [Zh, Zh, ← ha, ← hb, List.reverse_cons, Zg, List.length_reverse, Nat.pow_succ]; have e1 : valD 256 [s % 256] = s % 256 := by simp [valD]
      rw [e1]; have e2 : s % 256 + 256 * (s / 256) = s := Nat.mod_add_div s 256; generalize 256 ^ L.length = P at *; have e3 : P * (s % 256) + s / 256 * (P * 256) = P * s := by
        conv => rhs; rw [← e2, Nat.mul_add]
        rw [Nat.mul_comm (s / 256), Nat.mul_assoc]
      have e4 : P * s = c * P + a * P + b * P := by rw [hs, Nat.mul_comm, Nat.add_mul, Nat.add_mul]
      omega
    have hend : ∃ z : List Nat × Nat, z = (s % 256 :: L, s / 256) ∧ (z.1.length ≤ n ∧ (∀ d ∈ z.1, d < 256) ∧ z.2 ≤ 1 ∧ valD 256 z.1.reverse + z.2 * 256 ^ z.1.length = valD 256 ((lebs A).take z.1.length) + valD 256 ((lebs C).take z.1.length)) ∧ n - z.1.length < n - L.length :=
      ⟨_, rfl, ⟨by simp; omega, fun d hd => by
        rcases List.mem_cons.1 hd with rfl | hd
        · exact Nat.mod_lt _ (by decide)
        · exact hLd d hd, by simp only; omega, by simpa using hnew⟩, by simp; omega⟩
    obtain ⟨z, hz, hz1, hz2⟩ := hend; subst hz; by_cases hA1 : L.length + 1 ≤ A.length
    · have eA := eA hA1
      by_cases hC1 : L.length + 1 ≤ C.length
      · have eC := eC hC1
        have es : (c : Int) + (a : Int) + (b : Int) = (s : Int) := by omega
        simp -implicitDefEqProofs only [hlt', hA1, hC1, eA, eC, hwa, hwb, es, hw8, hsd, eik, hset, go_sem]; refine ⟨by simp only [InR]; omega, ⟨by omega, by omega⟩, by simp only [InR]; omega, by simp only [InR]; omega, ⟨by omega, by omega⟩, by simp only [InR]; omega, by simp only [InR]; omega, ?_⟩; exact ⟨⟨by omega, by omega⟩, ⟨by omega, rfl⟩, ⟨by decide, by decide⟩, by simp only [InR]; omega, _, ⟨⟨rfl, by simp⟩, .inl rfl⟩, hz1, hz2⟩
      · have zC := zC hC1
        have es : (c : Int) + (a : Int) = (s : Int) := by omega
        simp -implicitDefEqProofs only [hlt', hA1, hC1, eA, hwa, es, hw8, hsd, eik, hset, go_sem]; refine ⟨by simp only [InR]; omega, ⟨by omega, by omega⟩, by simp only [InR]; omega, by simp only [InR]; omega, ?_⟩; exact ⟨⟨by omega, by omega⟩, ⟨by omega, rfl⟩, ⟨by decide, by decide⟩, by simp only [InR]; omega, _, ⟨⟨rfl, by simp⟩, .inl rfl⟩, hz1, hz2⟩
    · have zA := zA hA1
      by_cases hC1 : L.length + 1 ≤ C.length
      · have eC := eC hC1
        have es : (c : Int) + (b : Int) = (s : Int) := by omega
        simp -implicitDefEqProofs only [hlt', hA1, hC1, eC, hwb, es, hw8, hsd, eik, hset, go_sem]; refine ⟨by simp only [InR]; omega, ⟨by omega, by omega⟩, by simp only [InR]; omega, by simp only [InR]; omega, ?_⟩; exact ⟨⟨by omega, by omega⟩, ⟨by omega, rfl⟩, ⟨by decide, by decide⟩, by simp only [InR]; omega, _, ⟨⟨rfl, by simp⟩, .inl rfl⟩, hz1, hz2⟩
      · have zC := zC hC1
        have es : (c : Int) = (s : Int) := by omega
        simp -implicitDefEqProofs only [hlt', hA1, hC1, es, hw8, hsd, eik, hset, go_sem]; refine ⟨by simp only [InR]; omega, ?_⟩; exact ⟨⟨by omega, by omega⟩, ⟨by omega, rfl⟩, ⟨by decide, by decide⟩, by simp only [InR]; omega, _, ⟨⟨rfl, by simp⟩, .inl rfl⟩, hz1, hz2⟩
  · have hLn : L.length = n := by omega
    have hlt' : ¬ ((L.length + 1 : Nat) : Int) ≤ (n : Int) := by omega
    have hz1 : valD 256 L.reverse + c * 256 ^ n = beN A + beN C := by
      rw [hLn, List.take_of_length_le (by rw [Z19]; omega), List.take_of_length_le (by rw [Z19]; omega)] at hv; rw [Z0r, Z0r]; exact hv
    have hAl := Z2n _ A rfl; have hCl := Z2n _ C rfl; have p1 : 256 ^ A.length ≤ 256 ^ (n - 1) := Nat.pow_le_pow_right (by decide) (by omega); have p2 : 256 ^ C.length ≤ 256 ^ (n - 1) := Nat.pow_le_pow_right (by decide) (by omega); have p3 : 256 ^ n = 256 ^ (n - 1) * 256 := by rw [← Nat.pow_succ]; congr 1; omega
    have hc0 : c = 0 := by
      rcases (by omega : c = 0 ∨ c = 1) with h | h
      · exact h
      · exfalso
        subst h; omega
    have hval : beN (L.map UInt8.ofNat) = beN A + beN C := by
      rw [Z61 L hLd]; rw [hc0] at hz1; omega
    have hrow : Z2t n L = L.map u8d := by unfold Z2t; rw [hLn, Nat.sub_self]; rfl
    have e113 := q113 (L.map UInt8.ofNat) (by simp; omega); rw [hval] at e113; simp -implicitDefEqProofs only [hlt', hrow, go_sem]; refine AWp.seq (Wd [] ?_); simp -implicitDefEqProofs only [go_sem]; have hmap : L.map u8d = (L.map UInt8.ofNat).map u8V := by
      rw [List.map_map]; refine List.map_congr_left fun d hd => ?_
      have := hLd d hd; show PV.int .u8 (d : Int) = PV.int .u8 ((UInt8.ofNat d).toNat : Int); rw [UInt8.toNat_ofNat', Nat.mod_eq_of_lt this]
    refine ⟨⟨5, rfl, rfl⟩, _, hmap, Z0 e113 (.pures rfl) ?_⟩; simp -implicitDefEqProofs only [go_sem]; refine Wd [] ?_; simp -implicitDefEqProofs only [go_sem]

theorem q209 (A C : List UInt8) (hA : A.length ≤ 1000) (hC : C.length ≤ A.length) (hle : beN C ≤ beN A) : PFn Tryz.prog 209 [.str A, .str C] [.str (magB (beN A - beN C))] := by
  obtain ⟨n, hn⟩ : ∃ n, n = A.length := ⟨_, rfl⟩; refine PFn.of_body hΓ Tryz.func209 (by kernel_rfl) rfl (AWp.seq (Wd [] ?_)); simp -implicitDefEqProofs only [Tryz.ntmps209, Tryz.results209, Nat.reduceAdd, Nat.reduceSub, go_sem]; refine AWp.seq (Wd [] ?_); simp -implicitDefEqProofs only [Int.toNat_natCast, go_sem]; refine ⟨⟨by omega, by omega⟩, ?_⟩; refine AWp.seq (Wd [] ?_); simp -implicitDefEqProofs only [go_sem]; refine AWp.seq (AWp.seq (Wd [] ?_)); simp -implicitDefEqProofs only [go_sem]; refine AWp.block ?_
  refine AWp.loopI (fun z : List Nat × Nat => ⟨mkF 55 [(0, .p (.str A)), (1, .p (.str C)), (5, .own 0 n), (6, .p (.int .i64 z.2)), (7, .p (.int .i64 (z.1.length + 1 : Nat)))], [.row 5 1 (Z2t n z.1) .own]⟩)
    (fun z => z.1.length ≤ n ∧ (∀ d ∈ z.1, d < 256) ∧ z.2 ≤ 1 ∧ valD 256 z.1.reverse + valD 256 ((lebs C).take z.1.length) = valD 256 ((lebs A).take z.1.length) + z.2 * 256 ^ z.1.length) (fun z => n - z.1.length) ([], 0) (by
      rw [hn]; simp [go_sem, Z2t, u8d]) ⟨by simp, by simp, by simp, by simp [valD]⟩ ?_
  rintro ⟨L, c⟩ ⟨hL, hLd, hc, hv⟩; simp only at hL hLd hc hv; simp -implicitDefEqProofs only [go_sem]; refine Wd [] ?_; by_cases hlt : L.length < n
  · have hlt' : ((L.length + 1 : Nat) : Int) ≤ (A.length : Int) := by omega
    obtain ⟨a, ha⟩ : ∃ a, a = (lebs A).getD L.length 0 := ⟨_, rfl⟩; obtain ⟨b, hb⟩ : ∃ b, b = (lebs C).getD L.length 0 := ⟨_, rfl⟩; have ha256 : a < 256 := by rw [ha]; exact Z28 _ _
    have hb256 : b < 256 := by rw [hb]; exact Z28 _ _
    have hwa : IntKind.i64.wrap (a : Int) = a := InR.wrap (k := .i64) (by simp only [InR]; omega); have hwb : IntKind.i64.wrap (b : Int) = b := InR.wrap (k := .i64) (by simp only [InR]; omega); have eA : ((A.getD (n - (L.length + 1)) 0).toNat : Nat) = a := by
      rw [ha, Z2g (by omega)]; congr 2; omega
    have eC : ∀ h : L.length + 1 ≤ C.length, ((C.getD ((C.length : Int) - ((L.length + 1 : Nat) : Int)).toNat 0).toNat : Nat) = b := fun h => by
      rw [hb, Z2g (by omega)]; congr 2; omega
    have zC : ¬ L.length + 1 ≤ C.length → b = 0 := fun h => by rw [hb]; exact Z8r (by omega)
    have eik : ((A.length : Int) - ((L.length + 1 : Nat) : Int)).toNat = n - (L.length + 1) := by omega
    obtain ⟨d, e, hd256, he1, hde⟩ : ∃ d e : Nat, d < 256 ∧ e ≤ 1 ∧ d + c + b = a + e * 256 := by
      by_cases h : a < c + b
      · exact ⟨a + 256 - c - b, 1, by omega, by omega, by omega⟩
      · exact ⟨a - c - b, 0, by omega, by omega, by omega⟩
    have hw8 : IntKind.u8.wrap (d : Int) = d := InR.wrap (k := .u8) (by simp only [InR]; omega); have hset : (Z2t n L).set (n - (L.length + 1)) (.int .u8 (d : Int)) = Z2t n (d :: L) := Z9f hlt; have hlen := Z9g hL; have hnew : valD 256 (d :: L).reverse + valD 256 ((lebs C).take (L.length + 1)) = valD 256 ((lebs A).take (L.length + 1)) + e * 256 ^ (L.length + 1) := by
      rw [Zh, Zh, ← ha, ← hb, List.reverse_cons, Zg, List.length_reverse, Nat.pow_succ]; have e1 : valD 256 [d] = d := by simp [valD]
      rw [e1]; generalize 256 ^ L.length = P at *; have e4 : P * d + c * P + b * P = a * P + e * (P * 256) := by
        have := congrArg (· * P) hde; simp only [Nat.add_mul] at this; rw [Nat.mul_comm P d, show e * (P * 256) = e * 256 * P by rw [Nat.mul_comm P 256, Nat.mul_assoc]]; exact this
      omega
    have hend : ∃ z : List Nat × Nat, z = (d :: L, e) ∧ (z.1.length ≤ n ∧ (∀ d ∈ z.1, d < 256) ∧ z.2 ≤ 1 ∧ valD 256 z.1.reverse + valD 256 ((lebs C).take z.1.length) = valD 256 ((lebs A).take z.1.length) + z.2 * 256 ^ z.1.length) ∧ n - z.1.length < n - L.length :=
      ⟨_, rfl, ⟨by simp; omega, fun x hx => by
        rcases List.mem_cons.1 hx with rfl | hx
        · exact hd256
        · exact hLd x hx, he1, by simpa using hnew⟩, by simp; omega⟩
    obtain ⟨z, hz, hz1, hz2⟩ := hend; subst hz; by_cases hC1 : L.length + 1 ≤ C.length
    · have eC := eC hC1
      have hC1' : ((L.length + 1 : Nat) : Int) ≤ (C.length : Int) := by omega
      rcases (by omega : e = 0 ∨ e = 1) with h | h
      · subst h
        have es : (a : Int) - (c : Int) - (b : Int) = (d : Int) := by omega
        have es0 : ¬ (d : Int) < 0 := by omega
        simp -implicitDefEqProofs only [hlt', hC1, hC1', eA, eC, hwa, hwb, es, es0, hw8, eik, hset, go_sem]; exact ⟨by simp only [InR]; omega, ⟨by omega, by omega⟩, by simp only [InR]; omega, by simp only [InR]; omega, ⟨by omega, by omega⟩, by simp only [InR]; omega, by simp only [InR]; omega, ⟨by omega, by omega⟩, ⟨by omega, rfl⟩, by simp only [InR]; omega, _, ⟨⟨rfl, by simp⟩, .inl rfl⟩, hz1, hz2⟩
      · subst h
        have es : (a : Int) - (c : Int) - (b : Int) + 256 = (d : Int) := by omega
        have es0 : (a : Int) - (c : Int) - (b : Int) < 0 := by omega
        simp -implicitDefEqProofs only [hlt', hC1, hC1', eA, eC, hwa, hwb, es, es0, hw8, eik, hset, go_sem]; exact ⟨by simp only [InR]; omega, ⟨by omega, by omega⟩, by simp only [InR]; omega, by simp only [InR]; omega, ⟨by omega, by omega⟩, by simp only [InR]; omega, by simp only [InR]; omega, by simp only [InR]; omega, ⟨by omega, by omega⟩, ⟨by omega, rfl⟩, by simp only [InR]; omega, _, ⟨⟨rfl, by simp⟩, .inl rfl⟩, hz1, hz2⟩
    · have zC := zC hC1
      have hC1' : ¬ ((L.length + 1 : Nat) : Int) ≤ (C.length : Int) := by omega
      rcases (by omega : e = 0 ∨ e = 1) with h | h
      · subst h
        have es : (a : Int) - (c : Int) = (d : Int) := by omega
        have es0 : ¬ (d : Int) < 0 := by omega
        simp -implicitDefEqProofs only [hlt', hC1, hC1', eA, hwa, es, es0, hw8, eik, hset, go_sem]; exact ⟨by simp only [InR]; omega, ⟨by omega, by omega⟩, by simp only [InR]; omega, by simp only [InR]; omega, ⟨by omega, by omega⟩, ⟨by omega, rfl⟩, by simp only [InR]; omega, _, ⟨⟨rfl, by simp⟩, .inl rfl⟩, hz1, hz2⟩
      · subst h
        have es : (a : Int) - (c : Int) + 256 = (d : Int) := by omega
        have es0 : (a : Int) - (c : Int) < 0 := by omega
        simp -implicitDefEqProofs only [hlt', hC1, hC1', eA, hwa, es, es0, hw8, eik, hset, go_sem]; exact ⟨by simp only [InR]; omega, ⟨by omega, by omega⟩, by simp only [InR]; omega, by simp only [InR]; omega, by simp only [InR]; omega, ⟨by omega, by omega⟩, ⟨by omega, rfl⟩, by simp only [InR]; omega, _, ⟨⟨rfl, by simp⟩, .inl rfl⟩, hz1, hz2⟩
  · have hLn : L.length = n := by omega
    have hlt' : ¬ ((L.length + 1 : Nat) : Int) ≤ (A.length : Int) := by omega
    have hz1 : valD 256 L.reverse + beN C = beN A + c * 256 ^ n := by
      rw [hLn, List.take_of_length_le (by rw [Z19]; omega), List.take_of_length_le (by rw [Z19]; omega)] at hv; rw [Z0r, Z0r]; exact hv
    have hlv : valD 256 L.reverse < 256 ^ n := by
      rw [← Z61 L hLd]; exact Z2n _ _ (by simp [hLn])
    have hval : beN (L.map UInt8.ofNat) = beN A - beN C := by
      rw [Z61 L hLd]; rcases (by omega : c = 0 ∨ c = 1) with h | h
      · subst h; omega
      · subst h; omega
    have hrow : Z2t n L = L.map u8d := by unfold Z2t; rw [hLn, Nat.sub_self]; rfl
    have e113 := q113 (L.map UInt8.ofNat) (by simp; omega); rw [hval] at e113; simp -implicitDefEqProofs only [hlt', hrow, go_sem]; refine AWp.seq (Wd [] ?_); simp -implicitDefEqProofs only [go_sem]; have hmap : L.map u8d = (L.map UInt8.ofNat).map u8V := by
      rw [List.map_map]; refine List.map_congr_left fun d hd => ?_
      have := hLd d hd; show PV.int .u8 (d : Int) = PV.int .u8 ((UInt8.ofNat d).toNat : Int); rw [UInt8.toNat_ofNat', Nat.mod_eq_of_lt this]
    refine ⟨⟨5, rfl, rfl⟩, _, hmap, Z0 e113 (.pures rfl) ?_⟩; simp -implicitDefEqProofs only [go_sem]; refine Wd [] ?_; simp -implicitDefEqProofs only [go_sem]

def revR (l : List Nat) : List PV := l.reverse.map Kn.nV
theorem Z4d (l : List Nat) : (revR l).length = l.length := by unfold revR; simp
theorem Zbz {l : List Nat} {j i : Nat} (hj : j < l.length) (hi : i = l.length - 1 - j) : (revR l).getD i default = .int .i64 ((l.getD j 0 : Nat) : Int) := by
  subst hi; unfold revR; rw [List.getD_eq_getElem?_getD, List.getElem?_map, List.getElem?_reverse (by omega), List.getD_eq_getElem?_getD, show l.length - 1 - (l.length - 1 - j) = j by omega, List.getElem?_eq_getElem hj]; rfl
theorem Zby {l : List Nat} {j i v : Nat} (hj : j < l.length) (hi : i = l.length - 1 - j) : (revR l).set i (.int .i64 (v : Int)) = revR (l.set j v) := by
  subst hi; unfold revR; rw [show (PV.int .i64 (v : Int)) = Kn.nV v from rfl, ← List.map_set]
  congr 1
  refine List.ext_getElem? fun k => ?_
  rw [List.getElem?_set]; by_cases hk : k < l.length
  · have e1 : (l.set j v).reverse[k]? = (l.set j v)[(l.set j v).length - 1 - k]? := List.getElem?_reverse (by simpa using hk)
    rw [e1, List.getElem?_reverse hk, List.length_set, List.getElem?_set]; by_cases h : l.length - 1 - j = k
    · rw [if_pos h, if_pos (by simp; omega), if_pos (by omega), if_pos (by omega)]
    · rw [if_neg h, if_neg (by omega)]
  · rw [List.getElem?_eq_none (by simp; omega), List.getElem?_eq_none (l := (l.set j v).reverse) (by simp; omega), List.length_reverse]
    by_cases h : l.length - 1 - j = k
    · exact absurd h (by omega)
    · rw [if_neg h]
theorem Zif {o : List Nat} {i : Nat} {r : List Nat} {z : Nat} (h : i + r.length < o.length) : (mulR o i r z).getD (i + r.length) 0 = o.getD (i + r.length) 0 := by
  have hl : (o.take i ++ r).length = i + r.length := by simp; omega
  unfold mulR; rw [List.getD_eq_getElem?_getD, List.append_assoc, List.getElem?_append_right (by omega), hl, Nat.sub_self, List.drop_eq_getElem_cons h, List.getD_eq_getElem?_getD, List.getElem?_eq_getElem h]; rfl
theorem Zie {o : List Nat} {i : Nat} {r : List Nat} {z v : Nat} (h : i + r.length < o.length) : (mulR o i r z).set (i + r.length) v = mulR o i (r ++ [v]) z := by
  have hl : (o.take i ++ r).length = i + r.length := by simp; omega
  unfold mulR; rw [List.append_assoc (o.take i ++ r), List.set_append_right _ _ (by omega), hl, Nat.sub_self, List.drop_eq_getElem_cons h]; simp [Nat.add_assoc]
theorem Zig {o : List Nat} {i : Nat} {r : List Nat} {z v : Nat} (h : i + r.length = o.length) : (mulR o i r (z + 1)).set (i + r.length) v = (o.take i ++ r ++ [v]) ++ List.replicate z 0 := by
  have hl : (o.take i ++ r).length = i + r.length := by simp; omega
  unfold mulR; rw [h, List.drop_length, List.append_nil, ← h, List.set_append_right _ _ (by omega), hl, Nat.sub_self, List.replicate_succ]; simp
theorem Zf2 {o : List Nat} {i : Nat} {r : List Nat} {z : Nat} (h : i + r.length = o.length) : (mulR o i r (z + 1)).getD (i + r.length) 0 = 0 := by
  have hl : (o.take i ++ r).length = i + r.length := by simp; omega
  unfold mulR; rw [h, List.drop_length, List.append_nil, ← h, List.getD_eq_getElem?_getD, List.getElem?_append_right (by omega), hl, Nat.sub_self, List.replicate_succ]
  rfl
theorem Zs9 (s : Nat) (hs : s < 9223372036854775808) : Z1n .and .i64 (s : Int) 255 = ((s % 256 : Nat) : Int) := by
  have e : (BitVec.ofInt 64 (s : Int) &&& BitVec.ofInt 64 255).toNat = s % 256 := by
    have h255 : BitVec.ofInt 64 255 = BitVec.ofNat 64 255 := by decide
    rw [h255, BitVec.toNat_and, BitVec.ofInt_natCast, BitVec.toNat_ofNat, BitVec.toNat_ofNat, Nat.mod_eq_of_lt (by omega : s < 2 ^ 64)]; have := Nat.and_two_pow_sub_one_eq_mod s 8; have e8 : 255 % 2 ^ 64 = 2 ^ 8 - 1 := by decide
    rw [e8, this]
  show IntKind.wrap .i64 ((BitVec.ofInt 64 (s : Int) &&& BitVec.ofInt 64 255).toNat : Nat) = _; rw [e]; exact AM.InR.wrap (k := .i64) (by simp only [AM.InR]; omega)

def Z2p (n : Nat) (L : List Nat) : List PV := (L ++ List.replicate (n - L.length) 0).map u8d
theorem Za8 {n : Nat} {L : List Nat} (h : L.length ≤ n) : (Z2p n L).length = n := by unfold Z2p; simp; omega
theorem Za7 {n d : Nat} {L : List Nat} (h : L.length < n) : (Z2p n L).set L.length (u8d d) = Z2p n (L ++ [d]) := by
  unfold Z2p; obtain ⟨z, hz⟩ : ∃ z, n - L.length = z + 1 := ⟨n - L.length - 1, by omega⟩; have hz2 : n - (L ++ [d]).length = z := by simp; omega
  rw [hz2, hz, List.replicate_succ, List.map_append, List.map_append, List.set_append_right _ _ (by simp)]; simp

theorem q108 (A C : List UInt8) (hA : A.length ≤ 1000) (hC : C.length ≤ 1000) : PFn Tryz.prog 210 [.str A, .str C] [.str (magB (beN A * beN C))] := by
  obtain ⟨la, hla⟩ : ∃ n, n = A.length := ⟨_, rfl⟩; obtain ⟨lb, hlb⟩ : ∃ n, n = C.length := ⟨_, rfl⟩; have hx : ∀ d ∈ lebs A, d < 256 := Z52 A; have hy : ∀ d ∈ lebs C, d < 256 := Z52 C; have lx : (lebs A).length = la := by rw [Z19, hla]
  have ly : (lebs C).length = lb := by rw [Z19, hlb]
  have eL : ((la : Int) + (lb : Int)).toNat = la + lb := by omega
  refine PFn.of_body hΓ Tryz.func210 (by kernel_rfl) rfl (AWp.seq (Wd [] ?_)); simp -implicitDefEqProofs only [Tryz.ntmps210, Tryz.results210, Nat.reduceAdd, Nat.reduceSub, go_sem]; refine AWp.seq (Wd [] ?_); simp -implicitDefEqProofs only [← hla, ← hlb, eL, go_sem]; refine ⟨by simp only [InR]; omega, ⟨by omega, by omega, by omega⟩, ?_⟩; refine AWp.seq (AWp.seq (Wd [] ?_)); simp -implicitDefEqProofs only [← hla, ← hlb, go_sem]; refine ⟨by simp only [InR]; omega, ?_⟩; refine AWp.block ?_
  refine AWp.loopI (fun z : Nat × List Nat => ⟨mkF 87 [(0, .p (.str A)), (1, .p (.str C)), (5, .own 0 (la + lb)), (6, .p (.int .i64 ((la : Int) - 1 - z.1)))], [.row 3 1 (revR (z.2 ++ List.replicate (la - z.1) 0)) .own]⟩)
    (fun z => z.1 ≤ la ∧ z.2.length = z.1 + lb ∧ (∀ d ∈ z.2, d < 256) ∧ valD 256 z.2 = valD 256 ((lebs A).take z.1) * valD 256 (lebs C)) (fun z => la - z.1) (0, List.replicate lb 0) (by
      simp [go_sem, revR, Kn.nV, List.replicate_append_replicate, Nat.add_comm]) ⟨by simp, by simp, fun d hd => by rw [List.eq_of_mem_replicate hd]; decide, by simp [valD, Z7g]⟩ ?_
  rintro ⟨p, o⟩ ⟨hi, ho, hod, hval⟩; simp only at hi ho hod hval; refine Wd [(9, 19)] ?_; by_cases hlt : p < la
  · have hge : (0 : Int) ≤ (la : Int) - 1 - (p : Int) := by omega
    have ta := Zh (l := lebs A) 256 p; have gA : (A.getD ((la : Int) - 1 - (p : Int)).toNat 0).toNat = (lebs A).getD p 0 := by
      rw [Z2g (by omega)]; congr 2; omega
    have da : (lebs A).getD p 0 < 256 := Z28 _ _; generalize (lebs A).getD p 0 = a at *; have hwa : IntKind.i64.wrap (a : Int) = a := InR.wrap (k := .i64) (by simp only [InR]; omega); simp -implicitDefEqProofs only [hge, ← hla, ← hlb, go_sem]; refine ⟨by simp only [InR]; omega, ?_⟩
    refine AWp.loopI (fun z : List Nat × Nat => ⟨mkF 87 [(0, .p (.str A)), (1, .p (.str C)), (5, .own 0 (la + lb)), (6, .p (.int .i64 ((la : Int) - 1 - p))), (7, .p (.int .i64 z.2)), (8, .p (.int .i64 ((lb : Int) - 1 - (z.1.length : Int))))], [.row 3 1 (revR (mulR o p z.1 (la - p))) .own]⟩)
      (fun z => z.1.length ≤ lb ∧ (∀ d ∈ z.1, d < 256) ∧ z.2 < 256 ∧ valD 256 z.1 + z.2 * 256 ^ z.1.length = valD 256 ((o.drop p).take z.1.length) + a * valD 256 ((lebs C).take z.1.length)) (fun z => lb - z.1.length) ([], 0) (by
        simp [go_sem, Z5s]) ⟨by simp, by simp, by decide, by simp [valD]⟩ ?_
    rintro ⟨r, c⟩ ⟨hr, hrd, hc, hv⟩; simp only at hr hrd hc hv; refine Wd [(9, 19)] ?_; by_cases hlt2 : r.length < lb
    · have hge2 : (0 : Int) ≤ (lb : Int) - 1 - (r.length : Int) := by omega
      have tc := Zh (l := lebs C) 256 r.length; have gC : (C.getD ((lb : Int) - 1 - (r.length : Int)).toNat 0).toNat = (lebs C).getD r.length 0 := by
        rw [Z2g (by omega)]; congr 2; omega
      have dc : (lebs C).getD r.length 0 < 256 := Z28 _ _; have hio : p + r.length < o.length := by omega
      have to := Zh (l := o.drop p) 256 r.length; have hgo2 : (o.drop p).getD r.length 0 = o.getD (p + r.length) 0 := by
        rw [List.getD_eq_getElem?_getD, List.getElem?_drop, List.getD_eq_getElem?_getD]
      have hlen := Z13 (z := la - p) (Nat.le_of_lt hio); have hgo : (revR (mulR o p r (la - p))).getD ((la : Int) - 1 - (p : Int) + ((lb : Int) - 1 - (r.length : Int)) + 1).toNat default = .int .i64 ((o.getD (p + r.length) 0 : Nat) : Int) := by
        rw [Zbz (j := p + r.length) (by rw [hlen]; omega) (by rw [hlen]; omega), Zif hio]
      have dO : o.getD (p + r.length) 0 < 256 := by
        rw [List.getD_eq_getElem?_getD, List.getElem?_eq_getElem hio, Option.getD_some]; exact hod _ (List.getElem_mem hio)
      rw [hgo2] at to; generalize (lebs C).getD r.length 0 = b at *; generalize hqv : o.getD (p + r.length) 0 = qv at *; have hab : a * b ≤ 255 * 255 := Nat.mul_le_mul (by omega) (by omega); obtain ⟨ab, habE⟩ : ∃ ab, ab = a * b := ⟨_, rfl⟩; rw [← habE] at hab; have habI : (a : Int) * (b : Int) = (ab : Int) := by rw [habE]; simp
      have hwb : IntKind.i64.wrap (b : Int) = b := InR.wrap (k := .i64) (by simp only [InR]; omega); obtain ⟨s, hs⟩ : ∃ s, s = c + (qv + ab) := ⟨_, rfl⟩; have hsI : (c : Int) + ((qv : Int) + (ab : Int)) = (s : Int) := by omega
      have hsd : (s : Int) / 2 ^ Int.toNat 8 = ((s / 256 : Nat) : Int) := by
        have : (2 : Int) ^ Int.toNat 8 = ((256 : Nat) : Int) := rfl; rw [this, Int.natCast_ediv]
      have h255 := Zs9 s (by omega); have hset : (revR (mulR o p r (la - p))).set ((la : Int) - 1 - (p : Int) + ((lb : Int) - 1 - (r.length : Int)) + 1).toNat (.int .i64 ((s % 256 : Nat) : Int)) = revR (mulR o p (r ++ [s % 256]) (la - p)) := by
        rw [Zby (j := p + r.length) (by rw [hlen]; omega) (by rw [hlen]; omega), Zie hio]
      simp -implicitDefEqProofs only [hge2, gA, gC, hwa, hwb, habI, hgo, hsI, h255, hsd, hset, ← hla, ← hlb, Z4d, hlen, go_sem]; have hvv : valD 256 (r ++ [s % 256]) + s / 256 * 256 ^ (r.length + 1) = valD 256 ((o.drop p).take (r.length + 1)) + a * valD 256 ((lebs C).take (r.length + 1)) := by
        rw [to, tc, Zg, Nat.pow_succ]; have e1 : valD 256 [s % 256] = s % 256 := by simp [valD]
        rw [e1]; have e2 : s % 256 + 256 * (s / 256) = s := Nat.mod_add_div s 256; generalize hP : 256 ^ r.length = P at *; have e3 : P * (s % 256) + s / 256 * (P * 256) = P * s := by
          conv => rhs; rw [← e2, Nat.mul_add]
          rw [Nat.mul_comm (s / 256), Nat.mul_assoc]
        have e4 : P * s = c * P + (qv * P + ab * P) := by rw [hs, Nat.mul_comm, Nat.add_mul, Nat.add_mul]
        have e5 : a * (valD 256 ((lebs C).take r.length) + b * P) = a * valD 256 ((lebs C).take r.length) + ab * P := by rw [Nat.mul_add, habE, Nat.mul_assoc]
        omega
      have hcb : s / 256 < 256 := by omega
      refine ⟨by simp only [InR]; omega, by simp only [InR]; omega, ⟨by omega, by omega⟩, by omega, ⟨by omega, by omega⟩, by omega, by simp only [InR]; omega, by simp only [InR]; omega, by simp only [InR]; omega, by simp only [InR]; omega, by simp only [InR]; omega, ⟨by omega, by omega⟩, ⟨by omega, rfl⟩, ⟨by decide, by decide⟩, by simp only [InR]; omega,
        (r ++ [s % 256], s / 256), ⟨⟨rfl, by simp; omega⟩, .inl rfl⟩, ⟨by simp; omega, fun d hd => ?_, hcb, by simpa using hvv⟩, by simp; omega⟩
      rcases List.mem_append.1 hd with hd | hd
      · exact hrd d hd
      · rw [List.mem_singleton] at hd; subst hd; exact Nat.mod_lt _ (by decide)
    · have hrn : r.length = lb := by omega
      have hz : ¬ (0 : Int) ≤ (lb : Int) - 1 - (r.length : Int) := by omega
      have hpo : p + r.length = o.length := by omega
      have hlen := Z13 (z := la - p) (Nat.le_of_eq hpo); have hld : (revR (mulR o p r (la - p))).getD ((la : Int) - 1 - (p : Int)).toNat default = .int .i64 ((0 : Nat) : Int) := by
        rw [Zbz (j := p + r.length) (by rw [hlen]; omega) (by rw [hlen]; omega)]; have := Zf2 (o := o) (i := p) (r := r) (z := la - (p + 1)) hpo; rw [show la - (p + 1) + 1 = la - p by omega] at this; rw [this]
      have hset : (revR (mulR o p r (la - p))).set ((la : Int) - 1 - (p : Int)).toNat (.int .i64 (c : Int)) = revR ((o.take p ++ r ++ [c]) ++ List.replicate (la - (p + 1)) 0) := by
        rw [Zby (j := p + r.length) (by rw [hlen]; omega) (by rw [hlen]; omega)]; have := Zig (o := o) (i := p) (r := r) (z := la - (p + 1)) (v := c) hpo; rw [show la - (p + 1) + 1 = la - p by omega] at this; rw [this]
      rw [hrn] at hv; have hvt : (o.drop p).take lb = o.drop p := List.take_of_length_le (by simp; omega); rw [hvt, List.take_of_length_le (by omega : (lebs C).length ≤ lb)] at hv; have hvo := Z26 256 p o; have htl : (o.take p).length = p := by simp; omega
      rw [htl] at hvo; have hvn : valD 256 (o.take p ++ r ++ [c]) = valD 256 ((lebs A).take (p + 1)) * valD 256 (lebs C) := by
        rw [Zg, Zg, htl, ta]; have e1 : valD 256 [c] = c := by simp [valD]
        have e2 : (o.take p ++ r).length = p + lb := by simp [htl, hrn]
        rw [e1, e2, Nat.pow_add]; generalize 256 ^ p = P at *; generalize 256 ^ lb = Q at *; have e3 : P * (valD 256 r + c * Q) = P * (valD 256 (o.drop p) + a * valD 256 (lebs C)) := by rw [hv]
        rw [Nat.mul_add, Nat.mul_add] at e3; have e4 : P * Q * c = P * (c * Q) := by rw [Nat.mul_assoc, Nat.mul_comm Q]
        have e5 : (valD 256 ((lebs A).take p) + a * P) * valD 256 (lebs C) = valD 256 ((lebs A).take p) * valD 256 (lebs C) + P * (a * valD 256 (lebs C)) := by
          rw [Nat.add_mul, Nat.mul_comm a P, Nat.mul_assoc]
        rw [e4, e5, ← hval]; omega
      have h0c : ((0 : Nat) : Int) + (c : Int) = (c : Int) := by omega
      simp -implicitDefEqProofs only [hz, hld, h0c, hset, Z4d, hlen, ← hla, ← hlb, go_sem]; refine ⟨⟨by omega, by omega⟩, by omega, by simp only [InR]; omega, ⟨by omega, by omega⟩, ⟨by omega, rfl⟩, by simp only [InR]; omega, (p + 1, o.take p ++ r ++ [c]), ⟨by simp only; omega, .inl rfl⟩, ⟨hlt, by simp [htl, hrn]; omega, fun d hd => ?_, hvn⟩, by simp only; omega⟩; rcases List.mem_append.1 hd with hd | hd
      · rcases List.mem_append.1 hd with hd | hd
        · exact hod d (List.mem_of_mem_take hd)
        · exact hrd d hd
      · rw [List.mem_singleton] at hd; subst hd; exact hc
  · have hpn : p = la := by omega
    have hz : ¬ (0 : Int) ≤ (la : Int) - 1 - (p : Int) := by omega
    have hrow : o ++ List.replicate (la - p) 0 = o := by rw [hpn]; simp
    rw [hpn, List.take_of_length_le (by omega : (lebs A).length ≤ la)] at hval; have hol : o.length = la + lb := by omega
    rw [hrow]; simp -implicitDefEqProofs only [hz, ← hla, ← hlb, go_sem]; refine AWp.seq (Wd [] ?_); simp -implicitDefEqProofs only [Z4d, hol, Int.toNat_natCast, go_sem]; refine ⟨⟨by omega, by omega⟩, ?_⟩; refine AWp.seq (AWp.seq (Wd [] ?_)); simp -implicitDefEqProofs only [go_sem]; refine AWp.block ?_; obtain ⟨n, hn⟩ : ∃ n, n = la + lb := ⟨_, rfl⟩; rw [← hn]; rw [← hn] at hol; have hDl : o.reverse.length = n := by rw [List.length_reverse, hol]
    refine AWp.loopI (fun i : Nat => ⟨mkF 87 [(5, .own 0 n), (9, .own 1 n), (10, .p (.int .i64 i))], [.row 3 1 (revR o) .own, .row 5 1 (Z2p n (o.reverse.take i)) .own]⟩)
      (fun i => i ≤ n) (fun i => n - i) 0 (by simp [go_sem, Z2p, u8d]) (Nat.zero_le _) ?_
    intro i hin; simp -implicitDefEqProofs only [go_sem]; refine Wd [] ?_; by_cases hlt3 : i < n
    · have hlt3' : (i : Int) < (n : Int) := by omega
      have hiD : i < o.reverse.length := by omega
      have hg : (revR o).getD i default = .int .i64 ((o.reverse[i] : Nat) : Int) := Z5 _ _ _ _ hiD; have hd256 : o.reverse[i] < 256 := hod _ (List.mem_reverse.1 (List.getElem_mem hiD)); have hw8 : IntKind.u8.wrap ((o.reverse[i] : Nat) : Int) = ((o.reverse[i] : Nat) : Int) := by rw [Zjk, Nat.mod_eq_of_lt hd256]
      have htk : o.reverse.take (i + 1) = o.reverse.take i ++ [o.reverse[i]] := List.take_succ_eq_append_getElem hiD; have htl : (o.reverse.take i).length = i := by rw [List.length_take]; omega
      have hset : (Z2p n (o.reverse.take i)).set i (.int .u8 ((o.reverse[i] : Nat) : Int)) = Z2p n (o.reverse.take (i + 1)) := by
        have := Za7 (n := n) (d := o.reverse[i]) (L := o.reverse.take i) (by omega); rw [htl] at this; rw [htk]; exact this
      have hhl := Za8 (n := n) (L := o.reverse.take i) (by omega); simp -implicitDefEqProofs only [hlt3', hg, hw8, Int.toNat_natCast, hset, Z4d, hol, hhl, go_sem]; exact ⟨hlt3, ⟨hlt3, rfl⟩, by simp only [InR]; omega, i + 1, ⟨by omega, .inl rfl⟩, by omega, by omega⟩
    · have hin2 : i = n := by omega
      have hlt3' : ¬ (i : Int) < (n : Int) := by omega
      have hrow2 : Z2p n (o.reverse.take i) = o.reverse.map u8d := by
        rw [List.take_of_length_le (by omega)]; unfold Z2p; rw [hDl, Nat.sub_self]; simp
      have hod2 : ∀ d ∈ o.reverse, d < 256 := fun d hd => hod d (List.mem_reverse.1 hd)
      have hval2 : beN (o.reverse.map UInt8.ofNat) = beN A * beN C := by
        rw [Z61 _ hod2, List.reverse_reverse, hval, Z0r, Z0r]; rfl
      have e113 := q113 (o.reverse.map UInt8.ofNat) (by simp; omega); rw [hval2] at e113; have hmap : o.reverse.map u8d = (o.reverse.map UInt8.ofNat).map u8V := by
        rw [List.map_map]; refine List.map_congr_left fun d hd => ?_
        have := hod2 d hd; show PV.int .u8 (d : Int) = PV.int .u8 ((UInt8.ofNat d).toNat : Int); rw [UInt8.toNat_ofNat', Nat.mod_eq_of_lt this]
      rw [hrow2]; simp -implicitDefEqProofs only [hlt3', Z4d, hol, go_sem]; refine AWp.seq (Wd [] ?_); simp -implicitDefEqProofs only [go_sem]; refine ⟨⟨5, rfl, rfl⟩, _, hmap, Z0 e113 (.pures rfl) ?_⟩; simp -implicitDefEqProofs only [go_sem]; refine Wd [] ?_; simp -implicitDefEqProofs only [go_sem]

def tms (b i : Nat) : List AV := (List.range 8).map fun k => .p (.str (if k < i then magB (b * 2 ^ k) else []))
theorem Z6b (b i : Nat) : (tms b i).length = 8 := by unfold tms; simp
theorem Zdx {b i k : Nat} (hk : k < 8) : (tms b i).getD k .junk = .p (.str (if k < i then magB (b * 2 ^ k) else [])) := by
  unfold tms; rw [List.getD_eq_getElem?_getD, List.getElem?_map, List.getElem?_range hk]
  rfl
theorem tms_get? {b i k : Nat} (hk : k < 8) : (tms b i)[k]? = some (.p (.str (if k < i then magB (b * 2 ^ k) else []))) := by
  unfold tms; rw [List.getElem?_map, List.getElem?_range hk]
  rfl
theorem Zkr {b i : Nat} (hi : i < 8) : (tms b i).set i (.p (.str (magB (b * 2 ^ i)))) = tms b (i + 1) := by
  refine List.ext_getElem? fun k => ?_
  rw [List.getElem?_set]; by_cases hk : k < 8
  · rw [tms_get? (i := i + 1) hk]
    by_cases he : i = k
    · subst he
      rw [if_pos rfl, if_pos (by rw [Z6b]; exact hi), if_pos (by omega)]
    · rw [if_neg he, tms_get? hk]
      by_cases h : k < i
      · rw [if_pos h, if_pos (by omega)]
      · rw [if_neg h, if_neg (by omega)]
  · rw [List.getElem?_eq_none (l := tms b (i + 1)) (by rw [Z6b]; omega), if_neg (by omega)]
    exact List.getElem?_eq_none (by rw [Z6b]; omega)
theorem Zje {A : List UInt8} {i : Nat} (hi : i < A.length) : beN (A.take (i + 1)) = beN (A.take i) * 256 + A[i].toNat := by
  rw [List.take_succ_eq_append_getElem hi, Z1w]
theorem Zgv (L : List Nat) (d : Nat) (hd : d < 256) : beN ((L ++ [d]).map UInt8.ofNat) = beN (L.map UInt8.ofNat) * 256 + d := by
  rw [List.map_append, List.map_cons, List.map_nil, Z1w, UInt8.toNat_ofNat', Nat.mod_eq_of_lt hd]

theorem Zf5 {n m : Nat} (h : n < 256 ^ m) : (magB n).length ≤ m := by
  apply Classical.byContradiction
  intro hn; have h1 := Z6o (n := n) (k := (magB n).length - 1) (by omega); have h2 : 256 ^ m ≤ 256 ^ ((magB n).length - 1) := Nat.pow_le_pow_right (by decide) (by omega); omega
theorem Z58 (b i : Nat) : b * 2 ^ i + b * 2 ^ i = b * 2 ^ (i + 1) := by rw [Nat.pow_succ, ← Nat.mul_assoc]; omega

theorem Zgh {x y : Nat} : 0 ≤ cmpN x y ↔ y ≤ x := by
  unfold cmpN
  split
  · omega
  · split
    · omega
    · omega

theorem q245 (a b : Nat) (ha : (magB a).length ≤ 900) (hb : (magB b).length ≤ 900) (hb0 : b ≠ 0) : PFn Tryz.prog 245 [.str (magB a), .str (magB b)] [.str (magB (a / b)), .str (magB (a % b))] := by
  obtain ⟨A, hA⟩ : ∃ A, A = magB a := ⟨_, rfl⟩; obtain ⟨n, hn⟩ : ∃ n, n = A.length := ⟨_, rfl⟩; have hAv : beN A = a := by rw [hA, Z7]
  have hml : ∀ k, k ≤ 8 → (magB (b * 2 ^ k)).length ≤ 901 := fun k hk => by
    have h0 : (magB (b * 2 ^ k)).length ≤ (magB b).length + 1 := Zf5 (by
      have h1 := Z3d b; have h2 : 2 ^ k ≤ 2 ^ 8 := Nat.pow_le_pow_right (by decide) hk; have h3 : b * 2 ^ k ≤ b * 2 ^ 8 := Nat.mul_le_mul_left _ h2; rw [Nat.pow_succ]
      omega)
    omega
  rw [← hA] at ha ⊢; refine PFn.of_body hΓ Tryz.func245 (by kernel_rfl) rfl (AWp.seq (Wd [] ?_)); simp -implicitDefEqProofs only [Tryz.ntmps245, Tryz.results245, Nat.reduceAdd, Nat.reduceSub, go_sem]; refine AWp.seq (Wd [] ?_); simp -implicitDefEqProofs only [go_sem]; refine AWp.seq (Wd [] ?_); simp -implicitDefEqProofs only [go_sem]; refine ⟨by decide, by decide, ?_⟩; refine AWp.seq (AWp.seq (Wd [] ?_)); simp -implicitDefEqProofs only [go_sem]; refine AWp.block ?_
  refine AWp.loopI (fun i : Nat => ⟨mkF 76 [(0, .p (.str A)), (1, .p (.str (magB b))), (6, .ptr 0 0), (7, .p (.int .i64 i))], [.box (tms b i)]⟩)
    (fun i => 1 ≤ i ∧ i ≤ 8) (fun i => 8 - i) 1 (by simp [go_sem, tms, List.range, List.range.loop]) (by omega) ?_
  intro i hi; refine Wd [(6, 1000)] ?_; by_cases hlt : i < 8
  · have hlt' : (i : Int) < 8 := by omega
    have hgA : (tms b i).getD (((i : Int) - 1).toNat * 1) .junk = .p (.str (magB (b * 2 ^ (i - 1)))) := by
      rw [show ((i : Int) - 1).toNat * 1 = i - 1 by omega, Zdx (by omega), if_pos (by omega)]
    have e106 := q106 (magB (b * 2 ^ (i - 1))) (magB (b * 2 ^ (i - 1))) (by have := hml (i - 1) (by omega); omega) (by have := hml (i - 1) (by omega); omega); rw [Z7, Z58, show i - 1 + 1 = i by omega] at e106; simp -implicitDefEqProofs only [hlt', go_sem]; refine AWp.planL (.q 0 (.q 1 (.q 2 (.q 3 (.q 4 (.q 5 (.q 6 (.q 7 (.q 8 (.e 9 (.s 0 (.q 10 (.e 11 .fin .nil))) .nil)))))))))) hΓ hmix (by kernel_rfl) ?_; simp -implicitDefEqProofs only [hlt', hgA, go_sem]; have hl8 := Z6b b i; refine ⟨by simp only [InR]; omega, ⟨by omega, by omega⟩, by omega, by simp only [InR]; omega, ⟨by omega, by omega⟩, by omega, ?_⟩; refine Z0 e106 (.pures rfl) ?_; simp -implicitDefEqProofs only [Int.toNat_natCast, Nat.mul_one, Zkr hlt, go_sem]; exact ⟨hlt, by omega, by simp only [InR]; omega, i + 1, ⟨by simp, rfl⟩, by omega, by omega⟩
  · have hi8 : i = 8 := by omega
    subst hi8; have hlt' : ¬ ((8 : Nat) : Int) < 8 := by omega
    simp -implicitDefEqProofs only [hlt', go_sem]; refine AWp.seq (Wd [] ?_); simp -implicitDefEqProofs only [Int.toNat_natCast, go_sem]; refine ⟨⟨by omega, by omega⟩, ?_⟩; refine AWp.seq (Wd [] ?_); simp -implicitDefEqProofs only [go_sem]; refine AWp.seq (AWp.seq (Wd [] ?_)); simp -implicitDefEqProofs only [go_sem]; refine AWp.block ?_; have hr0 : ∀ r, r < b → (magB r).length ≤ 900 := fun r h => Nat.le_trans (Nat.le_of_not_lt fun hn => by have := Z1i hn; omega) hb
    refine AWp.loopI (fun z : List Nat × Nat => ⟨mkF 76 [(0, .p (.str A)), (6, .ptr 0 0), (8, .own 1 n), (9, .p (.str (magB z.2))), (10, .p (.int .i64 z.1.length))], [.box (tms b 8), .row 5 1 (Z2p n z.1) .own]⟩)
      (fun z => z.1.length ≤ n ∧ (∀ d ∈ z.1, d < 256) ∧ z.2 < b ∧ beN (A.take z.1.length) = beN (z.1.map UInt8.ofNat) * b + z.2) (fun z => n - z.1.length) ([], 0) (by rw [hn]; simp [go_sem, Z2p, u8d, magB_zero]) ⟨by simp, by simp, by simp only; omega, by simp [beN]⟩ ?_
    rintro ⟨L, r⟩ ⟨hL, hLd, hr, hv⟩; simp only at hL hLd hr hv; refine Wd [] ?_; by_cases hlt : L.length < n
    · have hlt1 : (L.length : Int) < (A.length : Int) := by omega
      have hlA : L.length < A.length := by omega
      have hT : List.take (((L.length : Int) + 1).toNat - L.length) (A.drop L.length) = [A[L.length]] := by
        rw [show ((L.length : Int) + 1).toNat - L.length = 1 by omega, List.drop_eq_getElem_cons hlA, List.take_succ_cons, List.take_zero]
      obtain ⟨x, hx⟩ : ∃ x, x = A[L.length] := ⟨_, rfl⟩; rw [← hx] at hT; have e113 := q113 (magB r ++ [x]) (by have := hr0 r hr; simp; omega); rw [Z1w, Z7] at e113; obtain ⟨R, hR⟩ : ∃ R, R = r * 256 + x.toNat := ⟨_, rfl⟩; have hRb : R < b * 2 ^ 8 := by have := x.toNat_lt; rw [show (2 : Nat) ^ 8 = 256 from rfl]; omega
      rw [← hR] at e113; have hrl := hr0 r hr; simp -implicitDefEqProofs only [hlt1, hT, Int.toNat_natCast, go_sem]; refine ⟨by simp only [InR]; omega, ⟨by omega, by omega⟩, by omega, ?_⟩; refine Z0 e113 (.pures rfl) ?_; simp -implicitDefEqProofs only [go_sem]
      refine AWp.loopI (fun z : Nat × Nat × Nat => ⟨mkF 76 [(0, .p (.str A)), (6, .ptr 0 0), (8, .own 1 n), (9, .p (.str (magB z.2.1))), (10, .p (.int .i64 L.length)), (11, .p (.int .i64 z.1)), (12, .p (.int .i64 ((z.2.2 : Int) - 1)))], [.box (tms b 8), .row 5 1 (Z2p n L) .own]⟩)
        (fun z => z.2.2 ≤ 8 ∧ z.2.1 + z.1 * b = R ∧ z.2.1 < b * 2 ^ z.2.2 ∧ z.1 + 2 ^ z.2.2 ≤ 256) (fun z => z.2.2) (0, R, 8) (by simp [go_sem]) ⟨by simp, by simp, hRb, by simp⟩ ?_
      rintro ⟨d, ρ, j⟩ ⟨hj, hd1, hρ, hd2⟩; simp only at hj hd1 hρ hd2; refine Wd [] ?_
      cases j with
      | zero =>
        have hz : ¬ (0 : Int) ≤ ((0 : Nat) : Int) - 1 := by omega
        rw [Nat.pow_zero] at hρ hd2; have hw8 : IntKind.u8.wrap (d : Int) = d := InR.wrap (k := .u8) (by simp only [InR]; omega); have hset : (Z2p n L).set L.length (.int .u8 (d : Int)) = Z2p n (L ++ [d]) := Za7 hlt; have hlen := Za8 hL; have hnew : beN (A.take (L.length + 1)) = beN ((L ++ [d]).map UInt8.ofNat) * b + ρ := by
          rw [Zje hlA, hv, Zgv L d (by omega), ← hx, Nat.add_mul, Nat.add_mul, Nat.mul_right_comm]; omega
        simp -implicitDefEqProofs only [hz, hw8, hset, go_sem]; refine ⟨hlt, ⟨by omega, rfl⟩, by simp only [InR]; omega, (L ++ [d], ρ), ⟨⟨rfl, by simp⟩, .inl rfl⟩, ⟨by simp; omega, fun y hy => ?_, by simp only; omega, by rw [List.length_append, List.length_singleton]; exact hnew⟩, by simp; omega⟩; rcases List.mem_append.1 hy with hy | hy
        · exact hLd y hy
        · rw [List.mem_singleton.1 hy]; omega
      | succ k =>
        have hk7 : (0 : Int) ≤ ((k + 1 : Nat) : Int) - 1 := by omega
        have hgk : (tms b 8).getD ((((k + 1 : Nat) : Int) - 1).toNat * 1) .junk = .p (.str (magB (b * 2 ^ k))) := by
          rw [show (((k + 1 : Nat) : Int) - 1).toNat * 1 = k by omega, Zdx (by omega), if_pos (by omega)]
        have e97 := u97 ρ (b * 2 ^ k); have hl8 := Z6b b 8; have h2k : (2 : Nat) ^ (k + 1) = 2 ^ k * 2 := Nat.pow_succ _ _; have hb2k : b * 2 ^ (k + 1) = b * 2 ^ k + b * 2 ^ k := (Z58 b k).symm; simp -implicitDefEqProofs only [hk7, hgk, go_sem]; refine ⟨by omega, by omega, ?_⟩; refine Z0 e97 (.pures rfl) ?_; by_cases hge : b * 2 ^ k ≤ ρ
        · have c1 : (0 : Int) ≤ cmpN ρ (b * 2 ^ k) := Zgh.2 hge
          have hρl : (magB ρ).length ≤ 901 := by
            have h0 : (magB ρ).length ≤ (magB b).length + 1 := Zf5 (by
              have h3 := Z3d b; rw [show (2 : Nat) ^ 8 = 256 from rfl] at hRb; rw [Nat.pow_succ]; have : d * b ≥ 0 := Nat.zero_le _
              omega)
            omega
          have e209 := q209 (magB ρ) (magB (b * 2 ^ k)) (by omega) (Nat.le_of_not_lt fun h => by have := Z1i h; omega) (by rw [Z7, Z7]; exact hge); rw [Z7, Z7] at e209; simp -implicitDefEqProofs only [c1, hgk, go_sem]; refine ⟨by omega, by omega, ?_⟩; refine Z0 e209 (.pures rfl) ?_; have hwk : IntKind.u64.wrap (((k + 1 : Nat) : Int) - 1) = (k : Int) := by
            rw [show (((k + 1 : Nat) : Int) - 1) = (k : Int) by omega]; exact InR.wrap (k := .u64) (by simp only [InR]; omega)
          have hz2 : (1 : Int) * 2 ^ k = ((2 ^ k : Nat) : Int) := by rw [Int.one_mul, Int.natCast_pow]; rfl
          have hnm : (d + 2 ^ k) * b = d * b + b * 2 ^ k := by rw [Nat.add_mul, Nat.mul_comm (2 ^ k)]
          simp -implicitDefEqProofs only [hwk, Int.toNat_natCast, hz2, go_sem]; exact ⟨⟨by omega, by simp only [InR]; omega⟩, by simp only [InR]; omega, by simp only [InR]; omega, (d + 2 ^ k, ρ - b * 2 ^ k, k), ⟨rfl, by simp only; omega, by simp only; omega⟩, ⟨by simp only; omega, by simp only; omega, by simp only; omega, by simp only; omega⟩, by simp⟩
        · have c1 : ¬ (0 : Int) ≤ cmpN ρ (b * 2 ^ k) := fun h => hge (Zgh.1 h)
          simp -implicitDefEqProofs only [c1, go_sem]; exact ⟨by simp only [InR]; omega, (d, ρ, k), ⟨by simp, by simp⟩, ⟨by simp only; omega, hd1, by simp only; omega, by simp only; omega⟩, by simp⟩
    · have hLn : L.length = n := by omega
      have hlt1 : ¬ (L.length : Int) < (A.length : Int) := by omega
      have hval : a = beN (L.map UInt8.ofNat) * b + r := by
        rw [hLn, List.take_of_length_le (by omega), hAv] at hv; exact hv
      have hdv : a / b = beN (L.map UInt8.ofNat) := by
        rw [hval, Nat.mul_comm, Nat.mul_add_div (by omega), Nat.div_eq_of_lt hr, Nat.add_zero]
      have hmd : a % b = r := by
        rw [hval, Nat.mul_comm, Nat.mul_add_mod, Nat.mod_eq_of_lt hr]
      have hrow : Z2p n L = L.map u8d := by unfold Z2p; rw [hLn, Nat.sub_self]; simp
      have e113 := q113 (L.map UInt8.ofNat) (by simp; omega); rw [← hdv] at e113; rw [hmd]; have hmap : L.map u8d = (L.map UInt8.ofNat).map u8V := by
        rw [List.map_map]; refine List.map_congr_left fun d hd => ?_
        have := hLd d hd; show PV.int .u8 (d : Int) = PV.int .u8 ((UInt8.ofNat d).toNat : Int); rw [UInt8.toNat_ofNat', Nat.mod_eq_of_lt this]
      simp -implicitDefEqProofs only [hlt1, hrow, go_sem]; refine Wd [] ?_; simp -implicitDefEqProofs only [go_sem]; refine ⟨⟨5, rfl, rfl⟩, _, hmap, Z0 e113 (.pures rfl) ?_⟩; simp -implicitDefEqProofs only [go_sem]

theorem Zx {n : Nat} (h : (magB n).length < 8) : n < 256 ^ 7 := Nat.lt_of_lt_of_le (Z3d n) (Nat.pow_le_pow_right (by decide) (by omega))

theorem q72 (a b : Nat) (ha : a < capN) (hb : b < capN) : PFn Tryz.prog 167 [intN false a, intN false b] [intN false (a + b)] := by
  have ea := u96 a; have eb := u96 b; by_cases hs : (magB a).length < 8 ∧ (magB b).length < 8
  · have h7a := Zx hs.1
    have h7b := Zx hs.2; have va := u110 a h7a; have vb := u110 b h7b; have eo := u76 (a + b) (by omega); have hi : InR IntKind.i64 ((a : Int) + b) := by simp only [InR]; omega
    have la : ((magB a).length : Int) < 8 := by omega
    have lb : ((magB b).length : Int) < 8 := by omega
    rw [Int.natCast_add] at eo; simp only [intF] at ea eb va vb eo ⊢; generalize magB (a + b) = zz at *; generalize magB a = x at *; generalize magB b = y at *; refine PFn.of_body hΓ Tryz.func167 (by kernel_rfl) rfl (AWp.seq (Wd [] ?_)); simp -implicitDefEqProofs only [Tryz.ntmps167, Tryz.results167, Nat.reduceAdd, Nat.reduceSub, go_sem]; refine Wd [(1, 4), (3, 6), (5, 8), (10, 8), (11, 8)] ?_; simp -implicitDefEqProofs only [la, lb, go_sem]; refine Z1 ea (.still rfl) ?_; simp -implicitDefEqProofs only [la, lb, go_sem]; refine Z1 eb (.still rfl) ?_; simp -implicitDefEqProofs only [la, lb, go_sem]; refine Z1 va (.still rfl) ?_; simp -implicitDefEqProofs only [la, lb, go_sem]; refine Z1 vb (.still rfl) ?_; simp -implicitDefEqProofs only [go_sem]; refine ⟨hi, Z1 eo (.still rfl) ?_⟩; simp -implicitDefEqProofs only [go_sem]
  · have e106 := q106 (magB a) (magB b) (by have := Z0y ha; omega) (by have := Z0y hb; omega)
    rw [Z7, Z7] at e106; simp only [intF] at ea eb ⊢; generalize magB (a + b) = zz at *; generalize magB a = x at *; generalize magB b = y at *; refine PFn.of_body hΓ Tryz.func167 (by kernel_rfl) rfl (AWp.seq (Wd [] ?_)); simp -implicitDefEqProofs only [Tryz.ntmps167, Tryz.results167, Nat.reduceAdd, Nat.reduceSub, go_sem]; refine Wd [(1, 4), (3, 6), (5, 8), (10, 8), (11, 8)] ?_; by_cases hx : x.length < 8
    · have hy : ¬ y.length < 8 := fun h => hs ⟨hx, h⟩
      have lx : (x.length : Int) < 8 := by omega
      have ly : ¬ (y.length : Int) < 8 := by omega
      simp -implicitDefEqProofs only [lx, ly, go_sem]; refine Z1 ea (.still rfl) ?_; simp -implicitDefEqProofs only [lx, ly, go_sem]; refine Z1 eb (.still rfl) ?_; simp -implicitDefEqProofs only [lx, ly, beq_self_eq_true, go_sem]; refine Z1 e106 (.still rfl) ?_; simp -implicitDefEqProofs only [go_sem]; omega
    · have lx : ¬ (x.length : Int) < 8 := by omega
      simp -implicitDefEqProofs only [lx, go_sem]; refine Z1 ea (.still rfl) ?_; simp -implicitDefEqProofs only [lx, go_sem]; refine Z1 eb (.still rfl) ?_; simp -implicitDefEqProofs only [lx, beq_self_eq_true, go_sem]; refine Z1 e106 (.still rfl) ?_; simp -implicitDefEqProofs only [go_sem]; omega

theorem q73 (a b : Nat) (ha : a < capN) (hb : b < capN) : PFn Tryz.prog 168 [intN false a, intN false b] [intN false (a * b)] := by
  have ea := u96 a; have eb := u96 b; by_cases hz : a = 0 ∨ b = 0
  · have h0 : a * b = 0 := by rcases hz with h | h <;> subst h <;> simp
    rw [h0]; simp only [intF] at ea eb ⊢; rw [magB_zero]; by_cases ha0 : a = 0
    · subst ha0
      rw [magB_zero] at ea ⊢; generalize magB b = y at *; refine PFn.of_body hΓ Tryz.func168 (by kernel_rfl) rfl (AWp.seq (Wd [] ?_)); simp -implicitDefEqProofs only [Tryz.ntmps168, Tryz.results168, Nat.reduceAdd, Nat.reduceSub, go_sem]; refine Wd [(1, 4), (5, 6), (6, 10)] ?_; simp -implicitDefEqProofs only [go_sem]; refine Z1 ea (.still rfl) ?_; simp -implicitDefEqProofs only [go_sem]; refine Z1 eb (.still rfl) ?_; simp -implicitDefEqProofs only [go_sem]
    · have hb0 : b = 0 := hz.resolve_left ha0
      subst hb0; rw [magB_zero] at eb ⊢; have hx : ¬ magB a = [] := fun e => ha0 (Zq e)
      generalize magB a = x at *; refine PFn.of_body hΓ Tryz.func168 (by kernel_rfl) rfl (AWp.seq (Wd [] ?_)); simp -implicitDefEqProofs only [Tryz.ntmps168, Tryz.results168, Nat.reduceAdd, Nat.reduceSub, go_sem]; refine Wd [(1, 4), (5, 6), (6, 10)] ?_; simp -implicitDefEqProofs only [go_sem]; refine Z1 ea (.still rfl) ?_; simp -implicitDefEqProofs only [go_sem]; refine Z1 eb (.still rfl) ?_; simp -implicitDefEqProofs only [hx, go_sem]
  have hx : ¬ magB a = [] := fun e => hz (.inl (Zq e))
  have hy : ¬ magB b = [] := fun e => hz (.inr (Zq e))
  by_cases hs : (magB a).length + (magB b).length < 8
  · have pa := List.length_pos_iff.2 hx
    have pb := List.length_pos_iff.2 hy; have h7a := Zx (n := a) (by omega); have h7b := Zx (n := b) (by omega); have va := u110 a h7a; have vb := u110 b h7b; have hab : a * b < 256 ^ 7 := by
      have h1 := Z3d a; have h2 := Z3d b; have h3 : a * b < 256 ^ (magB a).length * 256 ^ (magB b).length := Nat.mul_lt_mul'' h1 h2; rw [← Nat.pow_add] at h3; exact Nat.lt_of_lt_of_le h3 (Nat.pow_le_pow_right (by decide) (by omega))
    have eo := u76 (a * b) (by omega); have hi : InR IntKind.i64 ((a : Int) * b) := by
      rw [← Int.natCast_mul]; simp only [InR]; omega
    have ls : ((magB a).length : Int) + ((magB b).length : Int) < 8 := by omega
    have li : InR IntKind.i64 (((magB a).length : Int) + ((magB b).length : Int)) := by simp only [InR]; omega
    rw [Int.natCast_mul] at eo; simp only [intF] at ea eb va vb eo ⊢; generalize magB (a * b) = zz at *; generalize magB a = x at *; generalize magB b = y at *; refine PFn.of_body hΓ Tryz.func168 (by kernel_rfl) rfl (AWp.seq (Wd [] ?_)); simp -implicitDefEqProofs only [Tryz.ntmps168, Tryz.results168, Nat.reduceAdd, Nat.reduceSub, go_sem]; refine Wd [(1, 4), (5, 6), (6, 10)] ?_; simp -implicitDefEqProofs only [go_sem]; refine Z1 ea (.still rfl) ?_; simp -implicitDefEqProofs only [go_sem]; refine Z1 eb (.still rfl) ?_; simp -implicitDefEqProofs only [hx, hy, ls, go_sem]; refine ⟨li, Z1 va (.still rfl) ?_⟩; simp -implicitDefEqProofs only [go_sem]; refine Z1 vb (.still rfl) ?_; simp -implicitDefEqProofs only [go_sem]; refine ⟨hi, Z1 eo (.still rfl) ?_⟩; simp -implicitDefEqProofs only [go_sem]
  · have ca := Z0y ha
    have cb := Z0y hb; have e108 := q108 (magB a) (magB b) (by omega) (by omega); rw [Z7, Z7] at e108; have ls : ¬ ((magB a).length : Int) + ((magB b).length : Int) < 8 := by omega
    have li : InR IntKind.i64 (((magB a).length : Int) + ((magB b).length : Int)) := by simp only [InR]; omega
    simp only [intF] at ea eb ⊢; generalize magB (a * b) = zz at *; generalize magB a = x at *; generalize magB b = y at *; refine PFn.of_body hΓ Tryz.func168 (by kernel_rfl) rfl (AWp.seq (Wd [] ?_)); simp -implicitDefEqProofs only [Tryz.ntmps168, Tryz.results168, Nat.reduceAdd, Nat.reduceSub, go_sem]; refine Wd [(1, 4), (5, 6), (6, 10)] ?_; simp -implicitDefEqProofs only [go_sem]; refine Z1 ea (.still rfl) ?_; simp -implicitDefEqProofs only [go_sem]; refine Z1 eb (.still rfl) ?_; simp -implicitDefEqProofs only [hx, hy, ls, go_sem]; refine ⟨li, Z1 e108 (.still rfl) ?_⟩; simp -implicitDefEqProofs only [go_sem]; exact ⟨by omega, rfl⟩

theorem Z3c {m n : Nat} (h : m ≤ n) : (magB m).length ≤ (magB n).length := Nat.le_of_not_lt fun hn => by
  have := Z1i hn; omega
theorem Zpq (s : Bool) (a b : Nat) (ha : (magB a).length ≤ 900) (hb : (magB b).length ≤ 900) : PFn Tryz.prog 212 [.agg [.bool s, .str (magB a)], intN false b] [intN false (Nat.gcd a b)] := by
  have ea := q113 (magB a) (by omega); have eb := q113 (magB b) (by omega); rw [Z7] at ea eb; simp only [intF]; refine PFn.of_body hΓ Tryz.func212 (by kernel_rfl) rfl (AWp.seq (Wd [] ?_)); simp -implicitDefEqProofs only [Tryz.ntmps212, Tryz.results212, Nat.reduceAdd, Nat.reduceSub, go_sem]; refine AWp.seq (Wd [(1, 8)] ?_); simp -implicitDefEqProofs only [go_sem]; refine Z1 ea (.pures rfl) ?_; simp -implicitDefEqProofs only [go_sem]; refine Z1 eb (.pures rfl) ?_; simp -implicitDefEqProofs only [go_sem]; refine AWp.seq (AWp.block ?_)
  refine AWp.loopI (fun z : Nat × Nat => ⟨mkF 53 [(4, .ptr 2 0), (5, .p (.str (magB z.1))), (6, .p (.str (magB z.2)))], [.box [.p (.bool s), .p (.str (magB a))], .box [.p (.bool false), .p (.str (magB b))], .box [.p (.bool false), .p (.str [])]]⟩)
    (fun z => (magB z.1).length ≤ 900 ∧ (magB z.2).length ≤ 900 ∧ Nat.gcd z.1 z.2 = Nat.gcd a b) (fun z => z.2) (a, b) (by simp [go_sem]) ⟨ha, hb, rfl⟩ ?_
  rintro ⟨x, y⟩ ⟨hx, hy, hg⟩; simp only at hx hy hg; by_cases hgo : y ≠ 0 ∧ (7 < (magB x).length ∨ 7 < (magB y).length)
  · obtain ⟨hy0, h7⟩ := hgo
    have hyn : ¬ magB y = [] := fun e => hy0 (Zq e)
    have e245 := q245 x y hx hy hy0; have hml := Nat.mod_lt x (Nat.pos_of_ne_zero hy0); have hcond : ∀ K : Prop, (7 < (magB x).length → K) → (¬ 7 < (magB x).length → 7 < (magB y).length → K) → K := fun K h1 h2 => (Classical.em (7 < (magB x).length)).elim h1 fun h => h2 h (h7.resolve_left h)
    refine Wd [] ?_; by_cases hx7 : 7 < (magB x).length
    · have hx7' : (7 : Int) < ((magB x).length : Int) := by omega
      simp -implicitDefEqProofs only [hyn, hx7', go_sem]; refine Z0 e245 (.still rfl) ?_; simp -implicitDefEqProofs only [go_sem]; exact ⟨(y, x % y), ⟨rfl, rfl⟩, ⟨hy, Nat.le_trans (Z3c (Nat.le_of_lt hml)) hy, by rw [← hg]; simp only; rw [Nat.gcd_comm y, ← Nat.gcd_rec, Nat.gcd_comm]⟩, hml⟩
    · have hx7' : ¬ (7 : Int) < ((magB x).length : Int) := by omega
      have hy7' : (7 : Int) < ((magB y).length : Int) := by omega
      simp -implicitDefEqProofs only [hyn, hx7', hy7', go_sem]; refine Z0 e245 (.still rfl) ?_; simp -implicitDefEqProofs only [go_sem]; exact ⟨(y, x % y), ⟨rfl, rfl⟩, ⟨hy, Nat.le_trans (Z3c (Nat.le_of_lt hml)) hy, by rw [← hg]; simp only; rw [Nat.gcd_comm y, ← Nat.gcd_rec, Nat.gcd_comm]⟩, hml⟩
  refine Wd [] ?_; by_cases hy0 : y = 0
  · subst hy0
    rw [magB_zero]; simp -implicitDefEqProofs only [go_sem]; rw [Nat.gcd_zero_right] at hg; rw [← hg]; refine AWp.seq (Wd [] ?_); simp -implicitDefEqProofs only [go_sem]
  have hyn : ¬ magB y = [] := fun e => hy0 (Zq e)
  have hx7' : ¬ (7 : Int) < ((magB x).length : Int) := fun h => hgo ⟨hy0, .inl (by omega)⟩
  have hy7' : ¬ (7 : Int) < ((magB y).length : Int) := fun h => hgo ⟨hy0, .inr (by omega)⟩
  have vx := u124 (magB x) (by omega); have vy := u124 (magB y) (by omega); rw [Z7] at vx vy; simp -implicitDefEqProofs only [hyn, hx7', hy7', go_sem]; have hx56 : x < 256 ^ 7 := Zx (by omega); have hy56 : y < 256 ^ 7 := Zx (by omega); refine AWp.seq (Wd [] ?_); simp -implicitDefEqProofs only [hyn, go_sem]; refine AWp.seq (Wd [] ?_); simp -implicitDefEqProofs only [go_sem]; refine Z0 vx (.pures rfl) ?_; simp -implicitDefEqProofs only [go_sem]; refine Z0 vy (.pures rfl) ?_; simp -implicitDefEqProofs only [go_sem]; refine AWp.seq (AWp.block ?_)
  refine AWp.loopI (fun z : Nat × Nat => ⟨mkF 53 [(4, .ptr 2 0), (9, .p (.int .i64 z.1)), (10, .p (.int .i64 z.2))], [.box [.p (.bool s), .p (.str (magB a))], .box [.p (.bool false), .p (.str (magB b))], .box [.p (.bool false), .p (.str [])]]⟩)
    (fun z => z.1 < 256 ^ 7 ∧ z.2 < 256 ^ 7 ∧ Nat.gcd z.1 z.2 = Nat.gcd a b) (fun z => z.2) (x, y) (by simp [go_sem]) ⟨hx56, hy56, hg⟩ ?_
  clear hx hy hg hgo hy0 hyn hx7' hy7' vx vy hx56 hy56 x y; rintro ⟨m, n⟩ ⟨hm, hn, hg⟩; simp only at hm hn hg; refine Wd [(9, 6)] ?_; by_cases hn0 : 0 < n
  · have hn0' : (0 : Int) < (n : Int) := by omega
    have hnz : ¬ (n : Int) = 0 := by omega
    have hq4 : Int.tmod (m : Int) (n : Int) = ((m % n : Nat) : Int) := rfl; have hml := Nat.mod_lt m hn0; simp -implicitDefEqProofs only [hn0', hnz, hq4, go_sem]; exact ⟨(n, m % n), ⟨rfl, rfl⟩, ⟨hn, by simp only; omega, by rw [← hg]; simp only; rw [Nat.gcd_comm n, ← Nat.gcd_rec, Nat.gcd_comm]⟩, hml⟩
  · have hnz : n = 0 := by omega
    subst hnz; rw [Nat.gcd_zero_right] at hg; have e1 := u76 m (by omega); rw [← hg]; have hn0' : ¬ (0 : Int) < ((0 : Nat) : Int) := by omega
    simp -implicitDefEqProofs only [hn0', go_sem]; refine Wd [] ?_; simp -implicitDefEqProofs only [go_sem]; simp only [intF] at e1; refine Z0 e1 (.pures rfl) ?_; simp -implicitDefEqProofs only [go_sem]
theorem q212 (a b : Nat) (ha : (magB a).length ≤ 900) (hb : (magB b).length ≤ 900) : PFn Tryz.prog 212 [intN false a, intN false b] [intN false (Nat.gcd a b)] := Zpq false a b ha hb
theorem q213 (a b : Nat) (ha : (magB a).length ≤ 900) (hb : (magB b).length ≤ 900) (hb0 : b ≠ 0) : PFn Tryz.prog 213 [intN false a, intN false b] [intN false (a / b), intN false (a % b), .int .i64 0] := by
  have ea := u96 a; have eb := u96 b; have hbn : ¬ magB b = [] := fun e => hb0 (Zq e)
  by_cases hs : (magB a).length < 8 ∧ (magB b).length < 8
  · have h7a := Zx hs.1
    have h7b := Zx hs.2; have va := u124 (magB a) (by omega); have vb := u124 (magB b) (by omega); rw [Z7] at va vb; have hdl : a / b ≤ a := Nat.div_le_self a b; have hml : a % b < b := Nat.mod_lt a (by omega); have e1 := u76 (a / b) (by omega); have e2 := u76 (a % b) (by omega); have la : ((magB a).length : Int) < 8 := by omega
    have lb : ((magB b).length : Int) < 8 := by omega
    simp only [intF] at ea eb e1 e2 ⊢; refine PFn.of_body hΓ Tryz.func213 (by kernel_rfl) rfl (AWp.seq (Wd [] ?_)); simp -implicitDefEqProofs only [Tryz.ntmps213, Tryz.results213, Nat.reduceAdd, Nat.reduceSub, go_sem]; refine Wd [(1, 4), (6, 8), (7, 8), (13, 3), (17, 1000)] ?_; simp -implicitDefEqProofs only [la, lb, hbn, go_sem]; refine Z1 ea (.still rfl) ?_; simp -implicitDefEqProofs only [la, lb, hbn, go_sem]; refine Z1 eb (.still rfl) ?_; simp -implicitDefEqProofs only [la, lb, hbn, go_sem]; refine Z1 va (.still rfl) ?_; simp -implicitDefEqProofs only [go_sem]; refine Z1 vb (.still rfl) ?_; have hib : ¬ (b : Int) = 0 := by omega
    simp -implicitDefEqProofs only [hib, go_sem]; rw [Int.natCast_ediv] at e1; rw [Int.natCast_emod] at e2; refine ⟨⟨by omega, by simp only [InR]; omega⟩, Z1 e1 (.still rfl) ?_⟩; simp -implicitDefEqProofs only [hib, go_sem]; refine ⟨by omega, Z1 e2 (.still rfl) ?_⟩; simp -implicitDefEqProofs only [bne_self_eq_false, go_sem]; refine AWp.planL (.q 0 (.q 1 (.e 2 (.s 1 (.e 3 (.q 4 .fin) .nil)) .nil))) hΓ hmix (by kernel_rfl) ?_; simp -implicitDefEqProofs only [go_sem]
  · have e245 := q245 a b ha hb hb0
    simp only [intF] at ea eb ⊢; refine PFn.of_body hΓ Tryz.func213 (by kernel_rfl) rfl (AWp.seq (Wd [] ?_)); simp -implicitDefEqProofs only [Tryz.ntmps213, Tryz.results213, Nat.reduceAdd, Nat.reduceSub, go_sem]; refine Wd [(1, 4), (6, 8), (7, 8), (13, 3), (17, 1000)] ?_; by_cases hx : (magB a).length < 8
    · have hy : ¬ (magB b).length < 8 := fun h => hs ⟨hx, h⟩
      have lx : ((magB a).length : Int) < 8 := by omega
      have ly : ¬ ((magB b).length : Int) < 8 := by omega
      simp -implicitDefEqProofs only [lx, ly, hbn, go_sem]; refine Z1 ea (.still rfl) ?_; simp -implicitDefEqProofs only [lx, ly, hbn, go_sem]; refine Z1 eb (.still rfl) ?_; simp -implicitDefEqProofs only [lx, ly, hbn, go_sem]; refine Z0 e245 (.still rfl) ?_; simp -implicitDefEqProofs only [bne_self_eq_false, go_sem]; refine AWp.planL (.q 0 (.q 1 (.e 2 (.s 1 (.e 3 (.q 4 .fin) .nil)) .nil))) hΓ hmix (by kernel_rfl) ?_; simp -implicitDefEqProofs only [go_sem]
    · have lx : ¬ ((magB a).length : Int) < 8 := by omega
      simp -implicitDefEqProofs only [lx, hbn, go_sem]; refine Z1 ea (.still rfl) ?_; simp -implicitDefEqProofs only [lx, hbn, go_sem]; refine Z1 eb (.still rfl) ?_; simp -implicitDefEqProofs only [lx, hbn, go_sem]; refine Z0 e245 (.still rfl) ?_; simp -implicitDefEqProofs only [bne_self_eq_false, go_sem]; refine AWp.planL (.q 0 (.q 1 (.e 2 (.s 1 (.e 3 (.q 4 .fin) .nil)) .nil))) hΓ hmix (by kernel_rfl) ?_; simp -implicitDefEqProofs only [go_sem]
end Go.Proofs.YtpljmccnfmkmfaaGreat
end

section
namespace Go.Proofs.YtpljmccnfmkmfaaGreat.Kn
open Go Go.AM

theorem cap9 {n : Nat} (h : n < capN) : (magB n).length ≤ 900 := by have := Z0y h; omega
theorem w171 (n : Nat) : PFn Tryz.prog 171 [intN false n] [.int .i64 (cmpN n 0)] := by
  have e := u74 n 0; simp only [Z4, magB_zero] at e ⊢; refine PFn.of_body hΓ Tryz.func171 (by kernel_rfl) rfl (Wd [] ?_); simp -implicitDefEqProofs only [Tryz.ntmps171, Tryz.results171, Nat.reduceAdd, Nat.reduceSub, go_sem]; refine Z0 e (.still rfl) ?_; simp -implicitDefEqProofs only [go_sem]
theorem w169 (n d : Nat) (hn : n < capN) (hd : d < capN) (hd0 : d ≠ 0) : PFn Tryz.prog 169 [intN false n, intN false d] [ratV n d] := by
  have c1 := w171 d; rw [Z0b (Nat.pos_of_ne_zero hd0)] at c1; have h11 : ¬ (1 : Int) < 0 := by omega
  have hG := Z54 hn hd; have hg0 : Nat.gcd n d ≠ 0 := fun h => hd0 (Nat.eq_zero_of_gcd_eq_zero_right h)
  have eg := q212 n d (cap9 hn) (cap9 hd); have d1 := q213 n (Nat.gcd n d) (cap9 hn) (cap9 hG) hg0; have d2 := q213 d (Nat.gcd n d) (cap9 hd) (cap9 hG) hg0; simp only [Z4] at c1 eg d1 d2 ⊢; unfold ratV; refine PFn.of_body hΓ Tryz.func169 (by kernel_rfl) rfl (AWp.seq (Wd [] ?_)); simp -implicitDefEqProofs only [Tryz.ntmps169, Tryz.results169, Nat.reduceAdd, Nat.reduceSub, go_sem]; refine Wd [(2, 4)] ?_; simp -implicitDefEqProofs only [go_sem]; refine Z0 c1 (.still rfl) ?_; simp -implicitDefEqProofs only [h11, go_sem]; refine Z0 eg (.still rfl) ?_; simp -implicitDefEqProofs only [go_sem]; refine Z0 d1 (.still rfl) ?_; simp -implicitDefEqProofs only [go_sem]; refine Z0 d2 (.still rfl) ?_; simp -implicitDefEqProofs only [go_sem]; omega
theorem w178 (n d : Nat) (hn : n < capN) (hd : d < capN) (hd0 : d ≠ 0) : PFn Tryz.prog 178 [intN false n, intN false d] [ratV n d, .int .i64 0] := by
  have c1 := w171 d; rw [Z0b (Nat.pos_of_ne_zero hd0)] at c1; have h10 : ¬ (1 : Int) = 0 := by omega
  have e := w169 n d hn hd hd0; simp only [Z4] at c1 e ⊢; refine PFn.of_body hΓ Tryz.func178 (by kernel_rfl) rfl (Wd [] ?_); simp -implicitDefEqProofs only [Tryz.ntmps178, Tryz.results178, Nat.reduceAdd, Nat.reduceSub, go_sem]; refine Z0 c1 (.still rfl) ?_; simp -implicitDefEqProofs only [h10, go_sem]; refine Z0 e (.still rfl) ?_; simp -implicitDefEqProofs only [ratV, go_sem]
theorem w119 (n d : Nat) (hn : n < 9223372036854775808) (hd : d < 9223372036854775808) (hd0 : d ≠ 0) : PFn Tryz.prog 119 [.int .i64 n, .int .i64 d] [ratV n d, .int .i64 0] := by
  have hc : (9223372036854775808 : Nat) < capN := Z1u (k := 8) (by decide) (by decide); have e1 := u76 n hn; have e2 := u76 d hd; have e3 := w178 n d (by omega) (by omega) hd0; simp only [Z4] at e1 e2 e3 ⊢; refine PFn.of_body hΓ Tryz.func119 (by kernel_rfl) rfl (Wd [] ?_); simp -implicitDefEqProofs only [Tryz.ntmps119, Tryz.results119, Nat.reduceAdd, Nat.reduceSub, go_sem]; refine Z0 e1 (.pures rfl) ?_; simp -implicitDefEqProofs only [go_sem]; refine Z0 e2 (.pures rfl) ?_; simp -implicitDefEqProofs only [go_sem]; refine Z0 e3 (.still rfl) ?_; simp -implicitDefEqProofs only [ratV, go_sem]
theorem w93 (n d : Nat) (hn : n < 9223372036854775808) (hd : d < 9223372036854775808) (hd0 : d ≠ 0) : PFn Tryz.prog 93 [.int .i64 n, .int .i64 d] [ratV n d] := by
  have e := w119 n d hn hd hd0; obtain ⟨x, y, hR⟩ : ∃ x y, ratV n d = ratQ x y := ⟨_, _, Z1h _ _⟩; rw [hR] at e ⊢; unfold ratQ at e ⊢; refine PFn.of_body hΓ Tryz.func93 (by kernel_rfl) rfl (Wd [] ?_); simp -implicitDefEqProofs only [Tryz.ntmps93, Tryz.results93, Nat.reduceAdd, Nat.reduceSub, go_sem]; refine Z0 e (.pures rfl) ?_; simp -implicitDefEqProofs only [go_sem]
theorem w166 (n d : Nat) (hn : n < capN) (hd : d < capN) (hd0 : d ≠ 0) : PFn Tryz.prog 166 [ratV n d] [ratV n d] := by
  obtain ⟨h1, h2⟩ := Z0w hn hd; have c1 := w171 (lowD n d); rw [Z0b (Nat.pos_of_ne_zero (lowD_pos hd0))] at c1; have h10 : ¬ (1 : Int) = 0 := by omega
  have e := w169 (lowN n d) (lowD n d) h1 h2 (lowD_pos hd0); rw [Zf9 hd0] at e; rw [ratV_low] at e ⊢; simp only [Z4] at c1 e; refine PFn.of_body hΓ Tryz.func166 (by kernel_rfl) rfl (Wd [] ?_); simp -implicitDefEqProofs only [Tryz.ntmps166, Tryz.results166, Nat.reduceAdd, Nat.reduceSub, go_sem]; refine Z0 c1 (.still rfl) ?_; simp -implicitDefEqProofs only [h10, go_sem]; refine ⟨by omega, Z0 e (.still rfl) ?_⟩; simp -implicitDefEqProofs only [go_sem]
theorem w106 (n d m e : Nat) (hn : n < capN) (hd : d < capN) (hm : m < capN) (he : e < capN) (hd0 : d ≠ 0) (he0 : e ≠ 0) (h1 : n * e + m * d < capN) (h2 : d * e < capN) :
    PFn Tryz.prog 106 [ratV n d, ratV m e] [ratV (n * e + m * d) (d * e)] := by
  obtain ⟨a1, a2⟩ := Z0w hn hd; obtain ⟨b1, b2⟩ := Z0w hm he; have l1 := Z5a n d; have l2 := Z5a m e; have k1 : lowN n d * lowD m e ≤ n * e := Nat.mul_le_mul l1.1 l2.2; have k2 : lowN m e * lowD n d ≤ m * d := Nat.mul_le_mul l2.1 l1.2; have k3 : lowD n d * lowD m e ≤ d * e := Nat.mul_le_mul l1.2 l2.2; have e1 := w166 n d hn hd hd0; have e2 := w166 m e hm he he0; have m1 := q73 (lowN n d) (lowD m e) a1 b2; have m2 := q73 (lowN m e) (lowD n d) b1 a2; have m3 := q73 (lowD n d) (lowD m e) a2 b2; have s1 := q72 (lowN n d * lowD m e) (lowN m e * lowD n d) (by omega) (by omega); have e4 := w169 (lowN n d * lowD m e + lowN m e * lowD n d) (lowD n d * lowD m e) (by omega) (by omega) (Nat.mul_ne_zero (lowD_pos hd0) (lowD_pos he0)); rw [Zcb hd0 he0] at e4; obtain ⟨x, y, hR⟩ : ∃ x y, ratV (n * e + m * d) (d * e) = ratQ x y := ⟨_, _, Z1h _ _⟩; rw [hR] at e4 ⊢; clear hR; rw [ratV_low n d] at e1 ⊢; rw [ratV_low m e] at e2 ⊢; unfold ratQ at e4 ⊢; simp only [Z4] at m1 m2 m3 s1 e4; generalize magB (lowN n d * lowD m e + lowN m e * lowD n d) = z4 at *; generalize magB (lowN n d * lowD m e) = z1 at *; generalize magB (lowN m e * lowD n d) = z2 at *; generalize magB (lowD n d * lowD m e) = z3 at *; generalize magB (lowN n d) = A at *; generalize magB (lowD n d) = B at *; generalize magB (lowN m e) = C at *; generalize magB (lowD m e) = D at *; refine PFn.of_body hΓ Tryz.func106 (by kernel_rfl) rfl (AWp.seq (Wd [] ?_)); simp -implicitDefEqProofs only [Tryz.ntmps106, Tryz.results106, Nat.reduceAdd, Nat.reduceSub, go_sem]; refine AWp.seq (Wd [(1, 4)] ?_); simp -implicitDefEqProofs only [go_sem]; refine Z1 e1 (.still rfl) ?_; simp -implicitDefEqProofs only [go_sem]; refine Z1 e2 (.still rfl) ?_; simp -implicitDefEqProofs only [go_sem]
  refine AWp.seqM (fun _ : Unit => ⟨mkF 28 [(2, .ptr 0 0), (3, .ptr 1 0), (4, .ptr 2 0), (5, .ptr 3 0)], [.box [.p (.bool false), .p (.str A), .p (.bool false), .p (.str B)], .box [.p (.bool false), .p (.str C), .p (.bool false), .p (.str D)], .box [.p (.bool false), .p (.str []), .p (.bool false), .p (.str [])], .box [.p (.bool false), .p (.str z4)]]⟩)
    (fun _ => True) (Wd [(2, 1000)] ?_) ?_
  · simp -implicitDefEqProofs only [go_sem]
    refine AWp.planL (.q 0 (.q 1 (.q 2 (.q 3 (.q 5 (.q 6 (.q 7 (.q 8 (.e 4 (.s 5 (.s 6 (.s 7 (.s 8 (.e 9 (.e 10 (.e 11 (.s 0 (.s 1 (.s 2 (.s 3 (.s 5 (.s 6 (.s 7 (.s 8 (.e 12 .fin .nil))))))))) .nil) (.e 11 (.s 0 (.s 1 (.s 2 (.s 3 (.s 5 (.s 6 (.s 7 (.s 8 (.e 10 (.e 12 .fin .nil) .nil))))))))) .nil)) (.e 11 (.s 0 (.s 1 (.s 2 (.s 3 (.s 5 (.s 6 (.s 7 (.s 8 (.e 9 (.e 10 (.e 12 .fin .nil) .nil) .nil))))))))) .nil)))))) (.e 11 (.s 0 (.s 1 (.s 2 (.s 3 (.s 5 (.s 6 (.s 7 (.s 8 (.e 4 (.s 5 (.s 6 (.s 7 (.s 8 (.e 9 (.e 10 (.e 12 .fin .nil) .nil) .nil))))) .nil))))))))) .nil)))))))))) hΓ hmix (by kernel_rfl) ?_; simp -implicitDefEqProofs only [go_sem]; refine ⟨by omega, by omega, ?_, ?_⟩
    · refine Z0 m1 (.still rfl) ?_
      simp -implicitDefEqProofs only [go_sem]; refine ⟨by omega, ?_, ?_⟩
      · refine Z0 m2 (.still rfl) ?_
        simp -implicitDefEqProofs only [go_sem]; refine ⟨?_, ?_⟩
        · refine Z0 s1 (.still rfl) ?_
          simp -implicitDefEqProofs only [go_sem]; exact ⟨by omega, by omega, (), trivial⟩
        · refine ⟨by omega, by omega, Z0 s1 (.still rfl) ?_⟩
          simp -implicitDefEqProofs only [go_sem]; exact ⟨(), trivial⟩
      · refine ⟨by omega, by omega, Z0 m2 (.still rfl) ?_⟩
        simp -implicitDefEqProofs only [go_sem]; refine Z0 s1 (.still rfl) ?_; simp -implicitDefEqProofs only [go_sem]; exact ⟨(), trivial⟩
    · refine ⟨by omega, by omega, Z0 m1 (.still rfl) ?_⟩
      simp -implicitDefEqProofs only [go_sem]; refine ⟨by omega, Z0 m2 (.still rfl) ?_⟩; simp -implicitDefEqProofs only [go_sem]; refine Z0 s1 (.still rfl) ?_; simp -implicitDefEqProofs only [go_sem]; exact ⟨(), trivial⟩
  intro _ _; refine Wd [(3, 7)] ?_; simp -implicitDefEqProofs only [go_sem]; refine Z1 m3 (.still rfl) ?_; simp -implicitDefEqProofs only [go_sem]; refine Z1 e4 (.still rfl) ?_; simp -implicitDefEqProofs only [go_sem]
theorem w116 (n d m e : Nat) (hn : n < capN) (hd : d < capN) (hm : m < capN) (he : e < capN) (hd0 : d ≠ 0) (he0 : e ≠ 0) (h1 : n * m < capN) (h2 : d * e < capN) :
    PFn Tryz.prog 116 [ratV n d, ratV m e] [ratV (n * m) (d * e)] := by
  obtain ⟨a1, a2⟩ := Z0w hn hd; obtain ⟨b1, b2⟩ := Z0w hm he; have l1 := Z5a n d; have l2 := Z5a m e; have k1 : lowN n d * lowN m e ≤ n * m := Nat.mul_le_mul l1.1 l2.1; have k3 : lowD n d * lowD m e ≤ d * e := Nat.mul_le_mul l1.2 l2.2; have e1 := w166 n d hn hd hd0; have e2 := w166 m e hm he he0; have m1 := q73 (lowN n d) (lowN m e) a1 b1; have m3 := q73 (lowD n d) (lowD m e) a2 b2; have e4 := w169 (lowN n d * lowN m e) (lowD n d * lowD m e) (by omega) (by omega) (Nat.mul_ne_zero (lowD_pos hd0) (lowD_pos he0)); rw [Zca hd0 he0] at e4; obtain ⟨x, y, hR⟩ : ∃ x y, ratV (n * m) (d * e) = ratQ x y := ⟨_, _, Z1h _ _⟩; rw [hR] at e4 ⊢; clear hR; rw [ratV_low n d] at e1 ⊢; rw [ratV_low m e] at e2 ⊢; unfold ratQ at e4 ⊢; simp only [Z4] at m1 m3 e4; generalize magB (lowN n d * lowN m e) = z1 at *; generalize magB (lowD n d * lowD m e) = z3 at *; generalize magB (lowN n d) = A at *; generalize magB (lowD n d) = B at *; generalize magB (lowN m e) = C at *; generalize magB (lowD m e) = D at *; refine PFn.of_body hΓ Tryz.func116 (by kernel_rfl) rfl (AWp.seq (Wd [] ?_)); simp -implicitDefEqProofs only [Tryz.ntmps116, Tryz.results116, Nat.reduceAdd, Nat.reduceSub, go_sem]; refine Wd [(1, 4), (2, 11)] ?_; simp -implicitDefEqProofs only [go_sem]; refine Z1 e1 (.still rfl) ?_; simp -implicitDefEqProofs only [go_sem]; refine Z1 e2 (.still rfl) ?_; simp -implicitDefEqProofs only [go_sem]; refine ⟨by omega, by omega, Z1 m1 (.still rfl) ?_⟩; simp -implicitDefEqProofs only [go_sem]; refine Z1 m3 (.still rfl) ?_; simp -implicitDefEqProofs only [go_sem]; refine Z1 e4 (.still rfl) ?_; simp -implicitDefEqProofs only [go_sem]

/-! Powers. -/
def blF : Nat → Nat → Nat
  | 0, _ => 0
  | f + 1, d => if d = 0 then 0 else blF f (d / 2) + 1
theorem Zkj : ∀ f d, blF f d ≤ f
  | 0, _ => Nat.le_refl _
  | f + 1, d => by
    have := Zkj f (d / 2); unfold blF
    split <;> omega
theorem Zj9 (f : Nat) {d : Nat} (h : d ≠ 0) : blF (f + 1) d = blF f (d / 2) + 1 := if_neg h
theorem w247 (a : Nat) (ha0 : a ≠ 0) (ha : a < 256) : PFn Tryz.prog 247 [intN false a] [.int .i64 (blF 8 a)] := by
  have e113 := q113 (magB a) (by have := Zf5 (n := a) (m := 1) (by omega); omega); rw [Z7] at e113; have hb := Z5t a ha0 ha; rw [hb] at e113; simp only [Z4, hb]; have hu : ((UInt8.ofNat a).toNat : Nat) = a := by rw [UInt8.toNat_ofNat', Nat.mod_eq_of_lt ha]
  have hw : IntKind.i64.wrap (a : Int) = a := InR.wrap (k := .i64) (by simp only [InR]; omega); have hg0 : ([UInt8.ofNat a]).getD (Int.toNat 0) 0 = UInt8.ofNat a := rfl; refine PFn.of_body hΓ Tryz.func247 (by kernel_rfl) rfl (AWp.seq (Wd [] ?_)); simp -implicitDefEqProofs only [Tryz.ntmps247, Tryz.results247, Nat.reduceAdd, Nat.reduceSub, go_sem]; refine AWp.seq (Wd [] ?_); simp -implicitDefEqProofs only [go_sem]; refine Z0 e113 (.pures rfl) ?_; simp -implicitDefEqProofs only [go_sem]; refine AWp.seq (Wd [] ?_); simp -implicitDefEqProofs only [go_sem]; refine AWp.seq (Wd [] ?_); simp -implicitDefEqProofs only [go_sem]; refine ⟨by simp only [InR]; omega, by simp only [InR]; omega, ?_⟩; refine AWp.seq (AWp.seq (Wd [] ?_)); simp -implicitDefEqProofs only [hg0, hu, hw, go_sem]; refine ⟨by omega, ?_⟩; refine AWp.block ?_
  refine AWp.loopI (fun z : Nat × Nat => ⟨mkF 25 [(4, .p (.int .i64 z.1)), (5, .p (.int .i64 z.2))], [.box [.p (.bool false), .p (.str [UInt8.ofNat a])]]⟩)
    (fun z => z.1 ≤ 8 ∧ z.1 + blF (8 - z.1) z.2 = blF 8 a ∧ z.2 < 2 ^ (8 - z.1)) (fun z => z.2) (0, a) (by simp [go_sem]) ⟨by simp, by simp, ha⟩ ?_
  rintro ⟨i, d⟩ ⟨hi, hbl, hd⟩; simp only at hi hbl hd; refine Wd [] ?_; by_cases hd0 : 0 < d
  · have hd0' : (0 : Int) < (d : Int) := by omega
    have hi8 : i < 8 := by
      apply Classical.byContradiction
      intro h; rw [show 8 - i = 0 by omega] at hd; omega
    obtain ⟨f, hf⟩ : ∃ f, 8 - i = f + 1 := ⟨7 - i, by omega⟩; rw [hf, Nat.pow_succ] at hd; rw [hf, Zj9 f (by omega)] at hbl; have hf7 : 2 ^ f ≤ 2 ^ 7 := Nat.pow_le_pow_right (by decide) (by omega); simp -implicitDefEqProofs only [hd0', go_sem]; exact ⟨by simp only [InR]; omega, ⟨by omega, by simp only [InR]; omega⟩, (i + 1, d / 2), ⟨by simp, by simp⟩, ⟨by simp only; omega, by simp only; rw [show 8 - (i + 1) = f by omega]; omega, by simp only; rw [show 8 - (i + 1) = f by omega]; omega⟩, by simp only; omega⟩
  · have hd0' : ¬ (0 : Int) < (d : Int) := by omega
    have hdz : d = 0 := by omega
    subst hdz; have hz : ∀ f, blF f 0 = 0 := fun f => by cases f <;> rfl
    rw [hz, Nat.add_zero] at hbl; simp -implicitDefEqProofs only [hd0', go_sem]; refine Wd [] ?_; simp -implicitDefEqProofs only [go_sem]; omega

theorem both {P : Bool → Prop} (h1 : P true) (h2 : P true → P false) : ∀ s, P s
  | true => h1
  | false => h2 h1
theorem Zpr (o s k : Nat) : o * s * (s * s) ^ k = o * s ^ (2 * k + 1) := by
  rw [← Nat.pow_two, ← Nat.pow_mul, Nat.pow_succ, Nat.mul_assoc, Nat.mul_comm s]
theorem Zla (o s k : Nat) : o * (s * s) ^ k = o * s ^ (2 * k) := by
  rw [← Nat.pow_two, ← Nat.pow_mul]
theorem w214 (a n : Nat) (ha0 : a ≠ 0) (ha : a < 256) (hn : n ≤ 4096) (hc : a ^ n < capN) : PFn Tryz.prog 214 [intN false a, .int .i64 n] [intN false (a ^ n), .int .i64 0] := by
  have e247 := w247 a ha0 ha; have hbl := Zkj 8 a; have hbn : blF 8 a * n ≤ 8 * n := Nat.mul_le_mul_right _ hbl; have e1 := u76 1 (by omega); have ea := u96 a; simp only [Z4] at e247 e1 ea ⊢; generalize blF 8 a = k at *; have hkn : (k : Int) * (n : Int) = ((k * n : Nat) : Int) := (Int.natCast_mul k n).symm; have n1 : ¬ (n : Int) < 0 := by omega
  have n2 : ¬ (4096 : Int) < (n : Int) := by omega
  have n3 : ¬ (65536 : Int) < ((k * n : Nat) : Int) := by omega
  refine PFn.of_body hΓ Tryz.func214 (by kernel_rfl) rfl (AWp.seq (Wd [] ?_)); simp -implicitDefEqProofs only [Tryz.ntmps214, Tryz.results214, Nat.reduceAdd, Nat.reduceSub, go_sem]; refine AWp.seq (Wd [] ?_); simp -implicitDefEqProofs only [n1, n2, go_sem]; refine AWp.seq (Wd [] ?_); simp -implicitDefEqProofs only [go_sem]; refine Z0 e247 (.still rfl) ?_; simp -implicitDefEqProofs only [hkn, n3, go_sem]; refine ⟨by simp only [InR]; omega, ?_⟩
  refine AWp.seqM (fun s : Bool => ⟨mkF 40 [(1, .p (.int .i64 n)), (4, .ptr 1 0), (6, .ptr (if s = true then 2 else 3) 0), (7, .ptr (if s = true then 3 else 2) 0)], [.box [.p (.bool false), .p (.str (magB a))], .box [.p (.bool false), .p (.str [])], .box [.p (.bool false), .p (.str (magB (if s = true then 1 else a)))], .box [.p (.bool false), .p (.str (magB (if s = true then a else 1)))]]⟩)
    (fun _ => True) (Wd [(5, 1000)] ?_) ?_
  · simp -implicitDefEqProofs only [go_sem]
    refine AWp.planL (.q 1 (.e 0 (.s 1 (.e 2 (.e 3 (.s 1 (.e 4 (.s 1 (.e 5 (.e 6 .fin .nil) .nil)) .nil)) (.e 4 (.s 1 (.e 3 (.s 1 (.e 5 (.e 6 .fin .nil) .nil)) .nil)) .nil)) (.e 3 (.s 1 (.e 2 (.e 4 (.s 1 (.e 5 (.e 6 .fin .nil) .nil)) .nil) (.e 4 (.s 1 (.e 2 (.e 5 (.e 6 .fin .nil) .nil) .nil)) .nil))) (.e 4 (.s 1 (.e 2 (.e 3 (.s 1 (.e 5 (.e 6 .fin .nil) .nil)) .nil) (.e 3 (.s 1 (.e 2 (.e 5 (.e 6 .fin .nil) .nil) .nil)) .nil))) .nil)))) (.e 3 (.s 1 (.e 0 (.s 1 (.e 2 (.e 4 (.s 1 (.e 5 (.e 6 .fin .nil) .nil)) .nil) (.e 4 (.s 1 (.e 2 (.e 5 (.e 6 .fin .nil) .nil) .nil)) .nil))) (.e 4 (.s 1 (.e 0 (.s 1 (.e 2 (.e 5 (.e 6 .fin .nil) .nil) .nil)) .nil)) .nil))) (.e 4 (.s 1 (.e 0 (.s 1 (.e 2 (.e 3 (.s 1 (.e 5 (.e 6 .fin .nil) .nil)) .nil) (.e 3 (.s 1 (.e 2 (.e 5 (.e 6 .fin .nil) .nil) .nil)) .nil))) (.e 3 (.s 1 (.e 0 (.s 1 (.e 2 (.e 5 (.e 6 .fin .nil) .nil) .nil)) .nil)) .nil))) .nil)))) hΓ hmix (by kernel_rfl) ?_; simp -implicitDefEqProofs only [go_sem]
    repeat' (first | exact ⟨true, ⟨rfl, rfl⟩, rfl, rfl⟩ | exact ⟨false, ⟨rfl, rfl⟩, rfl, rfl⟩ | (refine Z0 e1 (.pures rfl) ?_; simp -implicitDefEqProofs only [go_sem]) | (refine Z0 ea (.still rfl) ?_; simp -implicitDefEqProofs only [go_sem]) | refine And.intro ?_ ?_ | omega)
  refine fun s _ => ?_
  revert s
  refine both ?_ ?_
  · simp only [if_true]
    refine AWp.seq (AWp.block ?_)
    refine AWp.loopI (fun z : Nat × Nat × Nat => ⟨mkF 40 [(1, .p (.int .i64 z.2.2)), (4, .ptr 1 0), (6, .ptr 2 0), (7, .ptr 3 0)], [.box [.p (.bool false), .p (.str (magB a))], .box [.p (.bool false), .p (.str [])], .box [.p (.bool false), .p (.str (magB z.1))], .box [.p (.bool false), .p (.str (magB z.2.1))]]⟩)
      (fun z => z.2.2 ≤ 4096 ∧ z.1 * z.2.1 ^ z.2.2 = a ^ n ∧ z.1 ≠ 0 ∧ z.2.1 ≠ 0) (fun z => z.2.2) (1, a, n) (by simp [go_sem]) ⟨hn, by simp, by simp, ha0⟩ ?_
    rintro ⟨o, q, m⟩ ⟨hm, hv, ho, hq⟩; simp only at hm hv ho hq; refine Wd [] ?_; by_cases hm0 : 0 < m
    · have hm0' : (0 : Int) < (m : Int) := by omega
      have hqm : q ≤ q ^ m := Nat.le_self_pow (by omega) q; have hpm : 0 < q ^ m := Nat.pow_pos (Nat.pos_of_ne_zero hq); have hqa : q < capN := by
        have : q ^ m ≤ o * q ^ m := Nat.le_mul_of_pos_left _ (Nat.pos_of_ne_zero ho); omega
      have hoa : o < capN := by
        have : o ≤ o * q ^ m := Nat.le_mul_of_pos_right _ hpm; omega
      have m1 := q73 o q hoa hqa; have m2 := q73 q q hqa hqa; simp only [Z4] at m1 m2; obtain ⟨k, hk⟩ : ∃ k, k = m / 2 := ⟨_, rfl⟩; have hki : (m : Int) / 2 = (k : Int) := by omega
      by_cases hodd : m % 2 = 1
      · have hodd' : (m : Int) % 2 = 1 := by omega
        have hmk : m = 2 * k + 1 := by omega
        by_cases hk0 : 0 < k
        · have hk0' : (0 : Int) < (k : Int) := by omega
          simp -implicitDefEqProofs only [hm0', hodd', hki, hk0', go_sem]; refine ⟨by omega, Z0 m1 (.still rfl) ?_⟩; simp -implicitDefEqProofs only [hm0', hodd', hki, hk0', go_sem]; refine ⟨⟨by omega, by simp only [InR]; omega⟩, Z0 m2 (.still rfl) ?_⟩; simp -implicitDefEqProofs only [go_sem]; exact ⟨(o * q, q * q, k), ⟨rfl, rfl, rfl⟩, ⟨by simp only; omega, by simp only; rw [Zpr, ← hmk]; exact hv, Nat.mul_ne_zero ho hq, Nat.mul_ne_zero hq hq⟩, by simp only; omega⟩
        · have hk0' : ¬ (0 : Int) < (k : Int) := by omega
          simp -implicitDefEqProofs only [hm0', hodd', hki, hk0', go_sem]; refine ⟨by omega, Z0 m1 (.still rfl) ?_⟩; simp -implicitDefEqProofs only [hm0', hodd', hki, hk0', go_sem]; have hk00 : k = 0 := by omega
          have hv1 : o * q = a ^ n := by
            rw [hmk, hk00, Nat.mul_zero, Nat.zero_add, Nat.pow_one] at hv; exact hv
          exact ⟨⟨by omega, by simp only [InR]; omega⟩, (o * q, q, k), ⟨rfl, rfl, rfl⟩, ⟨by simp only; omega, by simp only; rw [hk00, Nat.pow_zero, Nat.mul_one]; exact hv1, Nat.mul_ne_zero ho hq, hq⟩, by simp only; omega⟩
      · have hodd' : ¬ (m : Int) % 2 = 1 := by omega
        have hmk : m = 2 * k := by omega
        have hk0 : 0 < k := by omega
        have hk0' : (0 : Int) < (k : Int) := by omega
        simp -implicitDefEqProofs only [hm0', hodd', hki, hk0', go_sem]; refine ⟨by omega, ⟨by omega, by simp only [InR]; omega⟩, Z0 m2 (.still rfl) ?_⟩; simp -implicitDefEqProofs only [go_sem]; exact ⟨(o, q * q, k), ⟨rfl, rfl, rfl⟩, ⟨by simp only; omega, by simp only; rw [Zla, ← hmk]; exact hv, ho, Nat.mul_ne_zero hq hq⟩, by simp only; omega⟩
    · have hm0' : ¬ (0 : Int) < (m : Int) := by omega
      have hmz : m = 0 := by omega
      subst hmz; rw [Nat.pow_zero, Nat.mul_one] at hv; subst hv; simp -implicitDefEqProofs only [hm0', go_sem]; refine Wd [] ?_; simp -implicitDefEqProofs only [go_sem]
  · intro h
    refine AWp.swap 2 3 rfl rfl (by simp) (by simp) ?_; exact h

theorem rat_inv (d : Nat) : ratV 1 d = .agg [.bool false, .str (magB 1), .bool false, .str (magB d)] := by
  unfold ratV; rw [Nat.gcd_one_left, Nat.div_one, Nat.div_one]
theorem w170 (q n : Nat) (hq0 : q ≠ 0) (hq : q < 256) (hn : n ≤ 4096) (hc : q ^ n < capN) : PFn Tryz.prog 170 [ratV 1 q, .int .i64 n] [ratV 1 (q ^ n), .int .i64 0] := by
  have hqc : q < capN := Nat.lt_trans hq (Z1u (n := 256) (k := 2) (by decide) (by decide)); have e1 := w166 1 q one_cap hqc hq0; have p1 := w214 1 n (by omega) (by omega) hn (by rw [Nat.one_pow]; exact one_cap); have p2 := w214 q n hq0 hq hn hc; rw [Nat.one_pow] at p1; rw [rat_inv] at e1 ⊢; rw [rat_inv]; simp only [Z4] at p1 p2; generalize magB (q ^ n) = z at *; generalize magB q = y at *; generalize magB 1 = x at *; refine PFn.of_body hΓ Tryz.func170 (by kernel_rfl) rfl (AWp.seq (Wd [] ?_)); simp -implicitDefEqProofs only [Tryz.ntmps170, Tryz.results170, Nat.reduceAdd, Nat.reduceSub, go_sem]; refine AWp.seq (Wd [] ?_); simp -implicitDefEqProofs only [go_sem]; refine Z0 e1 (.still rfl) ?_; simp -implicitDefEqProofs only [go_sem]; refine AWp.seq (Wd [] ?_); simp -implicitDefEqProofs only [go_sem]; refine ⟨by omega, Z0 p1 (.still rfl) ?_⟩; simp -implicitDefEqProofs only [go_sem]; refine AWp.seq (Wd [] ?_); simp -implicitDefEqProofs only [go_sem]; refine AWp.seq (Wd [] ?_); simp -implicitDefEqProofs only [go_sem]; refine Z0 p2 (.still rfl) ?_; simp -implicitDefEqProofs only [go_sem]; refine Wd [] ?_; simp -implicitDefEqProofs only [go_sem]; omega
theorem w107 (q n : Nat) (hq0 : q ≠ 0) (hq : q < 256) (hn : n ≤ 4096) (hc : q ^ n < capN) : PFn Tryz.prog 107 [.int .i64 q, .int .i64 n] [ratV 1 (q ^ n)] := by
  have e1 := w93 1 q (by omega) (by omega) hq0; have e2 := w170 q n hq0 hq hn hc; rw [rat_inv] at e1 e2 ⊢; rw [rat_inv] at e2; generalize magB (q ^ n) = z at *; generalize magB q = y at *; generalize magB 1 = x at *; refine PFn.of_body hΓ Tryz.func107 (by kernel_rfl) rfl (AWp.seq (Wd [] ?_)); simp -implicitDefEqProofs only [Tryz.ntmps107, Tryz.results107, Nat.reduceAdd, Nat.reduceSub, go_sem]; refine AWp.seq (Wd [] ?_); simp -implicitDefEqProofs only [go_sem]; refine Z0 e1 (.pures rfl) ?_; simp -implicitDefEqProofs only [go_sem]; refine Z0 e2 (.still rfl) ?_; simp -implicitDefEqProofs only [go_sem]; refine Wd [] ?_; simp -implicitDefEqProofs only [go_sem]

end Go.Proofs.YtpljmccnfmkmfaaGreat.Kn
end

section
namespace Go.Proofs.YtpljmccnfmkmfaaGreat
open Go Go.AM




theorem Zc0 {S : Nat} (hS : S ≠ 0) : Kn.ratV 0 1 = Kn.ratV 0 S := (Kn.low_eq (by decide) hS).2 (by simp)

theorem Zmf {q K n : Nat} (hq : q ≠ 0) (hn : n ≤ 32) : Kn.ratV (K * q ^ n + 1 * q ^ 32) (q ^ 32 * q ^ n) = Kn.ratV (K + q ^ (32 - n)) (q ^ 32) := by
  have hp : ∀ m, q ^ m ≠ 0 := fun m => Nat.ne_of_gt (Nat.pow_pos (Nat.pos_of_ne_zero hq))
  refine (Kn.low_eq (Nat.mul_ne_zero (hp 32) (hp n)) (hp 32)).2 ?_; have h : q ^ 32 = q ^ (32 - n) * q ^ n := by rw [← Nat.pow_add]; congr 1; omega
  generalize q ^ 32 = A at *; generalize q ^ (32 - n) = B at *; generalize q ^ n = C at *; subst h
  grind
theorem Zfg (q : Nat) (hq2 : 2 ≤ q) (hq : q ≤ 16) (l : List Nat) (hl : l.length ≤ 4096) (n : Nat) (hn : n ≤ 32) :
    PFn Tryz.prog 106 [Kn.ratV (Kn.krS q l) (q ^ 32), Kn.ratV 1 (q ^ n)] [Kn.ratV (Kn.krS q (l ++ [n])) (q ^ 32)] := by
  have h1 : Kn.krS q l ≤ 4096 * 16 ^ 32 := Nat.le_trans (Kn.krS_le hq l) (Nat.mul_le_mul_right _ hl); have h2 : q ^ 32 ≤ 16 ^ 32 := Nat.pow_le_pow_left hq 32; have h3 : q ^ n ≤ 16 ^ 32 := Nat.le_trans (Nat.pow_le_pow_left hq n) (Nat.pow_le_pow_right (by decide) hn); have h4 : Kn.krS q l * q ^ n ≤ 4096 * 16 ^ 32 * 16 ^ 32 := Nat.mul_le_mul h1 h3; have h5 : q ^ 32 * q ^ n ≤ 16 ^ 32 * 16 ^ 32 := Nat.mul_le_mul h2 h3; have hb : 4096 * 16 ^ 32 * 16 ^ 32 + 16 ^ 32 * 16 ^ 32 < 256 ^ 40 := by decide
  have hc : ∀ x, x < 256 ^ 40 → x < capN := fun x h => Z1u h (by decide)
  have hs : (4096 * 16 ^ 32 ≤ 4096 * 16 ^ 32 * 16 ^ 32) ∧ (16 ^ 32 ≤ 16 ^ 32 * 16 ^ 32) := by decide
  have hp : ∀ m, q ^ m ≠ 0 := fun m => Nat.ne_of_gt (Nat.pow_pos (by omega))
  have e := Kn.w106 (Kn.krS q l) (q ^ 32) 1 (q ^ n) (hc _ (by omega)) (hc _ (by omega)) Kn.one_cap (hc _ (by omega)) (hp 32) (hp n) (hc _ (by omega)) (hc _ (by omega)); rw [Zmf (by omega) hn, ← Kn.krS_snoc] at e; exact e

theorem h52 (q : Nat) (ws : List (List UInt8)) (hc : Zb q ws = 0) : PFn Tryz.prog 52 [Zz q ws] [Kn.ratV (Kn.krS q (ws.map List.length)) (q ^ 32), .int .i64 0] := by
  have hv := Z2b hc; have h2 := hv.q2; have h16 := hv.q16; have hlen := hv.len; have hS0 : q ^ 32 ≠ 0 := Nat.ne_of_gt (Nat.pow_pos (by omega)); have e40 := t44 q ws; rw [hc] at e40; have e93 := Kn.w93 0 1 (by omega) (by omega) (by omega); rw [Zc0 hS0] at e93; obtain ⟨sA, hsA⟩ : ∃ f : Nat → List UInt8, f = fun i => magB (Kn.lowN (Kn.krS q ((ws.map List.length).take i)) (q ^ 32)) := ⟨_, rfl⟩
  obtain ⟨sB, hsB⟩ : ∃ f : Nat → List UInt8, f = fun i => magB (Kn.lowD (Kn.krS q ((ws.map List.length).take i)) (q ^ 32)) := ⟨_, rfl⟩
  have hsV : ∀ i, Kn.ratV (Kn.krS q ((ws.map List.length).take i)) (q ^ 32) = .agg [.bool false, .str (sA i), .bool false, .str (sB i)] := fun i => by rw [hsA, hsB]; rfl
  have hz : Kn.ratV 0 (q ^ 32) = .agg [.bool false, .str (sA 0), .bool false, .str (sB 0)] := hsV 0; rw [hz] at e93; have hfin := hsV ws.length; rw [List.take_of_length_le (by simp)] at hfin; rw [hfin]; unfold Zz at e40; refine PFn.of_body hΓ Tryz.func52 (by kernel_rfl) rfl (AWp.seq (Wd [] ?_)); simp -implicitDefEqProofs only [Tryz.ntmps52, Tryz.results52, Nat.reduceAdd, Nat.reduceSub, Zz, go_sem]; refine AWp.seq (Wd [] ?_); simp -implicitDefEqProofs only [go_sem]; refine Z0 e40 (.still rfl) ?_; simp -implicitDefEqProofs only [go_sem]; refine AWp.seq (Wd [] ?_); simp -implicitDefEqProofs only [go_sem]; refine Z0 e93 (.pures rfl) ?_; simp -implicitDefEqProofs only [go_sem]; refine AWp.seq (AWp.seq (Wd [] ?_)); simp -implicitDefEqProofs only [go_sem]; refine AWp.block ?_
  refine AWp.loopI (fun i : Nat => ⟨mkF 30 [(1, .ptr 0 0), (2, .ptr 1 0), (4, .ptr 2 0), (5, .p (.int .i64 i))], [.box [.p (.int .i64 q), .p (.sl (ws.map .str))], .box [.p (.bool false), .p (.str []), .p (.bool false), .p (.str [])], .box [.p (.bool false), .p (.str (sA i)), .p (.bool false), .p (.str (sB i))]]⟩)
    (fun i => i ≤ ws.length) (fun i => ws.length - i) 0 (by simp [go_sem]) (by simp) ?_
  intro i hi; refine Wd [(7, 11)] ?_; by_cases hlt : i < ws.length
  · have hlt' : (i : Int) < (ws.length : Int) := by omega
    have hgi : (ws.map PV.str).getD i default = .str ws[i] := Z5 _ _ _ _ hlt; have hwi := (hv.words ws[i] (List.getElem_mem hlt)).2.1; have htk : (ws.map List.length).take (i + 1) = (ws.map List.length).take i ++ [ws[i].length] := by
      rw [List.take_succ_eq_append_getElem (by simpa using hlt), List.getElem_map]
    have hcp : q ^ ws[i].length < capN := by
      have h3 : q ^ ws[i].length ≤ 16 ^ 32 := Nat.le_trans (Nat.pow_le_pow_left (by omega) _) (Nat.pow_le_pow_right (by decide) hwi); exact Z1u (Nat.lt_of_le_of_lt h3 (by decide : 16 ^ 32 < 256 ^ 40)) (by decide)
    have e107 := Kn.w107 q ws[i].length (by omega) (by omega) (by omega) hcp; have e106 := Zfg q (by omega) (by omega) ((ws.map List.length).take i) (by simp; omega) ws[i].length hwi; rw [← htk, hsV, hsV] at e106; rw [Kn.rat_inv] at e106 e107; simp -implicitDefEqProofs only [hlt', hgi, Int.toNat_natCast, List.length_map, go_sem]; refine Z1 e107 (.pures rfl) ?_; simp -implicitDefEqProofs only [go_sem]; refine Z1 e106 (.still rfl) ?_; simp -implicitDefEqProofs only [go_sem]; exact ⟨by simp only [InR]; omega, i + 1, by simp, by omega, by omega⟩
  · have hlt' : ¬ (i : Int) < (ws.length : Int) := by omega
    have : i = ws.length := by omega
    subst this; simp -implicitDefEqProofs only [hlt', List.length_map, Int.lt_irrefl, go_sem]; refine Wd [] ?_; simp -implicitDefEqProofs only [go_sem]
theorem h52e (q : Int) (ws : List (List UInt8)) (hc : Zb q ws ≠ 0) : PFn Tryz.prog 52 [Zz q ws] [.agg [.bool false, .str [], .bool false, .str []], .int .i64 1] := by
  have e40 := t44 q ws; unfold Zz at e40; refine PFn.of_body hΓ Tryz.func52 (by kernel_rfl) rfl (AWp.seq (Wd [] ?_)); simp -implicitDefEqProofs only [Tryz.ntmps52, Tryz.results52, Nat.reduceAdd, Nat.reduceSub, Zz, go_sem]; refine AWp.seq (Wd [] ?_); simp -implicitDefEqProofs only [go_sem]; refine Z0 e40 (.still rfl) ?_; simp -implicitDefEqProofs only [hc, go_sem]
end Go.Proofs.YtpljmccnfmkmfaaGreat
end

