/-
  Lengths of numbers in bits, as contracts.
  Division by one digit; a shift to the left.
  integer.divide: long division.
  integer.divide, walked.
  integer.Gcd (Euclid's pairs), Div of numbers that are not negative.
  Rational numbers that are not negative: lowest, New, Of, canonical, Compare.
  integer.Power of small numbers; measure.Kraft.
  slices.ContainsFunc of numbers; measure.Kraft, Fits.
  What the chapter's texts stand on.
  The stable sort of places, for few of them.
  slices.Sort of a few numbers; the sizes of a code's words.
  slices.SortFunc of a few numbers, the greatest first.
  lettercost.costOf.
  Frames: what lies behind, a round leaves alone.
  Plain: the trees with n leaves, as the program lists them.
  lettercost.matched.
  Plain: the sum of the sorted lists is the least of all orders.
-/
import Derived.Test.YtnaekjbbakofdaaGreatJc4c0e2cac108
import Derived.Test.YtnaekjbbakofdaaGreatJ841ece3106d2
import Derived.Test.YtnaekjbbakofdaaGreatJ452342ac2a48
import Derived.Test.YtnaekjbbakofdaaGreatJ55c5db00ba4b
import Derived.Test.YtnaekjbbakofdaaGreatJ75d8ba1040fe
import Derived.Test.YtnaekjbbakofdaaGreatJb66f8f526fa3

section
namespace Go.Proofs.YtnaekjbbakofdaaGreat.Kn
open Go Go.AM Go.RowKit
set_option maxRecDepth 100000

theorem fn_int {f : FuncId} {fn : Func} {c : Code} {k k' : IntKind} {x y : Int} (hf : Tryz.prog.funcs[f]? = some fn) (hname : (fn.name == "runtime.NumGoroutine") = false) (hb : fn.body = some c)
    (h : ∀ w : World, Calls Tryz.prog f #[.int k x] w fun e w' => e = .returned (.int k' y) ∧ w' = w) : PFn Tryz.prog f [.int k x] [.int k' y] := by
  refine ⟨entersF_of hf hname hb, fun I w cargs himm hlen hargs => ?_⟩
  obtain ⟨a, rfl⟩ : ∃ a, cargs = [a] := by
    match cargs, hlen with
    | [a], _ => exact ⟨a, rfl⟩
  have h0 := hargs 0 (by simp)
  simp only [List.getD_cons_zero] at h0
  rw [h0.int_inv]
  refine Calls.mono (P := Tryz.prog) (h w) ?_
  rintro e w' ⟨rfl, rfl⟩
  exact ⟨_, I, rfl, grown_of_below (Below.refl _ _), fun _ h => h, fun g h => .inl h, .p _ _ (.int _ _)⟩

theorem v130 (n : Nat) (h : n < 18446744073709551616) : PFn Tryz.prog 116 [.int .u64 n] [.int .i64 (Lib.bitLen n : Int)] :=
  fn_int Tryz.func116 (by kernel_rfl) rfl fun w => m130 n w (by omega) (by omega)

end Go.Proofs.YtnaekjbbakofdaaGreat.Kn
end

section
namespace Go.Proofs.YtnaekjbbakofdaaGreat.Kn
open Go Go.AM
set_option maxRecDepth 100000
set_option linter.unusedSimpArgs false

theorem getD_lt {B : Nat} {l : List Nat} (hl : ∀ d ∈ l, d < B) {i : Nat} (h : i < l.length) : l.getD i 0 < B := by
  rw [List.getD_eq_getElem?_getD, List.getElem?_eq_getElem h, Option.getD_some]; exact hl _ (List.getElem_mem h)
end Go.Proofs.YtnaekjbbakofdaaGreat.Kn
end

section
namespace Go.Proofs.YtnaekjbbakofdaaGreat.Kn
open Go Go.AM
set_option maxRecDepth 100000
set_option linter.unusedSimpArgs false

def Hid (p : Prop) : Prop := p
theorem Hid.out {p : Prop} (h : Hid p) : p := h
theorem Hid.mk {p : Prop} (h : p) : Hid p := h

end Go.Proofs.YtnaekjbbakofdaaGreat.Kn
end

section
namespace Go.Proofs.YtnaekjbbakofdaaGreat.Kn
open Go Go.AM
set_option maxRecDepth 100000
set_option maxHeartbeats 4000000
set_option linter.unusedSimpArgs false

end Go.Proofs.YtnaekjbbakofdaaGreat.Kn
end

section
namespace Go.Proofs.YtnaekjbbakofdaaGreat.Kn
open Go Go.AM
set_option maxRecDepth 100000
set_option linter.unusedSimpArgs false

theorem callK_yc {E : Env} {tm : List AV} {h : List AObj} {KS : St → Prop} {d : Option Nat} {b : Nat} {args : List AV} {ks : List Nat} {R : AV → List AObj → Prop} (hf : YC E.P b args h ks R) (hks : ∀ k ∈ ks, E.n0 ≤ k ∨ k ∈ E.ks)
    (hk : ∀ v h', R v h' → KS ⟨putD (killAll ks tm) d v, h'⟩) : callK E ⟨tm, h⟩ d (.yld b) args KS := ⟨ks, R, hf, hks, hk⟩

theorem u36 (a b : Nat) (ha : a < capN) (hb : b < capN) : PFn Tryz.prog 22 [intN false a, intN false b] [intN false (a * b)] := by
  have ea := u69n false a ha
  have eb := u69n false b hb
  have la := cap_dig ha
  have lb := cap_dig hb
  have e1 := u68 (digD B32 a) (digD B32 b) (dig_lt a) (dig_lt b) (by omega) (by omega)
  rw [digD_val (by decide), digD_val (by decide)] at e1
  have hl : (digD B32 (a * b)).length ≤ 100 := by
    refine digD_small (by decide) ?_
    rw [show (100 : Nat) = 50 + 50 from rfl, Nat.pow_add, ← capN_eq]
    exact Nat.mul_lt_mul_of_lt_of_lt ha hb
  have e2 := u66 false (digD B32 (a * b)) (dig_lt _) (by omega)
  rw [digD_val (by decide)] at e2
  have hff : (false != false) = false := rfl
  refine PFn.of_body hΓ Tryz.func22 (by kernel_rfl) rfl (AWp.of_awpD [(1, 11)] hΓ hmix (by kernel_rfl) ?_)
  simp -implicitDefEqProofs only [Tryz.ntmps22, Tryz.results22, Nat.reduceAdd, Nat.reduceSub, intN_pos, go_sem]
  refine callVPK_fn ea (.still rfl) ?_
  simp -implicitDefEqProofs only [go_sem]
  refine callVPK_fn eb (.still rfl) ?_
  simp -implicitDefEqProofs only [go_sem]
  refine callVPK_fn e1 (.pures rfl) ?_
  simp -implicitDefEqProofs only [hff, go_sem]
  refine callVPK_fn e2 (.pures rfl) ?_
  simp -implicitDefEqProofs only [intN_pos, go_sem]
end Go.Proofs.YtnaekjbbakofdaaGreat.Kn
end

section
namespace Go.Proofs.YtnaekjbbakofdaaGreat.Kn
open Go Go.AM
set_option maxRecDepth 100000
set_option linter.unusedSimpArgs false

end Go.Proofs.YtnaekjbbakofdaaGreat.Kn
end

section
namespace Go.Proofs.YtnaekjbbakofdaaGreat.Kn
open Go Go.AM
set_option maxRecDepth 100000
set_option linter.unusedSimpArgs false

end Go.Proofs.YtnaekjbbakofdaaGreat.Kn
end

section
namespace Go.Proofs.YtnaekjbbakofdaaGreat.Kn
open Go Go.AM
set_option maxRecDepth 100000
set_option linter.unusedSimpArgs false

def iV (n : Int) : PV := .int .i64 n
theorem c92 {h : List AObj} {g : FuncId} {caps : List AV} {pr : Int → Bool} (ws : List Int) (hl : ws.length ≤ 9223372036854775807)
    (hg : ∀ w ∈ ws, AC Tryz.prog g (.p (.int .i64 w) :: caps) h [] (fun v h' => v = .p (.bool (pr w)) ∧ h' = h)) :
    AC Tryz.prog 110 [.p (.sl (ws.map iV)), .fn g caps] h [] (fun v h' => (∃ i : Int, v = .p (.int .i64 i) ∧ decide (0 ≤ i) = ws.any pr) ∧ h' = h) := by
  refine AC.of_bodyE hΓ Tryz.func110 (by kernel_rfl) rfl (AWp.mono (Q := fun e st => AM.Ends e ∧ (∃ i : Int, st.tmps.getD 4 .junk = .p (.int .i64 i) ∧ decide (0 ≤ i) = ws.any pr) ∧ st.h = h) ?_ ?_)
  rotate_left
  · rintro e ⟨tm, h'⟩ ⟨he, ⟨i, h1, h3⟩, h2⟩
    simp only at h1 h2
    subst h2
    refine ⟨he, _, Less.refl _, ?_⟩
    unfold DoneE
    simp +contextual -implicitDefEqProofs only [Tryz.results110, h1, go_sem]
    exact ⟨_, Nat.le_refl _, .inl rfl, ⟨i, rfl, h3⟩, List.take_length⟩
  refine AWp.of_awpD [] hΓ hmix (by kernel_rfl) ?_
  simp +contextual -implicitDefEqProofs only [Tryz.ntmps110, Nat.reduceAdd, Nat.reduceSub, go_sem]
  refine AWp.loopI (fun k : Nat => ⟨mkF 19 [(0, .p (.sl (ws.map iV))), (1, .fn g caps), (7, .p (.int .i64 ws.length)), (8, .p (.int .i64 k))], h⟩)
    (fun k => k ≤ ws.length ∧ (ws.take k).any pr = false) (fun k => ws.length - k) 0 (by simp [go_sem, weakH_self]) (by simp) ?_
  rintro k ⟨hk, h0⟩
  refine AWp.of_awpD [] hΓ hmix (by kernel_rfl) ?_
  by_cases hlt : k < ws.length
  · have hgk : (ws.map iV).getD k default = .int .i64 ws[k] := by rw [getD_map_lt _ _ _ _ hlt]; rfl
    simp -implicitDefEqProofs only [List.length_map, hlt, hgk, Int.toNat_natCast, go_sem]
    refine callK_ac (hg ws[k] (List.getElem_mem hlt)) (by simp) ?_
    rintro v h' ⟨rfl, rfl⟩
    cases hp : pr ws[k]
    · simp -implicitDefEqProofs only [killAll, List.foldl, go_sem]
      refine ⟨by simp only [InR]; omega, k + 1, by simp [weakH_self], ⟨hlt, ?_⟩, by omega⟩
      rw [List.take_succ_eq_append_getElem hlt, List.any_append, h0]; simp [hp]
    · simp -implicitDefEqProofs only [killAll, List.foldl, go_sem]
      refine ⟨k, rfl, ?_⟩
      rw [List.any_eq_true.2 ⟨_, List.getElem_mem hlt, hp⟩]; simp
  · simp -implicitDefEqProofs only [hlt, go_sem]
    exact ⟨-1, rfl, by rw [List.take_of_length_le (by omega)] at h0; rw [h0]; rfl⟩

theorem c48 {h : List AObj} {g : FuncId} {caps : List AV} {pr : Int → Bool} (ws : List Int) (hl : ws.length ≤ 9223372036854775807)
    (hg : ∀ w ∈ ws, AC Tryz.prog g (.p (.int .i64 w) :: caps) h [] (fun v h' => v = .p (.bool (pr w)) ∧ h' = h)) :
    AC Tryz.prog 76 [.p (.sl (ws.map iV)), .fn g caps] h [] (fun v h' => v = .p (.bool (ws.any pr)) ∧ h' = h) := by
  refine AC.of_bodyE hΓ Tryz.func76 (by kernel_rfl) rfl (AWp.mono (Q := fun e st => AM.Ends e ∧ st.tmps.getD 4 .junk = .p (.bool (ws.any pr)) ∧ st.h = h) ?_ ?_)
  rotate_left
  · rintro e ⟨tm, h'⟩ ⟨he, h1, h2⟩
    simp only at h1 h2
    subst h2
    refine ⟨he, _, Less.refl _, ?_⟩
    unfold DoneE
    simp +contextual -implicitDefEqProofs only [Tryz.results76, h1, go_sem]
    exact ⟨_, Nat.le_refl _, .inl rfl, List.take_length⟩
  refine AWp.of_awpD [] hΓ hmix (by kernel_rfl) ?_
  simp +contextual -implicitDefEqProofs only [Tryz.ntmps76, Nat.reduceAdd, Nat.reduceSub, go_sem]
  refine callK_ac (c92 ws hl hg) (by simp) ?_
  rintro v h' ⟨⟨i, rfl, hi⟩, rfl⟩
  simp -implicitDefEqProofs only [killAll, List.foldl, go_sem]
  exact hi

def nV (n : Nat) : PV := .int .i64 (n : Int)
end Go.Proofs.YtnaekjbbakofdaaGreat.Kn
end

section
namespace Go.Proofs.YtnaekjbbakofdaaGreat
end Go.Proofs.YtnaekjbbakofdaaGreat
end

section
namespace Go.Proofs.YtnaekjbbakofdaaGreat
open Go Go.AM
set_option maxRecDepth 100000
set_option maxHeartbeats 4000000
set_option linter.unusedSimpArgs false

theorem set_same {α : Type} {l : List α} {b : Nat} {o : α} (h : l[b]? = some o) : l.set b o = l := by
  obtain ⟨hl, he⟩ := List.getElem?_eq_some_iff.1 h
  rw [← he]; exact List.set_getElem_self hl
end Go.Proofs.YtnaekjbbakofdaaGreat
end

section
namespace Go.Proofs.YtnaekjbbakofdaaGreat
open Go Go.AM
set_option maxRecDepth 100000
set_option maxHeartbeats 4000000
set_option linter.unusedSimpArgs false

def insN (x : Nat) : List Nat → List Nat
  | [] => [x]
  | y :: t => if x < y then x :: y :: t else y :: insN x t
theorem insN_len (x : Nat) : ∀ S, (insN x S).length = S.length + 1
  | [] => rfl
  | y :: t => by unfold insN; split <;> simp [insN_len x t]
theorem insN_at {x : Nat} : ∀ {S : List Nat} {j : Nat}, j ≤ S.length → (∀ k (hk : k < S.length), k < j → S[k] ≤ x) → (∀ k (hk : k < S.length), j ≤ k → x < S[k]) → insN x S = S.take j ++ x :: S.drop j
  | [], j, hj, _, _ => by simp [insN]
  | y :: t, 0, _, _, h2 => by
    have := h2 0 (by simp) (Nat.le_refl _)
    unfold insN
    rw [if_pos (by simpa using this)]; simp
  | y :: t, j + 1, hj, h1, h2 => by
    have h3 := h1 0 (by simp) (by omega)
    have ih := insN_at (x := x) (S := t) (j := j) (by simpa using hj) (fun k hk hkj => h1 (k + 1) (by simp; omega) (by omega)) (fun k hk hkj => h2 (k + 1) (by simp; omega) (by omega))
    unfold insN
    rw [if_neg (by simp at h3; omega), ih]; simp
theorem mem_insN {x y : Nat} : ∀ {S : List Nat}, y ∈ insN x S ↔ y = x ∨ y ∈ S
  | [] => by simp [insN]
  | z :: t => by
    unfold insN
    split
    · simp
    · simp only [List.mem_cons, mem_insN (S := t)]
      constructor
      · rintro (h | h | h)
        · exact .inr (.inl h)
        · exact .inl h
        · exact .inr (.inr h)
      · rintro (h | h | h)
        · exact .inr (.inl h)
        · exact .inl h
        · exact .inr (.inr h)
theorem insN_sorted {x : Nat} : ∀ {S : List Nat}, S.Pairwise (· ≤ ·) → (insN x S).Pairwise (· ≤ ·)
  | [], _ => by simp [insN]
  | y :: t, h => by
    have h' := List.pairwise_cons.1 h
    unfold insN
    split
    · rename_i hlt
      refine List.pairwise_cons.2 ⟨fun z hz => ?_, h⟩
      rcases List.mem_cons.1 hz with rfl | hz
      · omega
      · have := h'.1 z hz; omega
    · rename_i hlt
      refine List.pairwise_cons.2 ⟨fun z hz => ?_, insN_sorted h'.2⟩
      rcases mem_insN.1 hz with rfl | hz
      · omega
      · exact h'.1 z hz
def srtN (ns : List Nat) : Nat → List Nat
  | 0 => []
  | n + 1 => insN (ns.getD n 0) (srtN ns n)
theorem srtN_len (ns : List Nat) : ∀ n, (srtN ns n).length = n
  | 0 => rfl
  | n + 1 => by unfold srtN; rw [insN_len, srtN_len ns n]
theorem srtN_sorted (ns : List Nat) : ∀ n, (srtN ns n).Pairwise (· ≤ ·)
  | 0 => by simp [srtN]
  | n + 1 => insN_sorted (srtN_sorted ns n)
def rowN (S rest : List Nat) (x : Nat) (j : Nat) : List Nat := S.take j ++ x :: (S.drop j ++ rest)
theorem rowN_len {S rest : List Nat} {x j : Nat} (hj : j ≤ S.length) : (rowN S rest x j).length = S.length + 1 + rest.length := by
  unfold rowN; simp; omega
theorem rowN_at {S rest : List Nat} {x j : Nat} (hj : j ≤ S.length) : (rowN S rest x j)[j]? = some x := by
  unfold rowN
  rw [List.getElem?_append_right (by simp; omega)]
  simp [Nat.min_eq_left hj]
theorem rowN_prev {S rest : List Nat} {x j : Nat} (hj : j < S.length) : (rowN S rest x (j + 1))[j]? = some S[j] := by
  unfold rowN
  rw [List.getElem?_append_left (by simp; omega), List.getElem?_take_of_lt (by omega), List.getElem?_eq_getElem hj]
theorem rowN_swap {S rest : List Nat} {x j : Nat} (hj : j < S.length) : ((rowN S rest x (j + 1)).set (j + 1) S[j]).set j x = rowN S rest x j := by
  unfold rowN
  have e1 : S.take (j + 1) = S.take j ++ [S[j]] := List.take_succ_eq_append_getElem hj
  have e2 : S.drop j = S[j] :: S.drop (j + 1) := List.drop_eq_getElem_cons hj
  have hl : (S.take j).length = j := by rw [List.length_take]; omega
  rw [e1, List.append_assoc]
  have h1 : (S.take j ++ ([S[j]] ++ x :: (S.drop (j + 1) ++ rest))).set (j + 1) S[j] = S.take j ++ ([S[j]] ++ S[j] :: (S.drop (j + 1) ++ rest)) := by
    rw [List.set_append_right _ _ (by omega), hl]
    congr 1
    simp [show j + 1 - j = 1 by omega]
  rw [h1, List.set_append_right _ _ (by omega), hl]
  simp
  rw [e2]
  rfl
theorem rowN_app {S rest : List Nat} {x j : Nat} : rowN S [] x j ++ rest = rowN S rest x j := by unfold rowN; simp
theorem rowN_end {i : Nat} (S rest : List Nat) {x : Nat} (hS : S.length = i) : rowN S rest x i = S ++ x :: rest := by
  unfold rowN; rw [List.take_of_length_le (by omega), List.drop_eq_nil_of_le (by omega), List.nil_append]

theorem t161 (x y : Nat) : PFn Tryz.prog 54 [.int .i64 x, .int .i64 y] [.bool (decide (x < y))] := by
  have e1 := t114 (x : Int)
  refine PFn.of_body hΓ Tryz.func54 (by kernel_rfl) rfl (AWp.of_awpD [] hΓ hmix (by kernel_rfl) ?_)
  simp -implicitDefEqProofs only [Tryz.ntmps54, Tryz.results54, Nat.reduceAdd, Nat.reduceSub, go_sem]
  refine callK_fn e1 (.pures rfl) ?_
  simp -implicitDefEqProofs only [go_sem]
  try simp

theorem c155 {h : List AObj} {b : Nat} (ns : List Nat) (hn : ns.length ≤ 1000) (hn0 : 0 < ns.length) (hb : h[b]? = some (.row 3 1 (ns.map Kn.nV) .own)) :
    AC Tryz.prog 133 [.own b ns.length, .p (.int .i64 0), .p (.int .i64 ns.length)] h [] (fun v h' => v = .tup [] ∧ h' = h.set b (.row 3 1 ((srtN ns ns.length).map Kn.nV) .own)) := by
  have hbl : b < h.length := (List.getElem?_eq_some_iff.1 hb).1
  have gL : ∀ o : AObj, (h.set b o)[b]? = some o := fun o => by simp [hbl]
  have sL : ∀ o o' : AObj, (h.set b o).set b o' = h.set b o' := fun o o' => by simp
  refine AC.of_bodyE hΓ Tryz.func133 (by kernel_rfl) rfl (AWp.mono (Q := fun e st => AM.Ends e ∧ st.h = h.set b (.row 3 1 ((srtN ns ns.length).map Kn.nV) .own)) ?_ ?_)
  rotate_left
  · rintro e ⟨tm, h'⟩ ⟨he, h2⟩
    simp only at h2
    subst h2
    refine ⟨he, _, Less.refl _, ?_⟩
    unfold DoneE
    simp +contextual -implicitDefEqProofs only [Tryz.results133, go_sem]
    exact ⟨_, by simp, .inl rfl, List.take_length⟩
  refine AWp.seq (AWp.of_awpD [] hΓ hmix (by kernel_rfl) ?_)
  simp -implicitDefEqProofs only [Tryz.ntmps133, Nat.reduceAdd, Nat.reduceSub, go_sem]
  refine ⟨by simp only [InR]; omega, ?_⟩
  have h0 : h = h.set b (.row 3 1 ((srtN ns 1 ++ ns.drop 1).map Kn.nV) .own) := by
    have e : srtN ns 1 ++ ns.drop 1 = ns := by
      cases ns with
      | nil => simp at hn0
      | cons a t => simp [srtN, insN]
    rw [e]
    exact (set_same hb).symm
  refine AWp.of_awpD [(4, 15), (6, 1000)] hΓ hmix (by kernel_rfl) ?_
  simp -implicitDefEqProofs only [go_sem]
  refine AWp.loopI (fun i : Nat => ⟨mkF 49 [(0, .own b ns.length), (1, .p (.int .i64 0)), (2, .p (.int .i64 ns.length)), (6, .p (.int .i64 i))], h.set b (.row 3 1 ((srtN ns i ++ ns.drop i).map Kn.nV) .own)⟩)
    (fun i => 1 ≤ i ∧ i ≤ ns.length) (fun i => ns.length - i) 1 ?_ ⟨Nat.le_refl _, hn0⟩ ?_
  · rw [← h0]
    simp [go_sem, weakH_refl]
  rintro i ⟨hi1, hi⟩
  refine AWp.of_awpD [(4, 15), (6, 1000)] hΓ hmix (by kernel_rfl) ?_
  by_cases hlt : i < ns.length
  · simp -implicitDefEqProofs only [hlt, go_sem]
    have hdrop : ns.drop i = ns.getD i 0 :: ns.drop (i + 1) := by
      rw [List.drop_eq_getElem_cons hlt, List.getD_eq_getElem?_getD, List.getElem?_eq_getElem hlt, Option.getD_some]
    have hSl := srtN_len ns i
    have hSs := srtN_sorted ns i
    have hsu : srtN ns (i + 1) = insN (ns.getD i 0) (srtN ns i) := rfl
    have hrl : (ns.drop (i + 1)).length = ns.length - (i + 1) := by simp
    rw [hdrop]
    rw [← rowN_end (srtN ns i) (ns.drop (i + 1)) (x := ns.getD i 0) hSl]
    generalize ns.getD i 0 = x at *
    generalize hre : ns.drop (i + 1) = rest at *
    generalize srtN ns i = S at *
    refine AWp.loopI (fun j : Nat => ⟨mkF 49 [(0, .own b ns.length), (1, .p (.int .i64 0)), (2, .p (.int .i64 ns.length)), (6, .p (.int .i64 i)), (7, .p (.int .i64 j))], h.set b (.row 3 1 ((rowN S rest x j).map Kn.nV) .own)⟩)
      (fun j => j ≤ i ∧ ∀ k (hk : k < S.length), j ≤ k → x < S[k]) (fun j => j) i (by simp [go_sem, weakH_self]) ⟨Nat.le_refl _, fun k hk hik => by omega⟩ ?_
    rintro j ⟨hj, hgt⟩
    have hRl := rowN_len (rest := rest) (x := x) (show j ≤ S.length by omega)
    have hRj := rowN_at (rest := rest) (x := x) (show j ≤ S.length by omega)
    refine AWp.of_awpD [(4, 15), (6, 1000)] hΓ hmix (by kernel_rfl) ?_
    by_cases hj0 : 0 < j
    · obtain ⟨m, rfl⟩ : ∃ m, j = m + 1 := ⟨j - 1, by omega⟩
      have hm : m < S.length := by omega
      have hRm := rowN_prev (rest := rest) (x := x) hm
      have hsw := rowN_swap (rest := rest) (x := x) hm
      have hjm : (((m + 1 : Nat) : Int) - 1) = (m : Int) := by omega
      have hjc : (0 : Int) < ((m + 1 : Nat) : Int) := by omega
      have gj : ((rowN S rest x (m + 1)).map Kn.nV).getD (m + 1) default = .int .i64 (x : Int) := by rw [List.getD_eq_getElem?_getD, List.getElem?_map, hRj]; rfl
      have gm : ((rowN S rest x (m + 1)).map Kn.nV).getD m default = .int .i64 (S[m] : Int) := by rw [List.getD_eq_getElem?_getD, List.getElem?_map, hRm]; rfl
      have e161 := t161 x S[m]
      simp -implicitDefEqProofs only [hjc, gL, gj, gm, hjm, Int.toNat_natCast, List.length_map, go_sem]
      refine ⟨by omega, by omega, by simp only [InR]; omega, by omega, by omega, callVPK_fn e161 (.pures rfl) ?_⟩
      by_cases hcl : x < S[m]
      · simp -implicitDefEqProofs only [hcl, go_sem]
        refine AWp.planL (.q 0 (.q 1 (.q 2 (.q 3 (.q 4 (.q 5 (.q 6 (.q 7 (.q 8 (.q 9 (.q 10 (.q 11 (.q 12 (.q 13 (.q 14 (.e 15 (.s 2 (.s 3 (.s 4 (.q 16 (.e 17 .fin .nil))))) .nil)))))))))))))))) hΓ hmix (by kernel_rfl) ?_
        simp -implicitDefEqProofs only [gL, sL, gj, gm, hjm, Int.toNat_natCast, List.length_map, go_sem]
        have hsw' : (((rowN S rest x (m + 1)).map Kn.nV).set (m + 1) (.int .i64 (S[m] : Int))).set m (.int .i64 (x : Int)) = (rowN S rest x m).map Kn.nV := by
          rw [← hsw, List.map_set, List.map_set]; rfl
        have hin : InR .i64 (m : Int) := by simp only [InR]; omega
        refine ⟨hin, hin, by omega, by omega, by omega, by omega, by omega, ⟨by omega, rfl⟩, hin, by omega, ⟨by simp; omega, rfl⟩, hin, m, ⟨rfl, ?_⟩, ⟨by omega, fun k hk hkm => ?_⟩, by omega⟩
        · rw [hsw']; exact weakH_refl _
        · by_cases he : k = m
          · subst he; exact hcl
          · exact hgt k hk (by omega)
      · simp -implicitDefEqProofs only [hcl, go_sem]
        have hend : insN x S = rowN S [] x (m + 1) := by
          unfold rowN
          rw [insN_at (j := m + 1) (by omega) (fun k hk hkj => ?_) hgt, List.append_nil]
          by_cases hkm : k = m
          · subst hkm; omega
          · have := List.pairwise_iff_getElem.1 hSs k m hk hm (by omega)
            omega
        refine ⟨by simp only [InR]; omega, i + 1, ⟨by omega, ?_⟩, ⟨by omega, hlt⟩, by omega⟩
        rw [hsu, hre, hend, rowN_app]
        exact weakH_refl _
    · have hjc : ¬ (0 : Int) < (j : Int) := by omega
      have hj1 : j = 0 := by omega
      simp -implicitDefEqProofs only [hjc, go_sem]
      have hend : insN x S = rowN S [] x j := by
        unfold rowN
        rw [insN_at (j := j) (by omega) (fun k hk hkj => by omega) hgt, List.append_nil]
      refine ⟨by simp only [InR]; omega, i + 1, ⟨by omega, ?_⟩, ⟨by omega, hlt⟩, by omega⟩
      rw [hsu, hre, hend, rowN_app]
      exact weakH_refl _
  · have hin : i = ns.length := by omega
    subst hin
    simp -implicitDefEqProofs only [Nat.lt_irrefl, Int.lt_irrefl, go_sem]
    rw [List.drop_eq_nil_of_le (by simp), List.append_nil]

theorem c129 {h : List AObj} {b : Nat} (ns : List Nat) (m : Int) (hn : ns.length ≤ 12) (hn0 : 0 < ns.length) (hb : h[b]? = some (.row 3 1 (ns.map Kn.nV) .own)) :
    AC Tryz.prog 117 [.own b ns.length, .p (.int .i64 0), .p (.int .i64 ns.length), .p (.int .i64 m)] h [] (fun v h' => v = .tup [] ∧ h' = h.set b (.row 3 1 ((srtN ns ns.length).map Kn.nV) .own)) := by
  have hc := c155 ns (by omega) hn0 hb
  have h12 : (ns.length : Int) - 0 ≤ 12 := by omega
  refine AC.of_bodyE hΓ Tryz.func117 (by kernel_rfl) rfl (AWp.mono (Q := fun e st => AM.Ends e ∧ st.h = h.set b (.row 3 1 ((srtN ns ns.length).map Kn.nV) .own)) ?_ ?_)
  rotate_left
  · rintro e ⟨tm, h'⟩ ⟨he, h2⟩
    simp only at h2
    subst h2
    refine ⟨he, _, Less.refl _, ?_⟩
    unfold DoneE
    simp +contextual -implicitDefEqProofs only [Tryz.results117, go_sem]
    exact ⟨_, by simp, .inl rfl, List.take_length⟩
  refine AWp.seq (AWp.of_awpD [] hΓ hmix (by kernel_rfl) ?_)
  simp -implicitDefEqProofs only [Tryz.ntmps117, Nat.reduceAdd, Nat.reduceSub, go_sem]
  refine AWp.seq (AWp.of_awpD [] hΓ hmix (by kernel_rfl) ?_)
  simp -implicitDefEqProofs only [go_sem]
  refine AWp.block ?_
  refine AWp.loopI (fun _ : Unit => ⟨mkF 134 [(0, .own b ns.length), (1, .p (.int .i64 0)), (2, .p (.int .i64 ns.length)), (3, .p (.int .i64 m))], h⟩) (fun _ => True) (fun _ => 0) () (by simp [go_sem, weakH_refl]) trivial ?_
  rintro _ -
  refine AWp.block ?_
  refine AWp.seq (AWp.of_awpD [] hΓ hmix (by kernel_rfl) ?_)
  simp -implicitDefEqProofs only [go_sem]
  refine ⟨by simp only [InR]; omega, ?_⟩
  refine AWp.seq (AWp.seq (AWp.of_awpD [] hΓ hmix (by kernel_rfl) ?_))
  simp -implicitDefEqProofs only [h12, go_sem]
  refine AWp.of_awpD [] hΓ hmix (by kernel_rfl) ?_
  simp -implicitDefEqProofs only [h12, go_sem]
  refine callK_ac hc (by simp) ?_
  rintro v h' ⟨rfl, rfl⟩
  simp -implicitDefEqProofs only [killAll, List.foldl, go_sem]
  try done

theorem c91 {h : List AObj} {b : Nat} (ns : List Nat) (hn : ns.length ≤ 12) (hn0 : 0 < ns.length) (hb : h[b]? = some (.row 3 1 (ns.map Kn.nV) .own)) :
    AC Tryz.prog 98 [.own b ns.length] h [] (fun v h' => v = .tup [] ∧ h' = h.set b (.row 3 1 ((srtN ns ns.length).map Kn.nV) .own)) := by
  have hc := fun m => c129 (h := h) (b := b) ns m hn hn0 hb
  have e130 := Kn.v130 ns.length (by omega)
  have hwr : IntKind.u64.wrap (ns.length : Int) = ns.length := InR.wrap (k := .u64) (by simp only [InR]; omega)
  refine AC.of_bodyE hΓ Tryz.func98 (by kernel_rfl) rfl (AWp.mono (Q := fun e st => AM.Ends e ∧ st.h = h.set b (.row 3 1 ((srtN ns ns.length).map Kn.nV) .own)) ?_ ?_)
  rotate_left
  · rintro e ⟨tm, h'⟩ ⟨he, h2⟩
    simp only at h2
    subst h2
    refine ⟨he, _, Less.refl _, ?_⟩
    unfold DoneE
    simp +contextual -implicitDefEqProofs only [Tryz.results98, go_sem]
    exact ⟨_, by simp, .inl rfl, List.take_length⟩
  refine AWp.of_awpD [] hΓ hmix (by kernel_rfl) ?_
  simp -implicitDefEqProofs only [Tryz.ntmps98, Nat.reduceAdd, Nat.reduceSub, hb, hwr, go_sem]
  refine callK_fn e130 (.pures rfl) ?_
  simp -implicitDefEqProofs only [go_sem]
  refine callK_ac (hc _) (by simp) ?_
  rintro v h' ⟨rfl, rfl⟩
  simp -implicitDefEqProofs only [killAll, List.foldl, go_sem]
  try done

end Go.Proofs.YtnaekjbbakofdaaGreat
end

section
namespace Go.Proofs.YtnaekjbbakofdaaGreat
open Go Go.AM
set_option maxRecDepth 100000
set_option maxHeartbeats 4000000
set_option linter.unusedSimpArgs false

def insD (x : Nat) : List Nat → List Nat
  | [] => [x]
  | y :: t => if y < x then x :: y :: t else y :: insD x t
theorem insD_len (x : Nat) : ∀ S, (insD x S).length = S.length + 1
  | [] => rfl
  | y :: t => by unfold insD; split <;> simp [insD_len x t]
theorem insD_at {x : Nat} : ∀ {S : List Nat} {j : Nat}, j ≤ S.length → (∀ k (hk : k < S.length), k < j → x ≤ S[k]) → (∀ k (hk : k < S.length), j ≤ k → S[k] < x) → insD x S = S.take j ++ x :: S.drop j
  | [], j, hj, _, _ => by simp [insD]
  | y :: t, 0, _, _, h2 => by
    have := h2 0 (by simp) (Nat.le_refl _)
    unfold insD
    rw [if_pos (by simpa using this)]; simp
  | y :: t, j + 1, hj, h1, h2 => by
    have h3 := h1 0 (by simp) (by omega)
    have ih := insD_at (x := x) (S := t) (j := j) (by simpa using hj) (fun k hk hkj => h1 (k + 1) (by simp; omega) (by omega)) (fun k hk hkj => h2 (k + 1) (by simp; omega) (by omega))
    unfold insD
    rw [if_neg (by simp at h3; omega), ih]; simp
theorem mem_insD {x y : Nat} : ∀ {S : List Nat}, y ∈ insD x S ↔ y = x ∨ y ∈ S
  | [] => by simp [insD]
  | z :: t => by
    unfold insD
    split
    · simp
    · simp only [List.mem_cons, mem_insD (S := t)]
      constructor
      · rintro (h | h | h)
        · exact .inr (.inl h)
        · exact .inl h
        · exact .inr (.inr h)
      · rintro (h | h | h)
        · exact .inr (.inl h)
        · exact .inl h
        · exact .inr (.inr h)
theorem insD_sorted {x : Nat} : ∀ {S : List Nat}, S.Pairwise (· ≥ ·) → (insD x S).Pairwise (· ≥ ·)
  | [], _ => by simp [insD]
  | y :: t, h => by
    have h' := List.pairwise_cons.1 h
    unfold insD
    split
    · rename_i hlt
      refine List.pairwise_cons.2 ⟨fun z hz => ?_, h⟩
      rcases List.mem_cons.1 hz with rfl | hz
      · omega
      · have := h'.1 z hz; omega
    · rename_i hlt
      refine List.pairwise_cons.2 ⟨fun z hz => ?_, insD_sorted h'.2⟩
      rcases mem_insD.1 hz with rfl | hz
      · omega
      · exact h'.1 z hz
def srtD (ns : List Nat) : Nat → List Nat
  | 0 => []
  | n + 1 => insD (ns.getD n 0) (srtD ns n)
theorem srtD_len (ns : List Nat) : ∀ n, (srtD ns n).length = n
  | 0 => rfl
  | n + 1 => by unfold srtD; rw [insD_len, srtD_len ns n]
theorem srtD_sorted (ns : List Nat) : ∀ n, (srtD ns n).Pairwise (· ≥ ·)
  | 0 => by simp [srtD]
  | n + 1 => insD_sorted (srtD_sorted ns n)
theorem mem_srtD {ns : List Nat} {y : Nat} : ∀ {n : Nat}, n ≤ ns.length → y ∈ srtD ns n → y ∈ ns
  | 0, _, h => by simp [srtD] at h
  | n + 1, hn, h => by
    unfold srtD at h
    rcases mem_insD.1 h with h | h
    · rw [h, List.getD_eq_getElem?_getD, List.getElem?_eq_getElem (by omega), Option.getD_some]; exact List.getElem_mem _
    · exact mem_srtD (by omega) h

theorem c97 (a b : Nat) (ha : a < capN) (hb : b < capN) : PFn Tryz.prog 97 [intN false a, intN false b] [.int .i64 (cmpN b a)] := by
  have e := u33 b a hb ha
  rw [intN_pos, intN_pos] at e ⊢
  refine PFn.of_body hΓ Tryz.func97 (by kernel_rfl) rfl (AWp.of_awpD [] hΓ hmix (by kernel_rfl) ?_)
  simp -implicitDefEqProofs only [Tryz.ntmps97, Tryz.results97, Nat.reduceAdd, Nat.reduceSub, go_sem]
  refine callK_fn e (.still rfl) ?_
  simp -implicitDefEqProofs only [go_sem]

theorem c123 {h : List AObj} {b : Nat} (ns : List Nat) (hn : ns.length ≤ 1000) (hn0 : 0 < ns.length) (hcap : ∀ y ∈ ns, y < capN) (hb : h[b]? = some (.row 31 2 (ns.map (intN false)) .own)) :
    AC Tryz.prog 123 [.own b ns.length, .p (.int .i64 0), .p (.int .i64 ns.length), .fn 97 []] h [] (fun v h' => v = .tup [] ∧ h' = h.set b (.row 31 2 ((srtD ns ns.length).map (intN false)) .own)) := by
  have hbl : b < h.length := (List.getElem?_eq_some_iff.1 hb).1
  have gL : ∀ o : AObj, (h.set b o)[b]? = some o := fun o => by simp [hbl]
  have sL : ∀ o o' : AObj, (h.set b o).set b o' = h.set b o' := fun o o' => by simp
  refine AC.of_bodyE hΓ Tryz.func123 (by kernel_rfl) rfl (AWp.mono (Q := fun e st => AM.Ends e ∧ st.h = h.set b (.row 31 2 ((srtD ns ns.length).map (intN false)) .own)) ?_ ?_)
  rotate_left
  · rintro e ⟨tm, h'⟩ ⟨he, h2⟩
    simp only at h2
    subst h2
    refine ⟨he, _, Less.refl _, ?_⟩
    unfold DoneE
    simp +contextual -implicitDefEqProofs only [Tryz.results123, go_sem]
    exact ⟨_, by simp, .inl rfl, List.take_length⟩
  refine AWp.seq (AWp.of_awpD [] hΓ hmix (by kernel_rfl) ?_)
  simp -implicitDefEqProofs only [Tryz.ntmps123, Nat.reduceAdd, Nat.reduceSub, go_sem]
  refine ⟨by simp only [InR]; omega, ?_⟩
  have h0 : h = h.set b (.row 31 2 ((srtD ns 1 ++ ns.drop 1).map (intN false)) .own) := by
    have e : srtD ns 1 ++ ns.drop 1 = ns := by
      cases ns with
      | nil => simp at hn0
      | cons a t => simp [srtD, insD]
    rw [e]
    exact (set_same hb).symm
  refine AWp.of_awpD [(4, 17), (6, 1000)] hΓ hmix (by kernel_rfl) ?_
  simp -implicitDefEqProofs only [go_sem]
  refine AWp.loopI (fun i : Nat => ⟨mkF 53 [(0, .own b ns.length), (1, .p (.int .i64 0)), (2, .p (.int .i64 ns.length)), (3, .fn 97 []), (8, .p (.int .i64 i))], h.set b (.row 31 2 ((srtD ns i ++ ns.drop i).map (intN false)) .own)⟩)
    (fun i => 1 ≤ i ∧ i ≤ ns.length) (fun i => ns.length - i) 1 ?_ ⟨Nat.le_refl _, hn0⟩ ?_
  · rw [← h0]
    simp [go_sem, weakH_refl]
  rintro i ⟨hi1, hi⟩
  refine AWp.of_awpD [(4, 17), (6, 1000)] hΓ hmix (by kernel_rfl) ?_
  by_cases hlt : i < ns.length
  · simp -implicitDefEqProofs only [hlt, go_sem]
    have hdrop : ns.drop i = ns.getD i 0 :: ns.drop (i + 1) := by
      rw [List.drop_eq_getElem_cons hlt, List.getD_eq_getElem?_getD, List.getElem?_eq_getElem hlt, Option.getD_some]
    have hxc : ns.getD i 0 < capN := by
      rw [List.getD_eq_getElem?_getD, List.getElem?_eq_getElem hlt, Option.getD_some]; exact hcap _ (List.getElem_mem hlt)
    have hSc : ∀ y ∈ srtD ns i, y < capN := fun y hy => hcap y (mem_srtD hi hy)
    have hSl := srtD_len ns i
    have hSs := srtD_sorted ns i
    have hsu : srtD ns (i + 1) = insD (ns.getD i 0) (srtD ns i) := rfl
    have hrl : (ns.drop (i + 1)).length = ns.length - (i + 1) := by simp
    rw [hdrop]
    rw [← rowN_end (srtD ns i) (ns.drop (i + 1)) (x := (ns.getD i 0)) hSl]
    generalize ns.getD i 0 = x at *
    generalize hre : ns.drop (i + 1) = rest at *
    generalize srtD ns i = S at *
    refine AWp.loopI (fun j : Nat => ⟨mkF 53 [(0, .own b ns.length), (1, .p (.int .i64 0)), (2, .p (.int .i64 ns.length)), (3, .fn 97 []), (8, .p (.int .i64 i)), (9, .p (.int .i64 j))], h.set b (.row 31 2 ((rowN S rest x j).map (intN false)) .own)⟩)
      (fun j => j ≤ i ∧ ∀ k (hk : k < S.length), j ≤ k → S[k] < x) (fun j => j) i (by simp [go_sem, weakH_self]) ⟨Nat.le_refl _, fun k hk hik => by omega⟩ ?_
    rintro j ⟨hj, hgt⟩
    have hRl := rowN_len (rest := rest) (x := x) (show j ≤ S.length by omega)
    have hRj := rowN_at (rest := rest) (x := x) (show j ≤ S.length by omega)
    refine AWp.of_awpD [(4, 17), (6, 1000)] hΓ hmix (by kernel_rfl) ?_
    by_cases hj0 : 0 < j
    · obtain ⟨m, rfl⟩ : ∃ m, j = m + 1 := ⟨j - 1, by omega⟩
      have hm : m < S.length := by omega
      have hRm := rowN_prev (rest := rest) (x := x) hm
      have hsw := rowN_swap (rest := rest) (x := x) hm
      have hjm : (((m + 1 : Nat) : Int) - 1) = (m : Int) := by omega
      have hjc : (0 : Int) < ((m + 1 : Nat) : Int) := by omega
      have gj : ((rowN S rest x (m + 1)).map (intN false)).getD (m + 1) default = (intN false) x := by rw [List.getD_eq_getElem?_getD, List.getElem?_map, hRj]; rfl
      have gm : ((rowN S rest x (m + 1)).map (intN false)).getD m default = (intN false) S[m] := by rw [List.getD_eq_getElem?_getD, List.getElem?_map, hRm]; rfl
      have e97 := c97 x S[m] hxc (hSc _ (List.getElem_mem hm))
      have hcx : List.take 2 ((intN false) x).cells = [.bool false, .str (magB x)] := rfl
      have hcm : List.take 2 ((intN false) S[m]).cells = [.bool false, .str (magB S[m])] := rfl
      have hc2 : ∀ p : Nat, (intN false p).cells.length = 2 := fun p => rfl
      rw [intN_pos, intN_pos] at e97
      simp -implicitDefEqProofs only [hjc, gL, gj, gm, hjm, Int.toNat_natCast, List.length_map, hcx, hcm, hc2, go_sem]
      refine ⟨by omega, by omega, by simp only [InR]; omega, by omega, by omega, callVPK_fn e97 (.pures rfl) ?_⟩
      by_cases hcl : S[m] < x
      · have hc3 : cmpN S[m] x = -1 := cmpN_lt hcl
        rw [hc3]
        have hneg : (-1 : Int) < 0 := by decide
        simp -implicitDefEqProofs only [hneg, go_sem]
        refine AWp.planL (.q 0 (.q 1 (.q 2 (.q 3 (.q 4 (.q 5 (.q 6 (.q 7 (.q 8 (.q 9 (.q 10 (.q 11 (.q 12 (.q 13 (.q 14 (.e 15 (.s 2 (.s 3 (.s 4 (.q 16 (.e 17 .fin .nil))))) .nil)))))))))))))))) hΓ hmix (by kernel_rfl) ?_
        simp -implicitDefEqProofs only [gL, sL, gj, gm, hjm, Int.toNat_natCast, List.length_map, hcx, hcm, hc2, go_sem]
        have hsw' : (((rowN S rest x (m + 1)).map (intN false)).set (m + 1) (.agg [.bool false, .str (magB S[m])])).set m (.agg [.bool false, .str (magB x)]) = (rowN S rest x m).map (intN false) := by
          rw [← hsw, List.map_set, List.map_set]; rfl
        have hin : InR .i64 (m : Int) := by simp only [InR]; omega
        refine ⟨hin, hin, by omega, by omega, by omega, by omega, by omega, ⟨by omega, rfl⟩, hin, by omega, ⟨by simp; omega, rfl⟩, hin, m, ⟨rfl, ?_⟩, ⟨by omega, fun k hk hkm => ?_⟩, by omega⟩
        · rw [hsw']; exact weakH_refl _
        · by_cases he : k = m
          · subst he; exact hcl
          · exact hgt k hk (by omega)
      · have hc3 : ¬ cmpN S[m] x < 0 := by unfold cmpN; rw [if_neg hcl]; split <;> decide
        simp -implicitDefEqProofs only [hc3, go_sem]
        have hend : insD x S = rowN S [] x (m + 1) := by
          unfold rowN
          rw [insD_at (j := m + 1) (by omega) (fun k hk hkj => ?_) hgt, List.append_nil]
          have h1 : x ≤ S[m] := by omega
          by_cases hkm : k = m
          · subst hkm; exact h1
          · have := List.pairwise_iff_getElem.1 hSs k m hk hm (by omega)
            omega
        refine ⟨by simp only [InR]; omega, i + 1, ⟨by omega, ?_⟩, ⟨by omega, hlt⟩, by omega⟩
        rw [hsu, hre, hend, rowN_app]
        exact weakH_refl _
    · have hjc : ¬ (0 : Int) < (j : Int) := by omega
      have hj1 : j = 0 := by omega
      simp -implicitDefEqProofs only [hjc, go_sem]
      have hend : insD x S = rowN S [] x j := by
        unfold rowN
        rw [insD_at (j := j) (by omega) (fun k hk hkj => by omega) hgt, List.append_nil]
      refine ⟨by simp only [InR]; omega, i + 1, ⟨by omega, ?_⟩, ⟨by omega, hlt⟩, by omega⟩
      rw [hsu, hre, hend, rowN_app]
      exact weakH_refl _
  · have hin : i = ns.length := by omega
    subst hin
    simp -implicitDefEqProofs only [Nat.lt_irrefl, Int.lt_irrefl, go_sem]
    rw [List.drop_eq_nil_of_le (by simp), List.append_nil]

theorem c115 {h : List AObj} {b : Nat} (ns : List Nat) (m : Int) (hn : ns.length ≤ 12) (hn0 : 0 < ns.length) (hcap : ∀ y ∈ ns, y < capN) (hb : h[b]? = some (.row 31 2 (ns.map (intN false)) .own)) :
    AC Tryz.prog 115 [.own b ns.length, .p (.int .i64 0), .p (.int .i64 ns.length), .p (.int .i64 m), .fn 97 []] h [] (fun v h' => v = .tup [] ∧ h' = h.set b (.row 31 2 ((srtD ns ns.length).map (intN false)) .own)) := by
  have hc := c123 ns (by omega) hn0 hcap hb
  have h12 : (ns.length : Int) - 0 ≤ 12 := by omega
  refine AC.of_bodyE hΓ Tryz.func115 (by kernel_rfl) rfl (AWp.mono (Q := fun e st => AM.Ends e ∧ st.h = h.set b (.row 31 2 ((srtD ns ns.length).map (intN false)) .own)) ?_ ?_)
  rotate_left
  · rintro e ⟨tm, h'⟩ ⟨he, h2⟩
    simp only at h2
    subst h2
    refine ⟨he, _, Less.refl _, ?_⟩
    unfold DoneE
    simp +contextual -implicitDefEqProofs only [Tryz.results115, go_sem]
    exact ⟨_, by simp, .inl rfl, List.take_length⟩
  refine AWp.seq (AWp.of_awpD [] hΓ hmix (by kernel_rfl) ?_)
  simp -implicitDefEqProofs only [Tryz.ntmps115, Nat.reduceAdd, Nat.reduceSub, go_sem]
  refine AWp.seq (AWp.of_awpD [] hΓ hmix (by kernel_rfl) ?_)
  simp -implicitDefEqProofs only [go_sem]
  refine AWp.block ?_
  refine AWp.loopI (fun _ : Unit => ⟨mkF 148 [(0, .own b ns.length), (1, .p (.int .i64 0)), (2, .p (.int .i64 ns.length)), (3, .p (.int .i64 m)), (4, .fn 97 [])], h⟩) (fun _ => True) (fun _ => 0) () (by simp [go_sem, weakH_refl]) trivial ?_
  rintro _ -
  refine AWp.block ?_
  refine AWp.seq (AWp.of_awpD [] hΓ hmix (by kernel_rfl) ?_)
  simp -implicitDefEqProofs only [go_sem]
  refine ⟨by simp only [InR]; omega, ?_⟩
  refine AWp.seq (AWp.seq (AWp.of_awpD [] hΓ hmix (by kernel_rfl) ?_))
  simp -implicitDefEqProofs only [h12, go_sem]
  refine AWp.of_awpD [] hΓ hmix (by kernel_rfl) ?_
  simp -implicitDefEqProofs only [h12, go_sem]
  refine callK_ac hc (by simp) ?_
  rintro v h' ⟨rfl, rfl⟩
  simp -implicitDefEqProofs only [killAll, List.foldl, go_sem]
  try done

theorem c96 {h : List AObj} {b : Nat} (ns : List Nat) (hn : ns.length ≤ 12) (hn0 : 0 < ns.length) (hcap : ∀ y ∈ ns, y < capN) (hb : h[b]? = some (.row 31 2 (ns.map (intN false)) .own)) :
    AC Tryz.prog 96 [.own b ns.length, .fn 97 []] h [] (fun v h' => v = .tup [] ∧ h' = h.set b (.row 31 2 ((srtD ns ns.length).map (intN false)) .own)) := by
  have hc := fun m => c115 (h := h) (b := b) ns m hn hn0 hcap hb
  have e130 := Kn.v130 ns.length (by omega)
  have hwr : IntKind.u64.wrap (ns.length : Int) = ns.length := InR.wrap (k := .u64) (by simp only [InR]; omega)
  refine AC.of_bodyE hΓ Tryz.func96 (by kernel_rfl) rfl (AWp.mono (Q := fun e st => AM.Ends e ∧ st.h = h.set b (.row 31 2 ((srtD ns ns.length).map (intN false)) .own)) ?_ ?_)
  rotate_left
  · rintro e ⟨tm, h'⟩ ⟨he, h2⟩
    simp only at h2
    subst h2
    refine ⟨he, _, Less.refl _, ?_⟩
    unfold DoneE
    simp +contextual -implicitDefEqProofs only [Tryz.results96, go_sem]
    exact ⟨_, by simp, .inl rfl, List.take_length⟩
  refine AWp.of_awpD [] hΓ hmix (by kernel_rfl) ?_
  simp -implicitDefEqProofs only [Tryz.ntmps96, Nat.reduceAdd, Nat.reduceSub, hb, hwr, go_sem]
  refine callK_fn e130 (.pures rfl) ?_
  simp -implicitDefEqProofs only [go_sem]
  refine callK_ac (hc _) (by simp) ?_
  rintro v h' ⟨rfl, rfl⟩
  simp -implicitDefEqProofs only [killAll, List.foldl, go_sem]
  try done

theorem c123z {h : List AObj} (b : Nat) : AC Tryz.prog 123 [.own b 0, .p (.int .i64 0), .p (.int .i64 0), .fn 97 []] h [] (fun v h' => v = .tup [] ∧ h' = h) := by
  refine AC.of_bodyE hΓ Tryz.func123 (by kernel_rfl) rfl (AWp.mono (Q := fun e st => AM.Ends e ∧ st.h = h) ?_ ?_)
  rotate_left
  · rintro e ⟨tm, h'⟩ ⟨he, h2⟩
    simp only at h2
    subst h2
    refine ⟨he, _, Less.refl _, ?_⟩
    unfold DoneE
    simp +contextual -implicitDefEqProofs only [Tryz.results123, go_sem]
    exact ⟨_, Nat.le_refl _, .inl rfl, List.take_length⟩
  refine AWp.seq (AWp.of_awpD [] hΓ hmix (by kernel_rfl) ?_)
  simp -implicitDefEqProofs only [Tryz.ntmps123, Nat.reduceAdd, Nat.reduceSub, go_sem]
  have hin : InR .i64 ((0 : Int) + 1) := by simp only [InR]; omega
  try refine ⟨hin, ?_⟩
  refine AWp.of_awpD [(4, 17), (6, 1000)] hΓ hmix (by kernel_rfl) ?_
  simp -implicitDefEqProofs only [go_sem]
  refine AWp.loopI (fun _ : Unit => ⟨mkF 53 [(0, .own b 0), (1, .p (.int .i64 0)), (2, .p (.int .i64 0)), (3, .fn 97 []), (8, .p (.int .i64 1))], h⟩) (fun _ => True) (fun _ => 0) () (by simp [go_sem, weakH_refl]) trivial ?_
  rintro _ -
  have h10 : ¬ (1 : Int) < 0 := by omega
  refine AWp.of_awpD [(4, 17), (6, 1000)] hΓ hmix (by kernel_rfl) ?_
  simp -implicitDefEqProofs only [h10, go_sem]
  try done

theorem c115z {h : List AObj} (b : Nat) (m : Int) : AC Tryz.prog 115 [.own b 0, .p (.int .i64 0), .p (.int .i64 0), .p (.int .i64 m), .fn 97 []] h [] (fun v h' => v = .tup [] ∧ h' = h) := by
  have hc := c123z (h := h) b
  have h12 : (0 : Int) - 0 ≤ 12 := by omega
  refine AC.of_bodyE hΓ Tryz.func115 (by kernel_rfl) rfl (AWp.mono (Q := fun e st => AM.Ends e ∧ st.h = h) ?_ ?_)
  rotate_left
  · rintro e ⟨tm, h'⟩ ⟨he, h2⟩
    simp only at h2
    subst h2
    refine ⟨he, _, Less.refl _, ?_⟩
    unfold DoneE
    simp +contextual -implicitDefEqProofs only [Tryz.results115, go_sem]
    exact ⟨_, Nat.le_refl _, .inl rfl, List.take_length⟩
  refine AWp.seq (AWp.of_awpD [] hΓ hmix (by kernel_rfl) ?_)
  simp -implicitDefEqProofs only [Tryz.ntmps115, Nat.reduceAdd, Nat.reduceSub, go_sem]
  refine AWp.seq (AWp.of_awpD [] hΓ hmix (by kernel_rfl) ?_)
  simp -implicitDefEqProofs only [go_sem]
  refine AWp.block ?_
  refine AWp.loopI (fun _ : Unit => ⟨mkF 148 [(0, .own b 0), (1, .p (.int .i64 0)), (2, .p (.int .i64 0)), (3, .p (.int .i64 m)), (4, .fn 97 [])], h⟩) (fun _ => True) (fun _ => 0) () (by simp [go_sem, weakH_refl]) trivial ?_
  rintro _ -
  refine AWp.block ?_
  refine AWp.seq (AWp.of_awpD [] hΓ hmix (by kernel_rfl) ?_)
  simp -implicitDefEqProofs only [go_sem]
  try refine ⟨by simp only [InR]; omega, ?_⟩
  refine AWp.seq (AWp.seq (AWp.of_awpD [] hΓ hmix (by kernel_rfl) ?_))
  simp -implicitDefEqProofs only [h12, go_sem]
  refine AWp.of_awpD [] hΓ hmix (by kernel_rfl) ?_
  simp -implicitDefEqProofs only [h12, go_sem]
  refine callK_ac hc (by simp) ?_
  rintro v h' ⟨rfl, rfl⟩
  simp -implicitDefEqProofs only [killAll, List.foldl, go_sem]
  try done

theorem c96z {h : List AObj} (b : Nat) : AC Tryz.prog 96 [.own b 0, .fn 97 []] h [] (fun v h' => v = .tup [] ∧ h' = h) := by
  have hc := fun m => c115z (h := h) b m
  have e130 := Kn.v130 0 (by omega)
  refine AC.of_bodyE hΓ Tryz.func96 (by kernel_rfl) rfl (AWp.mono (Q := fun e st => AM.Ends e ∧ st.h = h) ?_ ?_)
  rotate_left
  · rintro e ⟨tm, h'⟩ ⟨he, h2⟩
    simp only at h2
    subst h2
    refine ⟨he, _, Less.refl _, ?_⟩
    unfold DoneE
    simp +contextual -implicitDefEqProofs only [Tryz.results96, go_sem]
    exact ⟨_, Nat.le_refl _, .inl rfl, List.take_length⟩
  have hwr : IntKind.u64.wrap (0 : Int) = 0 := InR.wrap (k := .u64) (by simp only [InR]; omega)
  refine AWp.of_awpD [] hΓ hmix (by kernel_rfl) ?_
  simp -implicitDefEqProofs only [Tryz.ntmps96, Nat.reduceAdd, Nat.reduceSub, hwr, go_sem]
  refine callK_fn e130 (.pures rfl) ?_
  simp -implicitDefEqProofs only [go_sem]
  refine callK_ac (hc _) (by simp) ?_
  rintro v h' ⟨rfl, rfl⟩
  simp -implicitDefEqProofs only [killAll, List.foldl, go_sem]
  try done

theorem c133z {h : List AObj} (b : Nat) : AC Tryz.prog 133 [.own b 0, .p (.int .i64 0), .p (.int .i64 0)] h [] (fun v h' => v = .tup [] ∧ h' = h) := by
  refine AC.of_bodyE hΓ Tryz.func133 (by kernel_rfl) rfl (AWp.mono (Q := fun e st => AM.Ends e ∧ st.h = h) ?_ ?_)
  rotate_left
  · rintro e ⟨tm, h'⟩ ⟨he, h2⟩
    simp only at h2
    subst h2
    refine ⟨he, _, Less.refl _, ?_⟩
    unfold DoneE
    simp +contextual -implicitDefEqProofs only [Tryz.results133, go_sem]
    exact ⟨_, Nat.le_refl _, .inl rfl, List.take_length⟩
  refine AWp.seq (AWp.of_awpD [] hΓ hmix (by kernel_rfl) ?_)
  simp -implicitDefEqProofs only [Tryz.ntmps133, Nat.reduceAdd, Nat.reduceSub, go_sem]
  have hin : InR .i64 ((0 : Int) + 1) := by simp only [InR]; omega
  try refine ⟨hin, ?_⟩
  refine AWp.of_awpD [(4, 17), (6, 1000)] hΓ hmix (by kernel_rfl) ?_
  simp -implicitDefEqProofs only [go_sem]
  refine AWp.loopI (fun _ : Unit => ⟨mkF 49 [(0, .own b 0), (1, .p (.int .i64 0)), (2, .p (.int .i64 0)), (6, .p (.int .i64 1))], h⟩) (fun _ => True) (fun _ => 0) () (by simp [go_sem, weakH_refl]) trivial ?_
  rintro _ -
  have h10 : ¬ (1 : Int) < 0 := by omega
  refine AWp.of_awpD [(4, 17), (6, 1000)] hΓ hmix (by kernel_rfl) ?_
  simp -implicitDefEqProofs only [h10, go_sem]
  try done

theorem c117z {h : List AObj} (b : Nat) (m : Int) : AC Tryz.prog 117 [.own b 0, .p (.int .i64 0), .p (.int .i64 0), .p (.int .i64 m)] h [] (fun v h' => v = .tup [] ∧ h' = h) := by
  have hc := c133z (h := h) b
  have h12 : (0 : Int) - 0 ≤ 12 := by omega
  refine AC.of_bodyE hΓ Tryz.func117 (by kernel_rfl) rfl (AWp.mono (Q := fun e st => AM.Ends e ∧ st.h = h) ?_ ?_)
  rotate_left
  · rintro e ⟨tm, h'⟩ ⟨he, h2⟩
    simp only at h2
    subst h2
    refine ⟨he, _, Less.refl _, ?_⟩
    unfold DoneE
    simp +contextual -implicitDefEqProofs only [Tryz.results117, go_sem]
    exact ⟨_, Nat.le_refl _, .inl rfl, List.take_length⟩
  refine AWp.seq (AWp.of_awpD [] hΓ hmix (by kernel_rfl) ?_)
  simp -implicitDefEqProofs only [Tryz.ntmps117, Nat.reduceAdd, Nat.reduceSub, go_sem]
  refine AWp.seq (AWp.of_awpD [] hΓ hmix (by kernel_rfl) ?_)
  simp -implicitDefEqProofs only [go_sem]
  refine AWp.block ?_
  refine AWp.loopI (fun _ : Unit => ⟨mkF 134 [(0, .own b 0), (1, .p (.int .i64 0)), (2, .p (.int .i64 0)), (3, .p (.int .i64 m))], h⟩) (fun _ => True) (fun _ => 0) () (by simp [go_sem, weakH_refl]) trivial ?_
  rintro _ -
  refine AWp.block ?_
  refine AWp.seq (AWp.of_awpD [] hΓ hmix (by kernel_rfl) ?_)
  simp -implicitDefEqProofs only [go_sem]
  try refine ⟨by simp only [InR]; omega, ?_⟩
  refine AWp.seq (AWp.seq (AWp.of_awpD [] hΓ hmix (by kernel_rfl) ?_))
  simp -implicitDefEqProofs only [h12, go_sem]
  refine AWp.of_awpD [] hΓ hmix (by kernel_rfl) ?_
  simp -implicitDefEqProofs only [h12, go_sem]
  refine callK_ac hc (by simp) ?_
  rintro v h' ⟨rfl, rfl⟩
  simp -implicitDefEqProofs only [killAll, List.foldl, go_sem]
  try done

theorem c98z {h : List AObj} (b : Nat) : AC Tryz.prog 98 [.own b 0] h [] (fun v h' => v = .tup [] ∧ h' = h) := by
  have hc := fun m => c117z (h := h) b m
  have e130 := Kn.v130 0 (by omega)
  refine AC.of_bodyE hΓ Tryz.func98 (by kernel_rfl) rfl (AWp.mono (Q := fun e st => AM.Ends e ∧ st.h = h) ?_ ?_)
  rotate_left
  · rintro e ⟨tm, h'⟩ ⟨he, h2⟩
    simp only at h2
    subst h2
    refine ⟨he, _, Less.refl _, ?_⟩
    unfold DoneE
    simp +contextual -implicitDefEqProofs only [Tryz.results98, go_sem]
    exact ⟨_, Nat.le_refl _, .inl rfl, List.take_length⟩
  have hwr : IntKind.u64.wrap (0 : Int) = 0 := InR.wrap (k := .u64) (by simp only [InR]; omega)
  refine AWp.of_awpD [] hΓ hmix (by kernel_rfl) ?_
  simp -implicitDefEqProofs only [Tryz.ntmps98, Nat.reduceAdd, Nat.reduceSub, hwr, go_sem]
  refine callK_fn e130 (.pures rfl) ?_
  simp -implicitDefEqProofs only [go_sem]
  refine callK_ac (hc _) (by simp) ?_
  rintro v h' ⟨rfl, rfl⟩
  simp -implicitDefEqProofs only [killAll, List.foldl, go_sem]
  try done

end Go.Proofs.YtnaekjbbakofdaaGreat
end

section
namespace Go.Proofs.YtnaekjbbakofdaaGreat
open Go Go.AM
set_option maxRecDepth 100000
set_option maxHeartbeats 4000000
set_option linter.unusedSimpArgs false

def digN (b : UInt8) : Nat := (ixB b L16 0).toNat
def costW (cs : List Nat) (w : List UInt8) : Nat := (w.map fun b => cs.getD (digN b) 0).sum
theorem costW_append (cs : List Nat) (u v : List UInt8) : costW cs (u ++ v) = costW cs u + costW cs v := by unfold costW; simp
theorem costW_le {cs : List Nat} {B : Nat} (hB : ∀ c ∈ cs, c ≤ B) : ∀ w : List UInt8, costW cs w ≤ w.length * B
  | [] => by simp [costW]
  | b :: w => by
    have h1 := costW_le hB w
    have h2 : costW cs (b :: w) = cs.getD (digN b) 0 + costW cs w := by simp [costW]
    have h3 : cs.getD (digN b) 0 ≤ B := by
      rw [List.getD_eq_getElem?_getD]
      by_cases h : digN b < cs.length
      · rw [List.getElem?_eq_getElem h]; exact hB _ (List.getElem_mem h)
      · rw [List.getElem?_eq_none (by omega)]; simp
    rw [h2, List.length_cons, Nat.succ_mul]; omega

theorem c56 (cs : List Nat) (w : List UInt8) (hB : ∀ c ∈ cs, c ≤ 1000) (hcl : cs.length ≤ 1000) (hwl : w.length ≤ 100000) (hw : okW cs.length w = true) :
    PFn Tryz.prog 56 [.sl (cs.map Kn.nV), .str w] [.int .i64 (costW cs w)] := by
  refine PFn.of_body hΓ Tryz.func56 (by kernel_rfl) rfl (AWp.seq (AWp.of_awpD [] hΓ hmix (by kernel_rfl) ?_))
  simp -implicitDefEqProofs only [Tryz.ntmps56, Tryz.results56, Nat.reduceAdd, Nat.reduceSub, go_sem]
  refine AWp.seq (AWp.of_awpD [] hΓ hmix (by kernel_rfl) ?_)
  simp -implicitDefEqProofs only [go_sem]
  refine AWp.seq (AWp.seq (AWp.of_awpD [] hΓ hmix (by kernel_rfl) ?_))
  simp -implicitDefEqProofs only [go_sem]
  refine ⟨by omega, ?_⟩
  refine AWp.block ?_
  refine AWp.loopI (fun k : Nat => ⟨mkF 24 [(0, .p (.sl (cs.map Kn.nV))), (5, .p (.int .i64 (costW cs (w.take k) : Nat))), (9, .own 0 w.length), (10, .p (.int .i64 w.length)), (11, .p (.int .i64 k))], [.row 5 1 (w.map u8V) .raw]⟩)
    (fun k => k ≤ w.length) (fun k => w.length - k) 0 (by simp [go_sem, costW]) (by omega) ?_
  intro k hk
  simp -implicitDefEqProofs only [go_sem]
  refine AWp.of_awpD [] hΓ hmix (by kernel_rfl) ?_
  by_cases hlt : k < w.length
  · have hlt' : (k : Int) < (w.length : Int) := by omega
    have hg : (w.map u8V).getD k default = u8V w[k] := getD_map_lt _ _ _ _ hlt
    have hb : okB cs.length w[k] = true := List.all_eq_true.1 hw _ (List.getElem_mem hlt)
    unfold okB at hb
    rw [Bool.and_eq_true, decide_eq_true_eq, decide_eq_true_eq] at hb
    obtain ⟨hb0, hb1⟩ := hb
    have e101 := t101 L16 (w[k].toNat : Int)
    have hcc : (w[k].toNat : Int).toNat.toUInt8 = w[k] := by simp
    rw [hcc] at e101
    obtain ⟨dg, hdg⟩ : ∃ dg : Nat, ixB w[k] L16 0 = dg := ⟨digN w[k], by unfold digN; omega⟩
    have hdl : dg < cs.length := by omega
    have hdn : digN w[k] = dg := by unfold digN; omega
    rw [hdg] at e101
    have hgc : (cs.map Kn.nV).getD dg default = .int .i64 (cs.getD dg 0 : Nat) := by
      rw [getD_map_lt _ _ _ _ hdl, List.getD_eq_getElem?_getD, List.getElem?_eq_getElem hdl, Option.getD_some]; rfl
    have hsum : costW cs (w.take (k + 1)) = costW cs (w.take k) + cs.getD dg 0 := by
      rw [List.take_succ_eq_append_getElem hlt, costW_append]; simp [costW, hdn]
    have hle := costW_le hB (w.take (k + 1))
    rw [List.length_take, Nat.min_eq_left (by omega : k + 1 ≤ w.length)] at hle
    have hu8 : (u8V w[k]) = .int .u8 (w[k].toNat : Int) := rfl
    simp -implicitDefEqProofs only [hlt', hg, Int.toNat_natCast, List.length_map, hu8, go_sem]
    refine ⟨hlt, callK_fn e101 (.pures rfl) ?_⟩
    have hadd : (costW cs (w.take k) : Int) + (cs.getD dg 0 : Nat) = (costW cs (w.take (k + 1)) : Nat) := by rw [hsum]; omega
    have hin : InR .i64 ((costW cs (w.take (k + 1)) : Nat) : Int) := by simp only [InR]; omega
    simp -implicitDefEqProofs only [hdl, hgc, Int.toNat_natCast, List.length_map, hadd, go_sem]
    exact ⟨hin, by simp only [InR]; omega, k + 1, ⟨rfl, by omega⟩, by omega, by omega⟩
  · have hkw : k = w.length := by omega
    subst hkw
    simp -implicitDefEqProofs only [Nat.lt_irrefl, Int.lt_irrefl, List.take_length, go_sem]
    refine AWp.of_awpD [] hΓ hmix (by kernel_rfl) ?_
    simp -implicitDefEqProofs only [go_sem]

theorem size_c24 (l : List Nat) : sizeOK (l.map (intN false)) 2 := fun x hx => by
  obtain ⟨b, _, rfl⟩ := List.mem_map.1 hx
  rfl
theorem one_c24 (l : List Nat) : oneOK (l.map (intN false)) := fun x hx c hc => by
  obtain ⟨b, _, rfl⟩ := List.mem_map.1 hx
  rw [intN_pos] at hc
  simp only [PV.cells, List.mem_cons, List.not_mem_nil, or_false] at hc
  rcases hc with rfl | rfl <;> rfl
theorem size_c26 (l : List Nat) : sizeOK (l.map Kn.nV) 1 := fun x hx => by
  obtain ⟨b, _, rfl⟩ := List.mem_map.1 hx
  rfl
theorem one_c26 (l : List Nat) : oneOK (l.map Kn.nV) := fun x hx c hc => by
  obtain ⟨b, _, rfl⟩ := List.mem_map.1 hx
  have : c = Kn.nV b := by simpa [PV.cells, Kn.nV] using hc
  subst this; rfl

theorem c24 {h : List AObj} (ws : List Nat) (hl : ws.length ≤ 1000000) :
    AC Tryz.prog 24 [.p (.sl (ws.map (intN false)))] h [] (fun v h' => (ws = [] ∧ v = .full [] ∧ h' = h) ∨ (∃ rk, rk ≠ .raw ∧ (ws ≠ [] → rk = .own) ∧ v = .own h.length ws.length ∧ h' = h ++ [.row 31 2 (ws.map (intN false)) rk])) := by
  refine AC.of_bodyE hΓ Tryz.func24 (by kernel_rfl) rfl (AWp.mono (Q := fun e st => AM.Ends e ∧ ((ws = [] ∧ st.tmps.getD 2 .junk = .full [] ∧ st.h = h) ∨ (∃ rk, rk ≠ .raw ∧ (ws ≠ [] → rk = .own) ∧ st.tmps.getD 2 .junk = .own h.length ws.length ∧ st.h = h ++ [.row 31 2 (ws.map (intN false)) rk]))) ?_ ?_)
  rotate_left
  · rintro e ⟨tm, h'⟩ ⟨he, ⟨hw, h1, h2⟩ | ⟨rk, hr, hr2, h1, h2⟩⟩
    · simp only at h1 h2
      subst h2
      refine ⟨he, _, Less.refl _, ?_⟩
      unfold DoneE
      simp +contextual -implicitDefEqProofs only [Tryz.results24, h1, go_sem]
      exact ⟨_, Nat.le_refl _, .inl rfl, .inl ⟨hw, List.take_length⟩⟩
    · simp only at h1 h2
      subst h2
      refine ⟨he, _, Less.refl _, ?_⟩
      unfold DoneE
      simp +contextual -implicitDefEqProofs only [Tryz.results24, h1, go_sem]
      exact ⟨h.length + 1, by omega, .inl (by simp), .inr ⟨rk, hr, hr2, List.take_of_length_le (by simp)⟩⟩
  refine AWp.of_awpD [] hΓ hmix (by kernel_rfl) ?_
  cases ws with
  | nil =>
    simp -implicitDefEqProofs only [Tryz.ntmps24, Nat.reduceAdd, Nat.reduceSub, go_sem]
    exact ⟨⟨by simp [sizeOK], by omega⟩, ⟨by simp [sizeOK], by simp [oneOK]⟩, ⟨by simp [sizeOK], by omega, by omega⟩, .inr ⟨.lax, by simp, rfl⟩⟩
  | cons x l =>
    simp -implicitDefEqProofs only [Tryz.ntmps24, Nat.reduceAdd, Nat.reduceSub, go_sem]
    have h1 := size_c24 (x :: l)
    have h2 := one_c24 (x :: l)
    simp only [List.map_cons] at h1 h2
    simp only [List.length_cons] at hl
    exact ⟨⟨by simp [sizeOK], by omega⟩, ⟨h1, h2⟩, ⟨by simp [sizeOK], by omega, by omega⟩, .inr ⟨.own, by simp, rfl, rfl⟩⟩

theorem c26 {h : List AObj} (ws : List Nat) (hl : ws.length ≤ 1000000) :
    AC Tryz.prog 26 [.p (.sl (ws.map Kn.nV))] h [] (fun v h' => (ws = [] ∧ v = .full [] ∧ h' = h) ∨ (∃ rk, rk ≠ .raw ∧ (ws ≠ [] → rk = .own) ∧ v = .own h.length ws.length ∧ h' = h ++ [.row 3 1 (ws.map Kn.nV) rk])) := by
  refine AC.of_bodyE hΓ Tryz.func26 (by kernel_rfl) rfl (AWp.mono (Q := fun e st => AM.Ends e ∧ ((ws = [] ∧ st.tmps.getD 2 .junk = .full [] ∧ st.h = h) ∨ (∃ rk, rk ≠ .raw ∧ (ws ≠ [] → rk = .own) ∧ st.tmps.getD 2 .junk = .own h.length ws.length ∧ st.h = h ++ [.row 3 1 (ws.map Kn.nV) rk]))) ?_ ?_)
  rotate_left
  · rintro e ⟨tm, h'⟩ ⟨he, ⟨hw, h1, h2⟩ | ⟨rk, hr, hr2, h1, h2⟩⟩
    · simp only at h1 h2
      subst h2
      refine ⟨he, _, Less.refl _, ?_⟩
      unfold DoneE
      simp +contextual -implicitDefEqProofs only [Tryz.results26, h1, go_sem]
      exact ⟨_, Nat.le_refl _, .inl rfl, .inl ⟨hw, List.take_length⟩⟩
    · simp only at h1 h2
      subst h2
      refine ⟨he, _, Less.refl _, ?_⟩
      unfold DoneE
      simp +contextual -implicitDefEqProofs only [Tryz.results26, h1, go_sem]
      exact ⟨h.length + 1, by omega, .inl (by simp), .inr ⟨rk, hr, hr2, List.take_of_length_le (by simp)⟩⟩
  refine AWp.of_awpD [] hΓ hmix (by kernel_rfl) ?_
  cases ws with
  | nil =>
    simp -implicitDefEqProofs only [Tryz.ntmps26, Nat.reduceAdd, Nat.reduceSub, go_sem]
    exact ⟨⟨by simp [sizeOK], by omega⟩, ⟨by simp [sizeOK], by simp [oneOK]⟩, ⟨by simp [sizeOK], by omega, by omega⟩, .inr ⟨.lax, by simp, rfl⟩⟩
  | cons x l =>
    simp -implicitDefEqProofs only [Tryz.ntmps26, Nat.reduceAdd, Nat.reduceSub, go_sem]
    have h1 := size_c26 (x :: l)
    have h2 := one_c26 (x :: l)
    simp only [List.map_cons] at h1 h2
    simp only [List.length_cons] at hl
    exact ⟨⟨by simp [sizeOK], by omega⟩, ⟨h1, h2⟩, ⟨by simp [sizeOK], by omega, by omega⟩, .inr ⟨.own, by simp, rfl, rfl⟩⟩
end Go.Proofs.YtnaekjbbakofdaaGreat
end

section
namespace Go.AM
open Go.RowKit

theorem YC.frame {P : Program} {b : Nat} {args : List AV} {h e : List AObj} {R : AV → List AObj → Prop} (hu : h.all (AObj.under h.length) = true) (ha : ∀ i, i < args.length → (args.getD i .junk).under h.length = true)
    (hR : ∀ v h', R v h' → h'.length = h.length ∧ v.under h.length = true) (hy : YC P b args h [] R) : YC P b args (h ++ e) [] (fun v h' => ∃ h0, R v h0 ∧ h' = h0 ++ e) := by
  intro X I μ ob w cargs RH hlen hargs hks
  let Xa : Ctx := { B0 := X.B0, w0 := X.w0, I0 := I, μ0 := μ, n0 := h.length, ks := [], fz := fun _ => False, w1 := w }
  let X' : Ctx := { B0 := X.B0, w0 := X.w0, I0 := I, μ0 := μ, n0 := h.length, ks := [], fz := fun q => q < w.heap.size ∧ ∀ c, cut h.length ob c ≠ some q, w1 := w }
  have R0 : RepH Xa I μ ob (h ++ e) w := {
    below := RH.below, base := RH.base, imm := RH.imm, ctx := fun _ h => h, frz := fun _ h => h.elim, inew := fun _ h => .inl h, may := fun _ _ => rfl
    names := by show h.length ≤ (h ++ e).length; simp
    own := fun b g hb => ⟨(RH.own b g hb).1, ⟨(RH.own b g hb).2.1.1, id⟩, (RH.own b g hb).2.2⟩, sep := RH.sep, past := RH.past, objs := RH.objs }
  have R1 := R0.trunc (n := h.length) (Nat.le_refl _) (by simp) (by rw [List.take_left]; exact hu)
  rw [List.take_left] at R1
  have R2 : RepH X' I μ (cut h.length ob) h w := {
    below := R1.below, base := R1.base, imm := R1.imm, ctx := fun _ h => h, frz := fun q hq => ⟨hq.1, rfl⟩, inew := fun _ h => .inl h, may := fun _ _ => rfl, names := Nat.le_refl _
    own := fun b g hb => ⟨(R1.own b g hb).1, ⟨(R1.own b g hb).2.1.1, fun hz => hz.2 b hb⟩, (R1.own b g hb).2.2⟩, sep := R1.sep, past := R1.past, objs := R1.objs }
  obtain ⟨l, fn, tmps, assign, body, e1, e2, e3⟩ := hy X' I μ _ w cargs R2 hlen (fun i hi => (hargs i hi).narrow (ha i hi)) (by simp)
  refine ⟨l, fn, tmps, assign, body, e1, e2, RoundIn.mono e3 ?_⟩
  rintro en w' ⟨cv, v, h0, I', μ', ob', rfl, R3, hv, hI, hμ, hle, hinew, hobn, hsame, hRv⟩
  obtain ⟨hl, hvu⟩ := hR v h0 hRv
  have hlen0 : (h0 ++ e).length = (h ++ e).length := by simp [hl]
  have hμ' : ∀ c, c < h.length → μ c = μ' c := fun c hc => (hμ c hc (by simp)).symm
  -- what is not the round's own stays
  have stay : ∀ g, g < w.heap.size → (∀ c, cut h.length ob c ≠ some g) → g < w'.heap.size ∧ w'.heap[g]? = w.heap[g]? := fun g h1 h2 => R3.frz g ⟨h1, h2⟩
  have notcut : ∀ {b g}, ob b = some g → h.length ≤ b → ∀ c, cut h.length ob c ≠ some g := fun {b g} hb hbl c hc => by
    have h3 := cut_some hc
    have := RH.sep c b g h3.2 hb
    omega
  have hIs : ∀ g, I g → w'.heap[g]? = w.heap[g]? := fun g hg => (stay g (RH.imm g hg) (fun c hc => (RH.own c g (cut_some hc).2).1 hg)).2
  have hmine : ∀ g, X'.mine g → (∃ b, ob b = some g) ∨ w.heap.size ≤ g := fun g hg => by
    rcases Nat.lt_or_ge g w.heap.size with h1 | h1
    · refine .inl (Classical.byContradiction fun h2 => hg.2 ⟨h1, fun b hb => h2 ⟨b, (cut_some hb).2⟩⟩)
    · exact .inr h1
  have toX : ∀ g, X'.mine g → X.mine g := fun g hg => by
    rcases hmine g hg with ⟨b, hb⟩ | h1
    · exact (RH.own b g hb).2.1
    · exact RH.fresh h1
  let ob2 : Nat → Option Nat := fun b => if b < h.length then ob' b else ob b
  have hlo : ∀ {b}, b < h.length → ob2 b = ob' b := fun hb => by simp [ob2, hb]
  have hhi : ∀ {b}, h.length ≤ b → ob2 b = ob b := fun hb => by simp [ob2, Nat.not_lt.2 hb]
  have R4 : RepH X I' μ ob2 (h0 ++ e) w' := {
    below := R3.below, base := R3.base, imm := R3.imm, ctx := fun g hg => hI g (RH.ctx g hg)
    frz := fun g hg => by
      have h1 := RH.frz g hg
      have h2 := stay g h1.1 (fun c hc => (RH.own c g (cut_some hc).2).2.1.2 hg)
      exact ⟨h2.1, h2.2.trans h1.2⟩
    inew := fun g hg => (R3.inew g hg).elim (fun h1 => RH.inew g h1) (fun h1 => .inr (toX g h1))
    may := RH.may
    names := by rw [hlen0]; exact RH.names
    own := fun b g hb => by
      by_cases hbl : b < h.length
      · rw [hlo hbl] at hb
        have h1 := R3.own b g hb
        exact ⟨h1.1, toX g h1.2.1, h1.2.2⟩
      · rw [hhi (by omega)] at hb
        have h1 := RH.own b g hb
        have hnc := notcut hb (by omega)
        refine ⟨fun hi => ?_, h1.2.1, (stay g h1.2.2 hnc).1⟩
        rcases hinew g hi with h2 | ⟨c, h2⟩ | h2
        · exact h1.1 h2
        · exact hnc c h2
        · have := h1.2.2; omega
    sep := fun b b' g h1 h2 => by
      have mix : ∀ {b b'}, b < h.length → h.length ≤ b' → ob' b = some g → ob b' = some g → False := fun {b b'} q1 q2 q3 q4 => (R3.own b g q3).2.1.2 ⟨(RH.own b' g q4).2.2, notcut q4 q2⟩
      by_cases c1 : b < h.length <;> by_cases c2 : b' < h.length
      · rw [hlo c1] at h1; rw [hlo c2] at h2; exact R3.sep b b' g h1 h2
      · rw [hlo c1] at h1; rw [hhi (by omega)] at h2; exact (mix c1 (by omega) h1 h2).elim
      · rw [hhi (by omega)] at h1; rw [hlo c2] at h2; exact (mix c2 (by omega) h2 h1).elim
      · rw [hhi (by omega)] at h1; rw [hhi (by omega)] at h2; exact RH.sep b b' g h1 h2
    past := fun b hb => by
      rw [hlen0] at hb
      have h1 : h.length ≤ b := by rw [List.length_append] at hb; omega
      rw [hhi h1]; exact RH.past b hb
    objs := fun b o ho => by
      rw [hlen0]
      by_cases hbl : b < h.length
      · rw [List.getElem?_append_left (by omega)] at ho
        exact (R3.objs b o ho).keep (by rw [hl]; simp) (fun c hc => hμ' c (by omega)) (hμ' b hbl) (hlo hbl) (fun _ h => h) (fun _ _ => rfl) (fun _ _ => rfl)
      · rw [List.getElem?_append_right (by omega), hl] at ho
        refine (RH.objs b o (by rw [List.getElem?_append_right (by omega)]; exact ho)).keep (Nat.le_refl _) (fun _ _ => rfl) rfl (hhi (by omega)) hI hIs (fun g hg => (stay g (RH.own b g hg).2.2 (notcut hg (by omega))).2) }
  refine ⟨cv, v, h0 ++ e, I', μ, ob2, rfl, R4, (hv.narrow hvu).mono (by rw [hlen0]; simp) (fun c hc => hμ' c hc) (fun _ h => h) (fun _ _ => rfl), hI, fun _ _ _ => rfl, by rw [hlen0]; exact Nat.le_refl _, fun g hg => ?_, fun b g hb => ?_, fun g hg hno => (stay g hg (fun c hc => hno c (cut_some hc).2)).2, h0, hRv, rfl⟩
  · rcases hinew g hg with h1 | ⟨c, h1⟩ | h1
    · exact .inl h1
    · exact .inr (.inl ⟨c, (cut_some h1).2⟩)
    · exact .inr (.inr h1)
  · by_cases hbl : b < h.length
    · rw [hlo hbl] at hb
      rcases hobn b g hb with ⟨c, h1⟩ | h1
      · exact .inl ⟨c, (cut_some h1).2⟩
      · exact .inr h1
    · rw [hhi (by omega)] at hb
      exact .inl ⟨b, hb⟩
end Go.AM
end

section
namespace Go.Proofs.YtnaekjbbakofdaaGreat
open Go Go.AM
set_option maxRecDepth 100000

def letA (a : Nat) : UInt8 := L16.getD a 0
theorem sub_letters {a : Nat} (ha : a < 16) : List.take 1 (List.drop a [48, 49, 50, 51, 52, 53, 54, 55, 56, 57, 97, 98, 99, 100, 101, 102]) = [letA a] := by
  have : ∀ a, a < 16 → List.take 1 (List.drop a ([48, 49, 50, 51, 52, 53, 54, 55, 56, 57, 97, 98, 99, 100, 101, 102] : List UInt8)) = [letA a] := by decide
  exact this a ha

abbrev Wd := List UInt8

def growL (T : Nat → Wd → List (List Wd)) (n : Nat) (pre : Wd) : Nat → Nat → Nat → Nat → List Wd → List (List Wd)
  | 0, _, left, ch, leaves => if 0 < left ∨ ch < 2 then [] else [leaves]
  | d + 1, a, left, ch, leaves => growL T n pre d (a + 1) left ch leaves ++ (List.range (min left (n - 1))).flatMap fun k => (T (k + 1) (pre ++ [letA a])).flatMap fun part => growL T n pre d (a + 1) (left - (k + 1)) (ch + 1) (leaves ++ part)

def kidsL (T : Nat → Wd → List (List Wd)) (n : Nat) (pre : Wd) (d a left ch : Nat) (leaves : List Wd) (k : Nat) : List (List Wd) :=
  (List.range k).flatMap fun k => (T (k + 1) (pre ++ [letA a])).flatMap fun part => growL T n pre d (a + 1) (left - (k + 1)) (ch + 1) (leaves ++ part)
theorem kidsL_succ (T : Nat → Wd → List (List Wd)) (n : Nat) (pre : Wd) (d a left ch : Nat) (leaves : List Wd) (k : Nat) :
    kidsL T n pre d a left ch leaves (k + 1) = kidsL T n pre d a left ch leaves k ++ (T (k + 1) (pre ++ [letA a])).flatMap fun part => growL T n pre d (a + 1) (left - (k + 1)) (ch + 1) (leaves ++ part) := by
  unfold kidsL; rw [List.range_succ, List.flatMap_append]; simp
theorem growL_succ (T : Nat → Wd → List (List Wd)) (n : Nat) (pre : Wd) (d a left ch : Nat) (leaves : List Wd) :
    growL T n pre (d + 1) a left ch leaves = growL T n pre d (a + 1) left ch leaves ++ kidsL T n pre d a left ch leaves (min left (n - 1)) := rfl
theorem mem_kidsL {T : Nat → Wd → List (List Wd)} {n : Nat} {pre : Wd} {d a left ch : Nat} {leaves : List Wd} {k : Nat} {x : List Wd} :
    x ∈ kidsL T n pre d a left ch leaves k ↔ ∃ j, j < k ∧ ∃ part ∈ T (j + 1) (pre ++ [letA a]), x ∈ growL T n pre d (a + 1) (left - (j + 1)) (ch + 1) (leaves ++ part) := by
  unfold kidsL; simp only [List.mem_flatMap, List.mem_range]

theorem growL_len {T : Nat → Wd → List (List Wd)} {n : Nat} {pre : Wd} (hT : ∀ k w x, x ∈ T k w → x.length = k) : ∀ {d a left ch : Nat} {leaves x : List Wd}, x ∈ growL T n pre d a left ch leaves → x.length = leaves.length + left
  | 0, a, left, ch, leaves, x, h => by
    unfold growL at h
    split at h
    · cases h
    · have : x = leaves := by simpa using h
      subst this; omega
  | d + 1, a, left, ch, leaves, x, h => by
    rw [growL_succ, List.mem_append, mem_kidsL] at h
    rcases h with h | ⟨j, hj, part, hp, h⟩
    · exact growL_len hT h
    · have h1 := growL_len hT h
      have h2 := hT _ _ _ hp
      rw [List.length_append] at h1
      omega

def treesF (q : Nat) : Nat → Nat → Wd → List (List Wd)
  | 0, _, _ => []
  | f + 1, n, pre => if n = 1 then [[pre]] else growL (fun k w => treesF q f k w) n pre q 0 n 0 []
theorem treesF_one (q f : Nat) (pre : Wd) : treesF q (f + 1) 1 pre = [[pre]] := rfl
theorem treesF_more {q f n : Nat} (hn : n ≠ 1) (pre : Wd) : treesF q (f + 1) n pre = growL (fun k w => treesF q f k w) n pre q 0 n 0 [] := by
  rw [treesF, if_neg hn]
theorem treesF_len {q : Nat} : ∀ {f n : Nat} {pre : Wd} {x : List Wd}, x ∈ treesF q f n pre → x.length = n
  | 0, _, _, _, h => by simp [treesF] at h
  | f + 1, n, pre, x, h => by
    by_cases hn : n = 1
    · subst hn; rw [treesF_one] at h
      have : x = [pre] := by simpa using h
      subst this; rfl
    · rw [treesF_more hn] at h
      have := growL_len (fun k w x hx => treesF_len hx) h
      simpa using this
end Go.Proofs.YtnaekjbbakofdaaGreat
end

section
namespace Go.Proofs.YtnaekjbbakofdaaGreat
open Go Go.AM
set_option maxRecDepth 100000
set_option maxHeartbeats 4000000
set_option linter.unusedSimpArgs false

def dotN : List Nat → List Nat → Nat
  | a :: l, b :: m => a * b + dotN l m
  | _, _ => 0
def matchN (cs W : List Nat) (L : List Wd) : Nat := dotN (srtD W W.length) (srtN (L.map (costW cs)) L.length)
theorem dotN_take : ∀ {a b : List Nat} {k : Nat}, k < a.length → k < b.length → dotN (a.take (k + 1)) (b.take (k + 1)) = dotN (a.take k) (b.take k) + a.getD k 0 * b.getD k 0
  | x :: a, y :: b, 0, _, _ => by simp [dotN]
  | x :: a, y :: b, k + 1, h1, h2 => by
    have := dotN_take (a := a) (b := b) (k := k) (by simpa using h1) (by simpa using h2)
    rw [List.take_succ_cons, List.take_succ_cons, dotN, this, List.take_succ_cons, List.take_succ_cons, dotN]
    simp; omega
theorem dotN_le {B C : Nat} : ∀ {a b : List Nat}, (∀ x ∈ a, x ≤ B) → (∀ x ∈ b, x ≤ C) → dotN a b ≤ a.length * (B * C)
  | [], _, _, _ => by simp [dotN]
  | _ :: _, [], _, _ => by simp [dotN]
  | x :: a, y :: b, h1, h2 => by
    have h3 := dotN_le (a := a) (b := b) (fun x hx => h1 x (by simp [hx])) (fun x hx => h2 x (by simp [hx]))
    have h4 : x * y ≤ B * C := Nat.mul_le_mul (h1 x (by simp)) (h2 y (by simp))
    rw [dotN, List.length_cons, Nat.succ_mul]; omega
theorem mem_srtN {ns : List Nat} {y : Nat} : ∀ {n : Nat}, n ≤ ns.length → y ∈ srtN ns n → y ∈ ns
  | 0, _, h => by simp [srtN] at h
  | n + 1, hn, h => by
    unfold srtN at h
    rcases mem_insN.1 h with h | h
    · rw [h, List.getD_eq_getElem?_getD, List.getElem?_eq_getElem (by omega), Option.getD_some]; exact List.getElem_mem _
    · exact mem_srtN (by omega) h

theorem c66 (cs W : List Nat) (L : List Wd) (hB : ∀ c ∈ cs, c ≤ 1000) (hcl : cs.length ≤ 1000) (hW : ∀ w ∈ W, w < 256 ^ 100) (hl : W.length = L.length) (hl12 : L.length ≤ 12) (hL : ∀ x ∈ L, x.length ≤ 1000 ∧ okW cs.length x = true) :
    PFn Tryz.prog 66 [.sl (cs.map Kn.nV), .sl (W.map (intN false)), .sl (L.map .str)] [intN false (matchN cs W L)] := by
  refine PFn.of_body hΓ Tryz.func66 (by kernel_rfl) rfl (AWp.seq (AWp.of_awpD [] hΓ hmix (by kernel_rfl) ?_))
  simp -implicitDefEqProofs only [Tryz.ntmps66, Tryz.results66, Nat.reduceAdd, Nat.reduceSub, go_sem]
  refine AWp.seq (AWp.of_awpD [] hΓ hmix (by kernel_rfl) ?_)
  simp -implicitDefEqProofs only [go_sem]
  refine callK_ac (c24 W (by omega)) (by simp) ?_
  by_cases hW0 : W = []
  · subst hW0
    have hL0 : L = [] := List.length_eq_zero_iff.1 (by simpa using hl.symm)
    subst hL0
    rintro v h' (⟨_, rfl, rfl⟩ | ⟨rk, hrk, _, rfl, rfl⟩)
    · simp -implicitDefEqProofs only [killAll, List.foldl, go_sem]
      refine AWp.adopt (l := []) 7 31 2 (by rfl) (by simp) ?_
      simp -implicitDefEqProofs only [go_sem]
      refine AWp.seq (AWp.of_awpD [] hΓ hmix (by kernel_rfl) ?_)
      simp -implicitDefEqProofs only [go_sem]
      refine callK_ac (c96z 1) (by simp) ?_
      rintro v h' ⟨rfl, rfl⟩
      simp -implicitDefEqProofs only [killAll, List.foldl, go_sem]
      refine AWp.seq (AWp.of_awpD [] hΓ hmix (by kernel_rfl) ?_)
      simp -implicitDefEqProofs only [go_sem]
      refine AWp.adopt (l := []) 8 3 1 (by rfl) (by simp) ?_
      simp -implicitDefEqProofs only [go_sem]
      refine AWp.seq (AWp.seq (AWp.of_awpD [] hΓ hmix (by kernel_rfl) ?_))
      simp -implicitDefEqProofs only [go_sem]
      refine AWp.block ?_
      refine AWp.loopI (fun _ : Unit => ⟨mkF 51 [(0, .p (.sl (cs.map Kn.nV))), (6, .ptr 0 0), (7, .own 1 0), (8, .own 2 0), (18, .p (.sl [])), (19, .p (.int .i64 0)), (20, .p (.int .i64 0))], [.box [.p (.bool false), .p (.str [])], .row 31 2 [] .lax, .row 3 1 [] .lax]⟩)
        (fun _ => True) (fun _ => 0) () (by simp [go_sem]) trivial ?_
      rintro _ -
      have h00 : ¬ (0 : Int) < 0 := by omega
      simp -implicitDefEqProofs only [go_sem]
      refine AWp.of_awpD [] hΓ hmix (by kernel_rfl) ?_
      simp -implicitDefEqProofs only [h00, go_sem]
      refine AWp.seq (AWp.of_awpD [(14, 9)] hΓ hmix (by kernel_rfl) ?_)
      simp -implicitDefEqProofs only [go_sem]
      refine callK_ac (c98z 2) (by simp) ?_
      rintro v h' ⟨rfl, rfl⟩
      simp -implicitDefEqProofs only [killAll, List.foldl, go_sem]
      refine AWp.seq (AWp.of_awpD [(14, 9)] hΓ hmix (by kernel_rfl) ?_)
      simp -implicitDefEqProofs only [go_sem]
      refine AWp.seq (AWp.seq (AWp.of_awpD [(14, 9)] hΓ hmix (by kernel_rfl) ?_))
      simp -implicitDefEqProofs only [go_sem]
      refine AWp.block ?_
      refine AWp.loopI (fun _ : Unit => ⟨mkF 51 [(6, .ptr 0 0), (7, .own 1 0), (11, .ptr 3 0), (33, .own 2 0), (34, .p (.int .i64 0)), (35, .p (.int .i64 0))],
          [.box [.p (.bool false), .p (.str [])], .row 31 2 [] .lax, .row 3 1 [] .lax, .box [.p (.bool false), .p (.str [])]]⟩)
        (fun _ => True) (fun _ => 0) () (by simp [go_sem]) trivial ?_
      rintro _ -
      simp -implicitDefEqProofs only [go_sem]
      refine AWp.of_awpD [(14, 9)] hΓ hmix (by kernel_rfl) ?_
      simp -implicitDefEqProofs only [h00, go_sem]
      refine AWp.of_awpD [] hΓ hmix (by kernel_rfl) ?_
      simp -implicitDefEqProofs only [go_sem]
      rfl
    · simp -implicitDefEqProofs only [killAll, List.foldl, List.map_nil, List.length_nil, go_sem]
      refine AWp.seq (AWp.of_awpD [] hΓ hmix (by kernel_rfl) ?_)
      simp -implicitDefEqProofs only [go_sem]
      refine callK_ac (c96z 1) (by simp) ?_
      rintro v h' ⟨rfl, rfl⟩
      simp -implicitDefEqProofs only [killAll, List.foldl, go_sem]
      refine AWp.seq (AWp.of_awpD [] hΓ hmix (by kernel_rfl) ?_)
      simp -implicitDefEqProofs only [go_sem]
      refine AWp.adopt (l := []) 8 3 1 (by rfl) (by simp) ?_
      simp -implicitDefEqProofs only [go_sem]
      refine AWp.seq (AWp.seq (AWp.of_awpD [] hΓ hmix (by kernel_rfl) ?_))
      simp -implicitDefEqProofs only [go_sem]
      refine AWp.block ?_
      refine AWp.loopI (fun _ : Unit => ⟨mkF 51 [(0, .p (.sl (cs.map Kn.nV))), (6, .ptr 0 0), (7, .own 1 0), (8, .own 2 0), (18, .p (.sl [])), (19, .p (.int .i64 0)), (20, .p (.int .i64 0))], [.box [.p (.bool false), .p (.str [])], .row 31 2 [] rk, .row 3 1 [] .lax]⟩)
        (fun _ => True) (fun _ => 0) () (by simp [go_sem]) trivial ?_
      rintro _ -
      have h00 : ¬ (0 : Int) < 0 := by omega
      simp -implicitDefEqProofs only [go_sem]
      refine AWp.of_awpD [] hΓ hmix (by kernel_rfl) ?_
      simp -implicitDefEqProofs only [h00, go_sem]
      refine AWp.seq (AWp.of_awpD [(14, 9)] hΓ hmix (by kernel_rfl) ?_)
      simp -implicitDefEqProofs only [go_sem]
      refine callK_ac (c98z 2) (by simp) ?_
      rintro v h' ⟨rfl, rfl⟩
      simp -implicitDefEqProofs only [killAll, List.foldl, go_sem]
      refine AWp.seq (AWp.of_awpD [(14, 9)] hΓ hmix (by kernel_rfl) ?_)
      simp -implicitDefEqProofs only [go_sem]
      refine AWp.seq (AWp.seq (AWp.of_awpD [(14, 9)] hΓ hmix (by kernel_rfl) ?_))
      simp -implicitDefEqProofs only [go_sem]
      refine AWp.block ?_
      refine AWp.loopI (fun _ : Unit => ⟨mkF 51 [(6, .ptr 0 0), (7, .own 1 0), (11, .ptr 3 0), (33, .own 2 0), (34, .p (.int .i64 0)), (35, .p (.int .i64 0))],
          [.box [.p (.bool false), .p (.str [])], .row 31 2 [] rk, .row 3 1 [] .lax, .box [.p (.bool false), .p (.str [])]]⟩)
        (fun _ => True) (fun _ => 0) () (by simp [go_sem]) trivial ?_
      rintro _ -
      simp -implicitDefEqProofs only [go_sem]
      refine AWp.of_awpD [(14, 9)] hΓ hmix (by kernel_rfl) ?_
      simp -implicitDefEqProofs only [h00, go_sem]
      refine AWp.of_awpD [] hΓ hmix (by kernel_rfl) ?_
      simp -implicitDefEqProofs only [go_sem]
      rfl
  have hWl : 0 < W.length := List.length_pos_iff.2 hW0
  rintro v h' (⟨h1, _⟩ | ⟨rk, hrk, hrk2, rfl, rfl⟩)
  · exact absurd h1 hW0
  have hrk3 := hrk2 hW0
  subst hrk3
  simp -implicitDefEqProofs only [killAll, List.foldl, go_sem]
  refine AWp.seq (AWp.of_awpD [] hΓ hmix (by kernel_rfl) ?_)
  simp -implicitDefEqProofs only [go_sem]
  have hcap : ∀ y ∈ W, y < capN := fun y hy => cap_of (hW y hy) (by decide)
  refine callK_ac (c96 (b := 1) W (by omega) hWl hcap rfl) (by simp) ?_
  rintro v h' ⟨rfl, rfl⟩
  simp -implicitDefEqProofs only [killAll, List.foldl, List.set_cons_zero, List.set_cons_succ, go_sem]
  refine AWp.seq (AWp.of_awpD [] hΓ hmix (by kernel_rfl) ?_)
  simp -implicitDefEqProofs only [go_sem]
  refine AWp.adopt (l := []) 8 3 1 (by rfl) (by simp) ?_
  simp -implicitDefEqProofs only [go_sem]
  refine AWp.seq (AWp.seq (AWp.of_awpD [] hΓ hmix (by kernel_rfl) ?_))
  simp -implicitDefEqProofs only [go_sem]
  refine AWp.block ?_
  obtain ⟨S, hS⟩ : ∃ S, S = srtD W W.length := ⟨_, rfl⟩
  have hSl : S.length = W.length := by rw [hS]; exact srtD_len _ _
  have hSc : ∀ y ∈ S, y < 256 ^ 100 := fun y hy => hW y (mem_srtD (Nat.le_refl _) (by rw [← hS]; exact hy))
  rw [← hS]
  refine AWp.loopI (fun k : Nat => ⟨mkF 51 [(0, .p (.sl (cs.map Kn.nV))), (6, .ptr 0 0), (7, .own 1 W.length), (8, .own 2 ((L.map (costW cs)).take k).length), (18, .p (.sl (L.map .str))), (19, .p (.int .i64 L.length)), (20, .p (.int .i64 k))],
      [.box [.p (.bool false), .p (.str [])], .row 31 2 (S.map (intN false)) .own, .row 3 1 (((L.map (costW cs)).take k).map Kn.nV) (if k = 0 then .lax else .own)]⟩)
    (fun k => k ≤ L.length) (fun k => L.length - k) 0 (by simp [go_sem]) (by omega) ?_
  intro k hk
  simp -implicitDefEqProofs only [go_sem]
  refine AWp.of_awpD [] hΓ hmix (by kernel_rfl) ?_
  by_cases hlt : k < L.length
  · have hlt' : (k : Int) < (L.length : Int) := by omega
    have hg : (L.map PV.str).getD k default = .str L[k] := getD_map_lt _ _ _ _ hlt
    have hLk := hL _ (List.getElem_mem hlt)
    have e56 := c56 cs L[k] hB hcl (by omega) hLk.2
    have htk : (L.map (costW cs)).take (k + 1) = (L.map (costW cs)).take k ++ [costW cs L[k]] := by
      rw [List.take_succ_eq_append_getElem (by simpa using hlt), List.getElem_map]
    have hs1 : sizeOK [PV.int .i64 (costW cs L[k] : Int)] 1 := by simp [sizeOK, PV.cells]
    have ho1 : oneOK [PV.int .i64 (costW cs L[k] : Int)] := by simp [oneOK, PV.cells, PV.isAgg]
    simp -implicitDefEqProofs only [hlt, hlt', hg, Int.toNat_natCast, List.length_map, go_sem]
    refine callK_fn e56 (.pures rfl) ?_
    simp -implicitDefEqProofs only [go_sem]
    have hli : ((L.map (costW cs)).take k).length = k := by simp; omega
    refine ⟨⟨hs1, by omega⟩, ⟨hs1, ho1⟩, ⟨by split <;> simp, by simp, by omega, by omega⟩, by simp only [InR]; omega, k + 1, ?_, hlt, by omega⟩
    rw [htk, if_neg (by omega : ¬ k + 1 = 0)]
    simp [Kn.nV]
  have hkL : k = L.length := by omega
  subst hkL
  simp -implicitDefEqProofs only [Nat.lt_irrefl, Int.lt_irrefl, go_sem]
  rw [List.take_of_length_le (by simp), if_neg (by omega)]
  refine AWp.seq (AWp.of_awpD [(14, 9)] hΓ hmix (by kernel_rfl) ?_)
  simp -implicitDefEqProofs only [List.length_map, go_sem]
  have hc := fun b0 b1 : AObj => c91 (h := [b0, b1, .row 3 1 ((L.map (costW cs)).map Kn.nV) .own]) (b := 2) (L.map (costW cs)) (by simpa using hl12) (by simp; omega) rfl
  rw [List.length_map] at hc
  refine callK_ac (hc _ _) (by simp) ?_
  rintro v h' ⟨rfl, rfl⟩
  simp -implicitDefEqProofs only [killAll, List.foldl, List.set_cons_zero, List.set_cons_succ, go_sem]
  obtain ⟨C, hC⟩ : ∃ C, C = srtN (L.map (costW cs)) L.length := ⟨_, rfl⟩
  have hCl : C.length = L.length := by rw [hC]; exact srtN_len _ _
  have hCc : ∀ y ∈ C, y ≤ 1000000 := fun y hy => by
    rw [hC] at hy
    obtain ⟨x, hx, rfl⟩ := List.mem_map.1 (mem_srtN (by simp) hy)
    have h1 := costW_le hB x
    have h2 := (hL x hx).1
    have h3 : x.length * 1000 ≤ 1000 * 1000 := Nat.mul_le_mul_right _ h2
    omega
  have hm : matchN cs W L = dotN S C := by unfold matchN; rw [hS, hC]
  rw [hm, ← hC]
  refine AWp.seq (AWp.of_awpD [(14, 9)] hΓ hmix (by kernel_rfl) ?_)
  simp -implicitDefEqProofs only [go_sem]
  refine AWp.seq (AWp.seq (AWp.of_awpD [(14, 9)] hΓ hmix (by kernel_rfl) ?_))
  simp -implicitDefEqProofs only [go_sem]
  refine AWp.block ?_
  have hdc : ∀ k, dotN (S.take k) (C.take k) < capN := fun k => by
    have h1 := dotN_le (a := S.take k) (b := C.take k) (B := 256 ^ 100) (C := 1000000) (fun x hx => Nat.le_of_lt (hSc x (List.mem_of_mem_take hx))) (fun x hx => hCc x (List.mem_of_mem_take hx))
    have h2 : (S.take k).length ≤ 12 := by rw [List.length_take]; omega
    have h3 : (S.take k).length * (256 ^ 100 * 1000000) ≤ 12 * (256 ^ 100 * 1000000) := Nat.mul_le_mul_right _ h2
    have h4 : 12 * (256 ^ 100 * 1000000) < capN := by unfold capN; decide
    omega
  refine AWp.loopI (fun k : Nat => ⟨mkF 51 [(6, .ptr 0 0), (7, .own 1 W.length), (11, .ptr 3 0), (33, .own 2 L.length), (34, .p (.int .i64 L.length)), (35, .p (.int .i64 k))],
      [.box [.p (.bool false), .p (.str [])], .row 31 2 (S.map (intN false)) .own, .row 3 1 (C.map Kn.nV) .own, .box [.p (.bool false), .p (.str (magB (dotN (S.take k) (C.take k))))]]⟩)
    (fun k => k ≤ L.length) (fun k => L.length - k) 0 (by simp [go_sem, dotN, magB_zero]) (by omega) ?_
  intro k hk
  simp -implicitDefEqProofs only [go_sem]
  refine AWp.of_awpD [(14, 9)] hΓ hmix (by kernel_rfl) ?_
  by_cases hlt : k < L.length
  · have hlt' : (k : Int) < (L.length : Int) := by omega
    have hkS : k < S.length := by omega
    have hkC : k < C.length := by omega
    have hgC : (C.map Kn.nV).getD k default = .int .i64 (C.getD k 0 : Nat) := by
      rw [getD_map_lt _ _ _ _ hkC, List.getD_eq_getElem?_getD, List.getElem?_eq_getElem hkC, Option.getD_some]; rfl
    have hgS : (S.map (intN false)).getD k default = intN false (S.getD k 0) := by
      rw [getD_map_lt _ _ _ _ hkS, List.getD_eq_getElem?_getD, List.getElem?_eq_getElem hkS, Option.getD_some]
    simp -implicitDefEqProofs only [hlt, hlt', hgC, hgS, Int.toNat_natCast, List.length_map, go_sem]
    have hcC : C.getD k 0 ≤ 1000000 := by
      rw [List.getD_eq_getElem?_getD, List.getElem?_eq_getElem hkC, Option.getD_some]; exact hCc _ (List.getElem_mem hkC)
    have hcS : S.getD k 0 < 256 ^ 100 := by
      rw [List.getD_eq_getElem?_getD, List.getElem?_eq_getElem hkS, Option.getD_some]; exact hSc _ (List.getElem_mem hkS)
    have e23 := u34 (C.getD k 0) (by omega)
    have e22 := Kn.u36 (S.getD k 0) (C.getD k 0) (cap_of hcS (by decide)) (cap_of (k := 3) (by omega) (by decide))
    have hmul : S.getD k 0 * C.getD k 0 < capN := by
      have h1 : S.getD k 0 * C.getD k 0 ≤ 256 ^ 100 * 1000000 := Nat.mul_le_mul (Nat.le_of_lt hcS) hcC
      have h4 : 256 ^ 100 * 1000000 < capN := by unfold capN; decide
      omega
    have e59 := u89 (dotN (S.take k) (C.take k)) (S.getD k 0 * C.getD k 0) (hdc k) hmul
    rw [← dotN_take hkS hkC, intN_pos (dotN (S.take (k + 1)) (C.take (k + 1)))] at e59
    refine ⟨hkC, by omega, hkS, callVPK_fn e23 (.pures rfl) ?_⟩
    simp -implicitDefEqProofs only [go_sem]
    refine callVPK_fn e22 (.still rfl) ?_
    simp -implicitDefEqProofs only [go_sem]
    refine callVPK_fn e59 (.still rfl) ?_
    simp -implicitDefEqProofs only [go_sem]
    refine ⟨by simp only [InR]; omega, k + 1, ?_, by omega, by omega⟩
    first | omega | exact ⟨by omega, rfl⟩ | simp
  have hkL : k = L.length := by omega
  subst hkL
  simp -implicitDefEqProofs only [Nat.lt_irrefl, Int.lt_irrefl, go_sem]
  rw [List.take_of_length_le (by omega : S.length ≤ L.length), List.take_of_length_le (by omega : C.length ≤ L.length)]
  refine AWp.of_awpD [] hΓ hmix (by kernel_rfl) ?_
  simp -implicitDefEqProofs only [go_sem]
  rfl
end Go.Proofs.YtnaekjbbakofdaaGreat
end

section
namespace Go.Proofs.YtnaekjbbakofdaaGreat
open List

theorem insN_perm (x : Nat) : ∀ l : List Nat, insN x l ~ x :: l
  | [] => .refl _
  | y :: t => by
    unfold insN
    split
    · exact .refl _
    · exact ((insN_perm x t).cons y).trans (.swap x y t)
theorem insD_perm (x : Nat) : ∀ l : List Nat, insD x l ~ x :: l
  | [] => .refl _
  | y :: t => by
    unfold insD
    split
    · exact .refl _
    · exact ((insD_perm x t).cons y).trans (.swap x y t)
theorem take_snoc {ns : List Nat} {n : Nat} (h : n < ns.length) : ns.take (n + 1) = ns.take n ++ [ns.getD n 0] := by
  rw [List.take_succ_eq_append_getElem h, List.getD_eq_getElem?_getD, List.getElem?_eq_getElem h, Option.getD_some]
theorem srtN_perm' (ns : List Nat) : ∀ {n : Nat}, n ≤ ns.length → srtN ns n ~ ns.take n
  | 0, _ => by simp [srtN]
  | n + 1, h => by
    have ih := srtN_perm' ns (n := n) (by omega)
    rw [take_snoc (by omega)]
    unfold srtN
    exact (insN_perm _ _).trans ((ih.cons _).trans (List.perm_append_singleton _ _).symm)
theorem srtD_perm' (ns : List Nat) : ∀ {n : Nat}, n ≤ ns.length → srtD ns n ~ ns.take n
  | 0, _ => by simp [srtD]
  | n + 1, h => by
    have ih := srtD_perm' ns (n := n) (by omega)
    rw [take_snoc (by omega)]
    unfold srtD
    exact (insD_perm _ _).trans ((ih.cons _).trans (List.perm_append_singleton _ _).symm)

def up (l : List Nat) : List Nat := srtN l l.length
def dn (l : List Nat) : List Nat := srtD l l.length
theorem up_perm (l : List Nat) : up l ~ l := by have := srtN_perm' l (Nat.le_refl _); rwa [List.take_length] at this
theorem dn_perm (l : List Nat) : dn l ~ l := by have := srtD_perm' l (Nat.le_refl _); rwa [List.take_length] at this
theorem up_sorted (l : List Nat) : (up l).Pairwise (· ≤ ·) := srtN_sorted l _
theorem dn_sorted (l : List Nat) : (dn l).Pairwise (· ≥ ·) := srtD_sorted l _
theorem up_uniq {l m : List Nat} (h : m ~ l) (hm : m.Pairwise (· ≤ ·)) : up l = m :=
  Perm.eq_of_pairwise (le := (· ≤ ·)) (fun _ _ _ _ h1 h2 => Nat.le_antisymm h1 h2) (up_sorted l) hm ((up_perm l).trans h.symm)
theorem dn_uniq {l m : List Nat} (h : m ~ l) (hm : m.Pairwise (· ≥ ·)) : dn l = m :=
  Perm.eq_of_pairwise (le := (· ≥ ·)) (fun _ _ _ _ h1 h2 => Nat.le_antisymm h2 h1) (dn_sorted l) hm ((dn_perm l).trans h.symm)
theorem up_congr {l m : List Nat} (h : l ~ m) : up l = up m := up_uniq ((up_perm m).trans h.symm) (up_sorted m)
theorem up_cons (x : Nat) (l : List Nat) : up (x :: l) = insN x (up l) := up_uniq ((insN_perm _ _).trans ((up_perm l).cons x)) (insN_sorted (up_sorted l))
theorem dn_cons (x : Nat) (l : List Nat) : dn (x :: l) = insD x (dn l) := dn_uniq ((insD_perm _ _).trans ((dn_perm l).cons x)) (insD_sorted (dn_sorted l))
theorem up_len (l : List Nat) : (up l).length = l.length := srtN_len _ _
theorem dn_len (l : List Nat) : (dn l).length = l.length := srtD_len _ _

theorem insN_head {b : Nat} {B : List Nat} (h : (b :: B).Pairwise (· ≤ ·)) : insN b B = b :: B := by
  have h1 := insN_sorted (x := b) (List.pairwise_cons.1 h).2
  exact Perm.eq_of_pairwise (le := (· ≤ ·)) (fun _ _ _ _ h1 h2 => Nat.le_antisymm h1 h2) h1 h (insN_perm b B)
theorem insD_head {b : Nat} {B : List Nat} (h : (b :: B).Pairwise (· ≥ ·)) : insD b B = b :: B := by
  have h1 := insD_sorted (x := b) (List.pairwise_cons.1 h).2
  exact Perm.eq_of_pairwise (le := (· ≥ ·)) (fun _ _ _ _ h1 h2 => Nat.le_antisymm h2 h1) h1 h (insD_perm b B)

theorem cross {x a y b : Nat} (h1 : x ≤ a) (h2 : y ≤ b) : a * y + x * b ≤ x * y + a * b := by
  obtain ⟨c, rfl⟩ := Nat.exists_eq_add_of_le h1
  obtain ⟨d, rfl⟩ := Nat.exists_eq_add_of_le h2
  simp only [Nat.add_mul, Nat.mul_add]
  omega

theorem dot_ins (x y : Nat) : ∀ {A B : List Nat}, A.length = B.length → A.Pairwise (· ≥ ·) → B.Pairwise (· ≤ ·) → dotN (insD x A) (insN y B) ≤ x * y + dotN A B
  | [], [], _, _, _ => by simp [insD, insN, dotN]
  | a :: A, b :: B, hl, hA, hB => by
    have hA' := (List.pairwise_cons.1 hA).2
    have hB' := (List.pairwise_cons.1 hB).2
    have hl' : A.length = B.length := by simpa using hl
    by_cases h1 : a < x
    · by_cases h2 : y < b
      · unfold insD insN; rw [if_pos h1, if_pos h2]; simp only [dotN]; omega
      · have ih := dot_ins a y hl' hA' hB'
        rw [insD_head hA] at ih
        have e1 : insD x (a :: A) = x :: a :: A := by rw [insD, if_pos h1]
        have e2 : insN y (b :: B) = b :: insN y B := by rw [insN, if_neg h2]
        rw [e1, e2, dotN, dotN]
        have h3 := cross (x := a) (a := x) (y := b) (b := y) (by omega) (by omega)
        omega
    · by_cases h2 : y < b
      · have ih := dot_ins x b hl' hA' hB'
        rw [insN_head hB] at ih
        have e1 : insD x (a :: A) = a :: insD x A := by rw [insD, if_neg h1]
        have e2 : insN y (b :: B) = y :: b :: B := by rw [insN, if_pos h2]
        rw [e1, e2, dotN, dotN]
        have h3 := cross (x := x) (a := a) (y := y) (b := b) (by omega) (by omega)
        omega
      · have ih := dot_ins x y hl' hA' hB'
        have e1 : insD x (a :: A) = a :: insD x A := by rw [insD, if_neg h1]
        have e2 : insN y (b :: B) = b :: insN y B := by rw [insN, if_neg h2]
        rw [e1, e2, dotN, dotN]
        omega

theorem dot_least : ∀ {a b : List Nat}, a.length = b.length → dotN (dn a) (up b) ≤ dotN a b
  | [], [], _ => by simp [dn, up, srtD, srtN, dotN]
  | x :: a, y :: b, hl => by
    have hl' : a.length = b.length := by simpa using hl
    have ih := dot_least hl'
    have h := dot_ins x y (A := dn a) (B := up b) (by rw [dn_len, up_len]; exact hl') (dn_sorted a) (up_sorted b)
    rw [dn_cons, up_cons, dotN]
    omega

theorem dot_append : ∀ {a b c d : List Nat}, a.length = b.length → dotN (a ++ c) (b ++ d) = dotN a b + dotN c d
  | [], [], _, _, _ => by simp [dotN]
  | x :: a, y :: b, c, d, h => by
    have := dot_append (a := a) (b := b) (c := c) (d := d) (by simpa using h)
    simp only [List.cons_append, dotN]; omega

theorem insD_split (x : Nat) : ∀ A : List Nat, ∃ j, j ≤ A.length ∧ insD x A = A.take j ++ x :: A.drop j
  | [] => ⟨0, by simp, by simp [insD]⟩
  | a :: A => by
    by_cases h : a < x
    · exact ⟨0, by simp, by rw [insD, if_pos h]; simp⟩
    · obtain ⟨j, h1, h2⟩ := insD_split x A
      exact ⟨j + 1, by simpa using h1, by rw [insD, if_neg h, h2]; simp⟩

theorem matchN_eq (cs W : List Nat) (L : List Wd) : matchN cs W L = dotN (dn W) (up (L.map (costW cs))) := by
  unfold matchN dn up; rw [List.length_map]
theorem matchN_perm {cs W : List Nat} {L M : List Wd} (h : L ~ M) : matchN cs W L = matchN cs W M := by
  rw [matchN_eq, matchN_eq, up_congr (h.map _)]
def totN (cs W : List Nat) (L : List Wd) : Nat := dotN W (L.map (costW cs))
theorem matchN_le {cs W : List Nat} {L M : List Wd} (h : L ~ M) (hl : W.length = L.length) : matchN cs W M ≤ totN cs W L := by
  rw [← matchN_perm h, matchN_eq]
  exact dot_least (by simpa using hl)

theorem perm_cut {α : Type} {L : List α} {k : Nat} (hk : k < L.length) : L ~ L[k] :: (L.take k ++ L.drop (k + 1)) := by
  have h1 : L = L.take k ++ L[k] :: L.drop (k + 1) := by rw [← List.drop_eq_getElem_cons hk, List.take_append_drop]
  conv => lhs; rw [h1]
  exact perm_middle

theorem match_step (cs : List Nat) (x : Nat) (W : List Nat) (L : List Wd) (hl : W.length + 1 = L.length) :
    ∃ k, ∃ hk : k < L.length, x * costW cs L[k] + matchN cs W (L.take k ++ L.drop (k + 1)) = matchN cs (x :: W) L := by
  obtain ⟨j, hj, hs⟩ := insD_split x (dn W)
  rw [dn_len] at hj
  obtain ⟨C, hC⟩ : ∃ C, C = up (L.map (costW cs)) := ⟨_, rfl⟩
  have hCl : C.length = L.length := by rw [hC, up_len, List.length_map]
  have hjC : j < C.length := by omega
  have hCp : C ~ L.map (costW cs) := by rw [hC]; exact up_perm _
  obtain ⟨w, hw, hwc⟩ := List.mem_map.1 (hCp.mem_iff.1 (List.getElem_mem hjC))
  obtain ⟨k, hk, hke⟩ := List.getElem_of_mem hw
  refine ⟨k, hk, ?_⟩
  have hp1 : C ~ C[j] :: (C.take j ++ C.drop (j + 1)) := perm_cut hjC
  have hp2 : L.map (costW cs) ~ costW cs L[k] :: (L.take k ++ L.drop (k + 1)).map (costW cs) := by
    have := (perm_cut hk).map (costW cs)
    simpa using this
  have hck : costW cs L[k] = C[j] := by rw [hke, hwc]
  rw [hck] at hp2
  have hp3 : (C.take j ++ C.drop (j + 1)) ~ (L.take k ++ L.drop (k + 1)).map (costW cs) := (hp1.symm.trans (hCp.trans hp2)).cons_inv
  have hCs : C.Pairwise (· ≤ ·) := by rw [hC]; exact up_sorted _
  have hsub : (C.take j ++ C.drop (j + 1)).Sublist C := by
    have h1 : C = C.take j ++ C[j] :: C.drop (j + 1) := by rw [← List.drop_eq_getElem_cons hjC, List.take_append_drop]
    conv => rhs; rw [h1]
    exact (List.Sublist.refl _).append (List.sublist_cons_self _ _)
  have hu : up ((L.take k ++ L.drop (k + 1)).map (costW cs)) = C.take j ++ C.drop (j + 1) := up_uniq hp3 (hCs.sublist hsub)
  rw [matchN_eq, matchN_eq, hu, dn_cons, hs, ← hC, hck]
  have h1 : C = C.take j ++ C[j] :: C.drop (j + 1) := by rw [← List.drop_eq_getElem_cons hjC, List.take_append_drop]
  have hlj : ((dn W).take j).length = (C.take j).length := by rw [List.length_take, List.length_take, dn_len]; omega
  conv => rhs; rw [h1]
  rw [dot_append hlj, dotN]
  conv => lhs; rw [← List.take_append_drop j (dn W)]
  rw [dot_append hlj]
  omega
end Go.Proofs.YtnaekjbbakofdaaGreat
end

