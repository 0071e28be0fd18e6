/-
  Texts of this claim, joined.
-/
import Derived.Shelf.Slices.In.SortNone
import Derived.Test.YtpljmccnfmkmfaaGreatJ76c5d4d09cca
import Derived.Test.YtpljmccnfmkmfaaGreatJbadf20336eae
import Derived.Test.YtpljmccnfmkmfaaGreatJ4aec13ead61c
import Derived.Test.YtpljmccnfmkmfaaGreatJ2dffd49063af
import Derived.Test.YtpljmccnfmkmfaaGreatJe1e9c79f8448
import Derived.Test.YtpljmccnfmkmfaaGreatJ70b46f4d4eb2
import Derived.Test.YtpljmccnfmkmfaaGreatJ267659ddf9b3
import Derived.Test.YtpljmccnfmkmfaaGreatJ969e22690bb3
import Derived.Test.YtpljmccnfmkmfaaGreatJ5213c0a37e60
import Derived.Test.YtpljmccnfmkmfaaGreatJab3ee42939f9

set_option linter.unusedSimpArgs false
set_option maxRecDepth 1000000
set_option maxHeartbeats 4000000
section
namespace Go.Proofs.YtpljmccnfmkmfaaGreat
open Go Go.AM Go.RowKit Go.Shelf

end Go.Proofs.YtpljmccnfmkmfaaGreat
end

section
namespace Go.Proofs.YtpljmccnfmkmfaaGreat
open Go Go.AM Go.RowKit

end Go.Proofs.YtpljmccnfmkmfaaGreat
end

section
namespace Go.Proofs.YtpljmccnfmkmfaaGreat
open Go Go.AM Go.Mc



end Go.Proofs.YtpljmccnfmkmfaaGreat
end

section
namespace Go.Proofs.YtpljmccnfmkmfaaGreat
open Go Go.AM







def Zju (ws : List (List UInt8)) : Bool := Z46 (fun w x => x.isPrefixOf w) ws
theorem Zio {pr : List UInt8 → List UInt8 → Bool} {ws : List (List UInt8)} (hd : ws.Nodup) : Z46 pr ws = true ↔ ∀ x ∈ ws, ∀ y ∈ ws, pr x y = true → x = y := by
  have get : ∀ i (h : i < ws.length), ws.getD i [] = ws[i] := fun i h => by rw [List.getD_eq_getElem?_getD, List.getElem?_eq_getElem h, Option.getD_some]
  unfold Z46 Z7x Z3k; simp only [List.all_eq_true, List.mem_range, Bool.or_eq_true, decide_eq_true_eq, Bool.not_eq_true']
  constructor
  · intro h x hx y hy hp
    obtain ⟨i, hi, rfl⟩ := List.getElem_of_mem hx; obtain ⟨k, hk, rfl⟩ := List.getElem_of_mem hy; rcases h i hi k hk with e | e
    · subst e; rfl
    · rw [get i hi, get k hk, hp] at e; cases e
  · intro h i hi k hk
    by_cases e : i = k
    · exact .inl e
    · right
      rw [get i hi, get k hk]
      cases hp : pr ws[i] ws[k] with
      | false => rfl
      | true =>
        have := h _ (List.getElem_mem hi) _ (List.getElem_mem hk) hp; have hp := List.pairwise_iff_getElem.1 (show ws.Pairwise (· ≠ ·) from hd); rcases Nat.lt_trichotomy i k with hik | hik | hik
        · exact absurd this (hp i k hi hk hik)
        · exact absurd hik e
        · exact absurd this.symm (hp k i hk hi hik)

end Go.Proofs.YtpljmccnfmkmfaaGreat
end

section
namespace Go.Proofs.YtpljmccnfmkmfaaGreat.Kn
open Go Go.AM

def ltr (a : Nat) : UInt8 := L16.getD a 0
theorem ltr_inj {a b : Nat} (ha : a < 16) (hb : b < 16) (h : ltr a = ltr b) : a = b := by
  have key : ∀ a : Fin 16, ∀ b : Fin 16, L16.getD a.val 0 = L16.getD b.val 0 → a = b := by decide
  have := key ⟨a, ha⟩ ⟨b, hb⟩ h; exact congrArg Fin.val this
def Alph (q : Nat) (w : List UInt8) : Prop := ∀ b ∈ w, ∃ a, a < q ∧ b = ltr a

structure PCode (q : Nat) (ws : List (List UInt8)) : Prop where
  q0 : 0 < q
  q16 : q ≤ 16
  nodup : ws.Nodup
  free : ∀ x ∈ ws, ∀ y ∈ ws, y.isPrefixOf x = true → x = y
  alph : ∀ w ∈ ws, Alph q w
  short : ∀ w ∈ ws, w.length ≤ 32

end Go.Proofs.YtpljmccnfmkmfaaGreat.Kn
end

section
namespace Go.Proofs.YtpljmccnfmkmfaaGreat
open Go Go.AM

theorem Zc6 {a : Nat} (ha : a < 16) : ixB (Kn.ltr a) L16 0 = a := by
  have key : ∀ a : Fin 16, ixB (L16.getD a.val 0) L16 0 = (a.val : Int) := by decide
  exact key ⟨a, ha⟩
theorem Zf5 {q : Nat} {w : List UInt8} (hq1 : 1 ≤ q) (hq : q ≤ 16) (hl : w.length ≤ 65536) (h : Kn.Alph q w) : Zi q w = 0 := by
  unfold Zi; rw [if_neg (by omega), if_neg (by omega), if_pos]; refine List.all_eq_true.2 fun b hb => ?_
  obtain ⟨a, h1, rfl⟩ := h b hb; unfold okB; rw [Zc6 (by omega)]; simp only [Bool.and_eq_true, decide_eq_true_eq]; omega

theorem Znl {ws : List (List UInt8)} (hn : ws.Nodup) (h : ∀ x ∈ ws, ∀ y ∈ ws, y.isPrefixOf x = true → x = y) : Zju ws = true := (Zio (pr := fun w x => x.isPrefixOf w) hn).2 h
end Go.Proofs.YtpljmccnfmkmfaaGreat
end

section
namespace Go.Proofs.YtpljmccnfmkmfaaGreat
open Go Go.AM Go.RowKit

end Go.Proofs.YtpljmccnfmkmfaaGreat
end

section
namespace Go.Proofs.YtpljmccnfmkmfaaGreat.Kn
open Go Go.AM

end Go.Proofs.YtpljmccnfmkmfaaGreat.Kn
end

section
namespace Go.Proofs.YtpljmccnfmkmfaaGreat
open Go Go.AM


def plV (p : Nat × Nat) : PV := .agg [.int .i64 p.1, .int .i64 p.2]
def cmp3 (a b : Nat) : Int := if a < b then -1 else if b < a then 1 else 0

theorem c55 (a b : Nat × Nat) : PFn Tryz.prog 75 [plV a, plV b] [.int .i64 (cmp3 a.1 b.1)] := by
  have e := t103 (a.1 : Int) (b.1 : Int); refine PFn.of_body hΓ Tryz.func75 (by kernel_rfl) rfl (Wd [] ?_); have ec : cmpI (a.1 : Int) (b.1 : Int) = cmp3 a.1 b.1 := by
    unfold cmpI cmp3; by_cases h1 : a.1 < b.1
    · rw [if_pos (by omega : (a.1 : Int) < b.1), if_pos h1]
    · rw [if_neg (by omega : ¬ (a.1 : Int) < b.1), if_neg h1]
      by_cases h2 : b.1 < a.1
      · rw [if_pos (by omega : (b.1 : Int) < a.1), if_pos h2]
      · rw [if_neg (by omega : ¬ (b.1 : Int) < a.1), if_neg h2]
  rw [ec] at e; unfold plV; simp -implicitDefEqProofs only [Tryz.ntmps75, Tryz.results75, Nat.reduceAdd, Nat.reduceSub, go_sem]; refine Z0 e (.pures rfl) ?_; simp -implicitDefEqProofs only [go_sem]

def insP (x : Nat × Nat) : List (Nat × Nat) → List (Nat × Nat)
  | [] => [x]
  | y :: t => if x.1 < y.1 then x :: y :: t else y :: insP x t
theorem Zdo (x : Nat × Nat) : ∀ S, (insP x S).length = S.length + 1
  | [] => rfl
  | y :: t => by unfold insP; split <;> simp [Zdo x t]
theorem Zca {x : Nat × Nat} : ∀ {S : List (Nat × Nat)} {j : Nat}, j ≤ S.length → (∀ k (hk : k < S.length), k < j → S[k].1 ≤ x.1) → (∀ k (hk : k < S.length), j ≤ k → x.1 < S[k].1) → insP x S = S.take j ++ x :: S.drop j
  | [], j, hj, _, _ => by simp [insP]
  | y :: t, 0, _, _, h2 => by
    have := h2 0 (by simp) (Nat.le_refl _); unfold insP; rw [if_pos (by simpa using this)]; simp
  | y :: t, j + 1, hj, h1, h2 => by
    have h3 := h1 0 (by simp) (by omega); have ih := Zca (x := x) (S := t) (j := j) (by simpa using hj) (fun k hk hkj => h1 (k + 1) (by simp; omega) (by omega)) (fun k hk hkj => h2 (k + 1) (by simp; omega) (by omega)); unfold insP; rw [if_neg (by simp at h3; omega), ih]; simp
theorem Z9k {x y : Nat × Nat} : ∀ {S : List (Nat × Nat)}, y ∈ insP x S ↔ y = x ∨ y ∈ S
  | [] => by simp [insP]
  | z :: t => by
    unfold insP
    split
    · simp
    · simp only [List.mem_cons, Z9k (S := t)]
      constructor
      · rintro (h | h | h)
        · exact .inr (.inl h)
        · exact .inl h
        · exact .inr (.inr h)
      · rintro (h | h | h)
        · exact .inr (.inl h)
        · exact .inl h
        · exact .inr (.inr h)
def keyL (a b : Nat × Nat) : Prop := a.1 < b.1 ∨ (a.1 = b.1 ∧ a.2 < b.2)
theorem Z7i {x : Nat × Nat} : ∀ {S : List (Nat × Nat)}, S.Pairwise keyL → (∀ y ∈ S, y.2 < x.2) → (insP x S).Pairwise keyL
  | [], _, _ => by simp [insP]
  | y :: t, h, hx => by
    have h' := List.pairwise_cons.1 h; unfold insP
    split
    · rename_i hlt
      refine List.pairwise_cons.2 ⟨fun z hz => ?_, h⟩; rcases List.mem_cons.1 hz with rfl | hz
      · exact .inl hlt
      · rcases h'.1 z hz with h1 | h1
        · exact .inl (by omega)
        · exact .inl (by omega)
    · rename_i hlt
      refine List.pairwise_cons.2 ⟨fun z hz => ?_, Z7i h'.2 (fun y hy => hx y (by simp [hy]))⟩; rcases Z9k.1 hz with rfl | hz
      · have := hx y (by simp)
        by_cases he : y.1 = z.1
        · exact .inr ⟨he, this⟩
        · exact .inl (by omega)
      · exact h'.1 z hz

def srtP (ns : List Nat) : Nat → List (Nat × Nat)
  | 0 => []
  | n + 1 => insP (ns.getD n 0, n) (srtP ns n)
def Zx (ns : List Nat) (n : Nat) : List (Nat × Nat) := (List.range n).map fun i => (ns.getD i 0, i)
theorem Z4q (ns : List Nat) : ∀ n, (srtP ns n).length = n
  | 0 => rfl
  | n + 1 => by unfold srtP; rw [Zdo, Z4q ns n]
theorem Z3p {ns : List Nat} {p : Nat × Nat} : ∀ {n}, p ∈ srtP ns n ↔ p.2 < n ∧ p.1 = ns.getD p.2 0
  | 0 => by simp [srtP]
  | n + 1 => by
    unfold srtP; rw [Z9k, Z3p (n := n)]
    constructor
    · rintro (h | ⟨h1, h2⟩)
      · subst h; exact ⟨Nat.lt_succ_self n, rfl⟩
      · exact ⟨by omega, h2⟩
    · rintro ⟨h1, h2⟩
      by_cases he : p.2 = n
      · left; obtain ⟨a, b⟩ := p; simp only at he h2; subst he; rw [h2]
      · exact .inr ⟨by omega, h2⟩
theorem Z0x (ns : List Nat) : ∀ n, (srtP ns n).Pairwise keyL
  | 0 => by simp [srtP]
  | n + 1 => by
    unfold srtP; exact Z7i (Z0x ns n) (fun y hy => (Z3p.1 hy).1)

def rowP (S rest : List (Nat × Nat)) (x : Nat × Nat) (j : Nat) : List (Nat × Nat) := S.take j ++ x :: (S.drop j ++ rest)
theorem Zjm {S rest : List (Nat × Nat)} {x : Nat × Nat} {j : Nat} (hj : j ≤ S.length) : (rowP S rest x j).length = S.length + 1 + rest.length := by
  unfold rowP; simp; omega
theorem Zna {S rest : List (Nat × Nat)} {x : Nat × Nat} {j : Nat} (hj : j ≤ S.length) : (rowP S rest x j)[j]? = some x := by
  unfold rowP; rw [List.getElem?_append_right (by simp; omega)]; simp [Nat.min_eq_left hj]
theorem Zfu {S rest : List (Nat × Nat)} {x : Nat × Nat} {j : Nat} (hj : j < S.length) : (rowP S rest x (j + 1))[j]? = some S[j] := by
  unfold rowP; rw [List.getElem?_append_left (by simp; omega), List.getElem?_take_of_lt (by omega), List.getElem?_eq_getElem hj]
theorem Zft {S rest : List (Nat × Nat)} {x : Nat × Nat} {j : Nat} (hj : j < S.length) : ((rowP S rest x (j + 1)).set (j + 1) S[j]).set j x = rowP S rest x j := by
  unfold rowP; have e1 : S.take (j + 1) = S.take j ++ [S[j]] := List.take_succ_eq_append_getElem hj; have e2 : S.drop j = S[j] :: S.drop (j + 1) := List.drop_eq_getElem_cons hj; have hl : (S.take j).length = j := by rw [List.length_take]; omega
  rw [e1, List.append_assoc]; have h1 : (S.take j ++ ([S[j]] ++ x :: (S.drop (j + 1) ++ rest))).set (j + 1) S[j] = S.take j ++ ([S[j]] ++ S[j] :: (S.drop (j + 1) ++ rest)) := by
    rw [List.set_append_right _ _ (by omega), hl]
    congr 1
    simp [show j + 1 - j = 1 by omega]
  rw [h1, List.set_append_right _ _ (by omega), hl]; simp; rw [e2]
  rfl
theorem Zd5 {S rest : List (Nat × Nat)} {x : Nat × Nat} {j : Nat} : rowP S [] x j ++ rest = rowP S rest x j := by unfold rowP; simp
theorem Zjn {i : Nat} (S rest : List (Nat × Nat)) {x : Nat × Nat} (hS : S.length = i) : rowP S rest x i = S ++ x :: rest := by
  unfold rowP; rw [List.take_of_length_le (by omega), List.drop_eq_nil_of_le (by omega), List.nil_append]

theorem Zjk {α : Type} {l : List α} {b : Nat} {o : α} (h : l[b]? = some o) : l.set b o = l := by
  obtain ⟨hl, he⟩ := List.getElem?_eq_some_iff.1 h; rw [← he]; exact List.set_getElem_self hl
theorem c143 {h : List AObj} {b : Nat} (ns : List Nat) (hn : ns.length ≤ 1000) (hn0 : 0 < ns.length) (hb : h[b]? = some (.row 87 2 ((Zx ns ns.length).map plV) .own)) :
    AC Tryz.prog 193 [.own b ns.length, .p (.int .i64 0), .p (.int .i64 ns.length), .fn 75 []] h [] (fun v h' => v = .tup [] ∧ h' = h.set b (.row 87 2 ((srtP ns ns.length).map plV) .own)) := by
  have hbl : b < h.length := (List.getElem?_eq_some_iff.1 hb).1; have gL : ∀ o : AObj, (h.set b o)[b]? = some o := fun o => by simp [hbl]
  have sL : ∀ o o' : AObj, (h.set b o).set b o' = h.set b o' := fun o o' => by simp
  refine AC.of_bodyE hΓ Tryz.func193 (by kernel_rfl) rfl (AWp.mono (Q := fun e st => AM.Ends e ∧ st.h = h.set b (.row 87 2 ((srtP ns ns.length).map plV) .own)) ?_ ?_)
  rotate_left
  · rintro e ⟨tm, h'⟩ ⟨he, h2⟩
    simp only at h2; subst h2; refine ⟨he, _, Less.refl _, ?_⟩; unfold Z1i; simp +contextual -implicitDefEqProofs only [Tryz.results193, go_sem]; exact ⟨_, by simp, .inl rfl, List.take_length⟩
  refine AWp.seq (Wd [] ?_); simp -implicitDefEqProofs only [Tryz.ntmps193, Nat.reduceAdd, Nat.reduceSub, go_sem]; refine ⟨by simp only [InR]; omega, ?_⟩; have h0 : h = h.set b (.row 87 2 ((srtP ns 1 ++ (Zx ns ns.length).drop 1).map plV) .own) := by
    have e : srtP ns 1 ++ (Zx ns ns.length).drop 1 = Zx ns ns.length := by
      obtain ⟨m, hm⟩ : ∃ m, ns.length = m + 1 := ⟨ns.length - 1, by omega⟩; unfold Zx srtP srtP insP; rw [hm, List.range_succ_eq_map]; simp
    rw [e]; exact (Zjk hb).symm
  refine Wd [(4, 17), (6, 1000)] ?_; simp -implicitDefEqProofs only [go_sem]
  refine AWp.loopI (fun i : Nat => ⟨mkF 53 [(0, .own b ns.length), (1, .p (.int .i64 0)), (2, .p (.int .i64 ns.length)), (3, .fn 75 []), (8, .p (.int .i64 i))], h.set b (.row 87 2 ((srtP ns i ++ (Zx ns ns.length).drop i).map plV) .own)⟩)
    (fun i => 1 ≤ i ∧ i ≤ ns.length) (fun i => ns.length - i) 1 ?_ ⟨Nat.le_refl _, hn0⟩ ?_
  · rw [← h0]
    simp [go_sem, Z01]
  rintro i ⟨hi1, hi⟩; refine Wd [(4, 17), (6, 1000)] ?_; by_cases hlt : i < ns.length
  · simp -implicitDefEqProofs only [hlt, go_sem]
    have hdrop : (Zx ns ns.length).drop i = (ns.getD i 0, i) :: (Zx ns ns.length).drop (i + 1) := by
      rw [List.drop_eq_getElem_cons (by simp [Zx]; exact hlt)]; simp [Zx]
    have hSl := Z4q ns i; have hSs := Z0x ns i; have hsu : srtP ns (i + 1) = insP (ns.getD i 0, i) (srtP ns i) := rfl; have hrl : ((Zx ns ns.length).drop (i + 1)).length = ns.length - (i + 1) := by simp [Zx]
    rw [hdrop]; rw [← Zjn (srtP ns i) ((Zx ns ns.length).drop (i + 1)) (x := (ns.getD i 0, i)) hSl]; generalize (ns.getD i 0, i) = x at *; generalize hre : (Zx ns ns.length).drop (i + 1) = rest at *; generalize srtP ns i = S at *
    refine AWp.loopI (fun j : Nat => ⟨mkF 53 [(0, .own b ns.length), (1, .p (.int .i64 0)), (2, .p (.int .i64 ns.length)), (3, .fn 75 []), (8, .p (.int .i64 i)), (9, .p (.int .i64 j))], h.set b (.row 87 2 ((rowP S rest x j).map plV) .own)⟩)
      (fun j => j ≤ i ∧ ∀ k (hk : k < S.length), j ≤ k → x.1 < S[k].1) (fun j => j) i (by simp [go_sem, Zb]) ⟨Nat.le_refl _, fun k hk hik => by omega⟩ ?_
    rintro j ⟨hj, hgt⟩; have hRl := Zjm (rest := rest) (x := x) (show j ≤ S.length by omega); have hRj := Zna (rest := rest) (x := x) (show j ≤ S.length by omega); refine Wd [(4, 17), (6, 1000)] ?_; by_cases hj0 : 0 < j
    · obtain ⟨m, rfl⟩ : ∃ m, j = m + 1 := ⟨j - 1, by omega⟩
      have hm : m < S.length := by omega
      have hRm := Zfu (rest := rest) (x := x) hm; have hsw := Zft (rest := rest) (x := x) hm; have hjm : (((m + 1 : Nat) : Int) - 1) = (m : Int) := by omega
      have hjc : (0 : Int) < ((m + 1 : Nat) : Int) := by omega
      have gj : ((rowP S rest x (m + 1)).map plV).getD (m + 1) default = plV x := by rw [List.getD_eq_getElem?_getD, List.getElem?_map, hRj]; rfl
      have gm : ((rowP S rest x (m + 1)).map plV).getD m default = plV S[m] := by rw [List.getD_eq_getElem?_getD, List.getElem?_map, hRm]; rfl
      have e55 := c55 x S[m]; have hcx : List.take 2 (plV x).cells = [.int .i64 x.1, .int .i64 x.2] := rfl; have hcm : List.take 2 (plV S[m]).cells = [.int .i64 S[m].1, .int .i64 S[m].2] := rfl; have hc2 : ∀ p : Nat × Nat, (plV p).cells.length = 2 := fun p => rfl
      unfold plV at e55; simp -implicitDefEqProofs only [hjc, gL, gj, gm, hjm, Int.toNat_natCast, List.length_map, hcx, hcm, hc2, go_sem]; refine ⟨by omega, by omega, by simp only [InR]; omega, by omega, by omega, Z1 e55 (.pures rfl) ?_⟩; by_cases hcl : x.1 < S[m].1
      · have hc3 : cmp3 x.1 S[m].1 = -1 := by unfold cmp3; rw [if_pos hcl]
        rw [hc3]; have hneg : (-1 : Int) < 0 := by decide
        simp -implicitDefEqProofs only [hneg, go_sem]; refine AWp.planL (.q 0 (.q 1 (.q 2 (.q 3 (.q 4 (.q 5 (.q 6 (.q 7 (.q 8 (.q 9 (.q 10 (.q 11 (.q 12 (.q 13 (.q 14 (.e 15 (.s 2 (.s 3 (.s 4 (.q 16 (.e 17 .fin .nil))))) .nil)))))))))))))))) hΓ hmix (by kernel_rfl) ?_; simp -implicitDefEqProofs only [gL, sL, gj, gm, hjm, Int.toNat_natCast, List.length_map, hcx, hcm, hc2, go_sem]; have hsw' : (((rowP S rest x (m + 1)).map plV).set (m + 1) (.agg [.int .i64 S[m].1, .int .i64 S[m].2])).set m (.agg [.int .i64 x.1, .int .i64 x.2]) = (rowP S rest x m).map plV := by
          rw [← hsw, List.map_set, List.map_set]; rfl
        have hin : InR .i64 (m : Int) := by simp only [InR]; omega
        refine ⟨hin, hin, by omega, by omega, by omega, by omega, by omega, ⟨by omega, rfl⟩, hin, by omega, ⟨by simp; omega, rfl⟩, hin, m, ⟨rfl, ?_⟩, ⟨by omega, fun k hk hkm => ?_⟩, by omega⟩
        · rw [hsw']; exact Z01 _
        · by_cases he : k = m
          · subst he; exact hcl
          · exact hgt k hk (by omega)
      · have hc3 : ¬ cmp3 x.1 S[m].1 < 0 := by unfold cmp3; rw [if_neg hcl]; split <;> decide
        simp -implicitDefEqProofs only [hc3, go_sem]; have hend : insP x S = rowP S [] x (m + 1) := by
          unfold rowP; rw [Zca (j := m + 1) (by omega) (fun k hk hkj => ?_) hgt, List.append_nil]; have h1 : S[m].1 ≤ x.1 := by omega
          by_cases hkm : k = m
          · subst hkm; exact h1
          · have := List.pairwise_iff_getElem.1 hSs k m hk hm (by omega)
            unfold keyL at this; omega
        refine ⟨by simp only [InR]; omega, i + 1, ⟨by omega, ?_⟩, ⟨by omega, hlt⟩, by omega⟩; rw [hsu, hre, hend, Zd5]; exact Z01 _
    · have hjc : ¬ (0 : Int) < (j : Int) := by omega
      have hj1 : j = 0 := by omega
      simp -implicitDefEqProofs only [hjc, go_sem]; have hend : insP x S = rowP S [] x j := by
        unfold rowP; rw [Zca (j := j) (by omega) (fun k hk hkj => by omega) hgt, List.append_nil]
      refine ⟨by simp only [InR]; omega, i + 1, ⟨by omega, ?_⟩, ⟨by omega, hlt⟩, by omega⟩; rw [hsu, hre, hend, Zd5]; exact Z01 _
  · have hin : i = ns.length := by omega
    subst hin; simp -implicitDefEqProofs only [Nat.lt_irrefl, Int.lt_irrefl, go_sem]; rw [List.drop_eq_nil_of_le (by simp [Zx]), List.append_nil]

theorem c102 {h : List AObj} {b : Nat} (ns : List Nat) (hn : ns.length < 20) (hn0 : 0 < ns.length) (hb : h[b]? = some (.row 87 2 ((Zx ns ns.length).map plV) .own)) :
    AC Tryz.prog 140 [.own b ns.length, .p (.int .i64 ns.length), .fn 75 []] h [] (fun v h' => v = .tup [] ∧ h' = h.set b (.row 87 2 ((srtP ns ns.length).map plV) .own)) := by
  have hc := c143 ns (by omega) hn0 hb; refine AC.of_bodyE hΓ Tryz.func140 (by kernel_rfl) rfl (AWp.mono (Q := fun e st => AM.Ends e ∧ st.h = h.set b (.row 87 2 ((srtP ns ns.length).map plV) .own)) ?_ ?_)
  rotate_left
  · rintro e ⟨tm, h'⟩ ⟨he, h2⟩
    simp only at h2; subst h2; refine ⟨he, _, Less.refl _, ?_⟩; unfold Z1i; simp +contextual -implicitDefEqProofs only [Tryz.results140, go_sem]; exact ⟨_, by simp, .inl rfl, List.take_length⟩
  have h20 : ¬ (20 : Int) ≤ (ns.length : Int) := by omega
  have h20' : ¬ (20 : Int) < (ns.length : Int) := by omega
  refine Wd [] ?_; simp -implicitDefEqProofs only [Tryz.ntmps140, Nat.reduceAdd, Nat.reduceSub, go_sem]; refine AWp.loopI (fun _ : Unit => ⟨mkF 63 [(0, .own b ns.length), (1, .p (.int .i64 ns.length)), (2, .fn 75 []), (6, .p (.int .i64 20)), (7, .p (.int .i64 0)), (8, .p (.int .i64 20))], h⟩) (fun _ => True) (fun _ => 0) () (by simp [go_sem, Z01]) trivial ?_; rintro _ -; refine Wd [] ?_; simp -implicitDefEqProofs only [h20, go_sem]; refine Zg hc (by simp) ?_; rintro v h' ⟨rfl, rfl⟩; simp -implicitDefEqProofs only [Z8, List.foldl, go_sem]; refine AWp.loopI (fun _ : Unit => ⟨mkF 63 [(0, .own b ns.length), (1, .p (.int .i64 ns.length)), (2, .fn 75 []), (6, .p (.int .i64 20))], h.set b (.row 87 2 ((srtP ns ns.length).map plV) .own)⟩) (fun _ => True) (fun _ => 0) () (by simp [go_sem, Z01]) trivial ?_; rintro _ -; refine Wd [] ?_; simp -implicitDefEqProofs only [h20', go_sem]
theorem c54 {h : List AObj} {b : Nat} (ns : List Nat) (hn : ns.length < 20) (hn0 : 0 < ns.length) (hb : h[b]? = some (.row 87 2 ((Zx ns ns.length).map plV) .own)) :
    AC Tryz.prog 74 [.own b ns.length, .fn 75 []] h [] (fun v h' => v = .tup [] ∧ h' = h.set b (.row 87 2 ((srtP ns ns.length).map plV) .own)) := by
  have hc := c102 ns hn hn0 hb; refine AC.of_bodyE hΓ Tryz.func74 (by kernel_rfl) rfl (AWp.mono (Q := fun e st => AM.Ends e ∧ st.h = h.set b (.row 87 2 ((srtP ns ns.length).map plV) .own)) ?_ ?_)
  rotate_left
  · rintro e ⟨tm, h'⟩ ⟨he, h2⟩
    simp only at h2; subst h2; refine ⟨he, _, Less.refl _, ?_⟩; unfold Z1i; simp +contextual -implicitDefEqProofs only [Tryz.results74, go_sem]; exact ⟨_, by simp, .inl rfl, List.take_length⟩
  have hbl : b < h.length := (List.getElem?_eq_some_iff.1 hb).1; refine Wd [] ?_; simp -implicitDefEqProofs only [Tryz.ntmps74, Nat.reduceAdd, Nat.reduceSub, hb, go_sem]; refine Zg hc (by simp) ?_; rintro v h' ⟨rfl, rfl⟩; simp -implicitDefEqProofs only [Z8, List.foldl, go_sem]

def byV (b : UInt8) : PV := .int .u8 b.toNat
def wd (q : Nat) : Nat → Nat → List UInt8
  | 0, _ => []
  | n + 1, v => wd q n (v / q) ++ [Kn.ltr (v % q)]
theorem Z00 (q : Nat) : ∀ n v, (wd q n v).length = n
  | 0, _ => rfl
  | n + 1, v => by unfold wd; rw [List.length_append, Z00 q n]; rfl
theorem Zf6 {q : Nat} (hq : 0 < q) : ∀ n, wd q n 0 = List.replicate n (Kn.ltr 0)
  | 0 => rfl
  | n + 1 => by
    unfold wd; rw [Nat.zero_div, Nat.zero_mod, Zf6 hq n, List.replicate_succ']
theorem Zmk {q : Nat} (hq : 0 < q) (n v : Nat) : wd q (n + 1) (v * q) = wd q n v ++ [Kn.ltr 0] := by
  show wd q n (v * q / q) ++ [Kn.ltr (v * q % q)] = _; rw [Nat.mul_div_cancel _ hq, Nat.mul_mod_left]
theorem Z92 {q : Nat} (hq : 0 < q) (n v : Nat) : ∀ k, wd q (n + k) (v * q ^ k) = wd q n v ++ List.replicate k (Kn.ltr 0)
  | 0 => by simp
  | k + 1 => by
    have ih := Z92 hq n v k; rw [← Nat.add_assoc, Nat.pow_succ, ← Nat.mul_assoc, Zmk hq, ih, List.replicate_succ', List.append_assoc]
def nxR (q n v m : Nat) : List UInt8 := wd q m (v / q ^ (n - m)) ++ List.replicate (n - m) (Kn.ltr 0)

theorem Zeo {a : Nat} (ha : a < 16) : ixB (Kn.ltr a) [48, 49, 50, 51, 52, 53, 54, 55, 56, 57, 97, 98, 99, 100, 101, 102] 0 = a := Zc6 ha

theorem Zn5 (l : List UInt8) : Zc (l.map byV) 1 := fun x hx => by
  obtain ⟨b, _, rfl⟩ := List.mem_map.1 hx
  rfl
theorem Zsu (l : List UInt8) : Z0y (l.map byV) := fun x hx c hc => by
  obtain ⟨b, _, rfl⟩ := List.mem_map.1 hx; have : c = byV b := by simpa [PV.cells, byV] using hc
  subst this; rfl
theorem c104 (w : List UInt8) (hw : w ≠ []) (hl : w.length ≤ 100000) {h : List AObj} : AC Tryz.prog 142 [.p (.sl (w.map byV))] h [] (fun v h' => v = .own h.length w.length ∧ h' = h ++ [.row 5 1 (w.map byV) .own]) := by
  refine AC.of_bodyE hΓ Tryz.func142 (by kernel_rfl) rfl (AWp.mono (Q := fun e st => AM.Ends e ∧ st.tmps.getD 2 .junk = .own h.length w.length ∧ st.h = h ++ [.row 5 1 (w.map byV) .own]) ?_ ?_)
  rotate_left
  · rintro e ⟨tm, h'⟩ ⟨he, h1, h2⟩
    simp only at h1 h2; subst h2; refine ⟨he, _, Less.refl _, ?_⟩; unfold Z1i; simp +contextual -implicitDefEqProofs only [Tryz.results142, h1, go_sem]; exact ⟨_, by simp, .inl rfl, List.take_length⟩
  refine Wd [] ?_
  cases w with
  | nil => exact absurd rfl hw
  | cons b l =>
    simp -implicitDefEqProofs only [Tryz.ntmps142, Nat.reduceAdd, Nat.reduceSub, go_sem]; have h1 := Zn5 (b :: l); have h2 := Zsu (b :: l); simp only [List.map_cons] at h1 h2; simp only [List.length_cons] at hl; exact ⟨⟨by simp [Zc], by omega⟩, ⟨h1, h2⟩, ⟨by simp [Zc], by omega, by omega⟩, rfl⟩

theorem Zo1 (q n v m : Nat) (hm : m ≤ n) : (nxR q n v m).length = n := by
  unfold nxR; rw [List.length_append, Z00, List.length_replicate]; omega
theorem Zsy {q n v m : Nat} : (nxR q n v (m + 1))[m]? = some (Kn.ltr (v / q ^ (n - (m + 1)) % q)) := by
  unfold nxR wd; rw [List.append_assoc, List.getElem?_append_right (by rw [Z00]; exact Nat.le_refl _), Z00]; simp
theorem Zgg {q n v m : Nat} (hm : m + 1 ≤ n) : (nxR q n v (m + 1)).set m (Kn.ltr 0) = nxR q n v m := by
  unfold nxR; rw [show wd q (m + 1) (v / q ^ (n - (m + 1))) = wd q m (v / q ^ (n - (m + 1)) / q) ++ [Kn.ltr (v / q ^ (n - (m + 1)) % q)] from rfl]; rw [List.append_assoc, List.set_append_right _ _ (by rw [Z00]; exact Nat.le_refl _), Z00, Nat.sub_self, Nat.div_div_eq_div_mul, ← Nat.pow_succ, Nat.succ_eq_add_one, show n - (m + 1) + 1 = n - m by omega]; rw [show n - m = (n - (m + 1)) + 1 by omega, List.replicate_succ]; simp [show n - (m + 1) + 1 = n - m by omega]
theorem Zde {q n v m : Nat} (hq : 2 ≤ q) (hm : m + 1 ≤ n) (hc : v % q ^ (n - (m + 1)) = q ^ (n - (m + 1)) - 1) (hd : v / q ^ (n - (m + 1)) % q + 1 < q) :
    (nxR q n v (m + 1)).set m (Kn.ltr (v / q ^ (n - (m + 1)) % q + 1)) = wd q n (v + 1) := by
  have hp : 0 < q ^ (n - (m + 1)) := Nat.pow_pos (by omega); have e1 : v + 1 = (v / q ^ (n - (m + 1)) + 1) * q ^ (n - (m + 1)) := by
    have := Nat.div_add_mod v (q ^ (n - (m + 1))); rw [Nat.add_mul, Nat.one_mul, Nat.mul_comm]; omega
  have e2 : wd q n (v + 1) = wd q (m + 1) (v / q ^ (n - (m + 1)) + 1) ++ List.replicate (n - (m + 1)) (Kn.ltr 0) := by
    have := Z92 (q := q) (by omega) (m + 1) (v / q ^ (n - (m + 1)) + 1) (n - (m + 1)); rw [← e1, show m + 1 + (n - (m + 1)) = n by omega] at this; exact this
  rw [e2]; unfold nxR; generalize v / q ^ (n - (m + 1)) = u at *; have e3 : (u + 1) / q = u / q := by
    have := Nat.div_add_mod u q; rw [show u + 1 = (u % q + 1) + q * (u / q) by omega, Nat.add_mul_div_left _ _ (by omega), Nat.div_eq_of_lt hd]; omega
  have e4 : (u + 1) % q = u % q + 1 := by
    have := Nat.div_add_mod u q; rw [show u + 1 = (u % q + 1) + q * (u / q) by omega, Nat.add_mul_mod_self_left, Nat.mod_eq_of_lt hd]
  rw [show wd q (m + 1) u = wd q m (u / q) ++ [Kn.ltr (u % q)] from rfl, show wd q (m + 1) (u + 1) = wd q m ((u + 1) / q) ++ [Kn.ltr ((u + 1) % q)] from rfl, e3, e4]; rw [List.append_assoc, List.set_append_right _ _ (by rw [Z00]; exact Nat.le_refl _), Z00, Nat.sub_self]; simp
theorem Z8w {q v k : Nat} (hq : 2 ≤ q) (hc : v % q ^ k = q ^ k - 1) (hd : v / q ^ k % q = q - 1) : v % q ^ (k + 1) = q ^ (k + 1) - 1 := by
  have hp : 0 < q ^ k := Nat.pow_pos (by omega); rw [Nat.pow_succ, Nat.mod_mul, hc, hd]; obtain ⟨r, rfl⟩ : ∃ r, q = r + 1 := ⟨q - 1, by omega⟩; rw [Nat.add_sub_cancel, Nat.mul_add, Nat.mul_one]; omega

theorem c57 {h : List AObj} (q n v : Nat) (hq : 2 ≤ q) (hq16 : q ≤ 16) (hn : 0 < n) (hn2 : n ≤ 100000) (hv : v + 1 < q ^ n) :
    AC Tryz.prog 77 [.p (.int .i64 q), .p (.sl ((wd q n v).map byV))] h [] (fun v' h' => v' = .own h.length n ∧ h' = h ++ [.row 5 1 ((wd q n (v + 1)).map byV) .own]) := by
  have hwl := Z00 q n v; have hcl := c104 (h := h) (wd q n v) (fun e => by rw [e] at hwl; simp at hwl; omega) (by omega); rw [hwl] at hcl; have gL : ∀ o : AObj, (h ++ [o])[h.length]? = some o := fun o => by simp
  have sL : ∀ o o' : AObj, (h ++ [o]).set h.length o' = h ++ [o'] := fun o o' => by simp
  refine AC.of_bodyE hΓ Tryz.func77 (by kernel_rfl) rfl (AWp.mono (Q := fun e st => AM.Ends e ∧ st.tmps.getD 4 .junk = .own h.length n ∧ st.h = h ++ [.row 5 1 ((wd q n (v + 1)).map byV) .own]) ?_ ?_)
  rotate_left
  · rintro e ⟨tm, h'⟩ ⟨he, h1, h2⟩
    simp only at h1 h2; subst h2; refine ⟨he, _, Less.refl _, ?_⟩; unfold Z1i; simp +contextual -implicitDefEqProofs only [Tryz.results77, h1, go_sem]; exact ⟨_, by simp, .inl rfl, List.take_length⟩
  refine Wd [] ?_; simp -implicitDefEqProofs only [Tryz.ntmps77, Nat.reduceAdd, Nat.reduceSub, go_sem]; refine Zg hcl (by simp) ?_; rintro v' h' ⟨rfl, rfl⟩; simp -implicitDefEqProofs only [Z8, List.foldl, go_sem]; refine ⟨by simp only [InR]; omega, ?_⟩
  refine AWp.loopI (fun m : Nat => ⟨mkF 37 [(0, .p (.int .i64 q)), (5, .own h.length n), (6, .p (.int .i64 ((m : Int) - 1)))], h ++ [.row 5 1 ((nxR q n v m).map byV) .own]⟩)
    (fun m => m ≤ n ∧ v % q ^ (n - m) = q ^ (n - m) - 1) (fun m => m) n (by simp [go_sem, Zb, nxR]) ⟨Nat.le_refl _, by simp [Nat.mod_one]⟩ ?_
  rintro m ⟨hm, hcar⟩; by_cases hm0 : m = 0
  · exfalso
    subst hm0; rw [Nat.sub_zero, Nat.mod_eq_of_lt (by omega)] at hcar; omega
  obtain ⟨m, rfl⟩ : ∃ k, m = k + 1 := ⟨m - 1, by omega⟩; refine Wd [] ?_; have hi : (((m + 1 : Nat) : Int) - 1) = (m : Int) := by omega
  have hge : (0 : Int) ≤ (m : Int) := by omega
  have hR := Zsy (q := q) (n := n) (v := v) (m := m); have hRl := Zo1 q n v (m + 1) hm; have gm : ((nxR q n v (m + 1)).map byV).getD m default = .int .u8 (Kn.ltr (v / q ^ (n - (m + 1)) % q)).toNat := by rw [List.getD_eq_getElem?_getD, List.getElem?_map, hR]; rfl
  have hdq : v / q ^ (n - (m + 1)) % q < q := Nat.mod_lt _ (by omega); have hdone := Zde hq hm hcar; have hcarry := Zgg (q := q) (v := v) hm; have hmore := fun h => Z8w (k := n - (m + 1)) hq hcar h
  generalize v / q ^ (n - (m + 1)) % q = d at *; have e105 := t101 [48, 49, 50, 51, 52, 53, 54, 55, 56, 57, 97, 98, 99, 100, 101, 102] ((Kn.ltr d).toNat : Int); rw [Int.toNat_natCast, show (Kn.ltr d).toNat.toUInt8 = Kn.ltr d from UInt8.ofNat_toNat, Zeo (by omega)] at e105; simp -implicitDefEqProofs only [hi, hge, gL, gm, Int.toNat_natCast, List.length_map, go_sem]; refine ⟨by omega, by omega, Z0 e105 (.pures rfl) ?_⟩; by_cases hdl : d + 1 < q
  · have hdl' : (d : Int) < (q : Int) - 1 := by omega
    simp -implicitDefEqProofs only [hdl', gL, sL, go_sem]; refine ⟨by simp only [InR]; omega, by simp only [InR]; omega, ⟨by omega, by omega⟩, by omega, ⟨by omega, rfl⟩, ?_⟩; have e1 : ((d : Int) + 1).toNat = d + 1 := by omega
    rw [e1, show PV.int IntKind.u8 (([48, 49, 50, 51, 52, 53, 54, 55, 56, 57, 97, 98, 99, 100, 101, 102] : List UInt8).getD (d + 1) 0).toNat = byV (Kn.ltr (d + 1)) from rfl, ← List.map_set, hdone hdl]
  · have hdl' : ¬ (d : Int) < (q : Int) - 1 := by omega
    simp -implicitDefEqProofs only [hdl', gL, sL, go_sem]; refine ⟨by simp only [InR]; omega, by omega, by omega, ⟨by omega, rfl⟩, by simp only [InR]; omega, m, ⟨rfl, ?_⟩, ⟨by omega, ?_⟩, by omega⟩
    · rw [show PV.int IntKind.u8 (([48, 49, 50, 51, 52, 53, 54, 55, 56, 57, 97, 98, 99, 100, 101, 102] : List UInt8).getD (Int.toNat 0) 0).toNat = byV (Kn.ltr 0) from rfl, ← List.map_set, hcarry]
      exact Z01 _
    · have := hmore (by omega)
      rw [show n - (m + 1) + 1 = n - m by omega] at this; exact this

theorem Zjo {S : Nat} (hS : S ≠ 0) : Kn.ratV 0 1 = Kn.ratV 0 S := (Kn.low_eq (by decide) hS).2 (by simp)

theorem Zok {q K n : Nat} (hq : q ≠ 0) (hn : n ≤ 32) : Kn.ratV (K * q ^ n + 1 * q ^ 32) (q ^ 32 * q ^ n) = Kn.ratV (K + q ^ (32 - n)) (q ^ 32) := by
  have hp : ∀ m, q ^ m ≠ 0 := fun m => Nat.ne_of_gt (Nat.pow_pos (Nat.pos_of_ne_zero hq))
  refine (Kn.low_eq (Nat.mul_ne_zero (hp 32) (hp n)) (hp 32)).2 ?_; have h : q ^ 32 = q ^ (32 - n) * q ^ n := by rw [← Nat.pow_add]; congr 1; omega
  generalize q ^ 32 = A at *; generalize q ^ (32 - n) = B at *; generalize q ^ n = C at *; subst h
  grind
theorem Zoi (q : Nat) (hq2 : 2 ≤ q) (hq : q ≤ 16) (l : List Nat) (hl : l.length ≤ 4096) (n : Nat) (hn : n ≤ 32) :
    PFn Tryz.prog 106 [Kn.ratV (Kn.krS q l) (q ^ 32), Kn.ratV 1 (q ^ n)] [Kn.ratV (Kn.krS q (l ++ [n])) (q ^ 32)] := by
  have h1 : Kn.krS q l ≤ 4096 * 16 ^ 32 := Nat.le_trans (Kn.krS_le hq l) (Nat.mul_le_mul_right _ hl); have h2 : q ^ 32 ≤ 16 ^ 32 := Nat.pow_le_pow_left hq 32; have h3 : q ^ n ≤ 16 ^ 32 := Nat.le_trans (Nat.pow_le_pow_left hq n) (Nat.pow_le_pow_right (by decide) hn); have h4 : Kn.krS q l * q ^ n ≤ 4096 * 16 ^ 32 * 16 ^ 32 := Nat.mul_le_mul h1 h3; have h5 : q ^ 32 * q ^ n ≤ 16 ^ 32 * 16 ^ 32 := Nat.mul_le_mul h2 h3; have hb : 4096 * 16 ^ 32 * 16 ^ 32 + 16 ^ 32 * 16 ^ 32 < 256 ^ 40 := by decide
  have hc : ∀ x, x < 256 ^ 40 → x < capN := fun x h => Z3i h (by decide)
  have hs : (4096 * 16 ^ 32 ≤ 4096 * 16 ^ 32 * 16 ^ 32) ∧ (16 ^ 32 ≤ 16 ^ 32 * 16 ^ 32) := by decide
  have hp : ∀ m, q ^ m ≠ 0 := fun m => Nat.ne_of_gt (Nat.pow_pos (by omega))
  have e := Kn.w106 (Kn.krS q l) (q ^ 32) 1 (q ^ n) (hc _ (by omega)) (hc _ (by omega)) Kn.one_cap (hc _ (by omega)) (hp 32) (hp n) (hc _ (by omega)) (hc _ (by omega)); rw [Zok (by omega) hn, ← Kn.krS_snoc] at e; exact e

end Go.Proofs.YtpljmccnfmkmfaaGreat
end

section
namespace Go.Proofs.YtpljmccnfmkmfaaGreat.Kn
open Go Go.AM

def negV (n : Nat) : PV := .agg [.bool true, .str (magB n)]
def sgV (s : Bool) (n : Nat) : PV := .agg [.bool (s && decide (n ≠ 0)), .str (magB n)]
theorem s205 (s : Bool) (n : Nat) (h : (magB n).length ≤ 1000000) : PFn Tryz.prog 205 [sgV s n] [sgV s n] := by
  have e := q91 (s && decide (n ≠ 0)) (magB n) h; rw [Zf] at e; have h2 : intN (s && decide (n ≠ 0)) n = sgV s n := by
    unfold sgV intN intV
    cases s <;> simp
  rw [h2] at e; exact e
theorem s206 (n : Nat) (_ : n ≠ 0) (hn : n < 256 ^ 7) : PFn Tryz.prog 206 [negV n] [.int .i64 (-(n : Int))] := by
  have e := u124 (magB n) (mag7 hn); rw [Zf] at e; unfold negV; generalize magB n = l at *; refine PFn.of_body hΓ Tryz.func206 (by kernel_rfl) rfl (Wd [] ?_); simp -implicitDefEqProofs only [Tryz.ntmps206, Tryz.results206, Nat.reduceAdd, Nat.reduceSub, go_sem]; refine Z0 e (.pures rfl) ?_; simp -implicitDefEqProofs only [go_sem]; simp only [InR]; omega
theorem s179 (n : Nat) (hn0 : n ≠ 0) (hn : n < 9223372036854775808) : PFn Tryz.prog 179 [.int .i64 (-(n : Int))] [negV n] := by
  have e := u99 n hn; have h0 : ¬ (0 : Int) ≤ -(n : Int) := by omega
  have h1 : ¬ -(n : Int) = - -(n : Int) := by omega
  have h2 : - -(n : Int) = (n : Int) := by omega
  unfold negV; generalize magB n = l at *; refine PFn.of_body hΓ Tryz.func179 (by kernel_rfl) rfl (Wd [] ?_); simp -implicitDefEqProofs only [Tryz.ntmps179, Tryz.results179, Nat.reduceAdd, Nat.reduceSub, h0, go_sem]; refine ⟨by simp only [InR]; omega, fun h => absurd h h1, fun _ => ⟨by simp only [InR]; omega, ?_⟩⟩; rw [h2]; refine Z0 e (.pures rfl) ?_; simp -implicitDefEqProofs only [go_sem]; omega
theorem s171 (n : Nat) (hn0 : n ≠ 0) (hn : (magB n).length ≤ 1000000) : PFn Tryz.prog 215 [negV n, intN false 0] [.int .i64 (-1)] := by
  have ea := s205 true n hn; have eb := u96 0; unfold sgV at ea; rw [decide_eq_true hn0, Bool.and_self] at ea; unfold negV; simp only [Z7] at eb ⊢; generalize magB n = x at *; generalize magB 0 = y at *; refine PFn.of_body hΓ Tryz.func215 (by kernel_rfl) rfl (AWp.seq (Wd [] ?_)); simp -implicitDefEqProofs only [Tryz.ntmps215, Tryz.results215, Nat.reduceAdd, Nat.reduceSub, go_sem]; refine Wd [(1, 4)] ?_; simp -implicitDefEqProofs only [go_sem]; refine Z1 ea (.still rfl) ?_; simp -implicitDefEqProofs only [go_sem]; refine Z1 eb (.still rfl) ?_; have hz : (true != false) = true := rfl; simp -implicitDefEqProofs only [hz, go_sem]
theorem s171n (n : Nat) (hn0 : n ≠ 0) (hn : (magB n).length ≤ 1000000) : PFn Tryz.prog 171 [negV n] [.int .i64 (-1)] := by
  have e := s171 n hn0 hn; rw [Z7, magB_zero] at e; unfold negV at e ⊢; refine PFn.of_body hΓ Tryz.func171 (by kernel_rfl) rfl (Wd [] ?_); simp -implicitDefEqProofs only [Tryz.ntmps171, Tryz.results171, Nat.reduceAdd, Nat.reduceSub, go_sem]; refine Z0 e (.still rfl) ?_; simp -implicitDefEqProofs only [go_sem]
theorem s211 (n : Nat) : PFn Tryz.prog 211 [intN false n] [sgV true n] := by
  have ea := u96 n; unfold sgV; simp only [Z7] at ea ⊢; refine PFn.of_body hΓ Tryz.func211 (by kernel_rfl) rfl (AWp.seq (Wd [] ?_)); simp -implicitDefEqProofs only [Tryz.ntmps211, Tryz.results211, Nat.reduceAdd, Nat.reduceSub, go_sem]; refine AWp.seq (Wd [] ?_); simp -implicitDefEqProofs only [go_sem]; refine Z0 ea (.still rfl) ?_; simp -implicitDefEqProofs only [go_sem]; by_cases h : n = 0
  · subst h
    rw [magB_zero]; refine Wd [] ?_; simp -implicitDefEqProofs only [Bool.not_false, go_sem]; omega
  · have hm : ¬ magB n = [] := fun e => h (Z0g e)
    rw [decide_eq_true h]; refine Wd [] ?_; simp -implicitDefEqProofs only [Bool.not_false, hm, go_sem]; omega
theorem s168 (n : Nat) (hn0 : n ≠ 0) (hn : n < capN) : PFn Tryz.prog 168 [negV 1, intN false n] [negV n] := by
  have ea := s205 true 1 (by have := Z19 one_cap; omega); have eb := u96 n; unfold sgV at ea; rw [decide_eq_true (show (1 : Nat) ≠ 0 by omega), Bool.and_self] at ea; have hx : ¬ magB 1 = [] := fun e => by have := Z0g e; omega
  have hy : ¬ magB n = [] := fun e => hn0 (Z0g e)
  have h1l : (magB 1).length = 1 := by rw [Z9m 1 (by omega) (by omega)]; rfl
  have li : InR IntKind.i64 (((magB 1).length : Int) + ((magB n).length : Int)) := by have := Z19 hn; simp only [InR]; omega
  by_cases hs : (magB 1).length + (magB n).length < 8
  · have h7 := Z0j (n := n) (by omega)
    have va := s206 1 (by omega) (by omega); have vb := u110 n h7; have eo := s179 n hn0 (by omega); have ls : ((magB 1).length : Int) + ((magB n).length : Int) < 8 := by omega
    have hm : -((1 : Nat) : Int) * (n : Int) = -(n : Int) := by omega
    have hi : InR IntKind.i64 (-(n : Int)) := by simp only [InR]; omega
    unfold negV at va eo ⊢; simp only [Z7] at eb vb ⊢; generalize magB n = y at *; generalize magB 1 = x at *; refine PFn.of_body hΓ Tryz.func168 (by kernel_rfl) rfl (AWp.seq (Wd [] ?_)); simp -implicitDefEqProofs only [Tryz.ntmps168, Tryz.results168, Nat.reduceAdd, Nat.reduceSub, go_sem]; refine Wd [(1, 4), (5, 6), (6, 10)] ?_; simp -implicitDefEqProofs only [go_sem]; refine Z1 ea (.still rfl) ?_; simp -implicitDefEqProofs only [go_sem]; refine Z1 eb (.still rfl) ?_; simp -implicitDefEqProofs only [hx, hy, ls, go_sem]; refine ⟨li, Z1 va (.still rfl) ?_⟩; simp -implicitDefEqProofs only [go_sem]; refine Z1 vb (.still rfl) ?_; simp -implicitDefEqProofs only [hm, go_sem]; refine ⟨hi, Z1 eo (.still rfl) ?_⟩; simp -implicitDefEqProofs only [go_sem]
  · have ls : ¬ ((magB 1).length : Int) + ((magB n).length : Int) < 8 := by omega
    have e108 := q108 (magB 1) (magB n) (by omega) (by have := Z19 hn; omega); rw [Zf, Zf, Nat.one_mul] at e108; unfold negV; simp only [Z7] at eb ⊢; generalize magB n = y at *; generalize magB 1 = x at *; refine PFn.of_body hΓ Tryz.func168 (by kernel_rfl) rfl (AWp.seq (Wd [] ?_)); simp -implicitDefEqProofs only [Tryz.ntmps168, Tryz.results168, Nat.reduceAdd, Nat.reduceSub, go_sem]; refine Wd [(1, 4), (5, 6), (6, 10)] ?_; simp -implicitDefEqProofs only [go_sem]; refine Z1 ea (.still rfl) ?_; simp -implicitDefEqProofs only [go_sem]; refine Z1 eb (.still rfl) ?_; have hz : (true != false) = true := rfl; simp -implicitDefEqProofs only [hx, hy, ls, hz, go_sem]; refine ⟨li, Z1 e108 (.pures rfl) ?_⟩; simp -implicitDefEqProofs only [go_sem]; omega
def difV (x y : Nat) : PV := if y ≤ x then intN false (x - y) else negV (y - x)
theorem s167 (x y : Nat) (hx : x < capN) (hy : y < capN) (hy0 : y ≠ 0) : PFn Tryz.prog 167 [intN false x, negV y] [difV x y] := by
  have ea := u96 x; have eb := s205 true y (by have := Z19 hy; omega); unfold sgV at eb; rw [decide_eq_true hy0, Bool.and_self] at eb; have hxl := Z19 hx; have hyl := Z19 hy; unfold negV; by_cases hs : (magB x).length < 8 ∧ (magB y).length < 8
  · have h7a := Z0j hs.1
    have h7b := Z0j hs.2; have va := u110 x h7a; have vb := s206 y hy0 h7b; have la : ((magB x).length : Int) < 8 := by omega
    have lb : ((magB y).length : Int) < 8 := by omega
    have hi : InR IntKind.i64 ((x : Int) + -(y : Int)) := by simp only [InR]; omega
    have eo : ∃ s M, difV x y = .agg [.bool s, .str M] ∧ PFn Tryz.prog 179 [.int .i64 ((x : Int) + -(y : Int))] [.agg [.bool s, .str M]] := by
      unfold difV; by_cases hle : y ≤ x
      · rw [if_pos hle]
        have := u76 (x - y) (by omega); rw [show (((x - y : Nat)) : Int) = (x : Int) + -(y : Int) by omega] at this; exact ⟨false, _, rfl, this⟩
      · rw [if_neg hle]
        have := s179 (y - x) (by omega) (by omega); rw [show -(((y - x : Nat)) : Int) = (x : Int) + -(y : Int) by omega] at this; exact ⟨true, _, rfl, this⟩
    obtain ⟨s, M, hd, eo⟩ := eo; rw [hd]; unfold negV at vb; simp only [Z7] at ea va ⊢; generalize magB x = A at *; generalize magB y = B at *; refine PFn.of_body hΓ Tryz.func167 (by kernel_rfl) rfl (AWp.seq (Wd [] ?_)); simp -implicitDefEqProofs only [Tryz.ntmps167, Tryz.results167, Nat.reduceAdd, Nat.reduceSub, go_sem]; refine Wd [(1, 4), (3, 6), (5, 8), (10, 8), (11, 8)] ?_; simp -implicitDefEqProofs only [la, lb, go_sem]; refine Z1 ea (.still rfl) ?_; simp -implicitDefEqProofs only [la, lb, go_sem]; refine Z1 eb (.still rfl) ?_; simp -implicitDefEqProofs only [la, lb, go_sem]; refine Z1 va (.still rfl) ?_; simp -implicitDefEqProofs only [la, lb, go_sem]; refine Z1 vb (.still rfl) ?_; simp -implicitDefEqProofs only [go_sem]; refine ⟨hi, Z1 eo (.still rfl) ?_⟩; simp -implicitDefEqProofs only [go_sem]
  · have ec := u97 x y
    have hz : (false == true) = false := rfl; rcases Nat.lt_trichotomy x y with h | h | h
    · have e209 := q209 (magB y) (magB x) (by omega) (Z6c (Nat.le_of_lt h)) (by rw [Zf, Zf]; omega)
      rw [Zf, Zf] at e209; rw [Z2v h] at ec; have hW : difV x y = .agg [.bool true, .str (magB (y - x))] := by unfold difV; rw [if_neg (by omega)]; rfl
      rw [hW]; have h1 : ¬ (-1 : Int) = 0 := by omega
      have h2 : ¬ (0 : Int) < -1 := by omega
      simp only [Z7] at ea ⊢; generalize magB x = A at *; generalize magB y = B at *; refine PFn.of_body hΓ Tryz.func167 (by kernel_rfl) rfl (AWp.seq (Wd [] ?_)); simp -implicitDefEqProofs only [Tryz.ntmps167, Tryz.results167, Nat.reduceAdd, Nat.reduceSub, go_sem]; refine Wd [(1, 4), (3, 6), (5, 8), (10, 8), (11, 8)] ?_; by_cases hA : A.length < 8
      · have hB : ¬ B.length < 8 := fun h => hs ⟨hA, h⟩
        have lA : (A.length : Int) < 8 := by omega
        have lB : ¬ (B.length : Int) < 8 := by omega
        simp -implicitDefEqProofs only [lA, lB, go_sem]; refine Z1 ea (.still rfl) ?_; simp -implicitDefEqProofs only [lA, lB, go_sem]; refine Z1 eb (.still rfl) ?_; simp -implicitDefEqProofs only [lA, lB, hz, go_sem]; refine Z0 ec (.pures rfl) ?_; simp -implicitDefEqProofs only [h1, h2, go_sem]; refine Z1 e209 (.pures rfl) ?_; simp -implicitDefEqProofs only [go_sem]; omega
      · have lA : ¬ (A.length : Int) < 8 := by omega
        simp -implicitDefEqProofs only [lA, go_sem]; refine Z1 ea (.still rfl) ?_; simp -implicitDefEqProofs only [lA, go_sem]; refine Z1 eb (.still rfl) ?_; simp -implicitDefEqProofs only [lA, hz, go_sem]; refine Z0 ec (.pures rfl) ?_; simp -implicitDefEqProofs only [h1, h2, go_sem]; refine Z1 e209 (.pures rfl) ?_; simp -implicitDefEqProofs only [go_sem]; omega
    · subst h
      rw [Z4g] at ec; have hW : difV x x = .agg [.bool false, .str []] := by unfold difV; rw [if_pos (Nat.le_refl _), Nat.sub_self, Z7, magB_zero]
      rw [hW]; have lA : ¬ ((magB x).length : Int) < 8 := fun h => hs ⟨by omega, by omega⟩
      simp only [Z7] at ea ⊢; generalize magB x = A at *; refine PFn.of_body hΓ Tryz.func167 (by kernel_rfl) rfl (AWp.seq (Wd [] ?_)); simp -implicitDefEqProofs only [Tryz.ntmps167, Tryz.results167, Nat.reduceAdd, Nat.reduceSub, go_sem]; refine Wd [(1, 4), (3, 6), (5, 8), (10, 8), (11, 8)] ?_; simp -implicitDefEqProofs only [lA, go_sem]; refine Z1 ea (.still rfl) ?_; simp -implicitDefEqProofs only [lA, go_sem]; refine Z1 eb (.still rfl) ?_; simp -implicitDefEqProofs only [lA, hz, go_sem]; refine Z0 ec (.pures rfl) ?_; simp -implicitDefEqProofs only [go_sem]
    · have e209 := q209 (magB x) (magB y) (by omega) (Z6c (Nat.le_of_lt h)) (by rw [Zf, Zf]; omega)
      rw [Zf, Zf] at e209; rw [Z0p h] at ec; have hW : difV x y = .agg [.bool false, .str (magB (x - y))] := by unfold difV; rw [if_pos (by omega)]; rfl
      rw [hW]; have h1 : ¬ (1 : Int) = 0 := by omega
      have h2 : (0 : Int) < 1 := by omega
      simp only [Z7] at ea ⊢; generalize magB x = A at *; generalize magB y = B at *; refine PFn.of_body hΓ Tryz.func167 (by kernel_rfl) rfl (AWp.seq (Wd [] ?_)); simp -implicitDefEqProofs only [Tryz.ntmps167, Tryz.results167, Nat.reduceAdd, Nat.reduceSub, go_sem]; refine Wd [(1, 4), (3, 6), (5, 8), (10, 8), (11, 8)] ?_; by_cases hA : A.length < 8
      · have hB : ¬ B.length < 8 := fun h => hs ⟨hA, h⟩
        have lA : (A.length : Int) < 8 := by omega
        have lB : ¬ (B.length : Int) < 8 := by omega
        simp -implicitDefEqProofs only [lA, lB, go_sem]; refine Z1 ea (.still rfl) ?_; simp -implicitDefEqProofs only [lA, lB, go_sem]; refine Z1 eb (.still rfl) ?_; simp -implicitDefEqProofs only [lA, lB, hz, go_sem]; refine Z0 ec (.pures rfl) ?_; simp -implicitDefEqProofs only [h1, h2, go_sem]; refine Z1 e209 (.pures rfl) ?_; simp -implicitDefEqProofs only [go_sem]; omega
      · have lA : ¬ (A.length : Int) < 8 := by omega
        simp -implicitDefEqProofs only [lA, go_sem]; refine Z1 ea (.still rfl) ?_; simp -implicitDefEqProofs only [lA, go_sem]; refine Z1 eb (.still rfl) ?_; simp -implicitDefEqProofs only [lA, hz, go_sem]; refine Z0 ec (.pures rfl) ?_; simp -implicitDefEqProofs only [h1, h2, go_sem]; refine Z1 e209 (.pures rfl) ?_; simp -implicitDefEqProofs only [go_sem]; omega

theorem s213 (a b : Nat) (ha : (magB a).length ≤ 900) (hb : (magB b).length ≤ 900) (hb0 : b ≠ 0) (ha0 : a ≠ 0) (hd : a % b = 0) : PFn Tryz.prog 213 [negV a, intN false b] [negV (a / b), intN false 0, .int .i64 0] := by
  have ea := s205 true a (by omega); unfold sgV at ea; rw [decide_eq_true ha0, Bool.and_self] at ea; have eb := u96 b; have hbn : ¬ magB b = [] := fun e => hb0 (Z0g e)
  have hq0 : a / b ≠ 0 := fun h => ha0 (by have := Nat.div_add_mod a b; rw [h, hd] at this; omega)
  have en := s211 (a / b); unfold sgV at en; rw [decide_eq_true hq0, Bool.and_self] at en; have hz : (true != false) = true := rfl; unfold negV; by_cases hs : (magB a).length < 8 ∧ (magB b).length < 8
  · have h7a := Z0j hs.1
    have h7b := Z0j hs.2; have va := u124 (magB a) (by omega); have vb := u124 (magB b) (by omega); rw [Zf] at va vb; have hdl : a / b ≤ a := Nat.div_le_self a b; have hml : a % b < b := Nat.mod_lt a (by omega); have e1 := u76 (a / b) (by omega); have e2 := u76 (a % b) (by omega); have la : ((magB a).length : Int) < 8 := by omega
    have lb : ((magB b).length : Int) < 8 := by omega
    rw [hd] at e2; have hdi : (a : Int) % (b : Int) = ((0 : Nat) : Int) := by rw [← Int.natCast_emod, hd]
    simp only [Z7, magB_zero] at ea eb e1 e2 en ⊢; rw [Int.natCast_ediv] at e1; have hib : ¬ (b : Int) = 0 := by omega
    refine PFn.of_body hΓ Tryz.func213 (by kernel_rfl) rfl (AWp.seq (Wd [] ?_)); simp -implicitDefEqProofs only [Tryz.ntmps213, Tryz.results213, Nat.reduceAdd, Nat.reduceSub, go_sem]; refine Wd [(1, 4), (6, 8), (7, 8), (13, 3), (17, 1000)] ?_; simp -implicitDefEqProofs only [la, lb, hbn, go_sem]; refine Z1 ea (.still rfl) ?_; simp -implicitDefEqProofs only [la, lb, hbn, go_sem]; refine Z1 eb (.still rfl) ?_; simp -implicitDefEqProofs only [la, lb, hbn, go_sem]; refine Z1 va (.still rfl) ?_; simp -implicitDefEqProofs only [go_sem]; refine Z1 vb (.still rfl) ?_; simp -implicitDefEqProofs only [hib, hdi, go_sem]; refine ⟨⟨by omega, by simp only [InR]; omega⟩, Z1 e1 (.still rfl) ?_⟩; simp -implicitDefEqProofs only [hib, hdi, go_sem]; refine ⟨by omega, Z1 e2 (.still rfl) ?_⟩; simp -implicitDefEqProofs only [hz, go_sem]; refine Z0 en (.still rfl) ?_; simp -implicitDefEqProofs only [go_sem]; refine AWp.planL (.q 0 (.q 1 (.e 2 (.s 1 (.e 3 (.q 4 .fin) .nil)) .nil))) hΓ hmix (by kernel_rfl) ?_; simp -implicitDefEqProofs only [go_sem]
  · have e245 := q245 a b ha hb hb0
    rw [hd, magB_zero] at e245; simp only [Z7, magB_zero] at ea eb en ⊢; refine PFn.of_body hΓ Tryz.func213 (by kernel_rfl) rfl (AWp.seq (Wd [] ?_)); simp -implicitDefEqProofs only [Tryz.ntmps213, Tryz.results213, Nat.reduceAdd, Nat.reduceSub, go_sem]; refine Wd [(1, 4), (6, 8), (7, 8), (13, 3), (17, 1000)] ?_; by_cases hx : (magB a).length < 8
    · have hy : ¬ (magB b).length < 8 := fun h => hs ⟨hx, h⟩
      have lx : ((magB a).length : Int) < 8 := by omega
      have ly : ¬ ((magB b).length : Int) < 8 := by omega
      simp -implicitDefEqProofs only [lx, ly, hbn, go_sem]; refine Z1 ea (.still rfl) ?_; simp -implicitDefEqProofs only [lx, ly, hbn, go_sem]; refine Z1 eb (.still rfl) ?_; simp -implicitDefEqProofs only [lx, ly, hbn, go_sem]; refine Z0 e245 (.still rfl) ?_; simp -implicitDefEqProofs only [hz, go_sem]; refine Z0 en (.still rfl) ?_; simp -implicitDefEqProofs only [go_sem]; refine AWp.planL (.q 0 (.q 1 (.e 2 (.s 1 (.e 3 (.q 4 .fin) .nil)) .nil))) hΓ hmix (by kernel_rfl) ?_; simp -implicitDefEqProofs only [go_sem]
    · have lx : ¬ ((magB a).length : Int) < 8 := by omega
      simp -implicitDefEqProofs only [lx, hbn, go_sem]; refine Z1 ea (.still rfl) ?_; simp -implicitDefEqProofs only [lx, hbn, go_sem]; refine Z1 eb (.still rfl) ?_; simp -implicitDefEqProofs only [lx, hbn, go_sem]; refine Z0 e245 (.still rfl) ?_; simp -implicitDefEqProofs only [hz, go_sem]; refine Z0 en (.still rfl) ?_; simp -implicitDefEqProofs only [go_sem]; refine AWp.planL (.q 0 (.q 1 (.e 2 (.s 1 (.e 3 (.q 4 .fin) .nil)) .nil))) hΓ hmix (by kernel_rfl) ?_; simp -implicitDefEqProofs only [go_sem]

theorem s169 (n d : Nat) (hn0 : n ≠ 0) (hn : n < capN) (hd : d < capN) (hd0 : d ≠ 0) : PFn Tryz.prog 169 [negV n, intN false d] [.agg [.bool true, .str (magB (n / Nat.gcd n d)), .bool false, .str (magB (d / Nat.gcd n d))]] := by
  have c1 := w171 d; rw [Z0p (Nat.pos_of_ne_zero hd0)] at c1; have h11 : ¬ (1 : Int) < 0 := by omega
  have hG := Z9q hn hd; have hg0 : Nat.gcd n d ≠ 0 := fun h => hd0 (Nat.eq_zero_of_gcd_eq_zero_right h)
  have eg := Zs0 true n d (cap9 hn) (cap9 hd); have d1 := s213 n (Nat.gcd n d) (cap9 hn) (cap9 hG) hg0 hn0 (Nat.mod_eq_zero_of_dvd (Nat.gcd_dvd_left n d)); have d2 := q213 d (Nat.gcd n d) (cap9 hd) (cap9 hG) hg0; unfold negV at d1 ⊢; simp only [Z7] at c1 eg d1 d2 ⊢; refine PFn.of_body hΓ Tryz.func169 (by kernel_rfl) rfl (AWp.seq (Wd [] ?_)); simp -implicitDefEqProofs only [Tryz.ntmps169, Tryz.results169, Nat.reduceAdd, Nat.reduceSub, go_sem]; refine Wd [(2, 4)] ?_; simp -implicitDefEqProofs only [go_sem]; refine Z0 c1 (.still rfl) ?_; simp -implicitDefEqProofs only [h11, go_sem]; refine Z0 eg (.still rfl) ?_; simp -implicitDefEqProofs only [go_sem]; refine Z0 d1 (.still rfl) ?_; simp -implicitDefEqProofs only [go_sem]; refine Z0 d2 (.still rfl) ?_; simp -implicitDefEqProofs only [go_sem]; omega
def Z8j : PV := .agg [.bool true, .str (magB 1), .bool false, .str (magB 1)]
theorem s166 : PFn Tryz.prog 166 [Z8j] [Z8j] := by
  have c1 := w171 1; rw [Z0p (by omega)] at c1; have h10 : ¬ (1 : Int) = 0 := by omega
  have e := s169 1 1 (by omega) one_cap one_cap (by omega); rw [Nat.gcd_self, Nat.div_self (by omega)] at e; unfold negV at e; unfold Z8j; simp only [Z7] at c1 e; generalize magB 1 = x at *; refine PFn.of_body hΓ Tryz.func166 (by kernel_rfl) rfl (Wd [] ?_); simp -implicitDefEqProofs only [Tryz.ntmps166, Tryz.results166, Nat.reduceAdd, Nat.reduceSub, go_sem]; refine Z0 c1 (.still rfl) ?_; simp -implicitDefEqProofs only [h10, go_sem]; refine ⟨by omega, Z0 e (.still rfl) ?_⟩; simp -implicitDefEqProofs only [go_sem]
theorem s216 : PFn Tryz.prog 216 [ratV 1 1] [Z8j] := by
  have e1 := w166 1 1 one_cap one_cap (by omega); have e2 := s211 1; unfold sgV at e2; rw [decide_eq_true (show (1 : Nat) ≠ 0 by omega), Bool.and_self] at e2; rw [rat_inv] at e1 ⊢; unfold Z8j; simp only [Z7] at e2; generalize magB 1 = x at *; refine PFn.of_body hΓ Tryz.func216 (by kernel_rfl) rfl (AWp.seq (Wd [] ?_)); simp -implicitDefEqProofs only [Tryz.ntmps216, Tryz.results216, Nat.reduceAdd, Nat.reduceSub, go_sem]; refine Wd [(2, 6)] ?_; simp -implicitDefEqProofs only [go_sem]; refine Z0 e1 (.still rfl) ?_; simp -implicitDefEqProofs only [go_sem]; refine ⟨by omega, Z1 e2 (.still rfl) ?_⟩; simp -implicitDefEqProofs only [go_sem]; omega
theorem Zld {t s4 s5 : Bool} {t2 : Bool} {A B C D z1 z2 z3 z4 x y : List UInt8} (e1 : PFn Tryz.prog 166 [.agg [.bool false, .str A, .bool false, .str B]] [.agg [.bool false, .str A, .bool false, .str B]]) (e2 : PFn Tryz.prog 166 [.agg [.bool t, .str C, .bool false, .str D]] [.agg [.bool t, .str C, .bool false, .str D]])
    (m1 : PFn Tryz.prog 168 [.agg [.bool false, .str A], .agg [.bool false, .str D]] [.agg [.bool false, .str z1]]) (m2 : PFn Tryz.prog 168 [.agg [.bool t, .str C], .agg [.bool false, .str B]] [.agg [.bool t2, .str z2]])
    (m3 : PFn Tryz.prog 168 [.agg [.bool false, .str B], .agg [.bool false, .str D]] [.agg [.bool false, .str z3]]) (s1 : PFn Tryz.prog 167 [.agg [.bool false, .str z1], .agg [.bool t2, .str z2]] [.agg [.bool s4, .str z4]])
    (e4 : PFn Tryz.prog 169 [.agg [.bool s4, .str z4], .agg [.bool false, .str z3]] [.agg [.bool s5, .str x, .bool false, .str y]]) :
    PFn Tryz.prog 106 [.agg [.bool false, .str A, .bool false, .str B], .agg [.bool t, .str C, .bool false, .str D]] [.agg [.bool s5, .str x, .bool false, .str y]] := by
  refine PFn.of_body hΓ Tryz.func106 (by kernel_rfl) rfl (AWp.seq (Wd [] ?_)); simp -implicitDefEqProofs only [Tryz.ntmps106, Tryz.results106, Nat.reduceAdd, Nat.reduceSub, go_sem]; refine AWp.seq (Wd [(1, 4)] ?_); simp -implicitDefEqProofs only [go_sem]; refine Z1 e1 (.still rfl) ?_; simp -implicitDefEqProofs only [go_sem]; refine Z1 e2 (.still rfl) ?_; simp -implicitDefEqProofs only [go_sem]
  refine AWp.seqM (fun _ : Unit => ⟨mkF 28 [(2, .ptr 0 0), (3, .ptr 1 0), (4, .ptr 2 0), (5, .ptr 3 0)], [.box [.p (.bool false), .p (.str A), .p (.bool false), .p (.str B)], .box [.p (.bool t), .p (.str C), .p (.bool false), .p (.str D)], .box [.p (.bool false), .p (.str []), .p (.bool false), .p (.str [])], .box [.p (.bool s4), .p (.str z4)]]⟩)
    (fun _ => True) (Wd [(2, 1000)] ?_) ?_
  · simp -implicitDefEqProofs only [go_sem]
    refine AWp.planL (.q 0 (.q 1 (.q 2 (.q 3 (.q 5 (.q 6 (.q 7 (.q 8 (.e 4 (.s 5 (.s 6 (.s 7 (.s 8 (.e 9 (.e 10 (.e 11 (.s 0 (.s 1 (.s 2 (.s 3 (.s 5 (.s 6 (.s 7 (.s 8 (.e 12 .fin .nil))))))))) .nil) (.e 11 (.s 0 (.s 1 (.s 2 (.s 3 (.s 5 (.s 6 (.s 7 (.s 8 (.e 10 (.e 12 .fin .nil) .nil))))))))) .nil)) (.e 11 (.s 0 (.s 1 (.s 2 (.s 3 (.s 5 (.s 6 (.s 7 (.s 8 (.e 9 (.e 10 (.e 12 .fin .nil) .nil) .nil))))))))) .nil)))))) (.e 11 (.s 0 (.s 1 (.s 2 (.s 3 (.s 5 (.s 6 (.s 7 (.s 8 (.e 4 (.s 5 (.s 6 (.s 7 (.s 8 (.e 9 (.e 10 (.e 12 .fin .nil) .nil) .nil))))) .nil))))))))) .nil)))))))))) hΓ hmix (by kernel_rfl) ?_; simp -implicitDefEqProofs only [go_sem]; refine ⟨by omega, by omega, ?_, ?_⟩
    · refine Z0 m1 (.still rfl) ?_
      simp -implicitDefEqProofs only [go_sem]; refine ⟨by omega, ?_, ?_⟩
      · refine Z0 m2 (.still rfl) ?_
        simp -implicitDefEqProofs only [go_sem]; refine ⟨?_, ?_⟩
        · refine Z0 s1 (.still rfl) ?_
          simp -implicitDefEqProofs only [go_sem]; exact ⟨by omega, by omega, (), trivial⟩
        · refine ⟨by omega, by omega, Z0 s1 (.still rfl) ?_⟩
          simp -implicitDefEqProofs only [go_sem]; exact ⟨(), trivial⟩
      · refine ⟨by omega, by omega, Z0 m2 (.still rfl) ?_⟩
        simp -implicitDefEqProofs only [go_sem]; refine Z0 s1 (.still rfl) ?_; simp -implicitDefEqProofs only [go_sem]; exact ⟨(), trivial⟩
    · refine ⟨by omega, by omega, Z0 m1 (.still rfl) ?_⟩
      simp -implicitDefEqProofs only [go_sem]; refine ⟨by omega, Z0 m2 (.still rfl) ?_⟩; simp -implicitDefEqProofs only [go_sem]; refine Z0 s1 (.still rfl) ?_; simp -implicitDefEqProofs only [go_sem]; exact ⟨(), trivial⟩
  intro _ _; refine Wd [(3, 7)] ?_; simp -implicitDefEqProofs only [go_sem]; refine Z1 m3 (.still rfl) ?_; simp -implicitDefEqProofs only [go_sem]; refine Z1 e4 (.still rfl) ?_; simp -implicitDefEqProofs only [go_sem]

theorem s108 (K D : Nat) (hK : K < capN) (hD : D < capN) (hD0 : D ≠ 0) : ∃ c : Int, PFn Tryz.prog 108 [ratV K D, ratV 1 1] [.int .i64 c] ∧ (c ≤ 0 ↔ K ≤ D) := by
  obtain ⟨a1, a2⟩ := Z4b hK hD; have p1 := Z0k (n := K) hD0; have e1 := w166 K D hK hD hD0; have e2 := s166; have m1 := q73 (lowN K D) 1 a1 one_cap; have m2 := s168 (lowD K D) p1 a2; have m3 := q73 (lowD K D) 1 a2 one_cap; have s1 := s167 (lowN K D) (lowD K D) a1 a2 p1; have e216 := s216; rw [Nat.mul_one] at m1 m3; have hlow : lowD K D ≤ lowN K D ↔ D ≤ K := by
    have h := Z2a (n := K) (d := D)
    constructor
    · intro hh
      have h2 : lowD K D * D ≤ lowN K D * D := Nat.mul_le_mul_right _ hh; rw [h, Nat.mul_comm K] at h2; exact Nat.le_of_mul_le_mul_left h2 (Nat.pos_of_ne_zero p1)
    · intro hh
      have h2 : D * lowD K D ≤ K * lowD K D := Nat.mul_le_mul_right _ hh; rw [← h, Nat.mul_comm D] at h2; exact Nat.le_of_mul_le_mul_right h2 (Nat.pos_of_ne_zero hD0)
  have hlow2 : lowN K D = lowD K D ↔ K = D := by
    have h := Z2a (n := K) (d := D)
    constructor
    · intro hh
      rw [hh, Nat.mul_comm K] at h; exact (Nat.eq_of_mul_eq_mul_left (Nat.pos_of_ne_zero p1) h).symm
    · intro hh
      rw [hh] at h; have h3 := Nat.eq_of_mul_eq_mul_left (Nat.pos_of_ne_zero hD0) ((Nat.mul_comm _ _).trans h); rw [hh]; exact h3
  rw [Z0v K D] at e1 ⊢; generalize lowN K D = x at *; generalize lowD K D = y at *; have fin : ∃ (s4 s5 : Bool) (z4 u v : List UInt8) (c : Int), difV x y = .agg [.bool s4, .str z4] ∧ PFn Tryz.prog 169 [.agg [.bool s4, .str z4], intN false y] [.agg [.bool s5, .str u, .bool false, .str v]] ∧ PFn Tryz.prog 171 [.agg [.bool s5, .str u]] [.int .i64 c] ∧ (c ≤ 0 ↔ K ≤ D) := by
    unfold difV; by_cases hle : y ≤ x
    · rw [if_pos hle]
      have e := w169 (x - y) y (by omega) a2 p1; have c1 := w171 (lowN (x - y) y); refine ⟨false, false, _, _, _, _, rfl, e, c1, ?_⟩; by_cases hxy : x = y
      · have hl0 : lowN (x - y) y = 0 := by unfold lowN; rw [hxy, Nat.sub_self, Nat.zero_div]
        rw [hl0, Z4g]; have := hlow2.1 hxy; omega
      · have hl0 : 0 < lowN (x - y) y := by
          unfold lowN; have hg : 0 < Nat.gcd (x - y) y := Nat.pos_of_ne_zero fun h => p1 (Nat.eq_zero_of_gcd_eq_zero_right h)
          exact Nat.div_pos (Nat.le_of_dvd (by omega) (Nat.gcd_dvd_left _ _)) hg
        rw [Z0p hl0]; have h1 : K ≠ D := fun e => hxy (hlow2.2 e)
        have h2 := hlow.1 hle; omega
    · rw [if_neg hle]
      have hn0 : y - x ≠ 0 := by omega
      have e := s169 (y - x) y hn0 (by omega) a2 p1; have hg : 0 < Nat.gcd (y - x) y := Nat.pos_of_ne_zero fun h => p1 (Nat.eq_zero_of_gcd_eq_zero_right h)
      have hl0 : (y - x) / Nat.gcd (y - x) y ≠ 0 := Nat.ne_of_gt (Nat.div_pos (Nat.le_of_dvd (by omega) (Nat.gcd_dvd_left _ _)) hg); have hll := Nat.div_le_self (y - x) (Nat.gcd (y - x) y); have c1 := s171n ((y - x) / Nat.gcd (y - x) y) hl0 (by have := Z19 (n := (y - x) / Nat.gcd (y - x) y) (by omega); omega); refine ⟨true, true, _, _, _, _, rfl, e, c1, ?_⟩; have : ¬ D ≤ K := fun h => hle (hlow.2 h)
      omega
  obtain ⟨s4, s5, z4, u, v, c, hd, e4, c1, hc⟩ := fin; rw [hd] at s1; refine ⟨c, ?_, hc⟩; unfold negV at m2 s1; unfold Z8j at e2 e216; simp only [Z7] at m1 m2 m3 s1 e4; have ea := Zld e1 e2 m1 m2 m3 s1 e4; have es : PFn Tryz.prog 172 [.agg [.bool false, .str (magB x), .bool false, .str (magB y)], ratV 1 1] [.agg [.bool s5, .str u, .bool false, .str v]] := by
    rw [rat_inv] at e216 ⊢; generalize magB x = X at *; generalize magB y = Y at *; generalize magB 1 = W at *; refine PFn.of_body hΓ Tryz.func172 (by kernel_rfl) rfl (AWp.seq (Wd [] ?_)); simp -implicitDefEqProofs only [Tryz.ntmps172, Tryz.results172, Nat.reduceAdd, Nat.reduceSub, go_sem]; refine Wd [(1, 4)] ?_; simp -implicitDefEqProofs only [go_sem]; refine Z1 e216 (.still rfl) ?_; simp -implicitDefEqProofs only [go_sem]; refine Z1 ea (.still rfl) ?_; simp -implicitDefEqProofs only [go_sem]
  rw [rat_inv] at es ⊢; generalize magB x = X at *; generalize magB y = Y at *; generalize magB 1 = W at *; refine PFn.of_body hΓ Tryz.func108 (by kernel_rfl) rfl (AWp.seq (Wd [] ?_)); simp -implicitDefEqProofs only [Tryz.ntmps108, Tryz.results108, Nat.reduceAdd, Nat.reduceSub, go_sem]; refine Wd [] ?_; simp -implicitDefEqProofs only [go_sem]; refine Z0 es (.still rfl) ?_; simp -implicitDefEqProofs only [go_sem]; refine ⟨by omega, Z0 c1 (.still rfl) ?_⟩; simp -implicitDefEqProofs only [go_sem]
end Go.Proofs.YtpljmccnfmkmfaaGreat.Kn
end

section
namespace Go.Proofs.YtpljmccnfmkmfaaGreat
open Go Go.AM

def badN (n : Int) : Prop := n < 1 ∨ 32 < n
theorem h50 (q : Nat) (ns : List Nat) (hq2 : 2 ≤ q) (hq : q ≤ 16) (hl : ns.length ≤ 4096) (hn : ∀ n ∈ ns, 1 ≤ n ∧ n ≤ 32) : PFn Tryz.prog 50 [.int .i64 q, .sl (ns.map Kn.nV)] [Kn.ratV (Kn.krS q ns) (q ^ 32), .int .i64 0] := by
  have hS0 : q ^ 32 ≠ 0 := Nat.ne_of_gt (Nat.pow_pos (by omega)); have e93 := Kn.w93 0 1 (by omega) (by omega) (by omega); rw [Zjo hS0] at e93; obtain ⟨sA, hsA⟩ : ∃ f : Nat → List UInt8, f = fun i => magB (Kn.lowN (Kn.krS q (ns.take i)) (q ^ 32)) := ⟨_, rfl⟩
  obtain ⟨sB, hsB⟩ : ∃ f : Nat → List UInt8, f = fun i => magB (Kn.lowD (Kn.krS q (ns.take i)) (q ^ 32)) := ⟨_, rfl⟩
  have hsV : ∀ i, Kn.ratV (Kn.krS q (ns.take i)) (q ^ 32) = .agg [.bool false, .str (sA i), .bool false, .str (sB i)] := fun i => by rw [hsA, hsB]; rfl
  have hz : Kn.ratV 0 (q ^ 32) = .agg [.bool false, .str (sA 0), .bool false, .str (sB 0)] := hsV 0; rw [hz] at e93; have hfin := hsV ns.length; rw [List.take_of_length_le (by simp)] at hfin; rw [hfin]; have q1 : ¬ (q : Int) < 2 := by omega
  have q2 : ¬ (16 : Int) < (q : Int) := by omega
  have l1 : ¬ (4096 : Int) < (ns.length : Int) := by omega
  refine PFn.of_body hΓ Tryz.func50 (by kernel_rfl) rfl (AWp.seq (Wd [] ?_)); simp -implicitDefEqProofs only [Tryz.ntmps50, Tryz.results50, Nat.reduceAdd, Nat.reduceSub, go_sem]; refine AWp.seq (Wd [] ?_); simp -implicitDefEqProofs only [go_sem]; refine AWp.seq (Wd [] ?_); simp -implicitDefEqProofs only [q1, q2, go_sem]; refine AWp.seq (Wd [] ?_); simp -implicitDefEqProofs only [l1, List.length_map, go_sem]; refine AWp.seq (AWp.seq (Wd [] ?_)); simp -implicitDefEqProofs only [go_sem]; refine AWp.block ?_
  refine AWp.loopI (fun i : Nat => ⟨mkF 57 [(0, .p (.int .i64 q)), (1, .p (.sl (ns.map Kn.nV))), (4, .ptr 0 0), (6, .ptr 1 0), (7, .p (.int .i64 i))], [.box [.p (.bool false), .p (.str []), .p (.bool false), .p (.str [])], .box [.p (.bool false), .p (.str []), .p (.bool false), .p (.str [])]]⟩)
    (fun i => i ≤ ns.length) (fun i => ns.length - i) 0 (by simp [go_sem]) (by simp) ?_
  intro i hi; refine Wd [] ?_; by_cases hlt : i < ns.length
  · have hlt' : (i : Int) < (ns.length : Int) := by omega
    have hgi : (ns.map Kn.nV).getD i default = .int .i64 (ns[i] : Nat) := Z3 _ _ _ _ hlt; have hb := hn ns[i] (List.getElem_mem hlt); have b1 : ¬ ((ns[i] : Nat) : Int) < 1 := by omega
    have b2 : ¬ (32 : Int) < ((ns[i] : Nat) : Int) := by omega
    simp -implicitDefEqProofs only [hlt', hgi, b1, b2, Int.toNat_natCast, List.length_map, go_sem]; exact ⟨by simp only [InR]; omega, i + 1, by simp, by omega, by omega⟩
  have hlt' : ¬ (i : Int) < (ns.length : Int) := by omega
  simp -implicitDefEqProofs only [hlt', List.length_map, go_sem]; refine AWp.seq (Wd [] ?_); simp -implicitDefEqProofs only [go_sem]; refine Z0 e93 (.pures rfl) ?_; simp -implicitDefEqProofs only [go_sem]; refine AWp.seq (AWp.seq (Wd [] ?_)); simp -implicitDefEqProofs only [go_sem]; refine AWp.block ?_
  refine AWp.loopI (fun i : Nat => ⟨mkF 57 [(0, .p (.int .i64 q)), (1, .p (.sl (ns.map Kn.nV))), (4, .ptr 0 0), (8, .ptr 2 0), (9, .p (.int .i64 i))], [.box [.p (.bool false), .p (.str []), .p (.bool false), .p (.str [])], .box [.p (.bool false), .p (.str []), .p (.bool false), .p (.str [])], .box [.p (.bool false), .p (.str (sA i)), .p (.bool false), .p (.str (sB i))]]⟩)
    (fun i => i ≤ ns.length) (fun i => ns.length - i) 0 (by simp [go_sem]) (by simp) ?_
  clear hlt hlt' hi i; intro i hi; refine Wd [(15, 8)] ?_; by_cases hlt : i < ns.length
  · have hlt' : (i : Int) < (ns.length : Int) := by omega
    have hgi : (ns.map Kn.nV).getD i default = .int .i64 (ns[i] : Nat) := Z3 _ _ _ _ hlt; have hb := hn ns[i] (List.getElem_mem hlt); have htk : ns.take (i + 1) = ns.take i ++ [ns[i]] := List.take_succ_eq_append_getElem hlt; have hcp : q ^ ns[i] < capN := by
      have h3 : q ^ ns[i] ≤ 16 ^ 32 := Nat.le_trans (Nat.pow_le_pow_left (by omega) _) (Nat.pow_le_pow_right (by decide) hb.2); exact Z3i (Nat.lt_of_le_of_lt h3 (by decide : 16 ^ 32 < 256 ^ 40)) (by decide)
    have e107 := Kn.w107 q ns[i] (by omega) (by omega) (by omega) hcp; have e106 := Zoi q (by omega) (by omega) (ns.take i) (by simp; omega) ns[i] hb.2; rw [← htk, hsV, hsV] at e106; rw [Kn.rat_inv] at e106 e107; simp -implicitDefEqProofs only [hlt', hgi, Int.toNat_natCast, List.length_map, go_sem]; refine Z1 e107 (.pures rfl) ?_; simp -implicitDefEqProofs only [go_sem]; refine Z1 e106 (.still rfl) ?_; simp -implicitDefEqProofs only [go_sem]; exact ⟨by simp only [InR]; omega, i + 1, by simp, by omega, by omega⟩
  · have hlt' : ¬ (i : Int) < (ns.length : Int) := by omega
    have : i = ns.length := by omega
    subst this; simp -implicitDefEqProofs only [hlt', List.length_map, Int.lt_irrefl, go_sem]; refine Wd [] ?_; simp -implicitDefEqProofs only [go_sem]
theorem h50e (q : Nat) (l : List Int) (hq2 : 2 ≤ q) (hq : q ≤ 16) (hl : l.length ≤ 4096) (hb : ∃ n ∈ l, badN n) : PFn Tryz.prog 50 [.int .i64 q, .sl (l.map (.int .i64))] [.agg [.bool false, .str [], .bool false, .str []], .int .i64 2] := by
  have q1 : ¬ (q : Int) < 2 := by omega
  have q2 : ¬ (16 : Int) < (q : Int) := by omega
  have l1 : ¬ (4096 : Int) < (l.length : Int) := by omega
  refine PFn.of_body hΓ Tryz.func50 (by kernel_rfl) rfl (AWp.seq (Wd [] ?_)); simp -implicitDefEqProofs only [Tryz.ntmps50, Tryz.results50, Nat.reduceAdd, Nat.reduceSub, go_sem]; refine AWp.seq (Wd [] ?_); simp -implicitDefEqProofs only [go_sem]; refine AWp.seq (Wd [] ?_); simp -implicitDefEqProofs only [q1, q2, go_sem]; refine AWp.seq (Wd [] ?_); simp -implicitDefEqProofs only [l1, List.length_map, go_sem]; refine AWp.seq (AWp.seq (Wd [] ?_)); simp -implicitDefEqProofs only [go_sem]; refine AWp.block ?_
  refine AWp.loopI (fun i : Nat => ⟨mkF 57 [(0, .p (.int .i64 q)), (1, .p (.sl (l.map (.int .i64)))), (4, .ptr 0 0), (6, .ptr 1 0), (7, .p (.int .i64 i))], [.box [.p (.bool false), .p (.str []), .p (.bool false), .p (.str [])], .box [.p (.bool false), .p (.str []), .p (.bool false), .p (.str [])]]⟩)
    (fun i => i ≤ l.length ∧ ∀ n ∈ l.take i, ¬ badN n) (fun i => l.length - i) 0 (by simp [go_sem]) (by simp) ?_
  rintro i ⟨hi, hok⟩; refine Wd [] ?_; by_cases hlt : i < l.length
  rotate_left
  · obtain ⟨n, hn, hbn⟩ := hb
    rw [List.take_of_length_le (by omega)] at hok; exact absurd hbn (hok n hn)
  have hlt' : (i : Int) < (l.length : Int) := by omega
  have hgi : (l.map (PV.int .i64)).getD i default = .int .i64 l[i] := Z3 _ _ _ _ hlt; by_cases b1 : l[i] < 1
  · simp -implicitDefEqProofs only [hlt', hgi, b1, Int.toNat_natCast, List.length_map, go_sem]
  by_cases b2 : 32 < l[i]
  · simp -implicitDefEqProofs only [hlt', hgi, b1, b2, Int.toNat_natCast, List.length_map, go_sem]
  simp -implicitDefEqProofs only [hlt', hgi, b1, b2, Int.toNat_natCast, List.length_map, go_sem]; refine ⟨by simp only [InR]; omega, i + 1, by simp, ⟨by omega, fun n hn => ?_⟩, by omega⟩; rw [List.take_succ_eq_append_getElem hlt] at hn; rcases List.mem_append.1 hn with hn | hn
  · exact hok n hn
  · rw [List.mem_singleton.1 hn]
    exact fun h => h.elim b1 b2
theorem h51 (q : Nat) (ns : List Nat) (hq2 : 2 ≤ q) (hq : q ≤ 16) (hl : ns.length ≤ 4096) (hn : ∀ n ∈ ns, 1 ≤ n ∧ n ≤ 32) : PFn Tryz.prog 51 [.int .i64 q, .sl (ns.map Kn.nV)] [.bool (decide (Kn.krS q ns ≤ q ^ 32)), .int .i64 0] := by
  have e50 := h50 q ns hq2 hq hl hn; have hS0 : q ^ 32 ≠ 0 := Nat.ne_of_gt (Nat.pow_pos (by omega)); have hK := Kn.krS_cap hq hl; have hD : q ^ 32 < capN := Z3i (Nat.lt_of_le_of_lt (Nat.pow_le_pow_left hq 32) (by decide : 16 ^ 32 < 256 ^ 40)) (by decide); obtain ⟨c, e108, hc⟩ := Kn.s108 (Kn.krS q ns) (q ^ 32) hK hD hS0; have e93 := Kn.w93 1 1 (by omega) (by omega) (by omega); have hfin : decide (c ≤ 0) = decide (Kn.krS q ns ≤ q ^ 32) := decide_eq_decide.2 hc; rw [← hfin]; obtain ⟨x, y, hR⟩ : ∃ x y, Kn.ratV (Kn.krS q ns) (q ^ 32) = .agg [.bool false, .str x, .bool false, .str y] := ⟨_, _, rfl⟩; rw [hR] at e50 e108; rw [Kn.rat_inv] at e93 e108; refine PFn.of_body hΓ Tryz.func51 (by kernel_rfl) rfl (AWp.seq (Wd [] ?_)); simp -implicitDefEqProofs only [Tryz.ntmps51, Tryz.results51, Nat.reduceAdd, Nat.reduceSub, go_sem]; refine AWp.seq (Wd [] ?_); simp -implicitDefEqProofs only [go_sem]; refine Z0 e50 (.pures rfl) ?_; simp -implicitDefEqProofs only [go_sem]; refine AWp.seq (Wd [] ?_); simp -implicitDefEqProofs only [go_sem]; refine Wd [(4, 6)] ?_; simp -implicitDefEqProofs only [go_sem]; refine Z1 e93 (.pures rfl) ?_; simp -implicitDefEqProofs only [go_sem]; refine Z1 e108 (.still rfl) ?_; simp -implicitDefEqProofs only [go_sem]
theorem h51e (q : Nat) (l : List Int) (hq2 : 2 ≤ q) (hq : q ≤ 16) (hl : l.length ≤ 4096) (hb : ∃ n ∈ l, badN n) : PFn Tryz.prog 51 [.int .i64 q, .sl (l.map (.int .i64))] [.bool false, .int .i64 2] := by
  have e50 := h50e q l hq2 hq hl hb; have h20 : ¬ (2 : Int) = 0 := by omega
  refine PFn.of_body hΓ Tryz.func51 (by kernel_rfl) rfl (AWp.seq (Wd [] ?_)); simp -implicitDefEqProofs only [Tryz.ntmps51, Tryz.results51, Nat.reduceAdd, Nat.reduceSub, go_sem]; refine AWp.seq (Wd [] ?_); simp -implicitDefEqProofs only [go_sem]; refine Z0 e50 (.pures rfl) ?_; simp -implicitDefEqProofs only [go_sem]; refine AWp.seq (Wd [] ?_); simp -implicitDefEqProofs only [h20, go_sem]

theorem AWp.seqP {E : Env} {r : Option Nat} {Q : Exit → St → Prop} {st : St} {x y : Code} {α : Type} (fr : α → St) (Inv : α → Prop) (h2 : ∀ a, Inv a → AWp E r y Q (fr a))
    (h1 : (∀ a, Inv a → AWp E r y Q (fr a)) → AWp E r x (Z61 (fun st => AWp E r y Q st) Q) st) : AWp E r (.seq x y) Q st := AWp.seq (h1 h2)

def kS (S : List (Nat × Nat)) (i : Nat) : Nat × Nat := S.getD i (0, 0)
def tS (q : Nat) (S : List (Nat × Nat)) (i : Nat) : Nat := ((S.take i).map fun p => q ^ (32 - p.1)).sum
def vS (q : Nat) (S : List (Nat × Nat)) (i : Nat) : Nat := tS q S i / q ^ (32 - (kS S i).1)
def wS (q : Nat) (S : List (Nat × Nat)) (i : Nat) : List UInt8 := wd q (kS S i).1 (vS q S i)
def Z0a (q : Nat) (S : List (Nat × Nat)) (n : Nat) : List (List UInt8) := (List.range n).map (wS q S)
def idxS (S : List (Nat × Nat)) (n : Nat) : Nat → List Nat
  | 0 => List.replicate n 0
  | i + 1 => (idxS S n i).set (kS S i).2 i
theorem Z6j (S : List (Nat × Nat)) (n : Nat) : ∀ i, (idxS S n i).length = n
  | 0 => by simp [idxS]
  | i + 1 => by unfold idxS; rw [List.length_set, Z6j S n i]
theorem Zen {S : List (Nat × Nat)} {i : Nat} (hi : i < S.length) : kS S i = S[i] := by unfold kS; rw [List.getD_eq_getElem?_getD, List.getElem?_eq_getElem hi, Option.getD_some]
theorem Z47 {q : Nat} {S : List (Nat × Nat)} {i : Nat} (hi : i < S.length) : tS q S (i + 1) = tS q S i + q ^ (32 - (kS S i).1) := by
  unfold tS; rw [List.take_succ_eq_append_getElem hi, List.map_append, List.sum_append, Zen hi]; simp
theorem Zjc {q : Nat} {S : List (Nat × Nat)} {i : Nat} : ∀ {j}, i ≤ j → j ≤ S.length → tS q S i ≤ tS q S j
  | 0, h, _ => by have : i = 0 := by omega
                  subst this; exact Nat.le_refl _
  | j + 1, h, hj => by
    by_cases he : i = j + 1
    · subst he; exact Nat.le_refl _
    · have := Zjc (q := q) (S := S) (show i ≤ j by omega) (by omega)
      rw [Z47 (by omega)]; omega
theorem Z6q (q : Nat) (S : List (Nat × Nat)) (n : Nat) : Z0a q S (n + 1) = Z0a q S n ++ [wS q S n] := by unfold Z0a; rw [List.range_succ, List.map_append]; rfl

theorem Z7g {q : Nat} {S : List (Nat × Nat)} (_ : 2 ≤ q) (hS : S.Pairwise keyL) (_ : ∀ p ∈ S, 1 ≤ p.1 ∧ p.1 ≤ 32) {i j : Nat} (hij : i ≤ j) (hj : j < S.length) : (kS S i).1 ≤ (kS S j).1 := by
  rw [Zen (by omega), Zen hj]; by_cases he : i = j
  · subst he; exact Nat.le_refl _
  · have := List.pairwise_iff_getElem.1 hS i j (by omega) hj (by omega)
    unfold keyL at this; omega
theorem Zb0 {q : Nat} {S : List (Nat × Nat)} (_ : 2 ≤ q) (_ : S.Pairwise keyL) (h32 : ∀ p ∈ S, 1 ≤ p.1 ∧ p.1 ≤ 32) {i : Nat} (hi : i < S.length) : 1 ≤ (kS S i).1 ∧ (kS S i).1 ≤ 32 := by rw [Zen hi]; exact h32 _ (List.getElem_mem hi)
section
variable {q : Nat} {S : List (Nat × Nat)} (hq : 2 ≤ q) (hS : S.Pairwise keyL) (h32 : ∀ p ∈ S, 1 ≤ p.1 ∧ p.1 ≤ 32)
include hq hS h32
theorem Zlk : ∀ {i j : Nat}, i ≤ j → j < S.length → q ^ (32 - (kS S j).1) ∣ tS q S i
  | 0, _, _, _ => by simp [tS]
  | i + 1, j, hij, hj => by
    rw [Z47 (by omega)]; exact Nat.dvd_add (Zlk (by omega) hj) (Nat.pow_dvd_pow _ (by have := Z7g hq hS h32 (show i ≤ j by omega) hj; omega))
theorem Z5m {i : Nat} (hi : i < S.length) : vS q S i * q ^ (32 - (kS S i).1) = tS q S i := Nat.div_mul_cancel (Zlk hq hS h32 (Nat.le_refl _) hi)
theorem Zf8 {i : Nat} (hi : i + 1 < S.length) : wS q S (i + 1) = wd q (kS S i).1 (vS q S i + 1) ++ List.replicate ((kS S (i + 1)).1 - (kS S i).1) (Kn.ltr 0) := by
  have hm := Z7g hq hS h32 (show i ≤ i + 1 by omega) hi; have hb := (Zb0 hq hS h32 hi).2; have hz := Z92 (q := q) (by omega) (kS S i).1 (vS q S i + 1) ((kS S (i + 1)).1 - (kS S i).1); rw [show (kS S i).1 + ((kS S (i + 1)).1 - (kS S i).1) = (kS S (i + 1)).1 by omega] at hz; rw [← hz]; unfold wS
  congr 1
  have hp : 0 < q ^ (32 - (kS S (i + 1)).1) := Nat.pow_pos (by omega); refine Nat.eq_of_mul_eq_mul_right hp ?_; rw [Z5m hq hS h32 hi, Z47 (by omega), ← Z5m hq hS h32 (show i < S.length by omega), Nat.mul_assoc, ← Nat.pow_add, show (kS S (i + 1)).1 - (kS S i).1 + (32 - (kS S (i + 1)).1) = 32 - (kS S i).1 by omega, Nat.add_mul, Nat.one_mul]
theorem Zmm {i : Nat} (hi : i < S.length) (hk : tS q S S.length ≤ q ^ 32) : vS q S i + 1 ≤ q ^ (kS S i).1 := by
  have hb := (Zb0 hq hS h32 hi).2; have hp : 0 < q ^ (32 - (kS S i).1) := Nat.pow_pos (by omega); refine Nat.le_of_mul_le_mul_right ?_ hp; rw [Nat.add_mul, Nat.one_mul, Z5m hq hS h32 hi, ← Z47 hi, ← Nat.pow_add, show (kS S i).1 + (32 - (kS S i).1) = 32 by omega]; exact Nat.le_trans (Zjc (by omega) (Nat.le_refl _)) hk
theorem Zfa {i : Nat} (hi : i + 1 < S.length) (hk : tS q S S.length ≤ q ^ 32) : vS q S i + 1 < q ^ (kS S i).1 := by
  have hb := (Zb0 hq hS h32 (show i < S.length by omega)).2; have hp : 0 < q ^ (32 - (kS S i).1) := Nat.pow_pos (by omega); have hp2 : 0 < q ^ (32 - (kS S (i + 1)).1) := Nat.pow_pos (by omega); refine Nat.lt_of_mul_lt_mul_right (a := q ^ (32 - (kS S i).1)) ?_; rw [Nat.add_mul, Nat.one_mul, Z5m hq hS h32 (by omega), ← Z47 (by omega), ← Nat.pow_add, show (kS S i).1 + (32 - (kS S i).1) = 32 by omega]; have h1 := Z47 (q := q) hi; have h2 := Zjc (q := q) (S := S) (show i + 1 + 1 ≤ S.length by omega) (Nat.le_refl _); omega
end
theorem Zf7 {q : Nat} {S : List (Nat × Nat)} (hq : 2 ≤ q) : wS q S 0 = List.replicate (kS S 0).1 (Kn.ltr 0) := by
  unfold wS vS; rw [show tS q S 0 = 0 by simp [tS], Nat.zero_div, Zf6 (by omega)]
end Go.Proofs.YtpljmccnfmkmfaaGreat
end

section
namespace Go.Proofs.YtpljmccnfmkmfaaGreat
open Go Go.AM

theorem v49 (n : Int) : PFn Tryz.prog 71 [.int .i64 n] [.bool (Kn.badL n)] := by
  unfold Kn.badL; refine PFn.of_body hΓ Tryz.func71 (by kernel_rfl) rfl (Wd [] ?_); by_cases h1 : n < 1
  · simp -implicitDefEqProofs only [Tryz.ntmps71, Tryz.results71, Nat.reduceAdd, Nat.reduceSub, h1, go_sem]
    try simp [h1]
  · simp -implicitDefEqProofs only [Tryz.ntmps71, Tryz.results71, Nat.reduceAdd, Nat.reduceSub, h1, go_sem]
    try simp [h1]
theorem c49a {h : List AObj} (n : Int) : AC Tryz.prog 71 [.p (.int .i64 n)] h [] (fun v h' => v = .p (.bool (Kn.badL n)) ∧ h' = h) := by
  have := AC.of_fn (h := h) (v49 n) (args := [.p (.int .i64 n)]) (.inl rfl); exact this

def flE (q : Nat) (ns : List Nat) : Int := if Kn.krS q ns ≤ q ^ 32 then 0 else 15
def flV (q : Nat) (ns : List Nat) : PV := if Kn.krS q ns ≤ q ^ 32 then Za q (Z0a q (srtP ns ns.length) ns.length) else Za 0 []
def flI (q : Nat) (ns : List Nat) : List Nat := if Kn.krS q ns ≤ q ^ 32 then idxS (srtP ns ns.length) ns.length ns.length else []

theorem Znm {q : Nat} (hq : q ≤ 16) : q ^ 32 < capN := by
  have h1 : q ^ 32 ≤ 16 ^ 32 := Nat.pow_le_pow_left hq 32; have h2 : 16 ^ 32 < capN := Nat.lt_of_lt_of_le (by decide : 16 ^ 32 < 256 ^ 17) (Nat.pow_le_pow_right (by decide) (by decide)); omega

theorem Zdn (f : Nat × Nat → Nat) (x : Nat × Nat) : ∀ S, ((insP x S).map f).sum = f x + (S.map f).sum
  | [] => by simp [insP]
  | y :: t => by
    unfold insP
    split
    · simp
    · simp only [List.map_cons, List.sum_cons, Zdn f x t]; omega
theorem Zd2 (q : Nat) (ns : List Nat) : ∀ n, n ≤ ns.length → ((srtP ns n).map fun p => q ^ (32 - p.1)).sum = Kn.krS q (ns.take n)
  | 0, _ => by simp [srtP, Kn.krS]
  | n + 1, h => by
    unfold srtP; rw [Zdn, Zd2 q ns n (by omega), List.take_succ_eq_append_getElem h, Kn.krS_snoc, List.getD_eq_getElem?_getD, List.getElem?_eq_getElem h, Option.getD_some]
    dsimp only
    omega
theorem Zfg (q : Nat) (ns : List Nat) : tS q (srtP ns ns.length) (srtP ns ns.length).length = Kn.krS q ns := by
  unfold tS; rw [List.take_length, Zd2 q ns ns.length (Nat.le_refl _), List.take_length]

theorem cm13 (q : Nat) (ns : List Nat) (hq : 2 ≤ q) (hq16 : q ≤ 16) (hn0 : 0 < ns.length) (hn : ns.length < 20) (h32 : ∀ n ∈ ns, 1 ≤ n ∧ n ≤ 32) :
    PFn Tryz.prog 23 [.int .i64 q, .sl (ns.map Kn.nV)] [flV q ns, .sl ((flI q ns).map Kn.nV), .int .i64 (flE q ns)] := by
  have hmap : ns.map Kn.nV = (ns.map fun n : Nat => (n : Int)).map Kn.iV := by rw [List.map_map]; rfl
  have hnb : (ns.map fun n : Nat => (n : Int)).any Kn.badL = false := List.any_eq_false.2 fun x hx hb => by
    obtain ⟨n, hm, rfl⟩ := List.mem_map.1 hx; have := h32 n hm; unfold Kn.badL at hb; simp only [Bool.or_eq_true, decide_eq_true_eq] at hb; omega
  have e48 : ∀ h : List AObj, AC Tryz.prog 70 [.p (.sl (ns.map Kn.nV)), .fn 71 []] h [] (fun v h' => v = .p (.bool false) ∧ h' = h) := fun h => by
    have := Kn.c48 (h := h) (g := 71) (caps := []) (pr := Kn.badL) (ns.map fun n : Nat => (n : Int)) (by simp; omega) fun w _ => c49a w
    rw [hnb, ← hmap] at this; exact this
  have e50 := Kn.v50 q ns hq hq16 (by omega) h32; have hkl := Kn.krS_le hq16 ns; have hc1 := Znm hq16; have hcap : (ns.length * 16 ^ 32) * 1 < capN := by
    have h2 : ns.length * 16 ^ 32 ≤ 20 * 16 ^ 32 := Nat.mul_le_mul_right _ (by omega); have h3 : 20 * 16 ^ 32 < capN := Nat.lt_of_lt_of_le (by decide : 20 * 16 ^ 32 < 256 ^ 18) (Nat.pow_le_pow_right (by decide) (by decide)); omega
  have hq0 : q ^ 32 ≠ 0 := Nat.pos_iff_ne_zero.1 (Nat.pow_pos (by omega)); have h1c := Kn.one_cap; have e53 := u34 1 (by omega); have e52 := Kn.v52 1 h1c; have e51 := Kn.v51 (Kn.krS q ns) (q ^ 32) 1 1 (by omega) hc1 h1c h1c hq0 (by omega) (by omega) (by omega); rw [Nat.mul_one, Nat.one_mul] at e51; have hqa : ¬ (q : Int) < 2 := by omega
  have hqb : ¬ (16 : Int) < (q : Int) := by omega
  have hna : ¬ (ns.length : Int) = 0 := by omega
  have hnc : ¬ (64 : Int) < (ns.length : Int) := by omega
  refine PFn.of_body hΓ Tryz.func23 (by kernel_rfl) rfl (AWp.seq (Wd [] ?_)); simp -implicitDefEqProofs only [Tryz.ntmps23, Tryz.results23, Nat.reduceAdd, Nat.reduceSub, go_sem]; refine AWp.seq (Wd [] ?_); simp -implicitDefEqProofs only [hqa, hqb, hna, hnc, List.length_map, go_sem]; refine Zg (e48 _) (by simp) ?_; rintro v h' ⟨rfl, rfl⟩; simp -implicitDefEqProofs only [Z8, List.foldl, go_sem]; refine AWp.seq (Wd [] ?_); simp -implicitDefEqProofs only [go_sem]; unfold Kn.ratV at e50 e51 e52; refine Z0 e50 (.pures rfl) ?_; simp -implicitDefEqProofs only [go_sem]; refine AWp.seq (Wd [] ?_); simp -implicitDefEqProofs only [go_sem]; refine AWp.seq (Wd [(12, 5)] ?_); simp -implicitDefEqProofs only [go_sem]; refine Z1 e53 (.pures rfl) ?_; simp -implicitDefEqProofs only [go_sem]; refine Z1 e52 (.pures rfl) ?_; simp -implicitDefEqProofs only [go_sem]; refine Z1 e51 (.still rfl) ?_; unfold flV flE flI; by_cases hk : Kn.krS q ns ≤ q ^ 32
  rotate_left
  · have hcm : (0 : Int) < cmpN (Kn.krS q ns) (q ^ 32) := by rw [Z0p (by omega)]; decide
    rw [if_neg hk, if_neg hk, if_neg hk]; simp -implicitDefEqProofs only [hcm, Za, List.map_nil, go_sem]
    done
  have hcm : ¬ (0 : Int) < cmpN (Kn.krS q ns) (q ^ 32) := by
    by_cases he : Kn.krS q ns = q ^ 32
    · rw [he, Z4g]; decide
    · rw [Z2v (by omega)]; decide
  rw [if_pos hk, if_pos hk, if_pos hk]; simp -implicitDefEqProofs only [hcm, go_sem]; clear e48 e50 e51 e52 e53; refine AWp.seq (Wd [] ?_); simp -implicitDefEqProofs only [go_sem]; refine AWp.adopt (l := []) 9 87 2 (by rfl) (by simp) ?_; simp -implicitDefEqProofs only [go_sem]; refine AWp.seq (Wd [] ?_); simp -implicitDefEqProofs only [List.length_map, go_sem]; generalize hA : Kn.krS q ns / (Kn.krS q ns).gcd (q ^ 32) = gA at *; generalize hB : q ^ 32 / (Kn.krS q ns).gcd (q ^ 32) = gB at *
  refine AWp.loopI (fun i : Nat => ⟨mkF 112 [(0, .p (.int .i64 q)), (1, .p (.sl (ns.map Kn.nV))), (4, .ptr 0 0), (5, .full []), (6, .p (.int .i64 0)), (9, .own 2 i), (55, .p (.sl (ns.map Kn.nV))), (56, .p (.int .i64 ns.length)), (57, .p (.int .i64 i))], [.box [.p (.int .i64 0), .full []], .box [.p (.bool false), .p (.str (magB gA)), .p (.bool false), .p (.str (magB gB))], .row 87 2 ((Zx ns i).map plV) (if i = 0 then .lax else .own)]⟩)
    (fun i => i ≤ ns.length) (fun i => ns.length - i) 0 (by simp [go_sem, Zx]) (by omega) ?_
  intro i hi; refine Wd [] ?_; by_cases hlt : i < ns.length
  · have hgi : (ns.map Kn.nV).getD i default = .int .i64 (ns[i] : Int) := by rw [Z3 _ _ _ _ hlt]; rfl
    have hpl : Zx ns (i + 1) = Zx ns i ++ [(ns[i], i)] := by
      unfold Zx; rw [List.range_succ, List.map_append, List.map_singleton, List.getD_eq_getElem?_getD, List.getElem?_eq_getElem hlt, Option.getD_some]
    have hpll : (Zx ns i).length = i := by simp [Zx]
    have hs2 : Zc [PV.agg [PV.int .i64 (ns[i] : Int), PV.int .i64 (i : Int)]] 2 := by simp [Zc, PV.cells]
    have ho2 : Z0y [PV.agg [PV.int .i64 (ns[i] : Int), PV.int .i64 (i : Int)]] := by simp [Z0y, PV.cells, PV.isAgg]
    simp -implicitDefEqProofs only [hlt, hgi, Int.toNat_natCast, go_sem]; refine ⟨by omega, ⟨hs2, by omega⟩, ⟨hs2, ho2⟩, ⟨by split <;> simp, by simp, by omega, by omega⟩, by simp only [InR]; omega, i + 1, ⟨⟨rfl, by omega⟩, .inl ⟨?_, by simp⟩⟩, hlt, by omega⟩; rw [hpl, List.map_append]; rfl
  have hin : i = ns.length := by omega
  subst hin; simp -implicitDefEqProofs only [Nat.lt_irrefl, Int.lt_irrefl, go_sem]; rw [if_neg (by omega)]; have e54 := fun (b0 b1 : AObj) => c54 (h := [b0, b1, .row 87 2 ((Zx ns ns.length).map plV) .own]) (b := 2) ns hn hn0 rfl
  have hSl := Z4q ns ns.length; have hSs := Z0x ns ns.length; have hSm := fun p => @Z3p ns p ns.length
  generalize hSe : srtP ns ns.length = S at *; refine AWp.seq (Wd [] ?_); simp -implicitDefEqProofs only [go_sem]; refine Zg (e54 _ _) (by simp) ?_; rintro v h' ⟨rfl, rfl⟩; simp -implicitDefEqProofs only [Z8, List.foldl, List.set_cons_zero, List.set_cons_succ, go_sem]; refine AWp.freeze 2 rfl ?_; refine AWp.seq (Wd [] ?_); simp -implicitDefEqProofs only [Z0f, List.length_map, go_sem]; refine ⟨by omega, ?_⟩; refine AWp.seq (Wd [] ?_); simp -implicitDefEqProofs only [List.length_map, go_sem]; refine ⟨⟨by omega, by omega⟩, ?_⟩; refine AWp.adoptCell (l := []) 3 1 9 1 rfl rfl (by simp) ?_; simp -implicitDefEqProofs only [List.set_cons_zero, List.set_cons_succ, go_sem]; refine AWp.seq (Wd [] ?_); simp -implicitDefEqProofs only [go_sem]; refine AWp.adopt (l := []) 14 5 1 (by rfl) (by simp) ?_; simp -implicitDefEqProofs only [go_sem]; refine AWp.seq (Wd [] ?_); simp -implicitDefEqProofs only [List.length_map, go_sem]; have hkr : tS q S S.length = Kn.krS q ns := by rw [← hSe]; exact Zfg q ns
  have hS32 : ∀ p ∈ S, 1 ≤ p.1 ∧ p.1 ≤ 32 := fun p hp => by
    obtain ⟨h1, h2⟩ := (hSm p).1 hp; rw [h2, List.getD_eq_getElem?_getD, List.getElem?_eq_getElem h1, Option.getD_some]; exact h32 _ (List.getElem_mem h1)
  have hSi : ∀ p ∈ S, p.2 < ns.length := fun p hp => ((hSm p).1 hp).1
  refine AWp.loopJ (fun i : Nat => ⟨mkF 112 [(0, .p (.int .i64 q)), (4, .ptr 0 0), (6, .p (.int .i64 0)), (12, .ptr 3 0), (13, .own 4 ns.length), (14, .own 6 (if i = 0 then 0 else (kS S (i - 1)).1)), (76, .p (.sl (S.map plV))), (77, .p (.int .i64 S.length)), (78, .p (.int .i64 i))],
      [.box [.p (.int .i64 0), .full []], .dead, .dead, .box [.p (.int .i64 q), .own 5 i], .row 3 1 ((idxS S ns.length i).map Kn.nV) .own, .row 9 1 ((Z0a q S i).map .str) .lax, .row 5 1 ((if i = 0 then [] else wS q S (i - 1)).map byV) .lax]⟩)
    (fun i => i ≤ S.length) (fun i => S.length - i) 0 (fun x => by simp [Z3x, mkF, AV.blw, AV.blw.blwL, blwH, AObj.blw]) (by simp [go_sem, idxS, Z0a, Z4l, Kn.nV]) (by omega) ?_
  intro i hi; refine AWp.seq (Wd [] ?_); simp -implicitDefEqProofs only [go_sem]; by_cases hlt : i < S.length
  · have hg : (S.map plV).getD i default = plV S[i] := Z3 _ _ _ _ hlt
    have hLi := Zen hlt; have hL := Zb0 hq hSs hS32 hlt; have hix := hSi S[i] (List.getElem_mem hlt); rw [← hLi] at hg hix; obtain ⟨u, hu0, hu1, hul, hue⟩ : ∃ u : List UInt8, (i = 0 → u = []) ∧ (0 < i → u = wd q (kS S (i - 1)).1 (vS q S (i - 1) + 1)) ∧ u.length ≤ (kS S i).1 ∧ u ++ List.replicate ((kS S i).1 - u.length) (Kn.ltr 0) = wS q S i := by
      by_cases h0 : i = 0
      · subst h0
        exact ⟨[], fun _ => rfl, fun h => absurd h (by omega), by simp, by rw [Zf7 hq]; simp⟩
      · refine ⟨wd q (kS S (i - 1)).1 (vS q S (i - 1) + 1), fun h => absurd h h0, fun _ => rfl, ?_, ?_⟩
        · rw [Z00]; exact Z7g hq hSs hS32 (by omega) hlt
        · rw [Z00]
          have := Zf8 (q := q) (S := S) hq hSs hS32 (i := i - 1) (by omega); rw [show i - 1 + 1 = i by omega] at this; exact this.symm
    refine AWp.seq (Wd [] ?_); simp -implicitDefEqProofs only [hlt, go_sem]; refine AWp.seq (AWp.block ?_); refine AWp.seq (Wd [] ?_); have hcp : List.take 2 (plV (kS S i)).cells = [.int .i64 (kS S i).1, .int .i64 (kS S i).2] := rfl; have hc2 : ∀ p : Nat × Nat, (plV p).cells.length = 2 := fun p => rfl
    simp -implicitDefEqProofs only [hlt, hg, hcp, hc2, Int.toNat_natCast, go_sem]
    refine AWp.seqP (α := Unit) (fun _ => ⟨mkF 112 [(0, .p (.int .i64 q)), (4, .ptr 0 0), (6, .p (.int .i64 0)), (12, .ptr 3 0), (13, .own 4 ns.length), (14, .own 6 u.length), (15, .p (.int .i64 i)), (16, .ptr 7 0), (76, .p (.sl (S.map plV))), (77, .p (.int .i64 S.length)), (78, .p (.int .i64 i))],
      [.box [.p (.int .i64 0), .full []], .dead, .dead, .box [.p (.int .i64 q), .own 5 i], .row 3 1 ((idxS S ns.length i).map Kn.nV) .own, .row 9 1 ((Z0a q S i).map .str) .lax, .row 5 1 (u.map byV) .lax, .box [.p (.int .i64 (kS S i).1), .p (.int .i64 (kS S i).2)]]⟩) (fun _ => True) ?_ ?_
    rotate_left
    · intro hyp
      by_cases h0 : i = 0
      · have hi0 : ¬ (0 : Int) < (i : Int) := by omega
        refine Wd [] ?_; simp -implicitDefEqProofs only [hi0, go_sem]; rw [if_pos h0, if_pos h0]; rw [hu0 h0] at hyp; refine AWp.weak ?_ (hyp () trivial); simp [go_sem, Zb]
      · have hi0 : (0 : Int) < (i : Int) := by omega
        have hprev : (if i = 0 then [] else wS q S (i - 1)) = wd q (kS S (i - 1)).1 (vS q S (i - 1)) := by rw [if_neg h0]; rfl
        have hl1 := Zb0 hq hSs hS32 (i := i - 1) (by omega); have hv := Zfa (q := q) (S := S) hq hSs hS32 (i := i - 1) (by omega) (by rw [hkr]; exact hk); rw [if_neg h0, hprev]; have hue1 := hu1 (by omega); have hull : u.length = (kS S (i - 1)).1 := by rw [hue1, Z00]
        refine AWp.seq (Wd [] ?_); simp -implicitDefEqProofs only [hi0, go_sem]; refine AWp.freeze 6 rfl ?_; refine Wd [] ?_; simp -implicitDefEqProofs only [Z0f, hi0, AV.thaw, AV.thaw.thawL, AObj.thaw, List.map_cons, List.map_nil, List.set_cons_zero, List.set_cons_succ, go_sem]; refine Zg (c57 q (kS S (i - 1)).1 (vS q S (i - 1)) hq hq16 (by omega) (by omega) hv) (by simp) ?_; rintro v' h' ⟨rfl, rfl⟩; simp -implicitDefEqProofs only [Z8, List.foldl, go_sem]; refine AWp.swap 6 8 rfl rfl (by simp) (by simp) ?_; rw [← hue1, ← hull]; refine AWp.weakD ?_ ?_ (hyp () trivial)
        · simp [go_sem, AV.sw, AV.sw.swL, AObj.sw, Zb, Z4l, swN]
        · simp [Z3x, mkF, AV.blw, AV.blw.blwL, blwH, AObj.blw]
    · rintro _ -
      refine AWp.seq (Wd [] ?_); simp -implicitDefEqProofs only [go_sem]
      refine AWp.loopI (fun k : Nat => ⟨mkF 112 [(0, .p (.int .i64 q)), (4, .ptr 0 0), (6, .p (.int .i64 0)), (12, .ptr 3 0), (13, .own 4 ns.length), (14, .own 6 (u.length + k)), (15, .p (.int .i64 i)), (16, .ptr 7 0), (76, .p (.sl (S.map plV))), (77, .p (.int .i64 S.length)), (78, .p (.int .i64 i))],
        [.box [.p (.int .i64 0), .full []], .dead, .dead, .box [.p (.int .i64 q), .own 5 i], .row 3 1 ((idxS S ns.length i).map Kn.nV) .own, .row 9 1 ((Z0a q S i).map .str) .lax, .row 5 1 ((u ++ List.replicate k (Kn.ltr 0)).map byV) .lax, .box [.p (.int .i64 (kS S i).1), .p (.int .i64 (kS S i).2)]]⟩)
        (fun k => u.length + k ≤ (kS S i).1) (fun k => (kS S i).1 - k) 0 (by simp [go_sem, Zb]) (by omega) ?_
      intro k hk5; refine Wd [] ?_; by_cases hlk : u.length + k < (kS S i).1
      · have hlk' : ((u.length + k : Nat) : Int) < ((kS S i).1 : Int) := by omega
        have hb0 : PV.int IntKind.u8 (([48, 49, 50, 51, 52, 53, 54, 55, 56, 57, 97, 98, 99, 100, 101, 102] : List UInt8).getD (Int.toNat 0) 0).toNat = byV (Kn.ltr 0) := rfl; have hs1 : Zc [byV (Kn.ltr 0)] 1 := by simp [Zc, byV, PV.cells]
        have ho1 : Z0y [byV (Kn.ltr 0)] := by simp [Z0y, byV, PV.cells, PV.isAgg]
        simp -implicitDefEqProofs only [hlk', go_sem]; rw [hb0]; refine ⟨by omega, ⟨hs1, by omega⟩, ⟨hs1, ho1⟩, ⟨by simp, by omega, by omega⟩, k + 1, ⟨rfl, .inr ?_⟩, by omega, by omega⟩; rw [List.replicate_succ', ← List.append_assoc, List.map_append]; simp
      · have hlk' : ¬ ((u.length + k : Nat) : Int) < ((kS S i).1 : Int) := by omega
        have hkk : k = (kS S i).1 - u.length := by omega
        subst hkk; rw [hue, show u.length + ((kS S i).1 - u.length) = (kS S i).1 by omega]; simp -implicitDefEqProofs only [Int.lt_irrefl, Nat.lt_irrefl, go_sem]; refine AWp.seq (Wd [] ?_); simp -implicitDefEqProofs only [go_sem]; have hil := Z6j S ns.length i; refine ⟨hix, ⟨by omega, rfl⟩, ?_⟩; have hsi : ((idxS S ns.length i).map Kn.nV).set (kS S i).2 (PV.int .i64 (i : Int)) = (idxS S ns.length (i + 1)).map Kn.nV := by
          rw [show idxS S ns.length (i + 1) = (idxS S ns.length i).set (kS S i).2 i from rfl, List.map_set]; rfl
        rw [hsi]; have hws := Z6q q S i; have hwl : (Z0a q S i).length = i := by unfold Z0a; simp
        have hs1 : Zc [PV.str (wS q S i)] 1 := by simp [Zc, PV.cells]
        have ho1 : Z0y [PV.str (wS q S i)] := by simp [Z0y, PV.cells, PV.isAgg]
        refine Wd [] ?_; simp -implicitDefEqProofs only [go_sem]; refine ⟨⟨5, rfl, rfl⟩, wS q S i, rfl, ⟨hs1, by omega⟩, ⟨hs1, ho1⟩, ⟨by simp, by omega, by omega⟩, ?_⟩; refine Wd [] ?_; simp -implicitDefEqProofs only [List.set_cons_zero, List.set_cons_succ, go_sem]; refine ⟨by simp only [InR]; omega, i + 1, ?_, hlt, by omega⟩; have hi1 : ¬ i + 1 = 0 := by omega
        rw [hws]; simp [Z4l, hi1, Nat.add_sub_cancel]
        done
  have hiS : i = S.length := by omega
  refine AWp.seq (Wd [] ?_); simp -implicitDefEqProofs only [hlt, go_sem]; refine Wd [] ?_; simp -implicitDefEqProofs only [go_sem]; rw [hiS, hSl]; exact ⟨rfl, rfl⟩

theorem Zbn {q : Nat} (hq : 0 < q) : ∀ n v, Kn.Alph q (wd q n v)
  | 0, _ => fun b hb => by cases hb
  | n + 1, v => fun b hb => by
    unfold wd at hb; rcases List.mem_append.1 hb with h | h
    · exact Zbn hq n _ b h
    · exact ⟨v % q, Nat.mod_lt _ hq, List.mem_singleton.1 h⟩
theorem Zlg {q : Nat} (hq : 0 < q) (hq16 : q ≤ 16) : ∀ {n v u : Nat}, v < q ^ n → u < q ^ n → wd q n v = wd q n u → v = u
  | 0, v, u, hv, hu, _ => by simp at hv hu; omega
  | n + 1, v, u, hv, hu, h => by
    unfold wd at h; have h1 := List.append_inj h (by rw [Z00, Z00]); have h2 := Zlg hq hq16 (Nat.div_lt_of_lt_mul (by rw [Nat.mul_comm, ← Nat.pow_succ]; exact hv)) (Nat.div_lt_of_lt_mul (by rw [Nat.mul_comm, ← Nat.pow_succ]; exact hu)) h1.1; have h3 : v % q = u % q := Kn.ltr_inj (by have := Nat.mod_lt v hq; omega) (by have := Nat.mod_lt u hq; omega) (by simpa using h1.2); rw [← Nat.div_add_mod v q, ← Nat.div_add_mod u q, h2, h3]
theorem Z93 {q : Nat} : ∀ {n m v : Nat}, m ≤ n → (wd q n v).take m = wd q m (v / q ^ (n - m))
  | 0, m, v, h => by have : m = 0 := by omega
                     subst this; rfl
  | n + 1, m, v, h => by
    by_cases he : m = n + 1
    · subst he; rw [Nat.sub_self, Nat.pow_zero, Nat.div_one, List.take_of_length_le (by rw [Z00]; exact Nat.le_refl _)]
    · show (wd q n (v / q) ++ [Kn.ltr (v % q)]).take m = _
      rw [List.take_append_of_le_length (by rw [Z00]; omega), Z93 (show m ≤ n by omega), Nat.div_div_eq_div_mul, ← Nat.pow_succ', show (n - m).succ = n + 1 - m by omega]

theorem Ze5 {x y : List UInt8} : ∀ {a b : List UInt8}, a.length = b.length → bLt a b = true → bLt (a ++ x) (b ++ y) = true
  | [], [], _, h => by cases h
  | u :: a, v :: b, hl, h => by
    rw [List.cons_append, List.cons_append, Z1m]; rcases (Z1m u v a b).1 h with h1 | ⟨h1, h2⟩
    · exact .inl h1
    · exact .inr ⟨h1, Ze5 (by simpa using hl) h2⟩
theorem Ze4 {x y : List UInt8} (h : bLt x y = true) : ∀ a : List UInt8, bLt (a ++ x) (a ++ y) = true
  | [] => h
  | u :: a => by rw [List.cons_append, List.cons_append, Z1m]; exact .inr ⟨rfl, Ze4 h a⟩
theorem Zt4 {a b : Nat} (hb : b < 16) (h : a < b) : (Kn.ltr a).toNat < (Kn.ltr b).toNat := by
  have key : ∀ a : Fin 16, ∀ b : Fin 16, a.val < b.val → (L16.getD a.val 0).toNat < (L16.getD b.val 0).toNat := by decide
  exact key ⟨a, by omega⟩ ⟨b, hb⟩ h
theorem Zri {q : Nat} (hq : 0 < q) (hq16 : q ≤ 16) : ∀ {n v u : Nat}, u < q ^ n → v < u → bLt (wd q n v) (wd q n u) = true
  | 0, v, u, hu, h => by simp at hu; omega
  | n + 1, v, u, hu, h => by
    show bLt (wd q n (v / q) ++ [Kn.ltr (v % q)]) (wd q n (u / q) ++ [Kn.ltr (u % q)]) = true; have hle : v / q ≤ u / q := Nat.div_le_div_right (by omega); by_cases he : v / q = u / q
    · rw [he]
      refine Ze4 ?_ _; rw [Z1m]; have h1 := Nat.div_add_mod v q; have h2 := Nat.div_add_mod u q; rw [he] at h1; exact .inl (Zt4 (by have := Nat.mod_lt u hq; omega) (by omega))
    · exact Ze5 (by rw [Z00, Z00]) (Zri hq hq16 (Nat.div_lt_of_lt_mul (by rw [Nat.mul_comm, ← Nat.pow_succ]; exact hu)) (by omega))

theorem Zbs {q : Nat} {S : List (Nat × Nat)} {i j : Nat} (hij : i < j) (hj : j ≤ S.length) : tS q S i + q ^ (32 - (kS S i).1) ≤ tS q S j := by
  rw [← Z47 (by omega)]; exact Zjc (by omega) hj

section
variable {q : Nat} {S : List (Nat × Nat)} (hq : 2 ≤ q) (hq16 : q ≤ 16) (hS : S.Pairwise keyL) (h32 : ∀ p ∈ S, 1 ≤ p.1 ∧ p.1 ≤ 32) (hk : tS q S S.length ≤ q ^ 32)
include hq hS h32 hk
theorem Zmn {i : Nat} (hi : i < S.length) : vS q S i < q ^ (kS S i).1 := by have := Zmm hq hS h32 hi hk; omega
include hq16
theorem wS_lt {i j : Nat} (hij : i < j) (hj : j < S.length) : ltW (wS q S i) (wS q S j) := by
  have hm := Z7g hq hS h32 (show i ≤ j by omega) hj; unfold ltW wS; rw [Z00, Z00]; by_cases he : (kS S i).1 = (kS S j).1
  · right
    refine ⟨he, ?_⟩; rw [he]; refine Zri (by omega) hq16 (Zmn hq hS h32 hk hj) ?_; have hp : 0 < q ^ (32 - (kS S j).1) := Nat.pow_pos (by omega); refine Nat.lt_of_mul_lt_mul_right (a := q ^ (32 - (kS S j).1)) ?_; have h1 := Z5m hq hS h32 (show i < S.length by omega); rw [he] at h1; have h2 := Zbs (q := q) (S := S) hij (by omega); rw [he] at h2; rw [h1, Z5m hq hS h32 hj]; omega
  · left; omega
theorem Zf9 {i j : Nat} (hi : i < S.length) (hj : j < S.length) (h : wS q S i <+: wS q S j) : i = j := by
  have hl := h.length_le; unfold wS at h hl; rw [Z00, Z00] at hl; have h1 := List.prefix_iff_eq_take.1 h; rw [Z00, Z93 hl] at h1; have hpm : 0 < q ^ ((kS S j).1 - (kS S i).1) := Nat.pow_pos (by omega); have hvj := Zmn hq hS h32 hk hj; have hb := (Zb0 hq hS h32 hj).2; have hdiv : vS q S j / q ^ ((kS S j).1 - (kS S i).1) < q ^ (kS S i).1 := Nat.div_lt_of_lt_mul (by rw [← Nat.pow_add, show (kS S j).1 - (kS S i).1 + (kS S i).1 = (kS S j).1 by omega]; exact hvj); have hv := Zlg (by omega) hq16 (Zmn hq hS h32 hk hi) hdiv h1; have hi1 := Z5m hq hS h32 hi; have hj1 := Z5m hq hS h32 hj; have hlo : vS q S i * q ^ ((kS S j).1 - (kS S i).1) ≤ vS q S j := by rw [hv]; exact Nat.div_mul_le_self _ _
  have hhi : vS q S j < (vS q S i + 1) * q ^ ((kS S j).1 - (kS S i).1) := by
    rw [hv, Nat.add_mul, Nat.one_mul]; have := Nat.div_add_mod (vS q S j) (q ^ ((kS S j).1 - (kS S i).1)); have h3 := Nat.mod_lt (vS q S j) hpm; rw [Nat.mul_comm] at this; omega
  have hp2 : 0 < q ^ (32 - (kS S j).1) := Nat.pow_pos (by omega); have e : q ^ ((kS S j).1 - (kS S i).1) * q ^ (32 - (kS S j).1) = q ^ (32 - (kS S i).1) := by rw [← Nat.pow_add]; congr 1; omega
  have hlo2 : tS q S i ≤ tS q S j := by
    rw [← hi1, ← hj1, ← e, ← Nat.mul_assoc]; exact Nat.mul_le_mul_right _ hlo
  have hhi2 : tS q S j < tS q S i + q ^ (32 - (kS S i).1) := by
    have := Nat.mul_lt_mul_of_pos_right hhi hp2; rw [Nat.mul_assoc, e, Nat.add_mul, Nat.one_mul, hi1, hj1] at this; exact this
  rcases Nat.lt_trichotomy i j with h4 | h4 | h4
  · have := Zbs (q := q) (S := S) h4 (by omega); omega
  · exact h4
  · have := Zbs (q := q) (S := S) h4 (by omega)
    have hp3 : 0 < q ^ (32 - (kS S j).1) := hp2; omega
theorem Zbl (h0 : 0 < S.length) (h64 : S.length ≤ 64) : Z6 (q : Int) (Z0a q S S.length) = 0 := by
  refine Zdv (by omega) (by omega) (fun e => ?_) (by unfold Z0a; simp; omega) (fun x hx => ?_) ?_
  · have : (Z0a q S S.length).length = 0 := by rw [e]; rfl
    unfold Z0a at this; rw [List.length_map, List.length_range] at this; omega
  · unfold Z0a at hx
    obtain ⟨i, hi, rfl⟩ := List.mem_map.1 hx; have hi := List.mem_range.1 hi; have hl := Zb0 hq hS h32 hi; have hw : (wS q S i).length = (kS S i).1 := Z00 _ _ _; refine ⟨fun e => ?_, by omega, Zf5 (by omega) hq16 (by omega) (Zbn (by omega) _ _)⟩; rw [e] at hw; simp at hw; omega
  · refine List.pairwise_iff_getElem.2 fun i j hi hj hij => ?_
    unfold Z0a at hi hj ⊢; simp at hi hj; simp only [List.getElem_map, List.getElem_range]; exact wS_lt hq hq16 hS h32 hk hij (by omega)
theorem Ze8 : Zju (Z0a q S S.length) = true := by
  refine Znl ?_ fun x hx y hy h => ?_
  · refine List.pairwise_iff_getElem.2 fun i j hi hj hij e => ?_
    unfold Z0a at hi hj e; simp at hi hj; simp only [List.getElem_map, List.getElem_range] at e; have := Zf9 hq hq16 hS h32 hk (i := i) (j := j) (by omega) (by omega) (by rw [e]; exact List.prefix_refl _); omega
  · unfold Z0a at hx hy
    obtain ⟨i, hi, rfl⟩ := List.mem_map.1 hx; obtain ⟨j, hj, rfl⟩ := List.mem_map.1 hy; rw [Zf9 hq hq16 hS h32 hk (List.mem_range.1 hj) (List.mem_range.1 hi) (List.isPrefixOf_iff_prefix.1 h)]
end

end Go.Proofs.YtpljmccnfmkmfaaGreat
end

section
namespace Go.Proofs.YtpljmccnfmkmfaaGreat
open Go Go.AM

theorem h78 (n : Nat) (hn : n ≤ 100000) : PFn Tryz.prog 78 [.int .i64 n] [.str (List.replicate n (Kn.ltr 0))] := by
  have hs1 : Zc [PV.int .u8 48] 1 := by simp [Zc, PV.cells]
  have ho1 : Z0y [PV.int .u8 48] := by simp [Z0y, PV.cells, PV.isAgg]
  refine PFn.of_body hΓ Tryz.func78 (by kernel_rfl) rfl (AWp.seq (Wd [] ?_)); simp -implicitDefEqProofs only [Tryz.ntmps78, Tryz.results78, Nat.reduceAdd, Nat.reduceSub, go_sem]; refine AWp.seq (Wd [] ?_); simp -implicitDefEqProofs only [go_sem]; refine ⟨⟨fun x h => (by cases h), by omega⟩, ?_⟩; refine AWp.adopt (l := []) 3 5 1 (by rfl) (by simp) ?_; simp -implicitDefEqProofs only [go_sem]; refine AWp.seq (AWp.seq (Wd [] ?_)); simp -implicitDefEqProofs only [go_sem]; refine AWp.block ?_
  refine AWp.loopI (fun i : Nat => ⟨mkF 16 [(0, .p (.int .i64 n)), (3, .own 0 i), (4, .p (.int .i64 i))], [.row 5 1 ((List.replicate i (Kn.ltr 0)).map byV) .lax]⟩)
    (fun i => i ≤ n) (fun i => n - i) 0 (by simp [go_sem]) (by simp) ?_
  intro i hi; refine Wd [] ?_; by_cases hlt : i < n
  · have hlt' : (i : Int) < (n : Int) := by omega
    simp -implicitDefEqProofs only [hlt', go_sem]; refine ⟨⟨hs1, by omega⟩, ⟨hs1, ho1⟩, ⟨by omega, by omega⟩, by simp only [InR]; omega, i + 1, ⟨⟨rfl, by simp⟩, .inr (.inl ?_)⟩, by omega, by omega⟩; rw [List.replicate_succ', List.map_append]
    rfl
  · have hlt' : ¬ (i : Int) < (n : Int) := by omega
    have : i = n := by omega
    subst this; simp -implicitDefEqProofs only [hlt', Int.lt_irrefl, go_sem]; refine Wd [] ?_; simp -implicitDefEqProofs only [go_sem]; exact ⟨⟨5, rfl, rfl⟩, List.replicate i (Kn.ltr 0), rfl, rfl⟩
theorem wd_at {q n v m : Nat} (hm : m < n) : (wd q n v).getD m 0 = Kn.ltr (v / q ^ (n - (m + 1)) % q) := by
  have h1 := Z93 (q := q) (n := n) (m := m + 1) (v := v) (by omega); have h2 : (wd q n v).getD m 0 = ((wd q n v).take (m + 1)).getD m 0 := by
    rw [List.getD_eq_getElem?_getD, List.getD_eq_getElem?_getD, List.getElem?_take_of_lt (by omega)]
  rw [h2, h1, List.getD_eq_getElem?_getD]; unfold wd; rw [List.getElem?_append_right (by rw [Z00]; exact Nat.le_refl _), Z00]; simp
theorem h79 (q n v : Nat) (hq : 2 ≤ q) (hq16 : q ≤ 16) (hn : 0 < n) (hn2 : n ≤ 32) (hv : v + 1 < q ^ n) :
    PFn Tryz.prog 79 [.int .i64 q, .str (wd q n v)] [.str (wd q n (v + 1)), .int .i64 0] := by
  have hwl := Z00 q n v; have e41 := t78 q (wd q n v); rw [Zf5 (by omega) hq16 (by omega) (Zbn (by omega) n v)] at e41; refine PFn.of_body hΓ Tryz.func79 (by kernel_rfl) rfl (AWp.seq (Wd [] ?_)); simp -implicitDefEqProofs only [Tryz.ntmps79, Tryz.results79, Nat.reduceAdd, Nat.reduceSub, go_sem]; refine AWp.seq (Wd [] ?_); simp -implicitDefEqProofs only [go_sem]; refine Z0 e41 (.pures rfl) ?_; simp -implicitDefEqProofs only [go_sem]; refine AWp.seq (AWp.seq (Wd [] ?_)); simp -implicitDefEqProofs only [hwl, go_sem]; refine ⟨by simp only [InR]; omega, ?_⟩; refine AWp.block ?_
  refine AWp.loopI (fun m : Nat => ⟨mkF 53 [(0, .p (.int .i64 q)), (1, .p (.str (wd q n v))), (7, .p (.int .i64 ((m : Int) - 1)))], []⟩)
    (fun m => m ≤ n ∧ v % q ^ (n - m) = q ^ (n - m) - 1) (fun m => m) n (by simp [go_sem]) ⟨Nat.le_refl _, by simp [Nat.mod_one]⟩ ?_
  rintro m ⟨hm, hcar⟩; by_cases hm0 : m = 0
  · exfalso
    subst hm0; rw [Nat.sub_zero, Nat.mod_eq_of_lt (by omega)] at hcar; omega
  obtain ⟨m, rfl⟩ : ∃ k, m = k + 1 := ⟨m - 1, by omega⟩; refine Wd [(9, 18)] ?_; have hi : (((m + 1 : Nat) : Int) - 1) = (m : Int) := by omega
  have hge : (0 : Int) ≤ (m : Int) := by omega
  have gm := wd_at (q := q) (v := v) (n := n) (m := m) (by omega); have htk := Z93 (q := q) (n := n) (m := m) (v := v) (by omega); have hdq : v / q ^ (n - (m + 1)) % q < q := Nat.mod_lt _ (by omega); have hdone := Zde hq hm hcar; have hmore := fun h => Z8w (k := n - (m + 1)) hq hcar h
  have hset : ∀ c, (nxR q n v (m + 1)).set m c = wd q m (v / q ^ (n - m)) ++ [c] ++ List.replicate (n - (m + 1)) (Kn.ltr 0) := fun c => by
    unfold nxR; rw [show wd q (m + 1) (v / q ^ (n - (m + 1))) = wd q m (v / q ^ (n - (m + 1)) / q) ++ [Kn.ltr (v / q ^ (n - (m + 1)) % q)] from rfl]; rw [List.append_assoc, List.set_append_right _ _ (by rw [Z00]; exact Nat.le_refl _), Z00, Nat.sub_self, Nat.div_div_eq_div_mul, ← Nat.pow_succ, Nat.succ_eq_add_one, show n - (m + 1) + 1 = n - m by omega]; simp
  rw [hset, ← htk] at hdone; clear hset; generalize v / q ^ (n - (m + 1)) % q = d at *; have e94 := t99 (Kn.ltr d); rw [Zc6 (by omega)] at e94; have e78 := h78 (n - (m + 1)) (by omega); simp -implicitDefEqProofs only [hi, hge, gm, Int.toNat_natCast, hwl, go_sem]; refine ⟨by omega, Z0 e94 (.pures rfl) ?_⟩; by_cases hdl : d + 1 < q
  · have hdl' : (d : Int) + 1 < (q : Int) := by omega
    have hT : List.take (((d : Int) + 2).toNat - ((d : Int) + 1).toNat) (List.drop ((d : Int) + 1).toNat ([48, 49, 50, 51, 52, 53, 54, 55, 56, 57, 97, 98, 99, 100, 101, 102] : List UInt8)) = [Kn.ltr (d + 1)] := by
      rw [show ((d : Int) + 1).toNat = d + 1 by omega, show ((d : Int) + 2).toNat - (d + 1) = 1 by omega]; exact (by decide : ∀ a : Fin 16, List.take 1 (List.drop a.val ([48, 49, 50, 51, 52, 53, 54, 55, 56, 57, 97, 98, 99, 100, 101, 102] : List UInt8)) = [Kn.ltr a.val]) ⟨d + 1, by omega⟩
    have hzc : (n : Int) - 1 - (m : Int) = ((n - (m + 1) : Nat) : Int) := by omega
    rw [← hdone hdl]; simp -implicitDefEqProofs only [hdl', hT, hzc, Int.toNat_natCast, hwl, List.drop_zero, Nat.sub_zero, go_sem]; have htl : (List.take m (wd q n v)).length ≤ 32 := by rw [List.length_take, hwl]; omega
    refine ⟨by simp only [InR]; omega, by omega, by simp only [InR]; omega, by simp only [InR]; omega, ⟨by omega, by omega, by omega⟩, by omega, by simp only [InR]; omega, by simp only [InR]; omega, Z1 e78 (.pures rfl) ?_⟩; simp -implicitDefEqProofs only [go_sem]; rw [List.length_append, List.length_replicate, List.length_singleton]; omega
  · have hdl' : ¬ (d : Int) + 1 < (q : Int) := by omega
    simp -implicitDefEqProofs only [hdl', go_sem]; refine ⟨by simp only [InR]; omega, by simp only [InR]; omega, m, rfl, ⟨by omega, ?_⟩, by omega⟩; have := hmore (by omega); rw [show n - (m + 1) + 1 = n - m by omega] at this; exact this

def rwP (ns : List Nat) (n i : Nat) : List (Nat × Nat) := ((List.range i).filter fun j => decide (ns.getD j 0 = n)).map fun j => (n, j)
def PLp (ns : List Nat) (n i : Nat) : List (Nat × Nat) := ((List.range n).flatMap fun m => rwP ns m ns.length) ++ rwP ns n i
theorem Zbu {ns : List Nat} {n i : Nat} (h : ns.getD i 0 = n) : rwP ns n (i + 1) = rwP ns n i ++ [(n, i)] := by
  unfold rwP; rw [List.range_succ, List.filter_append, List.map_append]
  congr 1
  rw [List.filter_cons, if_pos (decide_eq_true h)]
  rfl
theorem Z9b {ns : List Nat} {n i : Nat} (h : ns.getD i 0 ≠ n) : rwP ns n (i + 1) = rwP ns n i := by
  unfold rwP; rw [List.range_succ, List.filter_append, List.map_append, List.filter_cons, if_neg (by simpa using h)]; simp
theorem Ziw {ns : List Nat} {n i : Nat} (h : ns.getD i 0 = n) : PLp ns n (i + 1) = PLp ns n i ++ [(n, i)] := by unfold PLp; rw [Zbu h, List.append_assoc]
theorem Zle {ns : List Nat} {n i : Nat} (h : ns.getD i 0 ≠ n) : PLp ns n (i + 1) = PLp ns n i := by unfold PLp; rw [Z9b h]
theorem Za3 (ns : List Nat) (n : Nat) : PLp ns (n + 1) 0 = PLp ns n ns.length := by
  unfold PLp; rw [List.range_succ, List.flatMap_append]; simp [rwP]
theorem Z7c {ns : List Nat} {n i : Nat} {p : Nat × Nat} : p ∈ rwP ns n i ↔ p.1 = n ∧ p.2 < i ∧ ns.getD p.2 0 = n := by
  unfold rwP; rw [List.mem_map]
  constructor
  · rintro ⟨j, hj, rfl⟩
    rw [List.mem_filter, List.mem_range, decide_eq_true_iff] at hj; exact ⟨rfl, hj⟩
  · rintro ⟨h1, h2, h3⟩
    exact ⟨p.2, by rw [List.mem_filter, List.mem_range, decide_eq_true_iff]; exact ⟨h2, h3⟩, by rw [← h1]⟩
theorem Zc3 {ns : List Nat} {n : Nat} {p : Nat × Nat} : p ∈ PLp ns n 0 ↔ p.1 < n ∧ p.2 < ns.length ∧ ns.getD p.2 0 = p.1 := by
  unfold PLp; rw [List.mem_append, List.mem_flatMap]
  constructor
  · rintro (⟨m, hm, h⟩ | h)
    · obtain ⟨h1, h2, h3⟩ := Z7c.1 h
      rw [List.mem_range] at hm; exact ⟨by omega, h2, by rw [h3, h1]⟩
    · have := (Z7c.1 h).2.1
      omega
  · rintro ⟨h1, h2, h3⟩
    exact .inl ⟨p.1, List.mem_range.2 h1, Z7c.2 ⟨rfl, h2, h3⟩⟩
theorem Z5b (ns : List Nat) (n : Nat) : ∀ i, (rwP ns n i).Pairwise keyL
  | 0 => by simp [rwP]
  | i + 1 => by
    by_cases h : ns.getD i 0 = n
    · rw [Zbu h]
      refine List.pairwise_append.2 ⟨Z5b ns n i, by simp, fun a ha b hb => ?_⟩; obtain ⟨h1, h2, _⟩ := Z7c.1 ha; rw [List.mem_singleton.1 hb]; exact .inr ⟨h1, h2⟩
    · rw [Z9b h]
      exact Z5b ns n i
theorem Z91 (ns : List Nat) : ∀ n, (PLp ns n 0).Pairwise keyL
  | 0 => by simp [PLp, rwP]
  | n + 1 => by
    rw [Za3]; have ih := Z91 ns n; have e0 : PLp ns n 0 = (List.range n).flatMap fun m => rwP ns m ns.length := by unfold PLp; simp [rwP]
    unfold PLp; rw [← e0]; refine List.pairwise_append.2 ⟨ih, Z5b ns n _, fun a ha b hb => ?_⟩; have h1 := (Zc3.1 ha).1; have h2 := (Z7c.1 hb).1; exact .inl (by omega)
theorem Zc5 (a : Nat × Nat) : ¬ keyL a a := by unfold keyL; omega
theorem Ztc {a b c : Nat × Nat} (h1 : keyL a b) (h2 : keyL b c) : keyL a c := by unfold keyL at *; omega
theorem Z8l : ∀ {l m : List (Nat × Nat)}, l.Pairwise keyL → m.Pairwise keyL → (∀ x, x ∈ l ↔ x ∈ m) → l = m
  | [], [], _, _, _ => rfl
  | [], b :: m, _, _, h => absurd ((h b).2 (by simp)) (by simp)
  | a :: l, [], _, _, h => absurd ((h a).1 (by simp)) (by simp)
  | a :: l, b :: m, hl, hm, h => by
    obtain ⟨ha, hl2⟩ := List.pairwise_cons.1 hl; obtain ⟨hb, hm2⟩ := List.pairwise_cons.1 hm; have e : a = b := by
      rcases List.mem_cons.1 ((h a).1 (by simp)) with e | e
      · exact e
      · rcases List.mem_cons.1 ((h b).2 (by simp)) with e2 | e2
        · exact e2.symm
        · exact absurd (Ztc (ha b e2) (hb a e)) (Zc5 a)
    subst e; refine congrArg (List.cons a) (Z8l hl2 hm2 (fun x => ⟨fun hx => ?_, fun hx => ?_⟩))
    · rcases List.mem_cons.1 ((h x).1 (by simp [hx])) with e | e
      · subst e; exact absurd (ha x hx) (Zc5 x)
      · exact e
    · rcases List.mem_cons.1 ((h x).2 (by simp [hx])) with e | e
      · subst e; exact absurd (hb x hx) (Zc5 x)
      · exact e
theorem Zix {ns : List Nat} (h : ∀ n ∈ ns, n ≤ 32) : PLp ns 33 0 = srtP ns ns.length :=
  Z8l (Z91 ns 33) (Z0x ns ns.length) fun x => by
    rw [Zc3, Z3p]
    constructor
    · rintro ⟨_, h2, h3⟩; exact ⟨h2, h3.symm⟩
    · rintro ⟨h2, h3⟩
      have := h _ (List.getElem_mem h2); rw [List.getD_eq_getElem?_getD, List.getElem?_eq_getElem h2, Option.getD_some] at h3; exact ⟨by omega, h2, by rw [List.getD_eq_getElem?_getD, List.getElem?_eq_getElem h2, Option.getD_some, h3]⟩
theorem Zfq (ns : List Nat) (n : Nat) {i : Nat} : ∀ k, rwP ns n i <+: rwP ns n (i + k)
  | 0 => List.prefix_refl _
  | k + 1 => by
    refine (Zfq ns n k).trans ?_; rw [← Nat.add_assoc]; by_cases h : ns.getD (i + k) 0 = n
    · rw [Zbu h]; exact List.prefix_append _ _
    · rw [Z9b h]; exact List.prefix_refl _
theorem Ze7 (ns : List Nat) {n : Nat} : ∀ k, PLp ns n 0 <+: PLp ns (n + k) 0
  | 0 => List.prefix_refl _
  | k + 1 => by
    refine (Ze7 ns k).trans ?_; rw [← Nat.add_assoc, Za3]; unfold PLp; simp [rwP]
theorem Ziv {ns : List Nat} (h : ∀ n ∈ ns, n ≤ 32) {n i : Nat} (hn : n ≤ 32) (hi : i ≤ ns.length) : PLp ns n i <+: srtP ns ns.length := by
  rw [← Zix h]; have h1 : PLp ns n i <+: PLp ns n ns.length := by
    have := Zfq ns n (i := i) (ns.length - i); rw [show i + (ns.length - i) = ns.length by omega] at this; unfold PLp; exact List.prefix_append_right_inj _ |>.2 this
  rw [← Za3] at h1; have h2 := Ze7 ns (n := n + 1) (33 - (n + 1)); rw [show n + 1 + (33 - (n + 1)) = 33 by omega] at h2; exact h1.trans h2
theorem Zur {ns : List Nat} (h : ∀ n ∈ ns, n ≤ 32) {n i : Nat} (hn : n ≤ 32) (hi : i < ns.length) (he : ns.getD i 0 = n) :
    (PLp ns n i).length < (srtP ns ns.length).length ∧ kS (srtP ns ns.length) (PLp ns n i).length = (n, i) := by
  have h1 := Ziv h hn (Nat.succ_le_of_lt hi); rw [Nat.succ_eq_add_one, Ziw he] at h1; obtain ⟨t, ht⟩ := h1; have hl : (PLp ns n i).length < (srtP ns ns.length).length := by rw [← ht]; simp
  refine ⟨hl, ?_⟩; rw [Zen hl]; have : (srtP ns ns.length)[(PLp ns n i).length]? = some (n, i) := by
    rw [← ht, List.append_assoc, List.getElem?_append_right (Nat.le_refl _), Nat.sub_self]
    rfl
  rw [List.getElem?_eq_getElem hl] at this; exact Option.some.inj this
end Go.Proofs.YtpljmccnfmkmfaaGreat
end

