/-
  The stable sort of places, for few of them.
  Kraft's sum of a prefix code, plain: at most 1, and 1 exactly if nothing is missing.
  Words over an alphabet, and prefix codes as lists: plain.
  completion.next: the next word of a length.
  completion.FromLengths.
  completion.FromLengths, walked.
  Canonical codes: plain.
  slices.Equal of words.
  A prefix code is decodable: nothing dangles.
  The law TopLengths (f5).
-/
import Derived.Test.YtaphjgjhpmmkmaaGreatJf9cefc6e5b20
import Derived.Test.YtaphjgjhpmmkmaaGreatJ70026ac7efa8
import Derived.Test.YtaphjgjhpmmkmaaGreatJ01eba62d5e03
import Derived.Test.YtaphjgjhpmmkmaaGreatJb52afdf6410d

section
namespace Go.Proofs.YtaphjgjhpmmkmaaGreat
open Go Go.AM
set_option maxRecDepth 100000
set_option maxHeartbeats 4000000
set_option linter.unusedSimpArgs false

def plV (p : Nat × Nat) : PV := .agg [.int .i64 p.1, .int .i64 p.2]
def cmp3 (a b : Nat) : Int := if a < b then -1 else if b < a then 1 else 0

theorem c55 (a b : Nat × Nat) : PFn Tryz.prog 57 [plV a, plV b] [.int .i64 (cmp3 a.1 b.1)] := by
  have e := t103 (a.1 : Int) (b.1 : Int)
  refine PFn.of_body hΓ Tryz.func57 (by kernel_rfl) rfl (AWp.of_awpD [] hΓ hmix (by kernel_rfl) ?_)
  have ec : cmpI (a.1 : Int) (b.1 : Int) = cmp3 a.1 b.1 := by
    unfold cmpI cmp3
    by_cases h1 : a.1 < b.1
    · rw [if_pos (by omega : (a.1 : Int) < b.1), if_pos h1]
    · rw [if_neg (by omega : ¬ (a.1 : Int) < b.1), if_neg h1]
      by_cases h2 : b.1 < a.1
      · rw [if_pos (by omega : (b.1 : Int) < a.1), if_pos h2]
      · rw [if_neg (by omega : ¬ (b.1 : Int) < a.1), if_neg h2]
  rw [ec] at e
  unfold plV
  simp -implicitDefEqProofs only [Tryz.ntmps57, Tryz.results57, Nat.reduceAdd, Nat.reduceSub, go_sem]
  refine callK_fn e (.pures rfl) ?_
  simp -implicitDefEqProofs only [go_sem]

/-- Put in behind all that are not longer. -/
def insP (x : Nat × Nat) : List (Nat × Nat) → List (Nat × Nat)
  | [] => [x]
  | y :: t => if x.1 < y.1 then x :: y :: t else y :: insP x t
theorem insP_len (x : Nat × Nat) : ∀ S, (insP x S).length = S.length + 1
  | [] => rfl
  | y :: t => by unfold insP; split <;> simp [insP_len x t]
theorem insP_at {x : Nat × Nat} : ∀ {S : List (Nat × Nat)} {j : Nat}, j ≤ S.length → (∀ k (hk : k < S.length), k < j → S[k].1 ≤ x.1) → (∀ k (hk : k < S.length), j ≤ k → x.1 < S[k].1) → insP x S = S.take j ++ x :: S.drop j
  | [], j, hj, _, _ => by simp [insP]
  | y :: t, 0, _, _, h2 => by
    have := h2 0 (by simp) (Nat.le_refl _)
    unfold insP
    rw [if_pos (by simpa using this)]; simp
  | y :: t, j + 1, hj, h1, h2 => by
    have h3 := h1 0 (by simp) (by omega)
    have ih := insP_at (x := x) (S := t) (j := j) (by simpa using hj) (fun k hk hkj => h1 (k + 1) (by simp; omega) (by omega)) (fun k hk hkj => h2 (k + 1) (by simp; omega) (by omega))
    unfold insP
    rw [if_neg (by simp at h3; omega), ih]; simp
theorem mem_insP {x y : Nat × Nat} : ∀ {S : List (Nat × Nat)}, y ∈ insP x S ↔ y = x ∨ y ∈ S
  | [] => by simp [insP]
  | z :: t => by
    unfold insP
    split
    · simp
    · simp only [List.mem_cons, mem_insP (S := t)]
      constructor
      · rintro (h | h | h)
        · exact .inr (.inl h)
        · exact .inl h
        · exact .inr (.inr h)
      · rintro (h | h | h)
        · exact .inr (.inl h)
        · exact .inl h
        · exact .inr (.inr h)
/-- Shorter, or of the same length and ahead. -/
def keyL (a b : Nat × Nat) : Prop := a.1 < b.1 ∨ (a.1 = b.1 ∧ a.2 < b.2)
theorem insP_sorted {x : Nat × Nat} : ∀ {S : List (Nat × Nat)}, S.Pairwise keyL → (∀ y ∈ S, y.2 < x.2) → (insP x S).Pairwise keyL
  | [], _, _ => by simp [insP]
  | y :: t, h, hx => by
    have h' := List.pairwise_cons.1 h
    unfold insP
    split
    · rename_i hlt
      refine List.pairwise_cons.2 ⟨fun z hz => ?_, h⟩
      rcases List.mem_cons.1 hz with rfl | hz
      · exact .inl hlt
      · rcases h'.1 z hz with h1 | h1
        · exact .inl (by omega)
        · exact .inl (by omega)
    · rename_i hlt
      refine List.pairwise_cons.2 ⟨fun z hz => ?_, insP_sorted h'.2 (fun y hy => hx y (by simp [hy]))⟩
      rcases mem_insP.1 hz with rfl | hz
      · have := hx y (by simp)
        by_cases he : y.1 = z.1
        · exact .inr ⟨he, this⟩
        · exact .inl (by omega)
      · exact h'.1 z hz

/-- The places of the first n lengths, sorted. -/
def srtP (ns : List Nat) : Nat → List (Nat × Nat)
  | 0 => []
  | n + 1 => insP (ns.getD n 0, n) (srtP ns n)
def placesL (ns : List Nat) (n : Nat) : List (Nat × Nat) := (List.range n).map fun i => (ns.getD i 0, i)
theorem srtP_len (ns : List Nat) : ∀ n, (srtP ns n).length = n
  | 0 => rfl
  | n + 1 => by unfold srtP; rw [insP_len, srtP_len ns n]
theorem mem_srtP {ns : List Nat} {p : Nat × Nat} : ∀ {n}, p ∈ srtP ns n ↔ p.2 < n ∧ p.1 = ns.getD p.2 0
  | 0 => by simp [srtP]
  | n + 1 => by
    unfold srtP
    rw [mem_insP, mem_srtP (n := n)]
    constructor
    · rintro (h | ⟨h1, h2⟩)
      · subst h; exact ⟨Nat.lt_succ_self n, rfl⟩
      · exact ⟨by omega, h2⟩
    · rintro ⟨h1, h2⟩
      by_cases he : p.2 = n
      · left; obtain ⟨a, b⟩ := p; simp only at he h2; subst he; rw [h2]
      · exact .inr ⟨by omega, h2⟩
theorem srtP_sorted (ns : List Nat) : ∀ n, (srtP ns n).Pairwise keyL
  | 0 => by simp [srtP]
  | n + 1 => by
    unfold srtP
    exact insP_sorted (srtP_sorted ns n) (fun y hy => (mem_srtP.1 hy).1)

/-- The row while one place is put in. -/
def rowP (S rest : List (Nat × Nat)) (x : Nat × Nat) (j : Nat) : List (Nat × Nat) := S.take j ++ x :: (S.drop j ++ rest)
theorem rowP_len {S rest : List (Nat × Nat)} {x : Nat × Nat} {j : Nat} (hj : j ≤ S.length) : (rowP S rest x j).length = S.length + 1 + rest.length := by
  unfold rowP; simp; omega
theorem rowP_at {S rest : List (Nat × Nat)} {x : Nat × Nat} {j : Nat} (hj : j ≤ S.length) : (rowP S rest x j)[j]? = some x := by
  unfold rowP
  rw [List.getElem?_append_right (by simp; omega)]
  simp [Nat.min_eq_left hj]
theorem rowP_prev {S rest : List (Nat × Nat)} {x : Nat × Nat} {j : Nat} (hj : j < S.length) : (rowP S rest x (j + 1))[j]? = some S[j] := by
  unfold rowP
  rw [List.getElem?_append_left (by simp; omega), List.getElem?_take_of_lt (by omega), List.getElem?_eq_getElem hj]
theorem rowP_swap {S rest : List (Nat × Nat)} {x : Nat × Nat} {j : Nat} (hj : j < S.length) : ((rowP S rest x (j + 1)).set (j + 1) S[j]).set j x = rowP S rest x j := by
  unfold rowP
  have e1 : S.take (j + 1) = S.take j ++ [S[j]] := List.take_succ_eq_append_getElem hj
  have e2 : S.drop j = S[j] :: S.drop (j + 1) := List.drop_eq_getElem_cons hj
  have hl : (S.take j).length = j := by rw [List.length_take]; omega
  rw [e1, List.append_assoc]
  have h1 : (S.take j ++ ([S[j]] ++ x :: (S.drop (j + 1) ++ rest))).set (j + 1) S[j] = S.take j ++ ([S[j]] ++ S[j] :: (S.drop (j + 1) ++ rest)) := by
    rw [List.set_append_right _ _ (by omega), hl]
    congr 1
    simp [show j + 1 - j = 1 by omega]
  rw [h1, List.set_append_right _ _ (by omega), hl]
  simp
  rw [e2]
  rfl
theorem rowP_app {S rest : List (Nat × Nat)} {x : Nat × Nat} {j : Nat} : rowP S [] x j ++ rest = rowP S rest x j := by unfold rowP; simp
theorem rowP_end {i : Nat} (S rest : List (Nat × Nat)) {x : Nat × Nat} (hS : S.length = i) : rowP S rest x i = S ++ x :: rest := by
  unfold rowP; rw [List.take_of_length_le (by omega), List.drop_eq_nil_of_le (by omega), List.nil_append]

theorem set_same {α : Type} {l : List α} {b : Nat} {o : α} (h : l[b]? = some o) : l.set b o = l := by
  obtain ⟨hl, he⟩ := List.getElem?_eq_some_iff.1 h
  rw [← he]; exact List.set_getElem_self hl
theorem c143 {h : List AObj} {b : Nat} (ns : List Nat) (hn : ns.length ≤ 1000) (hn0 : 0 < ns.length) (hb : h[b]? = some (.row 98 2 ((placesL ns ns.length).map plV) .own)) :
    AC Tryz.prog 119 [.own b ns.length, .p (.int .i64 0), .p (.int .i64 ns.length), .fn 57 []] h [] (fun v h' => v = .tup [] ∧ h' = h.set b (.row 98 2 ((srtP ns ns.length).map plV) .own)) := by
  have hbl : b < h.length := (List.getElem?_eq_some_iff.1 hb).1
  have gL : ∀ o : AObj, (h.set b o)[b]? = some o := fun o => by simp [hbl]
  have sL : ∀ o o' : AObj, (h.set b o).set b o' = h.set b o' := fun o o' => by simp
  refine AC.of_bodyE hΓ Tryz.func119 (by kernel_rfl) rfl (AWp.mono (Q := fun e st => AM.Ends e ∧ st.h = h.set b (.row 98 2 ((srtP ns ns.length).map plV) .own)) ?_ ?_)
  rotate_left
  · rintro e ⟨tm, h'⟩ ⟨he, h2⟩
    simp only at h2
    subst h2
    refine ⟨he, _, Less.refl _, ?_⟩
    unfold DoneE
    simp +contextual -implicitDefEqProofs only [Tryz.results119, go_sem]
    exact ⟨_, by simp, .inl rfl, List.take_length⟩
  refine AWp.seq (AWp.of_awpD [] hΓ hmix (by kernel_rfl) ?_)
  simp -implicitDefEqProofs only [Tryz.ntmps119, Nat.reduceAdd, Nat.reduceSub, go_sem]
  refine ⟨by simp only [InR]; omega, ?_⟩
  have h0 : h = h.set b (.row 98 2 ((srtP ns 1 ++ (placesL ns ns.length).drop 1).map plV) .own) := by
    have e : srtP ns 1 ++ (placesL ns ns.length).drop 1 = placesL ns ns.length := by
      obtain ⟨m, hm⟩ : ∃ m, ns.length = m + 1 := ⟨ns.length - 1, by omega⟩
      unfold placesL srtP srtP insP
      rw [hm, List.range_succ_eq_map]
      simp
    rw [e]
    exact (set_same hb).symm
  refine AWp.of_awpD [(4, 17), (6, 1000)] hΓ hmix (by kernel_rfl) ?_
  simp -implicitDefEqProofs only [go_sem]
  refine AWp.loopI (fun i : Nat => ⟨mkF 53 [(0, .own b ns.length), (1, .p (.int .i64 0)), (2, .p (.int .i64 ns.length)), (3, .fn 57 []), (8, .p (.int .i64 i))], h.set b (.row 98 2 ((srtP ns i ++ (placesL ns ns.length).drop i).map plV) .own)⟩)
    (fun i => 1 ≤ i ∧ i ≤ ns.length) (fun i => ns.length - i) 1 ?_ ⟨Nat.le_refl _, hn0⟩ ?_
  · rw [← h0]
    simp [go_sem, weakH_refl]
  rintro i ⟨hi1, hi⟩
  refine AWp.of_awpD [(4, 17), (6, 1000)] hΓ hmix (by kernel_rfl) ?_
  by_cases hlt : i < ns.length
  · simp -implicitDefEqProofs only [hlt, go_sem]
    have hdrop : (placesL ns ns.length).drop i = (ns.getD i 0, i) :: (placesL ns ns.length).drop (i + 1) := by
      rw [List.drop_eq_getElem_cons (by simp [placesL]; exact hlt)]
      simp [placesL]
    have hSl := srtP_len ns i
    have hSs := srtP_sorted ns i
    have hsu : srtP ns (i + 1) = insP (ns.getD i 0, i) (srtP ns i) := rfl
    have hrl : ((placesL ns ns.length).drop (i + 1)).length = ns.length - (i + 1) := by simp [placesL]
    rw [hdrop]
    rw [← rowP_end (srtP ns i) ((placesL ns ns.length).drop (i + 1)) (x := (ns.getD i 0, i)) hSl]
    generalize (ns.getD i 0, i) = x at *
    generalize hre : (placesL ns ns.length).drop (i + 1) = rest at *
    generalize srtP ns i = S at *
    refine AWp.loopI (fun j : Nat => ⟨mkF 53 [(0, .own b ns.length), (1, .p (.int .i64 0)), (2, .p (.int .i64 ns.length)), (3, .fn 57 []), (8, .p (.int .i64 i)), (9, .p (.int .i64 j))], h.set b (.row 98 2 ((rowP S rest x j).map plV) .own)⟩)
      (fun j => j ≤ i ∧ ∀ k (hk : k < S.length), j ≤ k → x.1 < S[k].1) (fun j => j) i (by simp [go_sem, weakH_self]) ⟨Nat.le_refl _, fun k hk hik => by omega⟩ ?_
    rintro j ⟨hj, hgt⟩
    have hRl := rowP_len (rest := rest) (x := x) (show j ≤ S.length by omega)
    have hRj := rowP_at (rest := rest) (x := x) (show j ≤ S.length by omega)
    refine AWp.of_awpD [(4, 17), (6, 1000)] hΓ hmix (by kernel_rfl) ?_
    by_cases hj0 : 0 < j
    · obtain ⟨m, rfl⟩ : ∃ m, j = m + 1 := ⟨j - 1, by omega⟩
      have hm : m < S.length := by omega
      have hRm := rowP_prev (rest := rest) (x := x) hm
      have hsw := rowP_swap (rest := rest) (x := x) hm
      have hjm : (((m + 1 : Nat) : Int) - 1) = (m : Int) := by omega
      have hjc : (0 : Int) < ((m + 1 : Nat) : Int) := by omega
      have gj : ((rowP S rest x (m + 1)).map plV).getD (m + 1) default = plV x := by rw [List.getD_eq_getElem?_getD, List.getElem?_map, hRj]; rfl
      have gm : ((rowP S rest x (m + 1)).map plV).getD m default = plV S[m] := by rw [List.getD_eq_getElem?_getD, List.getElem?_map, hRm]; rfl
      have e55 := c55 x S[m]
      have hcx : List.take 2 (plV x).cells = [.int .i64 x.1, .int .i64 x.2] := rfl
      have hcm : List.take 2 (plV S[m]).cells = [.int .i64 S[m].1, .int .i64 S[m].2] := rfl
      have hc2 : ∀ p : Nat × Nat, (plV p).cells.length = 2 := fun p => rfl
      unfold plV at e55
      simp -implicitDefEqProofs only [hjc, gL, gj, gm, hjm, Int.toNat_natCast, List.length_map, hcx, hcm, hc2, go_sem]
      refine ⟨by omega, by omega, by simp only [InR]; omega, by omega, by omega, callVPK_fn e55 (.pures rfl) ?_⟩
      by_cases hcl : x.1 < S[m].1
      · have hc3 : cmp3 x.1 S[m].1 = -1 := by unfold cmp3; rw [if_pos hcl]
        rw [hc3]
        have hneg : (-1 : Int) < 0 := by decide
        simp -implicitDefEqProofs only [hneg, go_sem]
        refine AWp.planL (.q 0 (.q 1 (.q 2 (.q 3 (.q 4 (.q 5 (.q 6 (.q 7 (.q 8 (.q 9 (.q 10 (.q 11 (.q 12 (.q 13 (.q 14 (.e 15 (.s 2 (.s 3 (.s 4 (.q 16 (.e 17 .fin .nil))))) .nil)))))))))))))))) hΓ hmix (by kernel_rfl) ?_
        simp -implicitDefEqProofs only [gL, sL, gj, gm, hjm, Int.toNat_natCast, List.length_map, hcx, hcm, hc2, go_sem]
        have hsw' : (((rowP S rest x (m + 1)).map plV).set (m + 1) (.agg [.int .i64 S[m].1, .int .i64 S[m].2])).set m (.agg [.int .i64 x.1, .int .i64 x.2]) = (rowP S rest x m).map plV := by
          rw [← hsw, List.map_set, List.map_set]; rfl
        have hin : InR .i64 (m : Int) := by simp only [InR]; omega
        refine ⟨hin, hin, by omega, by omega, by omega, by omega, by omega, ⟨by omega, rfl⟩, hin, by omega, ⟨by simp; omega, rfl⟩, hin, m, ⟨rfl, ?_⟩, ⟨by omega, fun k hk hkm => ?_⟩, by omega⟩
        · rw [hsw']; exact weakH_refl _
        · by_cases he : k = m
          · subst he; exact hcl
          · exact hgt k hk (by omega)
      · have hc3 : ¬ cmp3 x.1 S[m].1 < 0 := by unfold cmp3; rw [if_neg hcl]; split <;> decide
        simp -implicitDefEqProofs only [hc3, go_sem]
        have hend : insP x S = rowP S [] x (m + 1) := by
          unfold rowP
          rw [insP_at (j := m + 1) (by omega) (fun k hk hkj => ?_) hgt, List.append_nil]
          have h1 : S[m].1 ≤ x.1 := by omega
          by_cases hkm : k = m
          · subst hkm; exact h1
          · have := List.pairwise_iff_getElem.1 hSs k m hk hm (by omega)
            unfold keyL at this
            omega
        refine ⟨by simp only [InR]; omega, i + 1, ⟨by omega, ?_⟩, ⟨by omega, hlt⟩, by omega⟩
        rw [hsu, hre, hend, rowP_app]
        exact weakH_refl _
    · have hjc : ¬ (0 : Int) < (j : Int) := by omega
      have hj1 : j = 0 := by omega
      simp -implicitDefEqProofs only [hjc, go_sem]
      have hend : insP x S = rowP S [] x j := by
        unfold rowP
        rw [insP_at (j := j) (by omega) (fun k hk hkj => by omega) hgt, List.append_nil]
      refine ⟨by simp only [InR]; omega, i + 1, ⟨by omega, ?_⟩, ⟨by omega, hlt⟩, by omega⟩
      rw [hsu, hre, hend, rowP_app]
      exact weakH_refl _
  · have hin : i = ns.length := by omega
    subst hin
    simp -implicitDefEqProofs only [Nat.lt_irrefl, Int.lt_irrefl, go_sem]
    rw [List.drop_eq_nil_of_le (by simp [placesL]), List.append_nil]

theorem c102 {h : List AObj} {b : Nat} (ns : List Nat) (hn : ns.length < 20) (hn0 : 0 < ns.length) (hb : h[b]? = some (.row 98 2 ((placesL ns ns.length).map plV) .own)) :
    AC Tryz.prog 89 [.own b ns.length, .p (.int .i64 ns.length), .fn 57 []] h [] (fun v h' => v = .tup [] ∧ h' = h.set b (.row 98 2 ((srtP ns ns.length).map plV) .own)) := by
  have hc := c143 ns (by omega) hn0 hb
  refine AC.of_bodyE hΓ Tryz.func89 (by kernel_rfl) rfl (AWp.mono (Q := fun e st => AM.Ends e ∧ st.h = h.set b (.row 98 2 ((srtP ns ns.length).map plV) .own)) ?_ ?_)
  rotate_left
  · rintro e ⟨tm, h'⟩ ⟨he, h2⟩
    simp only at h2
    subst h2
    refine ⟨he, _, Less.refl _, ?_⟩
    unfold DoneE
    simp +contextual -implicitDefEqProofs only [Tryz.results89, go_sem]
    exact ⟨_, by simp, .inl rfl, List.take_length⟩
  have h20 : ¬ (20 : Int) ≤ (ns.length : Int) := by omega
  have h20' : ¬ (20 : Int) < (ns.length : Int) := by omega
  refine AWp.of_awpD [] hΓ hmix (by kernel_rfl) ?_
  simp -implicitDefEqProofs only [Tryz.ntmps89, Nat.reduceAdd, Nat.reduceSub, go_sem]
  refine AWp.loopI (fun _ : Unit => ⟨mkF 63 [(0, .own b ns.length), (1, .p (.int .i64 ns.length)), (2, .fn 57 []), (6, .p (.int .i64 20)), (7, .p (.int .i64 0)), (8, .p (.int .i64 20))], h⟩) (fun _ => True) (fun _ => 0) () (by simp [go_sem, weakH_refl]) trivial ?_
  rintro _ -
  refine AWp.of_awpD [] hΓ hmix (by kernel_rfl) ?_
  simp -implicitDefEqProofs only [h20, go_sem]
  refine callK_ac hc (by simp) ?_
  rintro v h' ⟨rfl, rfl⟩
  simp -implicitDefEqProofs only [killAll, List.foldl, go_sem]
  refine AWp.loopI (fun _ : Unit => ⟨mkF 63 [(0, .own b ns.length), (1, .p (.int .i64 ns.length)), (2, .fn 57 []), (6, .p (.int .i64 20))], h.set b (.row 98 2 ((srtP ns ns.length).map plV) .own)⟩) (fun _ => True) (fun _ => 0) () (by simp [go_sem, weakH_refl]) trivial ?_
  rintro _ -
  refine AWp.of_awpD [] hΓ hmix (by kernel_rfl) ?_
  simp -implicitDefEqProofs only [h20', go_sem]
theorem c54 {h : List AObj} {b : Nat} (ns : List Nat) (hn : ns.length < 20) (hn0 : 0 < ns.length) (hb : h[b]? = some (.row 98 2 ((placesL ns ns.length).map plV) .own)) :
    AC Tryz.prog 56 [.own b ns.length, .fn 57 []] h [] (fun v h' => v = .tup [] ∧ h' = h.set b (.row 98 2 ((srtP ns ns.length).map plV) .own)) := by
  have hc := c102 ns hn hn0 hb
  refine AC.of_bodyE hΓ Tryz.func56 (by kernel_rfl) rfl (AWp.mono (Q := fun e st => AM.Ends e ∧ st.h = h.set b (.row 98 2 ((srtP ns ns.length).map plV) .own)) ?_ ?_)
  rotate_left
  · rintro e ⟨tm, h'⟩ ⟨he, h2⟩
    simp only at h2
    subst h2
    refine ⟨he, _, Less.refl _, ?_⟩
    unfold DoneE
    simp +contextual -implicitDefEqProofs only [Tryz.results56, go_sem]
    exact ⟨_, by simp, .inl rfl, List.take_length⟩
  have hbl : b < h.length := (List.getElem?_eq_some_iff.1 hb).1
  refine AWp.of_awpD [] hΓ hmix (by kernel_rfl) ?_
  simp -implicitDefEqProofs only [Tryz.ntmps56, Nat.reduceAdd, Nat.reduceSub, hb, go_sem]
  refine callK_ac hc (by simp) ?_
  rintro v h' ⟨rfl, rfl⟩
  simp -implicitDefEqProofs only [killAll, List.foldl, go_sem]
end Go.Proofs.YtaphjgjhpmmkmaaGreat
end

section
namespace Go.Proofs.YtaphjgjhpmmkmaaGreat.Kn
open Go Go.AM
set_option maxRecDepth 100000
set_option linter.unusedSimpArgs false

/-- A letter. -/
def ltr (a : Nat) : UInt8 := L16.getD a 0
theorem ltr_inj {a b : Nat} (ha : a < 16) (hb : b < 16) (h : ltr a = ltr b) : a = b := by
  have key : ∀ a : Fin 16, ∀ b : Fin 16, L16.getD a.val 0 = L16.getD b.val 0 → a = b := by decide
  have := key ⟨a, ha⟩ ⟨b, hb⟩ h
  exact congrArg Fin.val this
/-- A word over the first q letters. -/
def Alph (q : Nat) (w : List UInt8) : Prop := ∀ b ∈ w, ∃ a, a < q ∧ b = ltr a

/-- How much a word takes. -/
def wtN (q : Nat) (w : List UInt8) : Nat := q ^ (32 - w.length)
/-- What the words that begin with p take. -/
def taken (q : Nat) (p : List UInt8) : List (List UInt8) → Nat
  | [] => 0
  | w :: ws => (if p.isPrefixOf w then wtN q w else 0) + taken q p ws

theorem pre_iff {p w : List UInt8} : p.isPrefixOf w = true ↔ ∃ t, w = p ++ t := by
  rw [List.isPrefixOf_iff_prefix]
  exact ⟨fun ⟨t, h⟩ => ⟨t, h.symm⟩, fun ⟨t, h⟩ => ⟨t, h.symm⟩⟩
theorem pre_snoc {p w : List UInt8} {b : UInt8} (h : (p ++ [b]).isPrefixOf w = true) : p.isPrefixOf w = true := by
  obtain ⟨t, ht⟩ := pre_iff.1 h
  exact pre_iff.2 ⟨[b] ++ t, by rw [ht, List.append_assoc]⟩
theorem pre_uniq {p w : List UInt8} {b c : UInt8} (h1 : (p ++ [b]).isPrefixOf w = true) (h2 : (p ++ [c]).isPrefixOf w = true) : b = c := by
  obtain ⟨t, ht⟩ := pre_iff.1 h1
  obtain ⟨s, hs⟩ := pre_iff.1 h2
  rw [ht, List.append_assoc, List.append_assoc] at hs
  have := List.append_cancel_left hs
  simp at this
  exact this.1
theorem pre_more {p w : List UInt8} (h : p.isPrefixOf w = true) (hne : w ≠ p) : ∃ b, b ∈ w ∧ (p ++ [b]).isPrefixOf w = true := by
  obtain ⟨t, ht⟩ := pre_iff.1 h
  cases t with
  | nil => exact absurd (by simpa using ht) hne
  | cons b t => exact ⟨b, by rw [ht]; simp, pre_iff.2 ⟨t, by rw [ht]; simp⟩⟩

theorem sumN_add (F G : Nat → Nat) : ∀ n, sumN (fun j => F j + G j) n = sumN F n + sumN G n
  | 0 => rfl
  | n + 1 => by
    have ih := sumN_add F G n
    have e1 : sumN (fun j => F j + G j) (n + 1) = sumN (fun j => F j + G j) n + (F n + G n) := rfl
    have e2 : sumN F (n + 1) = sumN F n + F n := rfl
    have e3 : sumN G (n + 1) = sumN G n + G n := rfl
    omega
theorem sumN_one {F : Nat → Nat} {k c : Nat} : ∀ {n : Nat}, k < n → F k = c → (∀ j, j < n → j ≠ k → F j = 0) → sumN F n = c
  | 0, h, _, _ => by omega
  | n + 1, h, hc, h0 => by
    have e : sumN F (n + 1) = sumN F n + F n := rfl
    by_cases hk : k = n
    · subst hk
      rw [e, sumN_zero (fun j hj => h0 j (by omega) (by omega)), hc, Nat.zero_add]
    · rw [e, sumN_one (n := n) (by omega) hc (fun j hj hne => h0 j (by omega) hne), h0 n (by omega) (fun h => hk h.symm), Nat.add_zero]
theorem sumN_le {F : Nat → Nat} {B : Nat} : ∀ {n : Nat}, (∀ j, j < n → F j ≤ B) → sumN F n ≤ n * B
  | 0, _ => Nat.zero_le _
  | n + 1, h => by
    have e : sumN F (n + 1) = sumN F n + F n := rfl
    have := sumN_le (n := n) (fun j hj => h j (by omega))
    have := h n (by omega)
    rw [e, Nat.succ_mul]; omega
theorem sumN_full {F : Nat → Nat} {B : Nat} : ∀ {n : Nat}, (∀ j, j < n → F j ≤ B) → sumN F n = n * B → ∀ j, j < n → F j = B
  | 0, _, _ => fun j hj => by omega
  | n + 1, h, hs => by
    have e : sumN F (n + 1) = sumN F n + F n := rfl
    have h1 := sumN_le (n := n) (fun j hj => h j (by omega))
    have h2 := h n (by omega)
    rw [e, Nat.succ_mul] at hs
    have ih := sumN_full (n := n) (fun j hj => h j (by omega)) (by omega)
    intro j hj
    by_cases hjn : j = n
    · subst hjn; omega
    · exact ih j (by omega)
theorem sumN_const {F : Nat → Nat} {B : Nat} : ∀ {n : Nat}, (∀ j, j < n → F j = B) → sumN F n = n * B
  | 0, _ => by simp [sumN]
  | n + 1, h => by
    have e : sumN F (n + 1) = sumN F n + F n := rfl
    rw [e, sumN_const (n := n) (fun j hj => h j (by omega)), h n (by omega), Nat.succ_mul]

/-- A word that is none of the code: what begins with it goes on with a letter. -/
theorem taken_split {q : Nat} (hq : q ≤ 16) (p : List UInt8) : ∀ {ws : List (List UInt8)}, (∀ w ∈ ws, Alph q w) → (∀ w ∈ ws, w ≠ p) → taken q p ws = sumN (fun a => taken q (p ++ [ltr a]) ws) q
  | [], _, _ => by
    symm
    exact sumN_zero fun _ _ => rfl
  | w :: ws, hA, hne => by
    have ih := taken_split hq p (ws := ws) (fun x hx => hA x (by simp [hx])) (fun x hx => hne x (by simp [hx]))
    show (if p.isPrefixOf w then wtN q w else 0) + taken q p ws = sumN (fun a => (if (p ++ [ltr a]).isPrefixOf w then wtN q w else 0) + taken q (p ++ [ltr a]) ws) q
    rw [sumN_add, ← ih]
    congr 1
    by_cases hp : p.isPrefixOf w = true
    · obtain ⟨b, hb, hbw⟩ := pre_more hp (hne w (by simp))
      obtain ⟨a, ha, rfl⟩ := hA w (by simp) b hb
      rw [if_pos hp]
      symm
      refine sumN_one ha (by simp only [hbw, if_true]) fun j hj hja => ?_
      rw [if_neg]
      intro hjw
      exact hja (ltr_inj (by omega) (by omega) (pre_uniq hjw hbw))
    · rw [if_neg hp]
      symm
      refine sumN_zero fun j hj => ?_
      rw [if_neg]
      exact fun h => hp (pre_snoc h)

/-- A prefix code, as a list. -/
structure PCode (q : Nat) (ws : List (List UInt8)) : Prop where
  q0 : 0 < q
  q16 : q ≤ 16
  nodup : ws.Nodup
  free : ∀ x ∈ ws, ∀ y ∈ ws, y.isPrefixOf x = true → x = y
  alph : ∀ w ∈ ws, Alph q w
  short : ∀ w ∈ ws, w.length ≤ 32

theorem taken_none {q : Nat} {p : List UInt8} : ∀ {ws : List (List UInt8)}, (∀ w ∈ ws, ¬ p.isPrefixOf w = true) → taken q p ws = 0
  | [], _ => rfl
  | w :: ws, h => by
    show (if p.isPrefixOf w then wtN q w else 0) + taken q p ws = 0
    rw [if_neg (h w (by simp)), taken_none (fun x hx => h x (by simp [hx]))]
theorem taken_word {q : Nat} {p : List UInt8} : ∀ {ws : List (List UInt8)}, p ∈ ws → ws.Nodup → (∀ x ∈ ws, p.isPrefixOf x = true → x = p) → taken q p ws = wtN q p
  | w :: ws, hp, hd, hf => by
    show (if p.isPrefixOf w then wtN q w else 0) + taken q p ws = _
    have hd' := List.nodup_cons.1 hd
    by_cases hw : p.isPrefixOf w = true
    · have e := hf w (by simp) hw
      subst e
      rw [if_pos hw, taken_none (fun x hx h => ?_), Nat.add_zero]
      have := hf x (by simp [hx]) h
      subst this
      exact hd'.1 hx
    · rw [if_neg hw, Nat.zero_add]
      have hne : p ≠ w := fun e => hw (by rw [e]; exact List.isPrefixOf_iff_prefix.2 (List.prefix_refl _))
      exact taken_word (by simpa [hne] using hp) hd'.2 (fun x hx => hf x (by simp [hx]))
theorem taken_in {q : Nat} (hq : 0 < q) {p w : List UInt8} : ∀ {ws : List (List UInt8)}, w ∈ ws → p.isPrefixOf w = true → 0 < taken q p ws
  | x :: ws, hw, hp => by
    show 0 < (if p.isPrefixOf x then wtN q x else 0) + taken q p ws
    rcases List.mem_cons.1 hw with rfl | hw
    · rw [if_pos hp]
      have : 0 < wtN q w := Nat.pow_pos hq
      omega
    · have := taken_in hq hw hp
      omega
theorem taken_some {q : Nat} {p : List UInt8} {ws : List (List UInt8)} (h : taken q p ws ≠ 0) : ∃ w ∈ ws, p.isPrefixOf w = true := by
  by_cases hx : ∃ w ∈ ws, p.isPrefixOf w = true
  · exact hx
  · exact absurd (taken_none fun w hw hp => hx ⟨w, hw, hp⟩) h

theorem PCode.word {q : Nat} {ws : List (List UInt8)} (h : PCode q ws) {p : List UInt8} (hp : p ∈ ws) : taken q p ws = wtN q p :=
  taken_word hp h.nodup fun x hx hpx => h.free x hx p hp hpx

theorem PCode.le {q : Nat} {ws : List (List UInt8)} (h : PCode q ws) : ∀ (d : Nat) (p : List UInt8), p.length + d = 32 → taken q p ws ≤ q ^ d
  | d, p, hl => by
    by_cases hp : p ∈ ws
    · rw [h.word hp]
      unfold wtN
      rw [show 32 - p.length = d by omega]
      exact Nat.le_refl _
    · have hne : ∀ w ∈ ws, w ≠ p := fun w hw e => hp (e ▸ hw)
      cases d with
      | zero =>
        rw [taken_none fun w hw hpw => ?_]
        · exact Nat.zero_le _
        · obtain ⟨b, _, hb⟩ := pre_more hpw (hne w hw)
          have h1 := (List.isPrefixOf_iff_prefix.1 hb).length_le
          have h2 := h.short w hw
          simp at h1
          omega
      | succ d =>
        rw [taken_split h.q16 p h.alph hne, Nat.pow_succ, Nat.mul_comm]
        exact sumN_le fun a _ => PCode.le h d (p ++ [ltr a]) (by simp; omega)

/-- Proper beginnings of words. -/
def Inner (ws : List (List UInt8)) (p : List UInt8) : Prop := ∃ w ∈ ws, p.isPrefixOf w = true ∧ p.length < w.length
/-- Nothing is missing. -/
def Whole (q : Nat) (ws : List (List UInt8)) : Prop := ∀ p, Inner ws p → ∀ a, a < q → Inner ws (p ++ [ltr a]) ∨ p ++ [ltr a] ∈ ws

theorem PCode.outer {q : Nat} {ws : List (List UInt8)} (h : PCode q ws) {p : List UInt8} (hp : Inner ws p) : p ∉ ws := fun hm => by
  obtain ⟨w, hw, hpw, hl⟩ := hp
  have := h.free w hw p hm hpw
  rw [this] at hl
  omega

theorem PCode.of_whole {q : Nat} {ws : List (List UInt8)} (h : PCode q ws) (hw : Whole q ws) : ∀ (d : Nat) (p : List UInt8), p.length + d = 32 → (Inner ws p ∨ p ∈ ws) → taken q p ws = q ^ d
  | d, p, hl, hp => by
    by_cases hm : p ∈ ws
    · rw [h.word hm]
      unfold wtN
      rw [show 32 - p.length = d by omega]
    · have hi : Inner ws p := hp.elim id fun e => absurd e hm
      have hne : ∀ w ∈ ws, w ≠ p := fun w hw e => hm (e ▸ hw)
      cases d with
      | zero =>
        obtain ⟨w, hw1, hw2, hw3⟩ := hi
        have := h.short w hw1
        omega
      | succ d =>
        rw [taken_split h.q16 p h.alph hne, Nat.pow_succ, Nat.mul_comm]
        exact sumN_const fun a ha => PCode.of_whole h hw d (p ++ [ltr a]) (by simp; omega) (hw p hi a ha)

theorem inner_init {ws : List (List UInt8)} {p : List UInt8} {b : UInt8} (h : Inner ws (p ++ [b])) : Inner ws p := by
  obtain ⟨w, h1, h2, h3⟩ := h
  exact ⟨w, h1, pre_snoc h2, by simp at h3; omega⟩

theorem PCode.full {q : Nat} {ws : List (List UInt8)} (h : PCode q ws) (hT : taken q [] ws = q ^ 32) : ∀ (n : Nat) (p : List UInt8), p.length = n → Inner ws p → taken q p ws = q ^ (32 - n) ∧ ∀ a, a < q → taken q (p ++ [ltr a]) ws = q ^ (32 - (n + 1))
  | n, p, hn, hi => by
    have hm := h.outer hi
    have hne : ∀ w ∈ ws, w ≠ p := fun w hw e => hm (e ▸ hw)
    have hlen : n + 1 ≤ 32 := by
      obtain ⟨w, h1, h2, h3⟩ := hi
      have := h.short w h1
      omega
    have hfull : taken q p ws = q ^ (32 - n) := by
      cases n with
      | zero =>
        have : p = [] := List.length_eq_zero_iff.1 hn
        subst this
        exact hT
      | succ n =>
        obtain ⟨x, b, rfl⟩ : ∃ x b, p = x ++ [b] := by
          have hp0 : p ≠ [] := fun e => by subst e; simp at hn
          exact ⟨p.dropLast, p.getLast hp0, (List.dropLast_concat_getLast hp0).symm⟩
        have hxl : x.length = n := by simpa using hn
        have ih := PCode.full h hT n x hxl (inner_init hi)
        obtain ⟨w, h1, h2, h3⟩ := hi
        have hbw : b ∈ w := by
          obtain ⟨t, rfl⟩ := pre_iff.1 h2
          simp
        obtain ⟨a, ha, rfl⟩ := h.alph w h1 b hbw
        exact ih.2 a ha
    refine ⟨hfull, ?_⟩
    rw [taken_split h.q16 p h.alph hne, show 32 - n = (32 - (n + 1)) + 1 by omega, Nat.pow_succ, Nat.mul_comm] at hfull
    exact sumN_full (fun a _ => h.le (32 - (n + 1)) (p ++ [ltr a]) (by simp; omega)) hfull

theorem PCode.whole_of {q : Nat} {ws : List (List UInt8)} (h : PCode q ws) (hT : taken q [] ws = q ^ 32) : Whole q ws := fun p hi a ha => by
  have h1 := (h.full hT p.length p rfl hi).2 a ha
  have h2 : taken q (p ++ [ltr a]) ws ≠ 0 := by
    rw [h1]; exact Nat.ne_of_gt (Nat.pow_pos h.q0)
  obtain ⟨w, hw, hp⟩ := taken_some h2
  by_cases e : w = p ++ [ltr a]
  · exact .inr (e ▸ hw)
  · refine .inl ⟨w, hw, hp, ?_⟩
    obtain ⟨b, _, hb⟩ := pre_more hp e
    have := (List.isPrefixOf_iff_prefix.1 hb).length_le
    simp at this ⊢
    omega

/-- The measure is 1 exactly if nothing is missing. -/
theorem PCode.one_iff {q : Nat} {ws : List (List UInt8)} (h : PCode q ws) (hi : Inner ws []) : taken q [] ws = q ^ 32 ↔ Whole q ws :=
  ⟨h.whole_of, fun hw => h.of_whole hw 32 [] rfl (.inl hi)⟩
theorem PCode.one_le {q : Nat} {ws : List (List UInt8)} (h : PCode q ws) : taken q [] ws ≤ q ^ 32 := h.le 32 [] rfl

theorem taken_sum (q : Nat) : ∀ ws : List (List UInt8), taken q [] ws = ((ws.map List.length).map fun n => q ^ (32 - n)).sum
  | [] => rfl
  | w :: ws => by
    show (if ([] : List UInt8).isPrefixOf w then wtN q w else 0) + taken q [] ws = _
    rw [if_pos (by simp [List.isPrefixOf]), taken_sum q ws]
    simp [wtN]
end Go.Proofs.YtaphjgjhpmmkmaaGreat.Kn
end

section
namespace Go.Proofs.YtaphjgjhpmmkmaaGreat
open Go Go.AM
set_option maxRecDepth 100000
set_option linter.unusedSimpArgs false

theorem ixB_hit (c : UInt8) : ∀ (l : List UInt8) (n : Nat), 0 ≤ ixB c l n → ∃ k : Nat, ixB c l n = ((n + k : Nat) : Int) ∧ l.getD k 0 = c
  | [], n, h => by simp [ixB] at h
  | a :: l, n, h => by
    unfold ixB at h ⊢
    cases hb : Nat.beq a.toNat c.toNat with
    | true =>
      rw [hb] at h
      exact ⟨0, by simp, by simpa using UInt8.toNat_inj.1 (Nat.eq_of_beq_eq_true hb)⟩
    | false =>
      rw [hb] at h
      obtain ⟨k, h1, h2⟩ := ixB_hit c l (n + 1) h
      exact ⟨k + 1, by simp only [h1]; omega, by simpa using h2⟩
theorem alph_of {q : Int} {w : List UInt8} (h : wordCheck q w = 0) : Kn.Alph q.toNat w := fun b hb => by
  have hw : okW q w = true := by
    unfold wordCheck at h
    split at h
    · cases h
    · split at h
      · cases h
      · split at h
        · assumption
        · cases h
  have h1 := List.all_eq_true.1 hw b hb
  unfold okB at h1
  simp only [Bool.and_eq_true, decide_eq_true_eq] at h1
  obtain ⟨k, h3, h4⟩ := ixB_hit b L16 0 h1.1
  exact ⟨k, by omega, h4.symm⟩
theorem ixB_ltr {a : Nat} (ha : a < 16) : ixB (Kn.ltr a) L16 0 = a := by
  have key : ∀ a : Fin 16, ixB (L16.getD a.val 0) L16 0 = (a.val : Int) := by decide
  exact key ⟨a, ha⟩
theorem word_of {q : Nat} {w : List UInt8} (hq1 : 1 ≤ q) (hq : q ≤ 16) (hl : w.length ≤ 65536) (h : Kn.Alph q w) : wordCheck q w = 0 := by
  unfold wordCheck
  rw [if_neg (by omega), if_neg (by omega), if_pos]
  refine List.all_eq_true.2 fun b hb => ?_
  obtain ⟨a, h1, rfl⟩ := h b hb
  unfold okB
  rw [ixB_ltr (by omega)]
  simp only [Bool.and_eq_true, decide_eq_true_eq]
  omega

theorem free_of {ws : List (List UInt8)} (hn : ws.Nodup) (hp : prefB ws = true) : ∀ x ∈ ws, ∀ y ∈ ws, y.isPrefixOf x = true → x = y := fun x hx y hy h => (alone_iff (pr := fun w x => x.isPrefixOf w) hn).1 hp x hx y hy h
theorem pref_of {ws : List (List UInt8)} (hn : ws.Nodup) (h : ∀ x ∈ ws, ∀ y ∈ ws, y.isPrefixOf x = true → x = y) : prefB ws = true := (alone_iff (pr := fun w x => x.isPrefixOf w) hn).2 h
theorem pcode_of {q : Int} {ws : List (List UInt8)} (hv : Valid q ws) (hp : prefB ws = true) : Kn.PCode q.toNat ws := by
  have h2 := hv.q2
  have h16 := hv.q16
  exact { q0 := by omega, q16 := by omega, nodup := strict_nodup hv.strict, free := free_of (strict_nodup hv.strict) hp, alph := fun w hw => alph_of (hv.words w hw).2.2, short := fun w hw => (hv.words w hw).2.1 }

theorem made_len {l : List (List UInt8)} (h : l.Nodup) : (made l).length = l.length := by
  have e : made l = sortW l := strict_unique (made_strict l) (sortW_strict h) fun x => by
    rw [mem_made]
    exact (List.mergeSort_perm l _).mem_iff.symm
  rw [e, sortW_length]

end Go.Proofs.YtaphjgjhpmmkmaaGreat
end

section
namespace Go.Proofs.YtaphjgjhpmmkmaaGreat
open Go Go.AM
set_option maxRecDepth 100000
set_option maxHeartbeats 4000000
set_option linter.unusedSimpArgs false

def byV (b : UInt8) : PV := .int .u8 b.toNat
/-- The word of n letters with a number. -/
def wd (q : Nat) : Nat → Nat → List UInt8
  | 0, _ => []
  | n + 1, v => wd q n (v / q) ++ [Kn.ltr (v % q)]
theorem wd_len (q : Nat) : ∀ n v, (wd q n v).length = n
  | 0, _ => rfl
  | n + 1, v => by unfold wd; rw [List.length_append, wd_len q n]; rfl
theorem wd_zero {q : Nat} (hq : 0 < q) : ∀ n, wd q n 0 = List.replicate n (Kn.ltr 0)
  | 0 => rfl
  | n + 1 => by
    unfold wd
    rw [Nat.zero_div, Nat.zero_mod, wd_zero hq n, List.replicate_succ']
theorem wd_more {q : Nat} (hq : 0 < q) (n v : Nat) : wd q (n + 1) (v * q) = wd q n v ++ [Kn.ltr 0] := by
  show wd q n (v * q / q) ++ [Kn.ltr (v * q % q)] = _
  rw [Nat.mul_div_cancel _ hq, Nat.mul_mod_left]
theorem wd_zeros {q : Nat} (hq : 0 < q) (n v : Nat) : ∀ k, wd q (n + k) (v * q ^ k) = wd q n v ++ List.replicate k (Kn.ltr 0)
  | 0 => by simp
  | k + 1 => by
    have ih := wd_zeros hq n v k
    rw [← Nat.add_assoc, Nat.pow_succ, ← Nat.mul_assoc, wd_more hq, ih, List.replicate_succ', List.append_assoc]
/-- The row while the carry goes on: m letters are not yet looked at. -/
def nxR (q n v m : Nat) : List UInt8 := wd q m (v / q ^ (n - m)) ++ List.replicate (n - m) (Kn.ltr 0)

theorem ixB_letter {a : Nat} (ha : a < 16) : ixB (Kn.ltr a) [48, 49, 50, 51, 52, 53, 54, 55, 56, 57, 97, 98, 99, 100, 101, 102] 0 = a := ixB_ltr ha

theorem size_by (l : List UInt8) : sizeOK (l.map byV) 1 := fun x hx => by
  obtain ⟨b, _, rfl⟩ := List.mem_map.1 hx
  rfl
theorem one_by (l : List UInt8) : oneOK (l.map byV) := fun x hx c hc => by
  obtain ⟨b, _, rfl⟩ := List.mem_map.1 hx
  have : c = byV b := by simpa [PV.cells, byV] using hc
  subst this; rfl
/-- slices.Clone of bytes. -/
theorem c104 (w : List UInt8) (hw : w ≠ []) (hl : w.length ≤ 100000) {h : List AObj} : AC Tryz.prog 91 [.p (.sl (w.map byV))] h [] (fun v h' => v = .own h.length w.length ∧ h' = h ++ [.row 5 1 (w.map byV) .own]) := by
  refine AC.of_bodyE hΓ Tryz.func91 (by kernel_rfl) rfl (AWp.mono (Q := fun e st => AM.Ends e ∧ st.tmps.getD 2 .junk = .own h.length w.length ∧ st.h = h ++ [.row 5 1 (w.map byV) .own]) ?_ ?_)
  rotate_left
  · rintro e ⟨tm, h'⟩ ⟨he, h1, h2⟩
    simp only at h1 h2
    subst h2
    refine ⟨he, _, Less.refl _, ?_⟩
    unfold DoneE
    simp +contextual -implicitDefEqProofs only [Tryz.results91, h1, go_sem]
    exact ⟨_, by simp, .inl rfl, List.take_length⟩
  refine AWp.of_awpD [] hΓ hmix (by kernel_rfl) ?_
  cases w with
  | nil => exact absurd rfl hw
  | cons b l =>
    simp -implicitDefEqProofs only [Tryz.ntmps91, Nat.reduceAdd, Nat.reduceSub, go_sem]
    have h1 := size_by (b :: l)
    have h2 := one_by (b :: l)
    simp only [List.map_cons] at h1 h2
    simp only [List.length_cons] at hl
    exact ⟨⟨by simp [sizeOK], by omega⟩, ⟨h1, h2⟩, ⟨by simp [sizeOK], by omega, by omega⟩, rfl⟩

theorem nxR_len (q n v m : Nat) (hm : m ≤ n) : (nxR q n v m).length = n := by
  unfold nxR; rw [List.length_append, wd_len, List.length_replicate]; omega
theorem nxR_at {q n v m : Nat} : (nxR q n v (m + 1))[m]? = some (Kn.ltr (v / q ^ (n - (m + 1)) % q)) := by
  unfold nxR wd
  rw [List.append_assoc, List.getElem?_append_right (by rw [wd_len]; exact Nat.le_refl _), wd_len]
  simp
theorem nxR_carry {q n v m : Nat} (hm : m + 1 ≤ n) : (nxR q n v (m + 1)).set m (Kn.ltr 0) = nxR q n v m := by
  unfold nxR
  rw [show wd q (m + 1) (v / q ^ (n - (m + 1))) = wd q m (v / q ^ (n - (m + 1)) / q) ++ [Kn.ltr (v / q ^ (n - (m + 1)) % q)] from rfl]
  rw [List.append_assoc, List.set_append_right _ _ (by rw [wd_len]; exact Nat.le_refl _), wd_len, Nat.sub_self, Nat.div_div_eq_div_mul, ← Nat.pow_succ, Nat.succ_eq_add_one, show n - (m + 1) + 1 = n - m by omega]
  rw [show n - m = (n - (m + 1)) + 1 by omega, List.replicate_succ]
  simp [show n - (m + 1) + 1 = n - m by omega]
theorem nxR_done {q n v m : Nat} (hq : 2 ≤ q) (hm : m + 1 ≤ n) (hc : v % q ^ (n - (m + 1)) = q ^ (n - (m + 1)) - 1) (hd : v / q ^ (n - (m + 1)) % q + 1 < q) :
    (nxR q n v (m + 1)).set m (Kn.ltr (v / q ^ (n - (m + 1)) % q + 1)) = wd q n (v + 1) := by
  have hp : 0 < q ^ (n - (m + 1)) := Nat.pow_pos (by omega)
  have e1 : v + 1 = (v / q ^ (n - (m + 1)) + 1) * q ^ (n - (m + 1)) := by
    have := Nat.div_add_mod v (q ^ (n - (m + 1)))
    rw [Nat.add_mul, Nat.one_mul, Nat.mul_comm]
    omega
  have e2 : wd q n (v + 1) = wd q (m + 1) (v / q ^ (n - (m + 1)) + 1) ++ List.replicate (n - (m + 1)) (Kn.ltr 0) := by
    have := wd_zeros (q := q) (by omega) (m + 1) (v / q ^ (n - (m + 1)) + 1) (n - (m + 1))
    rw [← e1, show m + 1 + (n - (m + 1)) = n by omega] at this
    exact this
  rw [e2]
  unfold nxR
  generalize v / q ^ (n - (m + 1)) = u at *
  have e3 : (u + 1) / q = u / q := by
    have := Nat.div_add_mod u q
    rw [show u + 1 = (u % q + 1) + q * (u / q) by omega, Nat.add_mul_div_left _ _ (by omega), Nat.div_eq_of_lt hd]; omega
  have e4 : (u + 1) % q = u % q + 1 := by
    have := Nat.div_add_mod u q
    rw [show u + 1 = (u % q + 1) + q * (u / q) by omega, Nat.add_mul_mod_self_left, Nat.mod_eq_of_lt hd]
  rw [show wd q (m + 1) u = wd q m (u / q) ++ [Kn.ltr (u % q)] from rfl, show wd q (m + 1) (u + 1) = wd q m ((u + 1) / q) ++ [Kn.ltr ((u + 1) % q)] from rfl, e3, e4]
  rw [List.append_assoc, List.set_append_right _ _ (by rw [wd_len]; exact Nat.le_refl _), wd_len, Nat.sub_self]
  simp
theorem carry_more {q v k : Nat} (hq : 2 ≤ q) (hc : v % q ^ k = q ^ k - 1) (hd : v / q ^ k % q = q - 1) : v % q ^ (k + 1) = q ^ (k + 1) - 1 := by
  have hp : 0 < q ^ k := Nat.pow_pos (by omega)
  rw [Nat.pow_succ, Nat.mod_mul, hc, hd]
  obtain ⟨r, rfl⟩ : ∃ r, q = r + 1 := ⟨q - 1, by omega⟩
  rw [Nat.add_sub_cancel, Nat.mul_add, Nat.mul_one]
  omega

theorem c57 {h : List AObj} (q n v : Nat) (hq : 2 ≤ q) (hq16 : q ≤ 16) (hn : 0 < n) (hn2 : n ≤ 100000) (hv : v + 1 < q ^ n) :
    AC Tryz.prog 59 [.p (.int .i64 q), .p (.sl ((wd q n v).map byV))] h [] (fun v' h' => v' = .own h.length n ∧ h' = h ++ [.row 5 1 ((wd q n (v + 1)).map byV) .own]) := by
  have hwl := wd_len q n v
  have hcl := c104 (h := h) (wd q n v) (fun e => by rw [e] at hwl; simp at hwl; omega) (by omega)
  rw [hwl] at hcl
  have gL : ∀ o : AObj, (h ++ [o])[h.length]? = some o := fun o => by simp
  have sL : ∀ o o' : AObj, (h ++ [o]).set h.length o' = h ++ [o'] := fun o o' => by simp
  refine AC.of_bodyE hΓ Tryz.func59 (by kernel_rfl) rfl (AWp.mono (Q := fun e st => AM.Ends e ∧ st.tmps.getD 4 .junk = .own h.length n ∧ st.h = h ++ [.row 5 1 ((wd q n (v + 1)).map byV) .own]) ?_ ?_)
  rotate_left
  · rintro e ⟨tm, h'⟩ ⟨he, h1, h2⟩
    simp only at h1 h2
    subst h2
    refine ⟨he, _, Less.refl _, ?_⟩
    unfold DoneE
    simp +contextual -implicitDefEqProofs only [Tryz.results59, h1, go_sem]
    exact ⟨_, by simp, .inl rfl, List.take_length⟩
  refine AWp.of_awpD [] hΓ hmix (by kernel_rfl) ?_
  simp -implicitDefEqProofs only [Tryz.ntmps59, Nat.reduceAdd, Nat.reduceSub, go_sem]
  refine callK_ac hcl (by simp) ?_
  rintro v' h' ⟨rfl, rfl⟩
  simp -implicitDefEqProofs only [killAll, List.foldl, go_sem]
  refine ⟨by simp only [InR]; omega, ?_⟩
  refine AWp.loopI (fun m : Nat => ⟨mkF 37 [(0, .p (.int .i64 q)), (5, .own h.length n), (6, .p (.int .i64 ((m : Int) - 1)))], h ++ [.row 5 1 ((nxR q n v m).map byV) .own]⟩)
    (fun m => m ≤ n ∧ v % q ^ (n - m) = q ^ (n - m) - 1) (fun m => m) n (by simp [go_sem, weakH_self, nxR]) ⟨Nat.le_refl _, by simp [Nat.mod_one]⟩ ?_
  rintro m ⟨hm, hcar⟩
  by_cases hm0 : m = 0
  · exfalso
    subst hm0
    rw [Nat.sub_zero, Nat.mod_eq_of_lt (by omega)] at hcar
    omega
  obtain ⟨m, rfl⟩ : ∃ k, m = k + 1 := ⟨m - 1, by omega⟩
  refine AWp.of_awpD [] hΓ hmix (by kernel_rfl) ?_
  have hi : (((m + 1 : Nat) : Int) - 1) = (m : Int) := by omega
  have hge : (0 : Int) ≤ (m : Int) := by omega
  have hR := nxR_at (q := q) (n := n) (v := v) (m := m)
  have hRl := nxR_len q n v (m + 1) hm
  have gm : ((nxR q n v (m + 1)).map byV).getD m default = .int .u8 (Kn.ltr (v / q ^ (n - (m + 1)) % q)).toNat := by rw [List.getD_eq_getElem?_getD, List.getElem?_map, hR]; rfl
  have hdq : v / q ^ (n - (m + 1)) % q < q := Nat.mod_lt _ (by omega)
  have hdone := nxR_done hq hm hcar
  have hcarry := nxR_carry (q := q) (v := v) hm
  have hmore := fun h => carry_more (k := n - (m + 1)) hq hcar h
  generalize v / q ^ (n - (m + 1)) % q = d at *
  have e105 := t101 [48, 49, 50, 51, 52, 53, 54, 55, 56, 57, 97, 98, 99, 100, 101, 102] ((Kn.ltr d).toNat : Int)
  rw [Int.toNat_natCast, show (Kn.ltr d).toNat.toUInt8 = Kn.ltr d from UInt8.ofNat_toNat, ixB_letter (by omega)] at e105
  simp -implicitDefEqProofs only [hi, hge, gL, gm, Int.toNat_natCast, List.length_map, go_sem]
  refine ⟨by omega, by omega, callK_fn e105 (.pures rfl) ?_⟩
  by_cases hdl : d + 1 < q
  · have hdl' : (d : Int) < (q : Int) - 1 := by omega
    simp -implicitDefEqProofs only [hdl', gL, sL, go_sem]
    refine ⟨by simp only [InR]; omega, by simp only [InR]; omega, ⟨by omega, by omega⟩, by omega, ⟨by omega, rfl⟩, ?_⟩
    have e1 : ((d : Int) + 1).toNat = d + 1 := by omega
    rw [e1, show PV.int IntKind.u8 (([48, 49, 50, 51, 52, 53, 54, 55, 56, 57, 97, 98, 99, 100, 101, 102] : List UInt8).getD (d + 1) 0).toNat = byV (Kn.ltr (d + 1)) from rfl, ← List.map_set, hdone hdl]
  · have hdl' : ¬ (d : Int) < (q : Int) - 1 := by omega
    simp -implicitDefEqProofs only [hdl', gL, sL, go_sem]
    refine ⟨by simp only [InR]; omega, by omega, by omega, ⟨by omega, rfl⟩, by simp only [InR]; omega, m, ⟨rfl, ?_⟩, ⟨by omega, ?_⟩, by omega⟩
    · rw [show PV.int IntKind.u8 (([48, 49, 50, 51, 52, 53, 54, 55, 56, 57, 97, 98, 99, 100, 101, 102] : List UInt8).getD (Int.toNat 0) 0).toNat = byV (Kn.ltr 0) from rfl, ← List.map_set, hcarry]
      exact weakH_refl _
    · have := hmore (by omega)
      rw [show n - (m + 1) + 1 = n - m by omega] at this
      exact this
end Go.Proofs.YtaphjgjhpmmkmaaGreat
end

section
namespace Go.Proofs.YtaphjgjhpmmkmaaGreat
open Go Go.AM
set_option maxRecDepth 100000
set_option maxHeartbeats 4000000
set_option linter.unusedSimpArgs false

/-- What follows a statement, said ahead of it. -/
theorem AWp.seqP {E : Env} {r : Option Nat} {Q : Exit → St → Prop} {st : St} {x y : Code} {α : Type} (fr : α → St) (Inv : α → Prop) (h2 : ∀ a, Inv a → AWp E r y Q (fr a))
    (h1 : (∀ a, Inv a → AWp E r y Q (fr a)) → AWp E r x (thenQ (fun st => AWp E r y Q st) Q) st) : AWp E r (.seq x y) Q st := AWp.seq (h1 h2)

def kS (S : List (Nat × Nat)) (i : Nat) : Nat × Nat := S.getD i (0, 0)
/-- What the first i words take. -/
def tS (q : Nat) (S : List (Nat × Nat)) (i : Nat) : Nat := ((S.take i).map fun p => q ^ (32 - p.1)).sum
def vS (q : Nat) (S : List (Nat × Nat)) (i : Nat) : Nat := tS q S i / q ^ (32 - (kS S i).1)
def wS (q : Nat) (S : List (Nat × Nat)) (i : Nat) : List UInt8 := wd q (kS S i).1 (vS q S i)
def wordsS (q : Nat) (S : List (Nat × Nat)) (n : Nat) : List (List UInt8) := (List.range n).map (wS q S)
def idxS (S : List (Nat × Nat)) (n : Nat) : Nat → List Nat
  | 0 => List.replicate n 0
  | i + 1 => (idxS S n i).set (kS S i).2 i
theorem idxS_len (S : List (Nat × Nat)) (n : Nat) : ∀ i, (idxS S n i).length = n
  | 0 => by simp [idxS]
  | i + 1 => by unfold idxS; rw [List.length_set, idxS_len S n i]
theorem kS_at {S : List (Nat × Nat)} {i : Nat} (hi : i < S.length) : kS S i = S[i] := by unfold kS; rw [List.getD_eq_getElem?_getD, List.getElem?_eq_getElem hi, Option.getD_some]
theorem tS_succ {q : Nat} {S : List (Nat × Nat)} {i : Nat} (hi : i < S.length) : tS q S (i + 1) = tS q S i + q ^ (32 - (kS S i).1) := by
  unfold tS
  rw [List.take_succ_eq_append_getElem hi, List.map_append, List.sum_append, kS_at hi]; simp
theorem tS_le {q : Nat} {S : List (Nat × Nat)} {i : Nat} : ∀ {j}, i ≤ j → j ≤ S.length → tS q S i ≤ tS q S j
  | 0, h, _ => by have : i = 0 := by omega
                  subst this; exact Nat.le_refl _
  | j + 1, h, hj => by
    by_cases he : i = j + 1
    · subst he; exact Nat.le_refl _
    · have := tS_le (q := q) (S := S) (show i ≤ j by omega) (by omega)
      rw [tS_succ (by omega)]; omega
theorem wordsS_succ (q : Nat) (S : List (Nat × Nat)) (n : Nat) : wordsS q S (n + 1) = wordsS q S n ++ [wS q S n] := by unfold wordsS; rw [List.range_succ, List.map_append]; rfl

theorem kS_mono {q : Nat} {S : List (Nat × Nat)} (_ : 2 ≤ q) (hS : S.Pairwise keyL) (_ : ∀ p ∈ S, 1 ≤ p.1 ∧ p.1 ≤ 32) {i j : Nat} (hij : i ≤ j) (hj : j < S.length) : (kS S i).1 ≤ (kS S j).1 := by
  rw [kS_at (by omega), kS_at hj]
  by_cases he : i = j
  · subst he; exact Nat.le_refl _
  · have := List.pairwise_iff_getElem.1 hS i j (by omega) hj (by omega)
    unfold keyL at this; omega
theorem kS_32 {q : Nat} {S : List (Nat × Nat)} (_ : 2 ≤ q) (_ : S.Pairwise keyL) (h32 : ∀ p ∈ S, 1 ≤ p.1 ∧ p.1 ≤ 32) {i : Nat} (hi : i < S.length) : 1 ≤ (kS S i).1 ∧ (kS S i).1 ≤ 32 := by rw [kS_at hi]; exact h32 _ (List.getElem_mem hi)
section
variable {q : Nat} {S : List (Nat × Nat)} (hq : 2 ≤ q) (hS : S.Pairwise keyL) (h32 : ∀ p ∈ S, 1 ≤ p.1 ∧ p.1 ≤ 32)
include hq hS h32
/-- What is taken is a multiple of the next word's weight. -/
theorem tS_dvd : ∀ {i j : Nat}, i ≤ j → j < S.length → q ^ (32 - (kS S j).1) ∣ tS q S i
  | 0, _, _, _ => by simp [tS]
  | i + 1, j, hij, hj => by
    rw [tS_succ (by omega)]
    exact Nat.dvd_add (tS_dvd (by omega) hj) (Nat.pow_dvd_pow _ (by have := kS_mono hq hS h32 (show i ≤ j by omega) hj; omega))
theorem vS_mul {i : Nat} (hi : i < S.length) : vS q S i * q ^ (32 - (kS S i).1) = tS q S i := Nat.div_mul_cancel (tS_dvd hq hS h32 (Nat.le_refl _) hi)
/-- The next word, made longer. -/
theorem wS_next {i : Nat} (hi : i + 1 < S.length) : wS q S (i + 1) = wd q (kS S i).1 (vS q S i + 1) ++ List.replicate ((kS S (i + 1)).1 - (kS S i).1) (Kn.ltr 0) := by
  have hm := kS_mono hq hS h32 (show i ≤ i + 1 by omega) hi
  have hb := (kS_32 hq hS h32 hi).2
  have hz := wd_zeros (q := q) (by omega) (kS S i).1 (vS q S i + 1) ((kS S (i + 1)).1 - (kS S i).1)
  rw [show (kS S i).1 + ((kS S (i + 1)).1 - (kS S i).1) = (kS S (i + 1)).1 by omega] at hz
  rw [← hz]
  unfold wS
  congr 1
  have hp : 0 < q ^ (32 - (kS S (i + 1)).1) := Nat.pow_pos (by omega)
  refine Nat.eq_of_mul_eq_mul_right hp ?_
  rw [vS_mul hq hS h32 hi, tS_succ (by omega), ← vS_mul hq hS h32 (show i < S.length by omega), Nat.mul_assoc, ← Nat.pow_add, show (kS S (i + 1)).1 - (kS S i).1 + (32 - (kS S (i + 1)).1) = 32 - (kS S i).1 by omega, Nat.add_mul, Nat.one_mul]
/-- There is room for one more. -/
theorem vS_room {i : Nat} (hi : i < S.length) (hk : tS q S S.length ≤ q ^ 32) : vS q S i + 1 ≤ q ^ (kS S i).1 := by
  have hb := (kS_32 hq hS h32 hi).2
  have hp : 0 < q ^ (32 - (kS S i).1) := Nat.pow_pos (by omega)
  refine Nat.le_of_mul_le_mul_right ?_ hp
  rw [Nat.add_mul, Nat.one_mul, vS_mul hq hS h32 hi, ← tS_succ hi, ← Nat.pow_add, show (kS S i).1 + (32 - (kS S i).1) = 32 by omega]
  exact Nat.le_trans (tS_le (by omega) (Nat.le_refl _)) hk
theorem vS_next {i : Nat} (hi : i + 1 < S.length) (hk : tS q S S.length ≤ q ^ 32) : vS q S i + 1 < q ^ (kS S i).1 := by
  have hb := (kS_32 hq hS h32 (show i < S.length by omega)).2
  have hp : 0 < q ^ (32 - (kS S i).1) := Nat.pow_pos (by omega)
  have hp2 : 0 < q ^ (32 - (kS S (i + 1)).1) := Nat.pow_pos (by omega)
  refine Nat.lt_of_mul_lt_mul_right (a := q ^ (32 - (kS S i).1)) ?_
  rw [Nat.add_mul, Nat.one_mul, vS_mul hq hS h32 (by omega), ← tS_succ (by omega), ← Nat.pow_add, show (kS S i).1 + (32 - (kS S i).1) = 32 by omega]
  have h1 := tS_succ (q := q) hi
  have h2 := tS_le (q := q) (S := S) (show i + 1 + 1 ≤ S.length by omega) (Nat.le_refl _)
  omega
end
theorem wS_zero {q : Nat} {S : List (Nat × Nat)} (hq : 2 ≤ q) : wS q S 0 = List.replicate (kS S 0).1 (Kn.ltr 0) := by
  unfold wS vS
  rw [show tS q S 0 = 0 by simp [tS], Nat.zero_div, wd_zero (by omega)]
end Go.Proofs.YtaphjgjhpmmkmaaGreat
end

section
namespace Go.Proofs.YtaphjgjhpmmkmaaGreat
open Go Go.AM
set_option maxRecDepth 100000
set_option maxHeartbeats 4000000
set_option linter.unusedSimpArgs false

theorem v49 (n : Int) : PFn Tryz.prog 53 [.int .i64 n] [.bool (Kn.badL n)] := by
  unfold Kn.badL
  refine PFn.of_body hΓ Tryz.func53 (by kernel_rfl) rfl (AWp.of_awpD [] hΓ hmix (by kernel_rfl) ?_)
  by_cases h1 : n < 1
  · simp -implicitDefEqProofs only [Tryz.ntmps53, Tryz.results53, Nat.reduceAdd, Nat.reduceSub, h1, go_sem]
    try simp [h1]
  · simp -implicitDefEqProofs only [Tryz.ntmps53, Tryz.results53, Nat.reduceAdd, Nat.reduceSub, h1, go_sem]
    try simp [h1]
theorem c49a {h : List AObj} (n : Int) : AC Tryz.prog 53 [.p (.int .i64 n)] h [] (fun v h' => v = .p (.bool (Kn.badL n)) ∧ h' = h) := by
  have := AC.of_fn (h := h) (v49 n) (args := [.p (.int .i64 n)]) (.inl rfl)
  exact this

def flE (q : Nat) (ns : List Nat) : Int := if Kn.krS q ns ≤ q ^ 32 then 0 else 15
def flV (q : Nat) (ns : List Nat) : PV := if Kn.krS q ns ≤ q ^ 32 then codeV q (wordsS q (srtP ns ns.length) ns.length) else codeV 0 []
def flI (q : Nat) (ns : List Nat) : List Nat := if Kn.krS q ns ≤ q ^ 32 then idxS (srtP ns ns.length) ns.length ns.length else []

theorem pow_cap {q : Nat} (hq : q ≤ 16) : q ^ 32 < capN := by
  have h1 : q ^ 32 ≤ 16 ^ 32 := Nat.pow_le_pow_left hq 32
  have h2 : 16 ^ 32 < capN := Nat.lt_of_lt_of_le (by decide : 16 ^ 32 < 256 ^ 17) (Nat.pow_le_pow_right (by decide) (by decide))
  omega

theorem insP_sum (f : Nat × Nat → Nat) (x : Nat × Nat) : ∀ S, ((insP x S).map f).sum = f x + (S.map f).sum
  | [] => by simp [insP]
  | y :: t => by
    unfold insP
    split
    · simp
    · simp only [List.map_cons, List.sum_cons, insP_sum f x t]; omega
theorem srtP_sum (q : Nat) (ns : List Nat) : ∀ n, n ≤ ns.length → ((srtP ns n).map fun p => q ^ (32 - p.1)).sum = Kn.krS q (ns.take n)
  | 0, _ => by simp [srtP, Kn.krS]
  | n + 1, h => by
    unfold srtP
    rw [insP_sum, srtP_sum q ns n (by omega), List.take_succ_eq_append_getElem h, Kn.krS_snoc, List.getD_eq_getElem?_getD, List.getElem?_eq_getElem h, Option.getD_some]
    dsimp only
    omega
theorem tS_krS (q : Nat) (ns : List Nat) : tS q (srtP ns ns.length) (srtP ns ns.length).length = Kn.krS q ns := by
  unfold tS
  rw [List.take_length, srtP_sum q ns ns.length (Nat.le_refl _), List.take_length]

theorem cm13 (q : Nat) (ns : List Nat) (hq : 2 ≤ q) (hq16 : q ≤ 16) (hn0 : 0 < ns.length) (hn : ns.length < 20) (h32 : ∀ n ∈ ns, 1 ≤ n ∧ n ≤ 32) :
    PFn Tryz.prog 26 [.int .i64 q, .sl (ns.map Kn.nV)] [flV q ns, .sl ((flI q ns).map Kn.nV), .int .i64 (flE q ns)] := by
  have hmap : ns.map Kn.nV = (ns.map fun n : Nat => (n : Int)).map Kn.iV := by rw [List.map_map]; rfl
  have hnb : (ns.map fun n : Nat => (n : Int)).any Kn.badL = false := List.any_eq_false.2 fun x hx hb => by
    obtain ⟨n, hm, rfl⟩ := List.mem_map.1 hx
    have := h32 n hm
    unfold Kn.badL at hb
    simp only [Bool.or_eq_true, decide_eq_true_eq] at hb
    omega
  have e48 : ∀ h : List AObj, AC Tryz.prog 52 [.p (.sl (ns.map Kn.nV)), .fn 53 []] h [] (fun v h' => v = .p (.bool false) ∧ h' = h) := fun h => by
    have := Kn.c48 (h := h) (g := 53) (caps := []) (pr := Kn.badL) (ns.map fun n : Nat => (n : Int)) (by simp; omega) fun w _ => c49a w
    rw [hnb, ← hmap] at this
    exact this
  have e50 := Kn.v50 q ns hq hq16 (by omega) h32
  have hkl := Kn.krS_le hq16 ns
  have hc1 := pow_cap hq16
  have hcap : (ns.length * 16 ^ 32) * 1 < capN := by
    have h2 : ns.length * 16 ^ 32 ≤ 20 * 16 ^ 32 := Nat.mul_le_mul_right _ (by omega)
    have h3 : 20 * 16 ^ 32 < capN := Nat.lt_of_lt_of_le (by decide : 20 * 16 ^ 32 < 256 ^ 18) (Nat.pow_le_pow_right (by decide) (by decide))
    omega
  have hq0 : q ^ 32 ≠ 0 := Nat.pos_iff_ne_zero.1 (Nat.pow_pos (by omega))
  have h1c := Kn.one_cap
  have e53 := u34 1 (by omega)
  have e52 := Kn.v52 1 h1c
  have e51 := Kn.v51 (Kn.krS q ns) (q ^ 32) 1 1 (by omega) hc1 h1c h1c hq0 (by omega) (by omega) (by omega)
  rw [Nat.mul_one, Nat.one_mul] at e51
  have hqa : ¬ (q : Int) < 2 := by omega
  have hqb : ¬ (16 : Int) < (q : Int) := by omega
  have hna : ¬ (ns.length : Int) = 0 := by omega
  have hnc : ¬ (64 : Int) < (ns.length : Int) := by omega
  refine PFn.of_body hΓ Tryz.func26 (by kernel_rfl) rfl (AWp.seq (AWp.of_awpD [] hΓ hmix (by kernel_rfl) ?_))
  simp -implicitDefEqProofs only [Tryz.ntmps26, Tryz.results26, Nat.reduceAdd, Nat.reduceSub, go_sem]
  refine AWp.seq (AWp.of_awpD [] hΓ hmix (by kernel_rfl) ?_)
  simp -implicitDefEqProofs only [hqa, hqb, hna, hnc, List.length_map, go_sem]
  refine callK_ac (e48 _) (by simp) ?_
  rintro v h' ⟨rfl, rfl⟩
  simp -implicitDefEqProofs only [killAll, List.foldl, go_sem]
  refine AWp.seq (AWp.of_awpD [] hΓ hmix (by kernel_rfl) ?_)
  simp -implicitDefEqProofs only [go_sem]
  unfold Kn.ratV at e50 e51 e52
  refine callK_fn e50 (.pures rfl) ?_
  simp -implicitDefEqProofs only [go_sem]
  refine AWp.seq (AWp.of_awpD [] hΓ hmix (by kernel_rfl) ?_)
  simp -implicitDefEqProofs only [go_sem]
  refine AWp.seq (AWp.of_awpD [(12, 5)] hΓ hmix (by kernel_rfl) ?_)
  simp -implicitDefEqProofs only [go_sem]
  refine callVPK_fn e53 (.pures rfl) ?_
  simp -implicitDefEqProofs only [go_sem]
  refine callVPK_fn e52 (.pures rfl) ?_
  simp -implicitDefEqProofs only [go_sem]
  refine callVPK_fn e51 (.still rfl) ?_
  unfold flV flE flI
  by_cases hk : Kn.krS q ns ≤ q ^ 32
  rotate_left
  · have hcm : (0 : Int) < cmpN (Kn.krS q ns) (q ^ 32) := by rw [cmpN_gt (by omega)]; decide
    rw [if_neg hk, if_neg hk, if_neg hk]
    simp -implicitDefEqProofs only [hcm, codeV, List.map_nil, go_sem]
    done
  have hcm : ¬ (0 : Int) < cmpN (Kn.krS q ns) (q ^ 32) := by
    by_cases he : Kn.krS q ns = q ^ 32
    · rw [he, cmpN_eq]; decide
    · rw [cmpN_lt (by omega)]; decide
  rw [if_pos hk, if_pos hk, if_pos hk]
  simp -implicitDefEqProofs only [hcm, go_sem]
  clear e48 e50 e51 e52 e53
  refine AWp.seq (AWp.of_awpD [] hΓ hmix (by kernel_rfl) ?_)
  simp -implicitDefEqProofs only [go_sem]
  refine AWp.adopt (l := []) 9 98 2 (by rfl) (by simp) ?_
  simp -implicitDefEqProofs only [go_sem]
  refine AWp.seq (AWp.of_awpD [] hΓ hmix (by kernel_rfl) ?_)
  simp -implicitDefEqProofs only [List.length_map, go_sem]
  generalize hA : Kn.krS q ns / (Kn.krS q ns).gcd (q ^ 32) = gA at *
  generalize hB : q ^ 32 / (Kn.krS q ns).gcd (q ^ 32) = gB at *
  refine AWp.loopI (fun i : Nat => ⟨mkF 112 [(0, .p (.int .i64 q)), (1, .p (.sl (ns.map Kn.nV))), (4, .ptr 0 0), (5, .full []), (6, .p (.int .i64 0)), (9, .own 2 i), (55, .p (.sl (ns.map Kn.nV))), (56, .p (.int .i64 ns.length)), (57, .p (.int .i64 i))], [.box [.p (.int .i64 0), .full []], .box [.p (.bool false), .p (.str (magB gA)), .p (.bool false), .p (.str (magB gB))], .row 98 2 ((placesL ns i).map plV) (if i = 0 then .lax else .own)]⟩)
    (fun i => i ≤ ns.length) (fun i => ns.length - i) 0 (by simp [go_sem, placesL]) (by omega) ?_
  intro i hi
  refine AWp.of_awpD [] hΓ hmix (by kernel_rfl) ?_
  by_cases hlt : i < ns.length
  · have hgi : (ns.map Kn.nV).getD i default = .int .i64 (ns[i] : Int) := by rw [getD_map_lt _ _ _ _ hlt]; rfl
    have hpl : placesL ns (i + 1) = placesL ns i ++ [(ns[i], i)] := by
      unfold placesL
      rw [List.range_succ, List.map_append, List.map_singleton, List.getD_eq_getElem?_getD, List.getElem?_eq_getElem hlt, Option.getD_some]
    have hpll : (placesL ns i).length = i := by simp [placesL]
    have hs2 : sizeOK [PV.agg [PV.int .i64 (ns[i] : Int), PV.int .i64 (i : Int)]] 2 := by simp [sizeOK, PV.cells]
    have ho2 : oneOK [PV.agg [PV.int .i64 (ns[i] : Int), PV.int .i64 (i : Int)]] := by simp [oneOK, PV.cells, PV.isAgg]
    simp -implicitDefEqProofs only [hlt, hgi, Int.toNat_natCast, go_sem]
    refine ⟨by omega, ⟨hs2, by omega⟩, ⟨hs2, ho2⟩, ⟨by split <;> simp, by simp, by omega, by omega⟩, by simp only [InR]; omega, i + 1, ⟨⟨rfl, by omega⟩, .inl ⟨?_, by simp⟩⟩, hlt, by omega⟩
    rw [hpl, List.map_append]; rfl
  have hin : i = ns.length := by omega
  subst hin
  simp -implicitDefEqProofs only [Nat.lt_irrefl, Int.lt_irrefl, go_sem]
  rw [if_neg (by omega)]
  have e54 := fun (b0 b1 : AObj) => c54 (h := [b0, b1, .row 98 2 ((placesL ns ns.length).map plV) .own]) (b := 2) ns hn hn0 rfl
  have hSl := srtP_len ns ns.length
  have hSs := srtP_sorted ns ns.length
  have hSm := fun p => @mem_srtP ns p ns.length
  generalize hSe : srtP ns ns.length = S at *
  refine AWp.seq (AWp.of_awpD [] hΓ hmix (by kernel_rfl) ?_)
  simp -implicitDefEqProofs only [go_sem]
  refine callK_ac (e54 _ _) (by simp) ?_
  rintro v h' ⟨rfl, rfl⟩
  simp -implicitDefEqProofs only [killAll, List.foldl, List.set_cons_zero, List.set_cons_succ, go_sem]
  refine AWp.freeze 2 rfl ?_
  refine AWp.seq (AWp.of_awpD [] hΓ hmix (by kernel_rfl) ?_)
  simp -implicitDefEqProofs only [Frozen, List.length_map, go_sem]
  refine ⟨by omega, ?_⟩
  refine AWp.seq (AWp.of_awpD [] hΓ hmix (by kernel_rfl) ?_)
  simp -implicitDefEqProofs only [List.length_map, go_sem]
  refine ⟨⟨by omega, by omega⟩, ?_⟩
  refine AWp.adoptCell (l := []) 3 1 9 1 rfl rfl (by simp) ?_
  simp -implicitDefEqProofs only [List.set_cons_zero, List.set_cons_succ, go_sem]
  refine AWp.seq (AWp.of_awpD [] hΓ hmix (by kernel_rfl) ?_)
  simp -implicitDefEqProofs only [go_sem]
  refine AWp.adopt (l := []) 14 5 1 (by rfl) (by simp) ?_
  simp -implicitDefEqProofs only [go_sem]
  refine AWp.seq (AWp.of_awpD [] hΓ hmix (by kernel_rfl) ?_)
  simp -implicitDefEqProofs only [List.length_map, go_sem]
  have hkr : tS q S S.length = Kn.krS q ns := by rw [← hSe]; exact tS_krS q ns
  have hS32 : ∀ p ∈ S, 1 ≤ p.1 ∧ p.1 ≤ 32 := fun p hp => by
    obtain ⟨h1, h2⟩ := (hSm p).1 hp
    rw [h2, List.getD_eq_getElem?_getD, List.getElem?_eq_getElem h1, Option.getD_some]
    exact h32 _ (List.getElem_mem h1)
  have hSi : ∀ p ∈ S, p.2 < ns.length := fun p hp => ((hSm p).1 hp).1
  refine AWp.loopJ (fun i : Nat => ⟨mkF 112 [(0, .p (.int .i64 q)), (4, .ptr 0 0), (6, .p (.int .i64 0)), (12, .ptr 3 0), (13, .own 4 ns.length), (14, .own 6 (if i = 0 then 0 else (kS S (i - 1)).1)), (76, .p (.sl (S.map plV))), (77, .p (.int .i64 S.length)), (78, .p (.int .i64 i))],
      [.box [.p (.int .i64 0), .full []], .dead, .dead, .box [.p (.int .i64 q), .own 5 i], .row 3 1 ((idxS S ns.length i).map Kn.nV) .own, .row 9 1 ((wordsS q S i).map .str) .lax, .row 5 1 ((if i = 0 then [] else wS q S (i - 1)).map byV) .lax]⟩)
    (fun i => i ≤ S.length) (fun i => S.length - i) 0 (fun x => by simp [BelowAll, mkF, AV.blw, AV.blw.blwL, blwH, AObj.blw]) (by simp [go_sem, idxS, wordsS, weakD_nil, Kn.nV]) (by omega) ?_
  intro i hi
  refine AWp.seq (AWp.of_awpD [] hΓ hmix (by kernel_rfl) ?_)
  simp -implicitDefEqProofs only [go_sem]
  by_cases hlt : i < S.length
  · have hg : (S.map plV).getD i default = plV S[i] := getD_map_lt _ _ _ _ hlt
    have hLi := kS_at hlt
    have hL := kS_32 hq hSs hS32 hlt
    have hix := hSi S[i] (List.getElem_mem hlt)
    rw [← hLi] at hg hix
    obtain ⟨u, hu0, hu1, hul, hue⟩ : ∃ u : List UInt8, (i = 0 → u = []) ∧ (0 < i → u = wd q (kS S (i - 1)).1 (vS q S (i - 1) + 1)) ∧ u.length ≤ (kS S i).1 ∧ u ++ List.replicate ((kS S i).1 - u.length) (Kn.ltr 0) = wS q S i := by
      by_cases h0 : i = 0
      · subst h0
        exact ⟨[], fun _ => rfl, fun h => absurd h (by omega), by simp, by rw [wS_zero hq]; simp⟩
      · refine ⟨wd q (kS S (i - 1)).1 (vS q S (i - 1) + 1), fun h => absurd h h0, fun _ => rfl, ?_, ?_⟩
        · rw [wd_len]; exact kS_mono hq hSs hS32 (by omega) hlt
        · rw [wd_len]
          have := wS_next (q := q) (S := S) hq hSs hS32 (i := i - 1) (by omega)
          rw [show i - 1 + 1 = i by omega] at this
          exact this.symm
    refine AWp.seq (AWp.of_awpD [] hΓ hmix (by kernel_rfl) ?_)
    simp -implicitDefEqProofs only [hlt, go_sem]
    refine AWp.seq (AWp.block ?_)
    refine AWp.seq (AWp.of_awpD [] hΓ hmix (by kernel_rfl) ?_)
    have hcp : List.take 2 (plV (kS S i)).cells = [.int .i64 (kS S i).1, .int .i64 (kS S i).2] := rfl
    have hc2 : ∀ p : Nat × Nat, (plV p).cells.length = 2 := fun p => rfl
    simp -implicitDefEqProofs only [hlt, hg, hcp, hc2, Int.toNat_natCast, go_sem]
    refine AWp.seqP (α := Unit) (fun _ => ⟨mkF 112 [(0, .p (.int .i64 q)), (4, .ptr 0 0), (6, .p (.int .i64 0)), (12, .ptr 3 0), (13, .own 4 ns.length), (14, .own 6 u.length), (15, .p (.int .i64 i)), (16, .ptr 7 0), (76, .p (.sl (S.map plV))), (77, .p (.int .i64 S.length)), (78, .p (.int .i64 i))],
      [.box [.p (.int .i64 0), .full []], .dead, .dead, .box [.p (.int .i64 q), .own 5 i], .row 3 1 ((idxS S ns.length i).map Kn.nV) .own, .row 9 1 ((wordsS q S i).map .str) .lax, .row 5 1 (u.map byV) .lax, .box [.p (.int .i64 (kS S i).1), .p (.int .i64 (kS S i).2)]]⟩) (fun _ => True) ?_ ?_
    rotate_left
    · intro hyp
      by_cases h0 : i = 0
      · have hi0 : ¬ (0 : Int) < (i : Int) := by omega
        refine AWp.of_awpD [] hΓ hmix (by kernel_rfl) ?_
        simp -implicitDefEqProofs only [hi0, go_sem]
        rw [if_pos h0, if_pos h0]
        rw [hu0 h0] at hyp
        refine AWp.weak ?_ (hyp () trivial)
        simp [go_sem, weakH_self]
      · have hi0 : (0 : Int) < (i : Int) := by omega
        have hprev : (if i = 0 then [] else wS q S (i - 1)) = wd q (kS S (i - 1)).1 (vS q S (i - 1)) := by rw [if_neg h0]; rfl
        have hl1 := kS_32 hq hSs hS32 (i := i - 1) (by omega)
        have hv := vS_next (q := q) (S := S) hq hSs hS32 (i := i - 1) (by omega) (by rw [hkr]; exact hk)
        rw [if_neg h0, hprev]
        have hue1 := hu1 (by omega)
        have hull : u.length = (kS S (i - 1)).1 := by rw [hue1, wd_len]
        refine AWp.seq (AWp.of_awpD [] hΓ hmix (by kernel_rfl) ?_)
        simp -implicitDefEqProofs only [hi0, go_sem]
        refine AWp.freeze 6 rfl ?_
        refine AWp.of_awpD [] hΓ hmix (by kernel_rfl) ?_
        simp -implicitDefEqProofs only [Frozen, hi0, AV.thaw, AV.thaw.thawL, AObj.thaw, List.map_cons, List.map_nil, List.set_cons_zero, List.set_cons_succ, go_sem]
        refine callK_ac (c57 q (kS S (i - 1)).1 (vS q S (i - 1)) hq hq16 (by omega) (by omega) hv) (by simp) ?_
        rintro v' h' ⟨rfl, rfl⟩
        simp -implicitDefEqProofs only [killAll, List.foldl, go_sem]
        refine AWp.swap 6 8 rfl rfl (by simp) (by simp) ?_
        rw [← hue1, ← hull]
        refine AWp.weakD ?_ ?_ (hyp () trivial)
        · simp [go_sem, AV.sw, AV.sw.swL, AObj.sw, weakH_self, weakD_nil, swN]
        · simp [BelowAll, mkF, AV.blw, AV.blw.blwL, blwH, AObj.blw]
    · rintro _ -
      refine AWp.seq (AWp.of_awpD [] hΓ hmix (by kernel_rfl) ?_)
      simp -implicitDefEqProofs only [go_sem]
      refine AWp.loopI (fun k : Nat => ⟨mkF 112 [(0, .p (.int .i64 q)), (4, .ptr 0 0), (6, .p (.int .i64 0)), (12, .ptr 3 0), (13, .own 4 ns.length), (14, .own 6 (u.length + k)), (15, .p (.int .i64 i)), (16, .ptr 7 0), (76, .p (.sl (S.map plV))), (77, .p (.int .i64 S.length)), (78, .p (.int .i64 i))],
        [.box [.p (.int .i64 0), .full []], .dead, .dead, .box [.p (.int .i64 q), .own 5 i], .row 3 1 ((idxS S ns.length i).map Kn.nV) .own, .row 9 1 ((wordsS q S i).map .str) .lax, .row 5 1 ((u ++ List.replicate k (Kn.ltr 0)).map byV) .lax, .box [.p (.int .i64 (kS S i).1), .p (.int .i64 (kS S i).2)]]⟩)
        (fun k => u.length + k ≤ (kS S i).1) (fun k => (kS S i).1 - k) 0 (by simp [go_sem, weakH_self]) (by omega) ?_
      intro k hk5
      refine AWp.of_awpD [] hΓ hmix (by kernel_rfl) ?_
      by_cases hlk : u.length + k < (kS S i).1
      · have hlk' : ((u.length + k : Nat) : Int) < ((kS S i).1 : Int) := by omega
        have hb0 : PV.int IntKind.u8 (([48, 49, 50, 51, 52, 53, 54, 55, 56, 57, 97, 98, 99, 100, 101, 102] : List UInt8).getD (Int.toNat 0) 0).toNat = byV (Kn.ltr 0) := rfl
        have hs1 : sizeOK [byV (Kn.ltr 0)] 1 := by simp [sizeOK, byV, PV.cells]
        have ho1 : oneOK [byV (Kn.ltr 0)] := by simp [oneOK, byV, PV.cells, PV.isAgg]
        simp -implicitDefEqProofs only [hlk', go_sem]
        rw [hb0]
        refine ⟨by omega, ⟨hs1, by omega⟩, ⟨hs1, ho1⟩, ⟨by simp, by omega, by omega⟩, k + 1, ⟨rfl, .inr ?_⟩, by omega, by omega⟩
        rw [List.replicate_succ', ← List.append_assoc, List.map_append]
        simp
      · have hlk' : ¬ ((u.length + k : Nat) : Int) < ((kS S i).1 : Int) := by omega
        have hkk : k = (kS S i).1 - u.length := by omega
        subst hkk
        rw [hue, show u.length + ((kS S i).1 - u.length) = (kS S i).1 by omega]
        simp -implicitDefEqProofs only [Int.lt_irrefl, Nat.lt_irrefl, go_sem]
        refine AWp.seq (AWp.of_awpD [] hΓ hmix (by kernel_rfl) ?_)
        simp -implicitDefEqProofs only [go_sem]
        have hil := idxS_len S ns.length i
        refine ⟨hix, ⟨by omega, rfl⟩, ?_⟩
        have hsi : ((idxS S ns.length i).map Kn.nV).set (kS S i).2 (PV.int .i64 (i : Int)) = (idxS S ns.length (i + 1)).map Kn.nV := by
          rw [show idxS S ns.length (i + 1) = (idxS S ns.length i).set (kS S i).2 i from rfl, List.map_set]; rfl
        rw [hsi]
        have hws := wordsS_succ q S i
        have hwl : (wordsS q S i).length = i := by unfold wordsS; simp
        have hs1 : sizeOK [PV.str (wS q S i)] 1 := by simp [sizeOK, PV.cells]
        have ho1 : oneOK [PV.str (wS q S i)] := by simp [oneOK, PV.cells, PV.isAgg]
        refine AWp.of_awpD [] hΓ hmix (by kernel_rfl) ?_
        simp -implicitDefEqProofs only [go_sem]
        refine ⟨⟨5, rfl, rfl⟩, wS q S i, rfl, ⟨hs1, by omega⟩, ⟨hs1, ho1⟩, ⟨by simp, by omega, by omega⟩, ?_⟩
        refine AWp.of_awpD [] hΓ hmix (by kernel_rfl) ?_
        simp -implicitDefEqProofs only [List.set_cons_zero, List.set_cons_succ, go_sem]
        refine ⟨by simp only [InR]; omega, i + 1, ?_, hlt, by omega⟩
        have hi1 : ¬ i + 1 = 0 := by omega
        rw [hws]
        simp [weakD_nil, hi1, Nat.add_sub_cancel]
        done
  have hiS : i = S.length := by omega
  refine AWp.seq (AWp.of_awpD [] hΓ hmix (by kernel_rfl) ?_)
  simp -implicitDefEqProofs only [hlt, go_sem]
  refine AWp.of_awpD [] hΓ hmix (by kernel_rfl) ?_
  simp -implicitDefEqProofs only [go_sem]
  rw [hiS, hSl]
  exact ⟨rfl, rfl⟩
end Go.Proofs.YtaphjgjhpmmkmaaGreat
end

section
namespace Go.Proofs.YtaphjgjhpmmkmaaGreat
open Go Go.AM
set_option maxRecDepth 100000
set_option linter.unusedSimpArgs false

theorem wd_alph {q : Nat} (hq : 0 < q) : ∀ n v, Kn.Alph q (wd q n v)
  | 0, _ => fun b hb => by cases hb
  | n + 1, v => fun b hb => by
    unfold wd at hb
    rcases List.mem_append.1 hb with h | h
    · exact wd_alph hq n _ b h
    · exact ⟨v % q, Nat.mod_lt _ hq, List.mem_singleton.1 h⟩
theorem wd_inj {q : Nat} (hq : 0 < q) (hq16 : q ≤ 16) : ∀ {n v u : Nat}, v < q ^ n → u < q ^ n → wd q n v = wd q n u → v = u
  | 0, v, u, hv, hu, _ => by simp at hv hu; omega
  | n + 1, v, u, hv, hu, h => by
    unfold wd at h
    have h1 := List.append_inj h (by rw [wd_len, wd_len])
    have h2 := wd_inj hq hq16 (Nat.div_lt_of_lt_mul (by rw [Nat.mul_comm, ← Nat.pow_succ]; exact hv)) (Nat.div_lt_of_lt_mul (by rw [Nat.mul_comm, ← Nat.pow_succ]; exact hu)) h1.1
    have h3 : v % q = u % q := Kn.ltr_inj (by have := Nat.mod_lt v hq; omega) (by have := Nat.mod_lt u hq; omega) (by simpa using h1.2)
    rw [← Nat.div_add_mod v q, ← Nat.div_add_mod u q, h2, h3]
theorem wd_take {q : Nat} : ∀ {n m v : Nat}, m ≤ n → (wd q n v).take m = wd q m (v / q ^ (n - m))
  | 0, m, v, h => by have : m = 0 := by omega
                     subst this; rfl
  | n + 1, m, v, h => by
    by_cases he : m = n + 1
    · subst he; rw [Nat.sub_self, Nat.pow_zero, Nat.div_one, List.take_of_length_le (by rw [wd_len]; exact Nat.le_refl _)]
    · show (wd q n (v / q) ++ [Kn.ltr (v % q)]).take m = _
      rw [List.take_append_of_le_length (by rw [wd_len]; omega), wd_take (show m ≤ n by omega), Nat.div_div_eq_div_mul, ← Nat.pow_succ', show (n - m).succ = n + 1 - m by omega]

theorem bLt_left {x y : List UInt8} : ∀ {a b : List UInt8}, a.length = b.length → bLt a b = true → bLt (a ++ x) (b ++ y) = true
  | [], [], _, h => by cases h
  | u :: a, v :: b, hl, h => by
    rw [List.cons_append, List.cons_append, bLt_cons]
    rcases (bLt_cons u v a b).1 h with h1 | ⟨h1, h2⟩
    · exact .inl h1
    · exact .inr ⟨h1, bLt_left (by simpa using hl) h2⟩
theorem bLt_same {x y : List UInt8} (h : bLt x y = true) : ∀ a : List UInt8, bLt (a ++ x) (a ++ y) = true
  | [] => h
  | u :: a => by rw [List.cons_append, List.cons_append, bLt_cons]; exact .inr ⟨rfl, bLt_same h a⟩
theorem ltr_lt {a b : Nat} (hb : b < 16) (h : a < b) : (Kn.ltr a).toNat < (Kn.ltr b).toNat := by
  have key : ∀ a : Fin 16, ∀ b : Fin 16, a.val < b.val → (L16.getD a.val 0).toNat < (L16.getD b.val 0).toNat := by decide
  exact key ⟨a, by omega⟩ ⟨b, hb⟩ h
theorem wd_lt {q : Nat} (hq : 0 < q) (hq16 : q ≤ 16) : ∀ {n v u : Nat}, u < q ^ n → v < u → bLt (wd q n v) (wd q n u) = true
  | 0, v, u, hu, h => by simp at hu; omega
  | n + 1, v, u, hu, h => by
    show bLt (wd q n (v / q) ++ [Kn.ltr (v % q)]) (wd q n (u / q) ++ [Kn.ltr (u % q)]) = true
    have hle : v / q ≤ u / q := Nat.div_le_div_right (by omega)
    by_cases he : v / q = u / q
    · rw [he]
      refine bLt_same ?_ _
      rw [bLt_cons]
      have h1 := Nat.div_add_mod v q
      have h2 := Nat.div_add_mod u q
      rw [he] at h1
      exact .inl (ltr_lt (by have := Nat.mod_lt u hq; omega) (by omega))
    · exact bLt_left (by rw [wd_len, wd_len]) (wd_lt hq hq16 (Nat.div_lt_of_lt_mul (by rw [Nat.mul_comm, ← Nat.pow_succ]; exact hu)) (by omega))

theorem tS_step {q : Nat} {S : List (Nat × Nat)} {i j : Nat} (hij : i < j) (hj : j ≤ S.length) : tS q S i + q ^ (32 - (kS S i).1) ≤ tS q S j := by
  rw [← tS_succ (by omega)]
  exact tS_le (by omega) hj

section
variable {q : Nat} {S : List (Nat × Nat)} (hq : 2 ≤ q) (hq16 : q ≤ 16) (hS : S.Pairwise keyL) (h32 : ∀ p ∈ S, 1 ≤ p.1 ∧ p.1 ≤ 32) (hk : tS q S S.length ≤ q ^ 32)
include hq hS h32 hk
theorem vS_lt {i : Nat} (hi : i < S.length) : vS q S i < q ^ (kS S i).1 := by have := vS_room hq hS h32 hi hk; omega
include hq16
theorem wS_lt {i j : Nat} (hij : i < j) (hj : j < S.length) : ltW (wS q S i) (wS q S j) := by
  have hm := kS_mono hq hS h32 (show i ≤ j by omega) hj
  unfold ltW wS
  rw [wd_len, wd_len]
  by_cases he : (kS S i).1 = (kS S j).1
  · right
    refine ⟨he, ?_⟩
    rw [he]
    refine wd_lt (by omega) hq16 (vS_lt hq hS h32 hk hj) ?_
    have hp : 0 < q ^ (32 - (kS S j).1) := Nat.pow_pos (by omega)
    refine Nat.lt_of_mul_lt_mul_right (a := q ^ (32 - (kS S j).1)) ?_
    have h1 := vS_mul hq hS h32 (show i < S.length by omega)
    rw [he] at h1
    have h2 := tS_step (q := q) (S := S) hij (by omega)
    rw [he] at h2
    rw [h1, vS_mul hq hS h32 hj]
    omega
  · left; omega
theorem wS_free {i j : Nat} (hi : i < S.length) (hj : j < S.length) (h : wS q S i <+: wS q S j) : i = j := by
  have hl := h.length_le
  unfold wS at h hl
  rw [wd_len, wd_len] at hl
  have h1 := List.prefix_iff_eq_take.1 h
  rw [wd_len, wd_take hl] at h1
  have hpm : 0 < q ^ ((kS S j).1 - (kS S i).1) := Nat.pow_pos (by omega)
  have hvj := vS_lt hq hS h32 hk hj
  have hb := (kS_32 hq hS h32 hj).2
  have hdiv : vS q S j / q ^ ((kS S j).1 - (kS S i).1) < q ^ (kS S i).1 := Nat.div_lt_of_lt_mul (by rw [← Nat.pow_add, show (kS S j).1 - (kS S i).1 + (kS S i).1 = (kS S j).1 by omega]; exact hvj)
  have hv := wd_inj (by omega) hq16 (vS_lt hq hS h32 hk hi) hdiv h1
  have hi1 := vS_mul hq hS h32 hi
  have hj1 := vS_mul hq hS h32 hj
  have hlo : vS q S i * q ^ ((kS S j).1 - (kS S i).1) ≤ vS q S j := by rw [hv]; exact Nat.div_mul_le_self _ _
  have hhi : vS q S j < (vS q S i + 1) * q ^ ((kS S j).1 - (kS S i).1) := by
    rw [hv, Nat.add_mul, Nat.one_mul]
    have := Nat.div_add_mod (vS q S j) (q ^ ((kS S j).1 - (kS S i).1))
    have h3 := Nat.mod_lt (vS q S j) hpm
    rw [Nat.mul_comm] at this
    omega
  have hp2 : 0 < q ^ (32 - (kS S j).1) := Nat.pow_pos (by omega)
  have e : q ^ ((kS S j).1 - (kS S i).1) * q ^ (32 - (kS S j).1) = q ^ (32 - (kS S i).1) := by rw [← Nat.pow_add]; congr 1; omega
  have hlo2 : tS q S i ≤ tS q S j := by
    rw [← hi1, ← hj1, ← e, ← Nat.mul_assoc]; exact Nat.mul_le_mul_right _ hlo
  have hhi2 : tS q S j < tS q S i + q ^ (32 - (kS S i).1) := by
    have := Nat.mul_lt_mul_of_pos_right hhi hp2
    rw [Nat.mul_assoc, e, Nat.add_mul, Nat.one_mul, hi1, hj1] at this
    exact this
  rcases Nat.lt_trichotomy i j with h4 | h4 | h4
  · have := tS_step (q := q) (S := S) h4 (by omega); omega
  · exact h4
  · have := tS_step (q := q) (S := S) h4 (by omega)
    have hp3 : 0 < q ^ (32 - (kS S j).1) := hp2
    omega
theorem words_check (h0 : 0 < S.length) (h64 : S.length ≤ 64) : codeCheck (q : Int) (wordsS q S S.length) = 0 := by
  refine check_of (by omega) (by omega) (fun e => ?_) (by unfold wordsS; simp; omega) (fun x hx => ?_) ?_
  · have : (wordsS q S S.length).length = 0 := by rw [e]; rfl
    unfold wordsS at this
    rw [List.length_map, List.length_range] at this
    omega
  · unfold wordsS at hx
    obtain ⟨i, hi, rfl⟩ := List.mem_map.1 hx
    have hi := List.mem_range.1 hi
    have hl := kS_32 hq hS h32 hi
    have hw : (wS q S i).length = (kS S i).1 := wd_len _ _ _
    refine ⟨fun e => ?_, by omega, word_of (by omega) hq16 (by omega) (wd_alph (by omega) _ _)⟩
    rw [e] at hw; simp at hw; omega
  · refine List.pairwise_iff_getElem.2 fun i j hi hj hij => ?_
    unfold wordsS at hi hj ⊢
    simp at hi hj
    simp only [List.getElem_map, List.getElem_range]
    exact wS_lt hq hq16 hS h32 hk hij (by omega)
theorem words_pref : prefB (wordsS q S S.length) = true := by
  refine pref_of ?_ fun x hx y hy h => ?_
  · refine List.pairwise_iff_getElem.2 fun i j hi hj hij e => ?_
    unfold wordsS at hi hj e
    simp at hi hj
    simp only [List.getElem_map, List.getElem_range] at e
    have := wS_free hq hq16 hS h32 hk (i := i) (j := j) (by omega) (by omega) (by rw [e]; exact List.prefix_refl _)
    omega
  · unfold wordsS at hx hy
    obtain ⟨i, hi, rfl⟩ := List.mem_map.1 hx
    obtain ⟨j, hj, rfl⟩ := List.mem_map.1 hy
    rw [wS_free hq hq16 hS h32 hk (List.mem_range.1 hj) (List.mem_range.1 hi) (List.isPrefixOf_iff_prefix.1 h)]
end

/-- The places' numbers are all different. -/
theorem srt_snd {ns : List Nat} {j k : Nat} (hj : j < ns.length) (hk : k < ns.length) (h : (kS (srtP ns ns.length) j).2 = (kS (srtP ns ns.length) k).2) : j = k := by
  have hl := srtP_len ns ns.length
  have hs := srtP_sorted ns ns.length
  rw [kS_at (by omega), kS_at (by omega)] at h
  have h1 := (mem_srtP.1 (List.getElem_mem (l := srtP ns ns.length) (show j < (srtP ns ns.length).length by omega))).2
  have h2 := (mem_srtP.1 (List.getElem_mem (l := srtP ns ns.length) (show k < (srtP ns ns.length).length by omega))).2
  rw [h] at h1
  rcases Nat.lt_trichotomy j k with h3 | h3 | h3
  · have := List.pairwise_iff_getElem.1 hs j k (by omega) (by omega) h3
    unfold keyL at this; omega
  · exact h3
  · have := List.pairwise_iff_getElem.1 hs k j (by omega) (by omega) h3
    unfold keyL at this; omega
theorem idx_at {ns : List Nat} : ∀ (m : Nat), m ≤ ns.length → ∀ j, j < m → (idxS (srtP ns ns.length) ns.length m)[(kS (srtP ns ns.length) j).2]? = some j
  | 0, _, j, h => by omega
  | m + 1, hm, j, h => by
    have hl := srtP_len ns ns.length
    have h2 := (mem_srtP.1 (List.getElem_mem (l := srtP ns ns.length) (show j < (srtP ns ns.length).length by omega))).1
    rw [← kS_at (S := srtP ns ns.length) (by omega)] at h2
    show ((idxS (srtP ns ns.length) ns.length m).set (kS (srtP ns ns.length) m).2 m)[(kS (srtP ns ns.length) j).2]? = some j
    by_cases he : j = m
    · subst he
      rw [List.getElem?_set_self (by rw [idxS_len]; exact h2)]
    · rw [List.getElem?_set_ne (fun e => he (srt_snd (by omega) (by omega) e.symm)), idx_at m (by omega) j (by omega)]
/-- Where the word of a length stands. -/
theorem idx_of {ns : List Nat} {i : Nat} (hi : i < ns.length) : ∃ k, k < ns.length ∧ (idxS (srtP ns ns.length) ns.length ns.length)[i]? = some k ∧ (kS (srtP ns ns.length) k).2 = i ∧ (kS (srtP ns ns.length) k).1 = ns[i] := by
  have hl := srtP_len ns ns.length
  have hm : (ns.getD i 0, i) ∈ srtP ns ns.length := mem_srtP.2 ⟨hi, rfl⟩
  obtain ⟨k, hk, he⟩ := List.getElem_of_mem hm
  have hks : kS (srtP ns ns.length) k = (ns.getD i 0, i) := by rw [kS_at hk, he]
  refine ⟨k, by omega, ?_, by rw [hks], ?_⟩
  · have := idx_at ns.length (Nat.le_refl _) k (by omega)
    rw [hks] at this
    exact this
  · rw [hks, List.getD_eq_getElem?_getD, List.getElem?_eq_getElem hi, Option.getD_some]
end Go.Proofs.YtaphjgjhpmmkmaaGreat
end

section
namespace Go.Proofs.YtaphjgjhpmmkmaaGreat
open Go Go.AM
set_option maxRecDepth 100000
set_option maxHeartbeats 4000000
set_option linter.unusedSimpArgs false

/-- slices.Equal of words. -/
theorem e24 (a b : List (List UInt8)) (hl : a.length ≤ 9223372036854775807) : PFn Tryz.prog 16 [.sl (a.map .str), .sl (b.map .str)] [.bool (decide (a = b))] := by
  refine PFn.of_body hΓ Tryz.func16 (by kernel_rfl) rfl (AWp.of_awpD [] hΓ hmix (by kernel_rfl) ?_)
  simp -implicitDefEqProofs only [Tryz.ntmps16, Tryz.results16, Nat.reduceAdd, Nat.reduceSub, go_sem]
  by_cases he : a.length = b.length
  rotate_left
  · simp -implicitDefEqProofs only [he, go_sem]
    exact (decide_eq_false fun e : a = b => he (by rw [e])).symm
  simp -implicitDefEqProofs only [he, go_sem]
  refine AWp.loopI (fun k : Nat => ⟨mkF 26 [(0, .p (.sl (a.map .str))), (1, .p (.sl (b.map .str))), (4, .p (.bool false)), (12, .p (.int .i64 b.length)), (13, .p (.int .i64 k))], []⟩)
    (fun k => k ≤ a.length ∧ a.take k = b.take k) (fun k => a.length - k) 0 (by simp [go_sem]) (by simp) ?_
  rintro k ⟨hk, heq⟩
  refine AWp.of_awpD [(6, 9)] hΓ hmix (by kernel_rfl) ?_
  by_cases hlt : k < a.length
  · have hltb : k < b.length := by omega
    by_cases hk' : a[k] = b[k]
    · simp -implicitDefEqProofs only [hlt, hltb, getD_map_lt, ↓reduceIte, hk', go_sem]
      refine ⟨by simp only [InR]; omega, k + 1, by simp, ⟨hlt, ?_⟩, by omega⟩
      rw [List.take_succ_eq_append_getElem hlt, List.take_succ_eq_append_getElem (by omega), heq, hk']
    · simp -implicitDefEqProofs only [hlt, hltb, getD_map_lt, ↓reduceIte, hk', go_sem]
      exact (decide_eq_false fun e : a = b => hk' (by subst e; rfl)).symm
  · have hltb : ¬ k < b.length := by omega
    simp -implicitDefEqProofs only [hlt, hltb, go_sem]
    rw [List.take_of_length_le (by omega), List.take_of_length_le (by omega)] at heq
    exact (decide_eq_true heq).symm
end Go.Proofs.YtaphjgjhpmmkmaaGreat
end

section
namespace Go.Proofs.YtaphjgjhpmmkmaaGreat
open Go Go.AM
set_option maxRecDepth 100000
set_option maxHeartbeats 4000000
set_option linter.unusedSimpArgs false

/-- What is left behind a beginning. -/
def cutW (w x : List UInt8) : List UInt8 := if x.isPrefixOf w then w.drop x.length else w
theorem t51 (w x : List UInt8) : PFn Tryz.prog 167 [.str w, .str x] [.str (cutW w x), .bool (x.isPrefixOf w)] := by
  refine PFn.of_body hΓ Tryz.func167 (by kernel_rfl) rfl (AWp.of_awpD [] hΓ hmix (by kernel_rfl) ?_)
  simp +contextual -implicitDefEqProofs only [Tryz.ntmps167, Tryz.results167, Nat.reduceAdd, Nat.reduceSub, go_sem]
  refine callK_fn (t85 w x) (.pures rfl) ?_
  cases hp : x.isPrefixOf w
  · simp -implicitDefEqProofs only [go_sem]
    unfold cutW; rw [if_neg (by rw [hp]; simp)]
  · simp -implicitDefEqProofs only [go_sem]
    exact ⟨(List.isPrefixOf_iff_prefix.1 hp).length_le, by unfold cutW; rw [if_pos hp]⟩

theorem t20 (w x : List UInt8) : PFn Tryz.prog 149 [.str w, .str x] [.str (cutW w x), .bool (x.isPrefixOf w)] := by
  refine PFn.of_body hΓ Tryz.func149 (by kernel_rfl) rfl (AWp.of_awpD [] hΓ hmix (by kernel_rfl) ?_)
  simp +contextual -implicitDefEqProofs only [Tryz.ntmps149, Tryz.results149, Nat.reduceAdd, Nat.reduceSub, go_sem]
  refine callK_fn (t51 w x) (.pures rfl) ?_
  simp +contextual -implicitDefEqProofs only [go_sem]

theorem c52 {h : List AObj} (q : Int) (ws : List (List UInt8)) : AC Tryz.prog 123 [.agg [.p (.int .i64 q), .p (.sl (ws.map .str))]] h [] (fun v h' => v = .fn 148 [.ptr h.length 0] ∧ h' = h ++ [codeB q ws]) := by
  refine AC.of_bodyE hΓ Tryz.func123 (by kernel_rfl) rfl (AWp.mono (Q := fun e st => AM.Ends e ∧ st.tmps.getD 2 .junk = .fn 148 [.ptr h.length 0] ∧ st.h = h ++ [codeB q ws]) ?_ ?_)
  rotate_left
  · rintro e ⟨tm, h'⟩ ⟨he, h1, h2⟩
    simp only at h1 h2
    subst h2
    refine ⟨he, _, Less.refl _, ?_⟩
    unfold DoneE
    simp +contextual -implicitDefEqProofs only [Tryz.results123, h1, go_sem]
    exact ⟨h.length + 1, by omega, .inl (by simp), List.take_of_length_le (by simp)⟩
  refine AWp.of_awpD [] hΓ hmix (by kernel_rfl) ?_
  simp +contextual -implicitDefEqProofs only [Tryz.ntmps123, Nat.reduceAdd, Nat.reduceSub, codeB, go_sem]

/-- No word of the code begins another one. -/
def Alone (ws : List (List UInt8)) : Prop := ∀ x ∈ ws, ∀ y ∈ ws, y.isPrefixOf x = true → x = y
/-- The loop over firsts finds nothing. -/
theorem c148 {h : List AObj} {b c : Nat} (q : Int) (ws : List (List UInt8)) (hws : ws.length ≤ 1000) (ha : Alone ws) (hb0 : h[c]? = some (codeB q ws)) :
    AC Tryz.prog 148 [.yld b, .ptr c 0] h [] (fun _ h' => h' = h) := by
  refine AC.of_bodyE hΓ Tryz.func148 (by kernel_rfl) rfl (AWp.mono (Q := fun e st => AM.Ends e ∧ st.h = h) ?_ ?_)
  rotate_left
  · rintro e ⟨tm, h'⟩ ⟨he, h2⟩
    simp only at h2
    subst h2
    refine ⟨he, _, Less.refl _, ?_⟩
    unfold DoneE
    simp +contextual -implicitDefEqProofs only [Tryz.results148, go_sem]
    exact ⟨_, Nat.le_refl _, .inl rfl, List.take_length⟩
  refine AWp.of_awpD [] hΓ hmix (by kernel_rfl) ?_
  simp -implicitDefEqProofs only [Tryz.ntmps148, Nat.reduceAdd, Nat.reduceSub, hb0, codeB, go_sem]
  refine AWp.loopI (fun i : Nat => ⟨mkF 43 [(0, .yld b), (1, .ptr c 0), (10, .p (.sl (ws.map .str))), (11, .p (.int .i64 ws.length)), (12, .p (.int .i64 i))], h⟩)
    (fun i => i ≤ ws.length) (fun i => ws.length - i) 0 (by simp [go_sem, weakH_self]) (Nat.zero_le _) ?_
  intro i hi
  refine AWp.of_awpD [] hΓ hmix (by kernel_rfl) ?_
  by_cases hlt : i < ws.length
  rotate_left
  · simp -implicitDefEqProofs only [hlt, hb0, codeB, go_sem]
  simp -implicitDefEqProofs only [hlt, hb0, getD_map_lt, ↓reduceIte, codeB, go_sem]
  refine AWp.loopI (fun k : Nat => ⟨mkF 43 [(0, .yld b), (1, .ptr c 0), (4, .p (.str ws[i])), (10, .p (.sl (ws.map .str))), (11, .p (.int .i64 ws.length)), (12, .p (.int .i64 i)), (17, .p (.sl (ws.map .str))), (18, .p (.int .i64 ws.length)), (19, .p (.int .i64 k))], h⟩)
    (fun k => k ≤ ws.length) (fun k => ws.length - k) 0 (by simp [go_sem, weakH_self]) (Nat.zero_le _) ?_
  intro k hk
  refine AWp.of_awpD [] hΓ hmix (by kernel_rfl) ?_
  by_cases hlt2 : k < ws.length
  rotate_left
  · simp -implicitDefEqProofs only [hlt2, go_sem]
    exact ⟨by simp only [InR]; omega, i + 1, by simp [weakH_self], hlt, by omega⟩
  simp -implicitDefEqProofs only [hlt2, getD_map_lt, ↓reduceIte, go_sem]
  refine callK_fn (t20 ws[k] ws[i]) (.pures rfl) ?_
  have next : ∃ y : Nat, ((y : Int) = (k : Int) + 1 ∧ weakH h h = true) ∧ y ≤ ws.length ∧ ws.length - y < ws.length - k := ⟨k + 1, ⟨by simp, by simp [weakH_self]⟩, hlt2, by omega⟩
  cases hp : ws[i].isPrefixOf ws[k]
  · simp -implicitDefEqProofs only [go_sem]
    exact ⟨by simp only [InR]; omega, k + 1, by simp [weakH_self], hlt2, by omega⟩
  · have he : cutW ws[k] ws[i] = [] := by
      have := ha _ (List.getElem_mem hlt2) _ (List.getElem_mem hlt) hp
      unfold cutW
      rw [if_pos hp, this]; simp
    simp -implicitDefEqProofs only [he, go_sem]
    exact ⟨by simp only [InR]; omega, k + 1, by simp [weakH_self], hlt2, by omega⟩

theorem cm79 (a : List (List UInt8)) (x : List UInt8) (hl : a.length ≤ 9223372036854775807) : PFn Tryz.prog 45 [.sl (a.map .str), .str x] [.int .i64 (if x ∈ a then (a.idxOf x : Int) else -1)] := by
  refine PFn.of_body hΓ Tryz.func45 (by kernel_rfl) rfl (AWp.of_awpD [] hΓ hmix (by kernel_rfl) ?_)
  simp -implicitDefEqProofs only [Tryz.ntmps45, Tryz.results45, Nat.reduceAdd, Nat.reduceSub, go_sem]
  refine AWp.loopI (fun k : Nat => ⟨mkF 19 [(0, .p (.sl (a.map .str))), (1, .p (.str x)), (4, .p (.int .i64 0)), (7, .p (.int .i64 a.length)), (8, .p (.int .i64 k))], []⟩)
    (fun k => k ≤ a.length ∧ x ∉ a.take k) (fun k => a.length - k) 0 (by simp [go_sem, weakH_self]) (by simp) ?_
  rintro k ⟨hk, h0⟩
  refine AWp.of_awpD [] hΓ hmix (by kernel_rfl) ?_
  by_cases hlt : k < a.length
  · have hlt' : (k : Int) < (a.length : Int) := by omega
    have hg : (a.map PV.str).getD k default = .str a[k] := getD_map_lt _ _ _ _ hlt
    have htk : a.take (k + 1) = a.take k ++ [a[k]] := by rw [List.take_succ_eq_append_getElem hlt]
    by_cases he : x = a[k]
    · simp -implicitDefEqProofs only [hlt', hg, Int.toNat_natCast, he, List.length_map, go_sem]
      have hx : x ∈ a := he ▸ List.getElem_mem hlt
      have hi : a.idxOf x = k := by
        conv => lhs; rw [← List.take_append_drop k a, List.idxOf_append, if_neg h0]
        rw [List.drop_eq_getElem_cons hlt, he, List.idxOf_cons_self, List.length_take]
        omega
      rw [← he, if_pos hx, hi]
    · simp -implicitDefEqProofs only [hlt', hg, Int.toNat_natCast, he, List.length_map, go_sem]
      have h2 : x ∉ a.take (k + 1) := by
        rw [htk]; simp only [List.mem_append, List.mem_singleton]
        exact fun h => h.elim h0 he
      exact ⟨by simp only [InR]; omega, k + 1, by simp, ⟨hlt, h2⟩, by omega⟩
  · have hlt' : ¬ (k : Int) < (a.length : Int) := by omega
    rw [List.take_of_length_le (by omega)] at h0
    rw [if_neg h0]
    simp -implicitDefEqProofs only [hlt', go_sem]
theorem cm32 (a : List (List UInt8)) (x : List UInt8) (hl : a.length ≤ 9223372036854775807) : PFn Tryz.prog 21 [.sl (a.map .str), .str x] [.bool (decide (x ∈ a))] := by
  have e := cm79 a x hl
  by_cases hx : x ∈ a
  · rw [if_pos hx] at e
    refine PFn.of_body hΓ Tryz.func21 (by kernel_rfl) rfl (AWp.of_awpD [] hΓ hmix (by kernel_rfl) ?_)
    simp -implicitDefEqProofs only [Tryz.ntmps21, Tryz.results21, Nat.reduceAdd, Nat.reduceSub, go_sem]
    refine callK_fn e (.pures rfl) ?_
    simp -implicitDefEqProofs only [hx, go_sem]
    try simp
  · rw [if_neg hx] at e
    refine PFn.of_body hΓ Tryz.func21 (by kernel_rfl) rfl (AWp.of_awpD [] hΓ hmix (by kernel_rfl) ?_)
    simp -implicitDefEqProofs only [Tryz.ntmps21, Tryz.results21, Nat.reduceAdd, Nat.reduceSub, go_sem]
    refine callK_fn e (.pures rfl) ?_
    simp -implicitDefEqProofs only [hx, go_sem]
    try simp
theorem d93 (q : Int) (ws : List (List UInt8)) (hws : ws.length ≤ 1000) (ha : Alone ws) : PFn Tryz.prog 93 [codeV q ws] [.sl []] := by
  refine PFn.of_body hΓ Tryz.func93 (by kernel_rfl) rfl (AWp.of_awpD [(11, 5)] hΓ hmix (by kernel_rfl) ?_)
  simp -implicitDefEqProofs only [Tryz.ntmps93, Tryz.results93, Nat.reduceAdd, Nat.reduceSub, codeV, List.map_cons, List.map_nil, go_sem]
  refine callK_ac (c52 q ws) (by simp) ?_
  rintro v h' ⟨rfl, rfl⟩
  simp -implicitDefEqProofs only [killAll, List.foldl, codeB, List.cons_append, List.nil_append, go_sem]
  refine AWp.adoptBox (l := []) 3 9 1 rfl (by simp) ?_
  simp -implicitDefEqProofs only [List.set_cons_zero, List.set_cons_succ, List.length_cons, List.length_nil, List.cons_append, List.nil_append, Nat.reduceAdd, go_sem]
  rw [show (#[14, 15] : Array Nat) = [14, 15].toArray from rfl]
  refine AWp.rangeFunc (ks := []) rfl (c148 q ws hws ha rfl) (by simp) (by simp) ?_
  rintro v h' rfl
  unfold RangeK
  simp -implicitDefEqProofs only [killAll, List.foldl, codeB, List.cons_append, List.nil_append, List.length_cons, List.length_nil, Nat.reduceAdd, List.set_cons_zero, List.set_cons_succ, List.getElem?_cons_succ, List.getElem?_cons_zero, go_sem]
  refine AWp.loopI (fun _ : Unit => ⟨mkF 44 [(1, .ptr 0 0), (4, .ptr 3 0), (8, .p (.int .i64 0))], [codeB q ws, .dead, .dead, .box [.own 6 0], .dead, .dead, .row 9 1 [] .lax, .dead]⟩) (fun _ => True) (fun _ => 0) () (by simp [go_sem, codeB, weakH]) trivial ?_
  intro _ _
  refine AWp.of_awpD [(11, 5)] hΓ hmix (by kernel_rfl) ?_
  simp -implicitDefEqProofs only [codeB, show ¬ (0 : Int) < ((0 : Nat) : Int) by decide, Int.lt_irrefl, go_sem]
  refine callK_ac (c83n (b := 6)) (by simp) ?_
  rintro v h' ⟨rfl, rfl⟩
  simp -implicitDefEqProofs only [killAll, List.foldl, go_sem]
  try rfl

theorem d60 (q : Int) (ws : List (List UInt8)) (hws : ws.length ≤ 1000) (ha : Alone ws) : PFn Tryz.prog 60 [codeV q ws] [.bool true] := by
  have e := d93 q ws hws ha
  have e21 := cm32 [] [] (by simp)
  rw [decide_eq_false (by simp), List.map_nil] at e21
  refine PFn.of_body hΓ Tryz.func60 (by kernel_rfl) rfl (AWp.of_awpD [] hΓ hmix (by kernel_rfl) ?_)
  unfold codeV at e
  simp -implicitDefEqProofs only [Tryz.ntmps60, Tryz.results60, Nat.reduceAdd, Nat.reduceSub, codeV, go_sem]
  refine callK_fn e (.still rfl) ?_
  simp -implicitDefEqProofs only [go_sem]
  refine callK_fn e21 (.pures rfl) ?_
  simp -implicitDefEqProofs only [go_sem]
  try rfl

theorem d27 (q : Int) (ws : List (List UInt8)) (hc : codeCheck q ws = 0) (ha : Alone ws) : PFn Tryz.prog 27 [codeV q ws] [.bool true, .int .i64 0] := by
  have hl := (valid_of hc).len
  have e := d60 q ws (by omega) ha
  have e34 := t45 q ws
  rw [hc] at e34
  refine PFn.of_body hΓ Tryz.func27 (by kernel_rfl) rfl (AWp.of_awpD [] hΓ hmix (by kernel_rfl) ?_)
  unfold codeV at e e34
  simp -implicitDefEqProofs only [Tryz.ntmps27, Tryz.results27, Nat.reduceAdd, Nat.reduceSub, codeV, go_sem]
  refine callK_fn e34 (.still rfl) ?_
  simp -implicitDefEqProofs only [go_sem]
  refine callK_fn e (.still rfl) ?_
  simp -implicitDefEqProofs only [go_sem]
end Go.Proofs.YtaphjgjhpmmkmaaGreat
end

section
namespace Go.Proofs.YtaphjgjhpmmkmaaGreat
open Go Go.AM
set_option maxRecDepth 100000
set_option maxHeartbeats 4000000
set_option linter.unusedSimpArgs false

theorem cm14 (q : Nat) (ns : List Nat) (hq : 2 ≤ q) (hq16 : q ≤ 16) (hn : ns.length < 20) (h32 : ∀ n ∈ ns, 1 ≤ n ∧ n ≤ 32) :
    PFn Tryz.prog 25 [.int .i64 q, .sl (ns.map Kn.nV)] [.bool (decide (Kn.krS q ns ≤ q ^ 32)), .int .i64 0] := by
  have e50 := Kn.v50 q ns hq hq16 (by omega) h32
  have hkl := Kn.krS_le hq16 ns
  have hc1 := pow_cap hq16
  have hcap : (ns.length * 16 ^ 32) * 1 < capN := by
    have h2 : ns.length * 16 ^ 32 ≤ 20 * 16 ^ 32 := Nat.mul_le_mul_right _ (by omega)
    have h3 : 20 * 16 ^ 32 < capN := Nat.lt_of_lt_of_le (by decide : 20 * 16 ^ 32 < 256 ^ 18) (Nat.pow_le_pow_right (by decide) (by decide))
    omega
  have hq0 : q ^ 32 ≠ 0 := Nat.pos_iff_ne_zero.1 (Nat.pow_pos (by omega))
  have h1c := Kn.one_cap
  have e58 := Kn.v58
  have e51 := Kn.v51 (Kn.krS q ns) (q ^ 32) 1 1 (by omega) hc1 h1c h1c hq0 (by omega) (by omega) (by omega)
  rw [Nat.mul_one, Nat.one_mul] at e51
  unfold Kn.ratV at e50 e51 e58
  refine PFn.of_body hΓ Tryz.func25 (by kernel_rfl) rfl (AWp.seq (AWp.of_awpD [] hΓ hmix (by kernel_rfl) ?_))
  simp -implicitDefEqProofs only [Tryz.ntmps25, Tryz.results25, Nat.reduceAdd, Nat.reduceSub, go_sem]
  refine AWp.seq (AWp.of_awpD [] hΓ hmix (by kernel_rfl) ?_)
  simp -implicitDefEqProofs only [go_sem]
  refine callK_fn e50 (.pures rfl) ?_
  simp -implicitDefEqProofs only [go_sem]
  refine AWp.of_awpD [(2, 11)] hΓ hmix (by kernel_rfl) ?_
  simp -implicitDefEqProofs only [go_sem]
  refine callVPK_fn e58 (.pures rfl) ?_
  simp -implicitDefEqProofs only [go_sem]
  refine callVPK_fn e51 (.still rfl) ?_
  simp -implicitDefEqProofs only [go_sem]
  by_cases h : Kn.krS q ns ≤ q ^ 32
  · have hc : cmpN (Kn.krS q ns) (q ^ 32) ≤ 0 := by
      by_cases he : Kn.krS q ns = q ^ 32
      · rw [he, cmpN_eq]; decide
      · rw [cmpN_lt (by omega)]; decide
    rw [decide_eq_true h, decide_eq_true hc]
  · rw [cmpN_gt (by omega), decide_eq_false h]
    rfl


theorem words_kr {q : Nat} {S : List (Nat × Nat)} : Kn.krS q ((wordsS q S S.length).map List.length) = tS q S S.length := by
  have e : (wordsS q S S.length).map List.length = S.map Prod.fst := by
    unfold wordsS
    refine List.ext_getElem (by simp) fun i h1 h2 => ?_
    have hi : i < S.length := by simpa using h2
    rw [List.getElem_map, List.getElem_map, List.getElem_range, List.getElem_map, ← kS_at hi]
    exact wd_len _ _ _
  unfold tS Kn.krS
  rw [e, List.take_length, List.map_map]; rfl
theorem aggRn {A B C D : List UInt8} {x y : AV} {K : AV → Prop} (hx : x.pure = some (.agg [.bool false, .str A, .bool false, .str B])) (hy : y.pure = some (.agg [.bool false, .str C, .bool false, .str D]))
    (hK : K (.p (.bool (!(decide (A = C) && decide (B = D)))))) : aggK Γ .neq 33 x y K := by
  have he : ∃ te fs, Γ 33 = some te ∧ te.td = .struct fs ∧ te.eqs = true ∧ eqAgg Γ fs [.bool false, .str A, .bool false, .str B] [.bool false, .str C, .bool false, .str D] =
      some (((false == false) && (decide (A = C) && true)) && (((false == false) && (decide (B = D) && true)) && true)) := ⟨_, _, rfl, rfl, rfl, rfl⟩
  obtain ⟨te, fs, h1, h2, h3, h4⟩ := he
  have e : (((false == false) && (decide (A = C) && true)) && (((false == false) && (decide (B = D) && true)) && true)) = (decide (A = C) && decide (B = D)) := by simp
  rw [e] at h4
  unfold aggK
  rw [hx, hy]
  simp only [tyAt, h1, h2, h3, h4]
  exact ⟨⟨trivial, rfl, rfl⟩, hK⟩

/-- Where an element of a list without repetitions is. -/
theorem idx_uniq {I : List Nat} {i k : Nat} (hi : I[i]? = some k) (hu : ∀ j, I[j]? = some k → j = i) : (k : Int) ∈ I.map (fun x : Nat => (x : Int)) ∧ ((I.map fun x : Nat => (x : Int)).idxOf (k : Int)) = i := by
  have hm : (k : Int) ∈ I.map (fun x : Nat => (x : Int)) := List.mem_map.2 ⟨k, List.mem_of_getElem? hi, rfl⟩
  refine ⟨hm, ?_⟩
  have hlt := List.idxOf_lt_length_of_mem hm
  have hg := List.getElem_idxOf hlt
  rw [List.getElem_map] at hg
  refine hu _ ?_
  rw [List.getElem?_eq_getElem (by simpa using hlt)]
  congr 1
  omega

/-- The lengths that bytes stand for. -/
def lenB (l : List Int) : List Nat := l.map fun x => 1 + (x % 5).toNat
def byI (x : Int) : PV := .int .u8 x

theorem b5 (n : Int) (l : List Int) (hn0 : 0 ≤ n) (hn1 : n ≤ 255) (hll : l.length ≤ 9223372036854775807) (hl0 : ∀ x ∈ l, 0 ≤ x ∧ x ≤ 255) : PFn Tryz.prog 5 [.int .u8 n, .sl (l.map byI)] [.bool true] := by
  refine PFn.of_body hΓ Tryz.func5 (by kernel_rfl) rfl (AWp.seq (AWp.of_awpD [] hΓ hmix (by kernel_rfl) ?_))
  simp -implicitDefEqProofs only [Tryz.ntmps5, Tryz.results5, Nat.reduceAdd, Nat.reduceSub, go_sem]
  refine AWp.seq ?_
  refine AWp.of_awpD [] hΓ hmix (by kernel_rfl) ?_
  by_cases h0 : (l.length : Int) = 0
  · simp -implicitDefEqProofs only [h0, List.length_map, go_sem]
    refine callK_fn awake_ok (.pures rfl) ?_
    simp -implicitDefEqProofs only [go_sem]
  by_cases h6 : (6 : Int) < (l.length : Int)
  · simp -implicitDefEqProofs only [h0, h6, List.length_map, go_sem]
    refine callK_fn awake_ok (.pures rfl) ?_
    simp -implicitDefEqProofs only [go_sem]
  simp -implicitDefEqProofs only [h0, h6, List.length_map, go_sem]
  obtain ⟨q, hq, hq2, hq4⟩ : ∃ q : Nat, 2 + n % 2 = (q : Int) ∧ 2 ≤ q ∧ q ≤ 3 := ⟨(2 + n % 2).toNat, by omega, by omega, by omega⟩
  have hwr : IntKind.i64.wrap (n % 2) = n % 2 := InR.wrap (k := .i64) (by simp only [InR]; omega)
  refine AWp.seq (AWp.of_awpD [] hΓ hmix (by kernel_rfl) ?_)
  simp -implicitDefEqProofs only [hwr, hq, go_sem]
  refine ⟨⟨by omega, by omega⟩, by simp only [InR]; omega, ?_⟩
  refine AWp.seq (AWp.of_awpD [] hΓ hmix (by kernel_rfl) ?_)
  simp -implicitDefEqProofs only [go_sem]
  refine AWp.adopt (l := []) 6 3 1 (by rfl) (by simp) ?_
  simp -implicitDefEqProofs only [go_sem]
  refine AWp.seq (AWp.of_awpD [] hΓ hmix (by kernel_rfl) ?_)
  simp -implicitDefEqProofs only [List.length_map, go_sem]
  refine AWp.loopI (fun i : Nat => ⟨mkF 172 [(1, .p (.sl (l.map byI))), (4, .p (.bool false)), (5, .p (.int .i64 q)), (6, .own 0 (lenB (l.take i)).length), (37, .p (.sl (l.map byI))), (38, .p (.int .i64 l.length)), (39, .p (.int .i64 i))], [.row 3 1 ((lenB (l.take i)).map Kn.nV) .lax]⟩)
    (fun i => i ≤ l.length) (fun i => l.length - i) 0 (by simp [go_sem, lenB]) (by omega) ?_
  intro i hi
  refine AWp.of_awpD [] hΓ hmix (by kernel_rfl) ?_
  by_cases hlt : i < l.length
  · have hgi : (l.map byI).getD i default = .int .u8 l[i] := by rw [getD_map_lt _ _ _ _ hlt]; rfl
    obtain ⟨hx0, hx1⟩ := hl0 l[i] (List.getElem_mem hlt)
    have hwr2 : IntKind.i64.wrap (l[i] % 5) = l[i] % 5 := InR.wrap (k := .i64) (by simp only [InR]; omega)
    have hil : (lenB (l.take i)).length = i := by unfold lenB; rw [List.length_map, List.length_take]; omega
    have hs1 : sizeOK [PV.int .i64 (1 + l[i] % 5)] 1 := by simp [sizeOK, PV.cells]
    have ho1 : oneOK [PV.int .i64 (1 + l[i] % 5)] := by simp [oneOK, PV.cells, PV.isAgg]
    have hsu : lenB (l.take (i + 1)) = lenB (l.take i) ++ [1 + (l[i] % 5).toNat] := by unfold lenB; rw [List.take_succ_eq_append_getElem hlt, List.map_append]; rfl
    have hv : Kn.nV (1 + (l[i] % 5).toNat) = .int .i64 (1 + l[i] % 5) := by unfold Kn.nV; congr 1; omega
    simp -implicitDefEqProofs only [hlt, hgi, Int.toNat_natCast, hwr2, go_sem]
    refine ⟨⟨hx0, by omega⟩, by simp only [InR]; omega, ⟨hs1, by omega⟩, ⟨hs1, ho1⟩, ⟨by omega, by omega⟩, by simp only [InR]; omega, i + 1, ⟨⟨by rw [hsu]; simp, by omega⟩, .inr ?_⟩, hlt, by omega⟩
    rw [hsu, List.map_append, List.map_singleton, hv]
    simp
  have hiL : i = l.length := by omega
  subst hiL
  simp -implicitDefEqProofs only [Nat.lt_irrefl, Int.lt_irrefl, go_sem]
  rw [List.take_length]
  have hnl : (lenB l).length = l.length := List.length_map _
  have hns : ∀ x ∈ lenB l, 1 ≤ x ∧ x ≤ 5 := fun x hx => by
    obtain ⟨y, hy, rfl⟩ := List.mem_map.1 hx
    omega
  generalize lenB l = ns at *
  refine AWp.freeze 0 rfl ?_
  have h32 : ∀ x ∈ ns, 1 ≤ x ∧ x ≤ 32 := fun x hx => by have := hns x hx; omega
  have e26 := cm13 q ns hq2 (by omega) (by omega) (by omega) h32
  have e25 := cm14 q ns hq2 (by omega) (by omega) h32
  unfold flE flV flI at e26
  by_cases hk : Kn.krS q ns ≤ q ^ 32
  rotate_left
  · rw [if_neg hk, if_neg hk, if_neg hk] at e26
    rw [decide_eq_false hk] at e25
    unfold codeV at e26
    refine AWp.seq (AWp.of_awpD [] hΓ hmix (by kernel_rfl) ?_)
    simp -implicitDefEqProofs only [Frozen, go_sem]
    refine callK_fn e25 (.pures rfl) ?_
    simp -implicitDefEqProofs only [go_sem]
    refine AWp.seq (AWp.of_awpD [] hΓ hmix (by kernel_rfl) ?_)
    simp -implicitDefEqProofs only [go_sem]
    refine callK_fn e26 (.pures rfl) ?_
    simp -implicitDefEqProofs only [go_sem]
    refine AWp.seq (AWp.of_awpD [] hΓ hmix (by kernel_rfl) ?_)
    simp -implicitDefEqProofs only [show ¬ (15 : Int) = 0 by decide, show (false != false) = false by decide, go_sem]
    refine AWp.seq (AWp.of_awpD [] hΓ hmix (by kernel_rfl) ?_)
    simp -implicitDefEqProofs only [show ((15 : Int) = 15) = True by simp, decide_true, go_sem]
    refine callK_fn awake_ok (.pures rfl) ?_
    simp -implicitDefEqProofs only [go_sem]
  rw [if_pos hk, if_pos hk, if_pos hk] at e26
  rw [decide_eq_true hk] at e25
  have hSl := srtP_len ns ns.length
  have hS32 : ∀ p ∈ srtP ns ns.length, 1 ≤ p.1 ∧ p.1 ≤ 32 := fun p hp => by
    obtain ⟨h1, h2⟩ := mem_srtP.1 hp
    rw [h2, List.getD_eq_getElem?_getD, List.getElem?_eq_getElem h1, Option.getD_some]
    exact h32 _ (List.getElem_mem h1)
  have hkr : tS q (srtP ns ns.length) (srtP ns ns.length).length ≤ q ^ 32 := by rw [tS_krS]; exact hk
  have hck := words_check hq2 (by omega) (srtP_sorted ns ns.length) hS32 hkr (by omega) (by omega)
  have hpf := words_pref hq2 (by omega) (srtP_sorted ns ns.length) hS32 hkr
  have hkw : Kn.krS q ((wordsS q (srtP ns ns.length) (srtP ns ns.length).length).map List.length) = Kn.krS q ns := by rw [words_kr, tS_krS]
  rw [hSl] at hck hpf hkw
  have e13 := t38 (q : Int) (wordsS q (srtP ns ns.length) ns.length)
  rw [if_pos hck, if_pos hck, show aloneB (fun w x => x.isPrefixOf w) (wordsS q (srtP ns ns.length) ns.length) = true from hpf] at e13
  have e27 := d27 (q : Int) (wordsS q (srtP ns ns.length) ns.length) hck (free_of (strict_nodup (valid_of hck).strict) hpf)
  have e9 := cm28 (q : Int) (wordsS q (srtP ns ns.length) ns.length) hck
  rw [Int.toNat_natCast, hkw] at e9
  have e28 := Kn.v50 q ns hq2 (by omega) (by omega) h32
  obtain ⟨A, B, hAB⟩ : ∃ A B, Kn.ratV (Kn.krS q ns) (q ^ 32) = .agg [.bool false, .str A, .bool false, .str B] := ⟨_, _, rfl⟩
  rw [hAB] at e9 e28
  have hWl : (wordsS q (srtP ns ns.length) ns.length).length = ns.length := by unfold wordsS; simp
  have hWg : ∀ k, k < ns.length → (wordsS q (srtP ns ns.length) ns.length)[k]? = some (wS q (srtP ns ns.length) k) := fun k hk => by
    unfold wordsS
    rw [List.getElem?_map, List.getElem?_range hk]; rfl
  have hIl := idxS_len (srtP ns ns.length) ns.length ns.length
  have hIat := fun i hi => idx_of (ns := ns) (i := i) hi
  have hwlen : ∀ k, (wS q (srtP ns ns.length) k).length = (kS (srtP ns ns.length) k).1 := fun k => wd_len _ _ _
  generalize wS q (srtP ns ns.length) = wf at *
  generalize wordsS q (srtP ns ns.length) ns.length = W at *
  generalize idxS (srtP ns ns.length) ns.length ns.length = I at *
  generalize kS (srtP ns ns.length) = kf at *
  unfold codeV at e26 e13 e27 e9
  refine AWp.seq (AWp.of_awpD [] hΓ hmix (by kernel_rfl) ?_)
  simp -implicitDefEqProofs only [Frozen, go_sem]
  refine callK_fn e25 (.pures rfl) ?_
  simp -implicitDefEqProofs only [go_sem]
  refine AWp.seq (AWp.of_awpD [] hΓ hmix (by kernel_rfl) ?_)
  simp -implicitDefEqProofs only [go_sem]
  refine callK_fn e26 (.pures rfl) ?_
  simp -implicitDefEqProofs only [go_sem]
  refine AWp.seq (AWp.of_awpD [] hΓ hmix (by kernel_rfl) ?_)
  simp -implicitDefEqProofs only [show (true != true) = false by decide, go_sem]
  refine AWp.seq (AWp.of_awpD [] hΓ hmix (by kernel_rfl) ?_)
  simp -implicitDefEqProofs only [go_sem]
  refine AWp.seq (AWp.of_awpD [] hΓ hmix (by kernel_rfl) ?_)
  simp -implicitDefEqProofs only [go_sem]
  refine callK_fn e13 (.still rfl) ?_
  simp -implicitDefEqProofs only [go_sem]
  refine AWp.seq (AWp.of_awpD [] hΓ hmix (by kernel_rfl) ?_)
  simp -implicitDefEqProofs only [go_sem]
  refine callK_fn e27 (.still rfl) ?_
  simp -implicitDefEqProofs only [go_sem]
  refine AWp.seq (AWp.of_awpD [] hΓ hmix (by kernel_rfl) ?_)
  simp -implicitDefEqProofs only [go_sem]
  refine callK_fn e9 (.still rfl) ?_
  simp -implicitDefEqProofs only [go_sem]
  refine AWp.seq (AWp.of_awpD [] hΓ hmix (by kernel_rfl) ?_)
  simp -implicitDefEqProofs only [go_sem]
  refine callK_fn e28 (.pures rfl) ?_
  simp -implicitDefEqProofs only [go_sem]
  refine AWp.seq (AWp.of_awpD [] hΓ hmix (by kernel_rfl) ?_)
  simp -implicitDefEqProofs only [ite_self, go_sem]
  refine aggRn rfl rfl ?_
  simp -implicitDefEqProofs only [decide_true, Bool.and_self, Bool.not_true, List.length_map, hWl, hIl, go_sem]
  refine AWp.seq (AWp.of_awpD [(25, 29)] hΓ hmix (by kernel_rfl) ?_)
  simp -implicitDefEqProofs only [List.length_map, hWl, hIl, go_sem]
  refine AWp.loopI (fun i : Nat => ⟨mkF 172 [(4, .p (.bool false)), (6, .p (.sl (ns.map Kn.nV))), (11, .ptr 1 0), (12, .p (.sl (I.map Kn.nV))), (134, .p (.sl (I.map Kn.nV))), (135, .p (.int .i64 ns.length)), (136, .p (.int .i64 i))], [.dead, .box [.p (.int .i64 q), .p (.sl (W.map .str))], .dead, .dead]⟩)
    (fun i => i ≤ ns.length) (fun i => ns.length - i) 0 (by simp [go_sem]) (by omega) ?_
  intro i hi
  refine AWp.of_awpD [(25, 29)] hΓ hmix (by kernel_rfl) ?_
  by_cases hlt : i < ns.length
  · obtain ⟨k, hkn, hIk, hk2, hk1⟩ := hIat i hlt
    have gI : (I.map Kn.nV).getD i default = .int .i64 (k : Int) := by rw [List.getD_eq_getElem?_getD, List.getElem?_map, hIk]; rfl
    have gW : (W.map PV.str).getD k default = .str (wf k) := by rw [List.getD_eq_getElem?_getD, List.getElem?_map, hWg k hkn]; rfl
    have gN : (ns.map Kn.nV).getD i default = .int .i64 (ns[i] : Int) := by rw [getD_map_lt _ _ _ _ hlt]; rfl
    have hmap : I.map Kn.nV = (I.map fun x : Nat => (x : Int)).map Kn.iV := by rw [List.map_map]; rfl
    have huq : ∀ j, I[j]? = some k → j = i := fun j hj => by
      have hjl : j < ns.length := by
        have := (List.getElem?_eq_some_iff.1 hj).1
        omega
      obtain ⟨k', _, hIk', hk2', _⟩ := hIat j hjl
      rw [hj] at hIk'
      injection hIk' with e
      subst e
      omega
    obtain ⟨u1, u2⟩ := idx_uniq hIk huq
    have e29 := cm60 (I.map fun x : Nat => (x : Int)) k (by rw [List.length_map]; omega)
    rw [if_pos u1, u2, ← hmap] at e29
    have hk0 : ¬ (k : Int) < 0 := by omega
    have hkw : ¬ (ns.length : Int) ≤ (k : Int) := by omega
    have hlen : ((wf k).length : Int) = (ns[i] : Int) := by rw [hwlen, hk1]
    simp -implicitDefEqProofs only [hlt, gI, gW, gN, Int.toNat_natCast, List.length_map, hWl, hIl, hk0, hkw, hlen, go_sem]
    refine ⟨hkn, callVPK_fn e29 (.pures rfl) ?_⟩
    simp -implicitDefEqProofs only [go_sem]
    exact ⟨by simp only [InR]; omega, i + 1, by simp, by omega, by omega⟩
  · simp -implicitDefEqProofs only [hlt, go_sem]
    refine AWp.of_awpD [] hΓ hmix (by kernel_rfl) ?_
    simp -implicitDefEqProofs only [go_sem]
    refine callK_fn awake_ok (.pures rfl) ?_
    simp -implicitDefEqProofs only [go_sem]
end Go.Proofs.YtaphjgjhpmmkmaaGreat
end

