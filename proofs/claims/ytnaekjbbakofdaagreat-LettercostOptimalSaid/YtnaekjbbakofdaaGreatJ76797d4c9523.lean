/-
  Plain: the reference's trees and forests are the trees walked.
  The reference's forests: one step of the recursion.
  Plain: the reference's trees without a measure, their sizes.
  The reference's trees and forests.
  The law LettercostEqual (f6).
  The reference's cheapest: an exchange sort of weights and costs.
  Plain: the reference's least and Lengths.
  The reference's orders.
  The reference's least and Least.
  A variable set to nil, known as nil.
  The reference's Optimal.
  The reference's Lengths.
  The law LettercostChecks (f10).
  The law LettercostOptimal (f3).
-/
import Derived.Test.YtnaekjbbakofdaaGreatJ59e12834ba65
import Derived.Test.YtnaekjbbakofdaaGreatJ2a20354ca823
import Derived.Test.YtnaekjbbakofdaaGreatJ452342ac2a48
import Derived.Test.YtnaekjbbakofdaaGreatJ9f8c92535658
import Derived.Test.YtnaekjbbakofdaaGreatJ3a2d5f2e6392

section
namespace Go.Proofs.YtnaekjbbakofdaaGreat
open Go Go.AM List

def frs (T : Nat → List (List Wd)) : Nat → Nat → Nat → Nat → List (List Wd)
  | 0, _, left, ch => if left = 0 ∧ 1 < ch then [[]] else []
  | d + 1, a, left, ch => if left = 0 ∧ 1 < ch then [[]] else if left = 0 then [] else
    frs T d (a + 1) left ch ++ (List.range left).flatMap fun k => if k + 1 = left ∧ ch = 0 then [] else
      (T (k + 1)).flatMap fun x => (frs T d (a + 1) (left - (k + 1)) (ch + 1)).map fun r => x.map (letA a :: ·) ++ r
def trs (q : Nat) : Nat → Nat → List (List Wd)
  | 0, _ => []
  | f + 1, n => if n = 1 then [[[]]] else frs (trs q f) q 0 n 0
theorem frs_done {T : Nat → List (List Wd)} {d a ch : Nat} (h : 1 < ch) : frs T d a 0 ch = [[]] := by
  cases d with
  | zero => unfold frs; rw [if_pos ⟨rfl, h⟩]
  | succ d => unfold frs; rw [if_pos ⟨rfl, h⟩]
theorem frs_none {T : Nat → List (List Wd)} {d a ch : Nat} (h : ¬ 1 < ch) : frs T d a 0 ch = [] := by
  cases d with
  | zero => unfold frs; rw [if_neg (fun g => h g.2)]
  | succ d => unfold frs; rw [if_neg (fun g => h g.2), if_pos rfl]
theorem flatMap_map' {α β γ : Type} (f : β → γ) (g : α → List β) : ∀ l : List α, (l.flatMap g).map f = l.flatMap fun x => (g x).map f
  | [] => rfl
  | x :: l => by rw [List.flatMap_cons, List.flatMap_cons, List.map_append, flatMap_map' f g l]
theorem map_flatMap' {α β γ : Type} (f : α → β) (g : β → List γ) : ∀ l : List α, (l.map f).flatMap g = l.flatMap fun x => g (f x)
  | [] => rfl
  | x :: l => by rw [List.map_cons, List.flatMap_cons, List.flatMap_cons, map_flatMap' f g l]
theorem flatMap_cong {α β : Type} {f g : α → List β} : ∀ {l : List α}, (∀ x ∈ l, f x = g x) → l.flatMap f = l.flatMap g
  | [], _ => rfl
  | x :: l, h => by rw [List.flatMap_cons, List.flatMap_cons, h x (by simp), flatMap_cong fun y hy => h y (by simp [hy])]
theorem grow_frs {T : Nat → Wd → List (List Wd)} {T' : Nat → List (List Wd)} {n : Nat} {pre : Wd} (hn : 1 ≤ n) (hT : ∀ k w, 1 ≤ k → T k w = (T' k).map fun x => x.map (w ++ ·)) :
    ∀ {d a left ch : Nat} {leaves : List Wd}, (ch = 0 → left = n) → (ch ≠ 0 → left < n) → growL T n pre d a left ch leaves = (frs T' d a left ch).map fun r => leaves ++ r.map (pre ++ ·)
  | 0, a, left, ch, leaves, _, _ => by
    unfold growL frs
    by_cases h : left = 0 ∧ 1 < ch
    · rw [if_pos h, if_neg (by omega)]; simp
    · rw [if_neg h, if_pos (by omega)]; rfl
  | d + 1, a, left, ch, leaves, h0, h1 => by
    have ih := fun {a left ch leaves} => grow_frs (pre := pre) hn hT (d := d) (a := a) (left := left) (ch := ch) (leaves := leaves)
    unfold growL
    by_cases hl : left = 0
    · subst hl
      rw [ih h0 h1, Nat.zero_min, List.range_zero, List.flatMap_nil, List.append_nil]
      by_cases hc : 1 < ch
      · rw [frs_done hc, frs_done hc]
      · rw [frs_none hc, frs_none hc]
    · rw [frs, if_neg (fun g => hl g.1), if_neg hl, List.map_append, ih h0 h1, flatMap_map']
      congr 1
      have inner : ∀ k, k < left → ¬ (k + 1 = left ∧ ch = 0) → ((T (k + 1) (pre ++ [letA a])).flatMap fun part => growL T n pre d (a + 1) (left - (k + 1)) (ch + 1) (leaves ++ part)) =
          ((if k + 1 = left ∧ ch = 0 then [] else (T' (k + 1)).flatMap fun x => (frs T' d (a + 1) (left - (k + 1)) (ch + 1)).map fun r => x.map (letA a :: ·) ++ r).map fun r => leaves ++ r.map (pre ++ ·)) := fun k hk hno => by
        rw [if_neg hno, hT _ _ (by omega), map_flatMap', flatMap_map']
        refine flatMap_cong fun x _ => ?_
        have hlt : left - (k + 1) < n := by
          rcases Nat.eq_zero_or_pos ch with hc | hc
          · have := h0 hc; omega
          · have := h1 (by omega); omega
        rw [ih (fun h => by omega) (fun _ => hlt), List.map_map]
        refine List.map_congr_left fun r _ => ?_
        simp [List.map_append, List.append_assoc, Function.comp_def]
      by_cases hc : ch = 0
      · have hln := h0 hc
        subst hln
        obtain ⟨m, rfl⟩ : ∃ m, left = m + 1 := ⟨left - 1, by omega⟩
        rw [show min (m + 1) (m + 1 - 1) = m by omega, List.range_succ, List.flatMap_append, List.flatMap_cons, List.flatMap_nil, List.append_nil, if_pos ⟨rfl, hc⟩, List.map_nil, List.append_nil]
        refine flatMap_cong fun k hk => ?_
        have hk := List.mem_range.1 hk
        exact inner k (by omega) (by omega)
      · have hln := h1 hc
        rw [show min left (n - 1) = left by omega]
        refine flatMap_cong fun k hk => ?_
        have hk := List.mem_range.1 hk
        exact inner k hk (by omega)
theorem trees_eq (q : Nat) : ∀ (f n : Nat) (pre : Wd), 1 ≤ n → treesF q f n pre = (trs q f n).map fun x => x.map (pre ++ ·)
  | 0, _, _, _ => rfl
  | f + 1, n, pre, hn => by
    by_cases h : n = 1
    · subst h
      rw [treesF_one]
      simp [trs]
    · rw [treesF_more h, trs, if_neg h]
      have key : ∀ k w, 1 ≤ k → treesF q f k w = (trs q f k).map fun x => x.map (w ++ ·) := fun k w hk => trees_eq q f k w hk
      rw [grow_frs hn key (fun _ => rfl) (fun h => absurd rfl h)]
      exact List.map_congr_left fun r _ => by rw [List.nil_append]
end Go.Proofs.YtnaekjbbakofdaaGreat
end

section
namespace Go.Proofs.YtnaekjbbakofdaaGreat
open Go Go.AM
set_option maxRecDepth 100000
set_option maxHeartbeats 4000000
set_option linter.unusedSimpArgs false

def slW (x : List Wd) : PV := .sl (x.map .str)
theorem q71s {T : Nat → List (List Wd)} {q d a left ch : Nat} (had : a + d = q) (hq : q ≤ 3) (hl : left ≤ 5) (hch : ch ≤ 5) (hTl : ∀ k x, k ≤ left → x ∈ T k → x.length = k ∧ ∀ w ∈ x, w.length ≤ 100)
    (hT : ∀ k, 1 ≤ k → k ≤ left → ¬ (k = left ∧ ch = 0) → PFn Tryz.prog 41 [.int .i64 q, .int .i64 k] [.sl ((T k).map slW)])
    (hskip : left ≠ 0 → ∀ d', d = d' + 1 → PRow Tryz.prog 71 [.int .i64 q, .int .i64 (a + 1 : Nat), .int .i64 left, .int .i64 ch] 26 1 ((frs T d' (a + 1) left ch).map slW))
    (hrest : ∀ k, 1 ≤ k → k ≤ left → ¬ (k = left ∧ ch = 0) → ∀ d', d = d' + 1 → PFn Tryz.prog 71 [.int .i64 q, .int .i64 (a + 1 : Nat), .int .i64 (left - k : Nat), .int .i64 (ch + 1 : Nat)] [.sl ((frs T d' (a + 1) (left - k) (ch + 1)).map slW)])
    (hTs : ∀ k, k ≤ left → (T k).length ≤ 100000) (hRs : ∀ d' k, d = d' + 1 → (frs T d' (a + 1) (left - k) (ch + 1)).length ≤ 100000) (hfl : ∀ d' a' l' c' r, l' ≤ 5 → r ∈ frs T d' a' l' c' → r.length ≤ 100)
    (hsz : (frs T d a left ch).length ≤ 100000) :
    PRow Tryz.prog 71 [.int .i64 q, .int .i64 a, .int .i64 left, .int .i64 ch] 26 1 ((frs T d a left ch).map slW) := by
  have hs0 : sizeOK [PV.sl []] 1 := by simp [sizeOK, PV.cells]
  by_cases h1 : left = 0 ∧ 1 < ch
  · obtain ⟨hl0, hc1⟩ := h1
    have he : frs T d a left ch = [[]] := by rw [hl0]; exact frs_done hc1
    rw [he]
    have hl0' : (left : Int) = 0 := by omega
    have hc1' : (1 : Int) < (ch : Int) := by omega
    refine AC.of_body 1 hΓ Tryz.func71 (by kernel_rfl) rfl (by simp) (AWp.seq (AWp.of_awpD [] hΓ hmix (by kernel_rfl) ?_))
    simp -implicitDefEqProofs only [Tryz.ntmps71, Tryz.results71, Nat.reduceAdd, Nat.reduceSub, List.map_cons, List.map_nil, go_sem]
    refine AWp.seq (AWp.seq (AWp.of_awpD [] hΓ hmix (by kernel_rfl) ?_))
    simp -implicitDefEqProofs only [hl0', hc1', go_sem]
    refine AWp.cond ?_
    simp -implicitDefEqProofs only [go_sem]
    refine AWp.seq (AWp.of_awpD [] hΓ hmix (by kernel_rfl) ?_)
    simp -implicitDefEqProofs only [go_sem]
    refine ⟨⟨hs0, by omega⟩, ?_⟩
    refine AWp.adopt (l := [.sl []]) 8 26 1 (by rfl) (by simp [PV.cells]) ?_
    simp -implicitDefEqProofs only [go_sem]
    refine AWp.of_awpD [] hΓ hmix (by kernel_rfl) ?_
    simp -implicitDefEqProofs only [go_sem]
    exact ⟨rfl, 0, .lax, rfl, rfl, by simp⟩
  have hA : ¬ ((left : Int) = 0 ∧ (1 : Int) < (ch : Int)) := fun h => h1 ⟨by omega, by omega⟩
  by_cases h2 : d = 0 ∨ left = 0
  · have he : frs T d a left ch = [] := by
      cases d with
      | zero => unfold frs; rw [if_neg h1]
      | succ d => unfold frs; rw [if_neg h1, if_pos (h2.resolve_left (by omega))]
    rw [he]
    by_cases hl0 : left = 0
    · have hl0' : (left : Int) = 0 := by omega
      have hc1' : ¬ (1 : Int) < (ch : Int) := fun h => h1 ⟨hl0, by omega⟩
      by_cases haq : a = q
      · have haq' : (a : Int) = (q : Int) := by omega
        refine AC.of_body 1 hΓ Tryz.func71 (by kernel_rfl) rfl (by simp) (AWp.seq (AWp.of_awpD [] hΓ hmix (by kernel_rfl) ?_))
        simp -implicitDefEqProofs only [Tryz.ntmps71, Tryz.results71, Nat.reduceAdd, Nat.reduceSub, List.map_cons, List.map_nil, go_sem]
        refine AWp.seq (AWp.of_awpD [] hΓ hmix (by kernel_rfl) ?_)
        simp -implicitDefEqProofs only [hl0', hc1', go_sem]
        refine AWp.seq (AWp.seq (AWp.of_awpD [] hΓ hmix (by kernel_rfl) ?_))
        simp -implicitDefEqProofs only [haq', go_sem]
        refine AWp.cond ?_
        simp -implicitDefEqProofs only [go_sem]
        refine AWp.seq (AWp.of_awpD [] hΓ hmix (by kernel_rfl) ?_)
        simp -implicitDefEqProofs only [go_sem]
        refine AWp.adopt (l := []) 8 26 1 (by rfl) (by simp) ?_
        simp -implicitDefEqProofs only [go_sem]
        refine AWp.of_awpD [] hΓ hmix (by kernel_rfl) ?_
        simp -implicitDefEqProofs only [go_sem]
        exact ⟨rfl, 0, .lax, rfl, rfl, by simp⟩
      · have haq' : ¬ (a : Int) = (q : Int) := by omega
        refine AC.of_body 1 hΓ Tryz.func71 (by kernel_rfl) rfl (by simp) (AWp.seq (AWp.of_awpD [] hΓ hmix (by kernel_rfl) ?_))
        simp -implicitDefEqProofs only [Tryz.ntmps71, Tryz.results71, Nat.reduceAdd, Nat.reduceSub, List.map_cons, List.map_nil, go_sem]
        refine AWp.seq (AWp.of_awpD [] hΓ hmix (by kernel_rfl) ?_)
        simp -implicitDefEqProofs only [hl0', hc1', go_sem]
        refine AWp.seq (AWp.seq (AWp.of_awpD [] hΓ hmix (by kernel_rfl) ?_))
        simp -implicitDefEqProofs only [haq', hl0', go_sem]
        refine AWp.cond ?_
        simp -implicitDefEqProofs only [go_sem]
        refine AWp.seq (AWp.of_awpD [] hΓ hmix (by kernel_rfl) ?_)
        simp -implicitDefEqProofs only [go_sem]
        refine AWp.adopt (l := []) 8 26 1 (by rfl) (by simp) ?_
        simp -implicitDefEqProofs only [go_sem]
        refine AWp.of_awpD [] hΓ hmix (by kernel_rfl) ?_
        simp -implicitDefEqProofs only [go_sem]
        exact ⟨rfl, 0, .lax, rfl, rfl, by simp⟩
    · have hl0' : ¬ (left : Int) = 0 := by omega
      have haq' : (a : Int) = (q : Int) := by omega
      refine AC.of_body 1 hΓ Tryz.func71 (by kernel_rfl) rfl (by simp) (AWp.seq (AWp.of_awpD [] hΓ hmix (by kernel_rfl) ?_))
      simp -implicitDefEqProofs only [Tryz.ntmps71, Tryz.results71, Nat.reduceAdd, Nat.reduceSub, List.map_cons, List.map_nil, go_sem]
      refine AWp.seq (AWp.of_awpD [] hΓ hmix (by kernel_rfl) ?_)
      simp -implicitDefEqProofs only [hl0', go_sem]
      refine AWp.seq (AWp.seq (AWp.of_awpD [] hΓ hmix (by kernel_rfl) ?_))
      simp -implicitDefEqProofs only [haq', go_sem]
      refine AWp.cond ?_
      simp -implicitDefEqProofs only [go_sem]
      refine AWp.seq (AWp.of_awpD [] hΓ hmix (by kernel_rfl) ?_)
      simp -implicitDefEqProofs only [go_sem]
      refine AWp.adopt (l := []) 8 26 1 (by rfl) (by simp) ?_
      simp -implicitDefEqProofs only [go_sem]
      refine AWp.of_awpD [] hΓ hmix (by kernel_rfl) ?_
      simp -implicitDefEqProofs only [go_sem]
      exact ⟨rfl, 0, .lax, rfl, rfl, by simp⟩
  have hl0 : left ≠ 0 := fun h => h2 (.inr h)
  obtain ⟨d', rfl⟩ : ∃ d', d = d' + 1 := ⟨d - 1, by omega⟩
  have hl0' : ¬ (left : Int) = 0 := by omega
  have haq' : ¬ (a : Int) = (q : Int) := by omega
  obtain ⟨body, hbody⟩ : ∃ body : Nat → List (List Wd), body = fun k => if k + 1 = left ∧ ch = 0 then [] else (T (k + 1)).flatMap fun x => (frs T d' (a + 1) (left - (k + 1)) (ch + 1)).map fun r => x.map (letA a :: ·) ++ r := ⟨_, rfl⟩
  obtain ⟨acc, hacc⟩ : ∃ acc : Nat → List (List Wd), acc = fun k => frs T d' (a + 1) left ch ++ (List.range k).flatMap body := ⟨_, rfl⟩
  have he : frs T (d' + 1) a left ch = acc left := by rw [frs, if_neg h1, if_neg hl0, hacc, hbody]
  have hstep : ∀ k, acc (k + 1) = acc k ++ body k := fun k => by rw [hacc]; simp [List.range_succ, List.flatMap_append]
  have hmono : ∀ k, k ≤ left → (acc k).length ≤ 100000 := fun k hk => by
    have : ∀ e, k + e ≤ left → (acc k).length ≤ (acc (k + e)).length := by
      intro e
      induction e with
      | zero => intro _; exact Nat.le_refl _
      | succ e ih =>
        intro h
        have := ih (by omega)
        have h3 := hstep (k + e)
        have : (acc (k + (e + 1))).length = (acc (k + e)).length + (body (k + e)).length := by rw [show k + (e + 1) = k + e + 1 by omega, h3, List.length_append]
        omega
    have := this (left - k) (by omega)
    rw [show k + (left - k) = left by omega, ← he] at this
    omega
  have hS : frs T d' (a + 1) left ch = acc 0 := by rw [hacc]; simp
  have e71 := hskip hl0 d' rfl
  rw [he]
  rw [hS] at e71
  have ha1 : (a : Int) + 1 = ((a + 1 : Nat) : Int) := by omega
  refine AC.of_body 1 hΓ Tryz.func71 (by kernel_rfl) rfl (by simp) (AWp.seq (AWp.of_awpD [] hΓ hmix (by kernel_rfl) ?_))
  simp -implicitDefEqProofs only [Tryz.ntmps71, Tryz.results71, Nat.reduceAdd, Nat.reduceSub, List.map_cons, List.map_nil, go_sem]
  refine AWp.seq (AWp.of_awpD [] hΓ hmix (by kernel_rfl) ?_)
  simp -implicitDefEqProofs only [hl0', go_sem]
  refine AWp.seq (AWp.of_awpD [] hΓ hmix (by kernel_rfl) ?_)
  simp -implicitDefEqProofs only [hl0', haq', go_sem]
  refine AWp.seq (AWp.of_awpD [] hΓ hmix (by kernel_rfl) ?_)
  simp -implicitDefEqProofs only [ha1, go_sem]
  refine ⟨by simp only [InR]; omega, callK_ac (AC.of_row e71 (.inl rfl)) (by simp) ?_⟩
  rintro v h' ⟨rfl, rfl⟩
  simp -implicitDefEqProofs only [killAll, List.foldl, List.length_map, go_sem]
  refine AWp.seq (AWp.seq (AWp.of_awpD [] hΓ hmix (by kernel_rfl) ?_))
  simp -implicitDefEqProofs only [go_sem]
  refine AWp.block ?_
  refine AWp.loopJ (fun k : Nat => ⟨mkF 107 [(0, .p (.int .i64 q)), (1, .p (.int .i64 a)), (2, .p (.int .i64 left)), (3, .p (.int .i64 ch)), (9, .own 0 (acc k).length), (10, .p (.int .i64 (k + 1 : Nat)))], [.row 26 1 ((acc k).map slW) .lax]⟩)
    (fun k => k ≤ left) (fun k => left - k) 0 (fun x => by simp [BelowAll, mkF, AV.blw, AV.blw.blwL, blwH, AObj.blw]) (by simp [go_sem]) (Nat.zero_le _) ?_
  intro k hk
  simp -implicitDefEqProofs only [go_sem]
  refine AWp.of_awpD [(21, 1000)] hΓ hmix (by kernel_rfl) ?_
  by_cases hlt : k < left
  rotate_left
  · have hkl : left = k := by omega
    subst hkl
    have hlt' : ¬ ((left + 1 : Nat) : Int) ≤ (left : Int) := by omega
    simp -implicitDefEqProofs only [hlt', go_sem]
    refine AWp.of_awpD [] hΓ hmix (by kernel_rfl) ?_
    simp -implicitDefEqProofs only [go_sem]
    exact ⟨rfl, 0, .lax, rfl, rfl, by simp⟩
  have hlt' : ((k + 1 : Nat) : Int) ≤ (left : Int) := by omega
  by_cases hone : k + 1 = left ∧ ch = 0
  · have hb : body k = [] := by rw [hbody]; simp only; rw [if_pos hone]
    have h1' : ((k + 1 : Nat) : Int) = (left : Int) := by omega
    have hc0' : (ch : Int) = 0 := by omega
    have hs := hstep k
    rw [hb, List.append_nil] at hs
    simp -implicitDefEqProofs only [hlt', h1', hc0', go_sem]
    exact ⟨by simp only [InR]; omega, k + 1, ⟨⟨by rw [hs], by omega⟩, by rw [hs]⟩, by omega, by omega⟩
  have hb : body k = (T (k + 1)).flatMap fun x => (frs T d' (a + 1) (left - (k + 1)) (ch + 1)).map fun r => x.map (letA a :: ·) ++ r := by rw [hbody]; simp only; rw [if_neg hone]
  have e41 := hT (k + 1) (by omega) (by omega) hone
  have e71r := hrest (k + 1) (by omega) (by omega) hone d' rfl
  have hlk : (left : Int) - ((k + 1 : Nat) : Int) = ((left - (k + 1) : Nat) : Int) := by omega
  have hch1 : (ch : Int) + 1 = ((ch + 1 : Nat) : Int) := by omega
  have hs := hstep k
  rw [hb] at hs
  have hsm := hmono (k + 1) (by omega)
  rw [hs] at hsm
  have hTk := fun x => hTl (k + 1) x (by omega)
  have hFl := hTs (k + 1) (by omega)
  have hRl := hRs d' (k + 1) rfl
  have hRw := fun r => hfl d' (a + 1) (left - (k + 1)) (ch + 1) r (by omega)
  generalize T (k + 1) = F at *
  generalize frs T d' (a + 1) (left - (k + 1)) (ch + 1) = R at *
  obtain ⟨pi, hpi⟩ : ∃ pi : Nat → List (List Wd), pi = fun i => acc k ++ (F.take i).flatMap fun x => R.map fun r => x.map (letA a :: ·) ++ r := ⟨_, rfl⟩
  have hpF : pi F.length = acc k ++ F.flatMap fun x => R.map fun r => x.map (letA a :: ·) ++ r := by rw [hpi]; simp
  have hpstep : ∀ i (hi : i < F.length), pi (i + 1) = pi i ++ R.map fun r => F[i].map (letA a :: ·) ++ r := fun i hi => by
    rw [hpi]; simp only; rw [List.take_succ_eq_append_getElem hi, List.flatMap_append, ← List.append_assoc]; simp
  have hpl : ∀ i j (_ : i < F.length), j ≤ R.length → (pi i ++ (R.take j).map fun r => F[i].map (letA a :: ·) ++ r).length ≤ 100000 := fun i j hi hj => by
    have h1 : ∀ e, i + e ≤ F.length → (pi i).length + (if e = 0 then 0 else R.length) ≤ (pi (i + e)).length := by
      intro e
      induction e with
      | zero => intro _; simp
      | succ e ih =>
        intro h
        have h3 := ih (by omega)
        have h4 := congrArg List.length (hpstep (i + e) (by omega))
        rw [List.length_append, List.length_map] at h4
        rw [show i + (e + 1) = i + e + 1 by omega, h4, if_neg (by omega)]
        split at h3 <;> omega
    have h2 := h1 (F.length - i) (by omega)
    rw [show i + (F.length - i) = F.length by omega, hpF, if_neg (by omega)] at h2
    rw [List.length_append, List.length_map, List.length_take]
    omega
  by_cases heq : k + 1 = left
  case' pos =>
    have heq' : (k + 1 = left) = True := eq_true heq
    have hc0' : ¬ (ch : Int) = 0 := fun h => hone ⟨heq, by omega⟩
    simp -implicitDefEqProofs only [hlt', heq', hc0', ha1, hlk, hch1, go_sem]
  case' neg =>
    have heq' : (k + 1 = left) = False := eq_false heq
    simp -implicitDefEqProofs only [hlt', heq', ha1, hlk, hch1, go_sem]
  all_goals
    refine callK_fn e41 (.pures rfl) ?_
    simp -implicitDefEqProofs only [ha1, hlk, hch1, go_sem]
    refine ⟨by simp only [InR]; omega, by simp only [InR]; omega, by simp only [InR]; omega, callK_fn e71r (.pures rfl) ?_⟩
    simp -implicitDefEqProofs only [go_sem]
    refine AWp.loopJ (fun i : Nat => ⟨mkF 107 [(0, .p (.int .i64 q)), (1, .p (.int .i64 a)), (2, .p (.int .i64 left)), (3, .p (.int .i64 ch)), (9, .own 0 (pi i).length), (10, .p (.int .i64 (k + 1 : Nat))), (11, .p (.sl (F.map slW))), (12, .p (.sl (R.map slW))), (13, .p (.int .i64 i))], [.row 26 1 ((pi i).map slW) .lax]⟩)
      (fun i => i ≤ F.length) (fun i => F.length - i) 0 (fun x => by simp [BelowAll, mkF, AV.blw, AV.blw.blwL, blwH, AObj.blw]) (by simp [go_sem, hpi]) (Nat.zero_le _) ?_
    intro i hi
    simp -implicitDefEqProofs only [go_sem]
    refine AWp.of_awpD [(21, 1000)] hΓ hmix (by kernel_rfl) ?_
    by_cases hif : i < F.length
    rotate_left
    · have hiF : F.length = i := by omega
      have hif' : ¬ (i : Int) < (F.length : Int) := by omega
      simp -implicitDefEqProofs only [hif', List.length_map, go_sem]
      refine ⟨by simp only [InR]; omega, k + 1, ⟨⟨?_, by omega⟩, ?_⟩, by omega, by omega⟩
      · rw [hs, ← hpF, hiF]
      · rw [hs, ← hpF, hiF]
    have hif' : (i : Int) < (F.length : Int) := by omega
    obtain ⟨hxk, hxw⟩ := hTk _ (List.getElem_mem hif)
    have hgF : (F.map slW).getD i default = .sl (F[i].map .str) := getD_map_lt _ _ _ _ hif
    simp -implicitDefEqProofs only [hif', List.length_map, go_sem]
    refine AWp.loopJ (fun j : Nat => ⟨mkF 107 [(0, .p (.int .i64 q)), (1, .p (.int .i64 a)), (2, .p (.int .i64 left)), (3, .p (.int .i64 ch)), (9, .own 0 (pi i ++ (R.take j).map fun r => F[i].map (letA a :: ·) ++ r).length), (10, .p (.int .i64 (k + 1 : Nat))), (11, .p (.sl (F.map slW))), (12, .p (.sl (R.map slW))), (13, .p (.int .i64 i)), (14, .p (.int .i64 j))], [.row 26 1 ((pi i ++ (R.take j).map fun r => F[i].map (letA a :: ·) ++ r).map slW) .lax]⟩)
      (fun j => j ≤ R.length) (fun j => R.length - j) 0 (fun x => by simp [BelowAll, mkF, AV.blw, AV.blw.blwL, blwH, AObj.blw]) (by simp [go_sem]) (Nat.zero_le _) ?_
    intro j hj
    simp -implicitDefEqProofs only [go_sem]
    refine AWp.of_awpD [(21, 1000)] hΓ hmix (by kernel_rfl) ?_
    by_cases hjr : j < R.length
    rotate_left
    · have hjR : R.length = j := by omega
      have hjr' : ¬ (j : Int) < (R.length : Int) := by omega
      simp -implicitDefEqProofs only [hjr', List.length_map, go_sem]
      refine ⟨by simp only [InR]; omega, i + 1, ⟨⟨?_, by omega⟩, ?_⟩, by omega, by omega⟩
      · rw [hpstep i hif, List.take_of_length_le (by omega)]
      · rw [hpstep i hif, List.take_of_length_le (by omega)]
    have hjr' : (j : Int) < (R.length : Int) := by omega
    simp -implicitDefEqProofs only [hjr', List.length_map, go_sem]
    refine AWp.adopt (l := []) 15 9 1 (by rfl) (by simp) ?_
    simp -implicitDefEqProofs only [go_sem]
    refine AWp.loopI (fun m : Nat => ⟨mkF 107 [(0, .p (.int .i64 q)), (1, .p (.int .i64 a)), (2, .p (.int .i64 left)), (3, .p (.int .i64 ch)), (9, .own 0 (pi i ++ (R.take j).map fun r => F[i].map (letA a :: ·) ++ r).length), (10, .p (.int .i64 (k + 1 : Nat))), (11, .p (.sl (F.map slW))), (12, .p (.sl (R.map slW))), (13, .p (.int .i64 i)), (14, .p (.int .i64 j)), (15, .own 1 m), (16, .p (.int .i64 m))],
        [.row 26 1 ((pi i ++ (R.take j).map fun r => F[i].map (letA a :: ·) ++ r).map slW) .lax, .row 9 1 (((F[i].map (letA a :: ·)).take m).map .str) (if m = 0 then .lax else .own)]⟩)
      (fun m => m ≤ F[i].length) (fun m => F[i].length - m) 0 (by simp [go_sem]) (Nat.zero_le _) ?_
    intro m hm
    simp -implicitDefEqProofs only [go_sem]
    refine AWp.of_awpD [(21, 1000)] hΓ hmix (by kernel_rfl) ?_
    by_cases hmf : m < F[i].length
    · have hmf' : (m : Int) < (F[i].length : Int) := by omega
      have hgm : (F[i].map PV.str).getD m default = .str F[i][m] := getD_map_lt _ _ _ _ hmf
      have hwl := hxw _ (List.getElem_mem hmf)
      have hsub := sub_letters (a := a) (by omega)
      simp -implicitDefEqProofs only [hif, hgF, hmf', hgm, ha1, slW, Int.toNat_natCast, List.length_map, go_sem]
      refine AWp.planL (.q 0 (.q 1 (.q 2 (.q 3 (.q 4 (.q 5 (.q 6 (.q 7 (.q 8 (.q 9 (.q 10 (.q 11 (.q 12 (.q 13 (.e 14 (.q 15 .fin) .nil))))))))))))))) hΓ hmix (by kernel_rfl) ?_
      have hsub' : List.take (a + 1 - a) (List.drop a [48, 49, 50, 51, 52, 53, 54, 55, 56, 57, 97, 98, 99, 100, 101, 102]) = [letA a] := by rw [show a + 1 - a = 1 by omega]; exact hsub
      have hss : sizeOK [PV.str (letA a :: F[i][m])] 1 := by simp [sizeOK, PV.cells]
      have hoo : oneOK [PV.str (letA a :: F[i][m])] := by simp [oneOK, PV.cells, PV.isAgg]
      have htk : (F[i].map (letA a :: ·)).take (m + 1) = (F[i].map (letA a :: ·)).take m ++ [letA a :: F[i][m]] := by
        rw [List.take_succ_eq_append_getElem (by simpa using hmf), List.getElem_map]
      simp -implicitDefEqProofs only [hif, hgF, hmf', hmf, hgm, ha1, hsub', slW, Int.toNat_natCast, List.length_map, go_sem]
      refine ⟨by simp only [InR]; omega, ⟨by omega, by omega⟩, by omega, ⟨hss, by omega⟩, ⟨hss, hoo⟩, ⟨by split <;> simp, by simp, by omega, by omega⟩, by simp only [InR]; omega, m + 1, ⟨⟨rfl, by omega⟩, .inl ⟨?_, ?_⟩⟩, by omega, by omega⟩
      · rw [htk]; simp
      · rw [if_neg (by omega : ¬ m + 1 = 0)]; rfl
    have hmF : F[i].length = m := by omega
    have hmf' : ¬ (m : Int) < (F[i].length : Int) := by omega
    have hgR : (R.map slW).getD j default = .sl (R[j].map .str) := getD_map_lt _ _ _ _ hjr
    have htm : (F[i].map (letA a :: ·)).take m = F[i].map (letA a :: ·) := List.take_of_length_le (by simp; omega)
    simp -implicitDefEqProofs only [hif, hgF, hmf', htm, slW, hjr, hgR, Int.toNat_natCast, List.length_map, go_sem]
    have hsR : sizeOK (R[j].map PV.str) 1 := fun x hx => by
      obtain ⟨w, _, rfl⟩ := List.mem_map.1 hx
      rfl
    have hoR : oneOK (R[j].map PV.str) := fun x hx c hc => by
      obtain ⟨w, _, rfl⟩ := List.mem_map.1 hx
      have : c = .str w := by simpa [PV.cells] using hc
      rw [this]; rfl
    have hRj := hRw _ (List.getElem_mem hjr)
    have hps := hpl i j hif hj
    have hsl : ∀ l, sizeOK [PV.sl l] 1 := fun l => by simp [sizeOK, PV.cells]
    have hol : ∀ l, oneOK [PV.sl l] := fun l => by simp [oneOK, PV.cells, PV.isAgg]
    have htR : (R.take (j + 1)).map (fun r => F[i].map (letA a :: ·) ++ r) = (R.take j).map (fun r => F[i].map (letA a :: ·) ++ r) ++ [F[i].map (letA a :: ·) ++ R[j]] := by
      rw [List.take_succ_eq_append_getElem hjr, List.map_append]; rfl
    refine ⟨⟨hsR, hoR⟩, ⟨by split <;> simp, by simp, by omega, by omega⟩, ⟨hsl _, by omega⟩, ⟨hsl _, hol _⟩, ⟨by omega, by omega⟩, by simp only [InR]; omega, j + 1, ⟨⟨?_, by omega⟩, ?_⟩, by omega, by omega⟩
    · rw [htR, ← List.append_assoc, List.length_append]; rfl
    · have hrow : (pi i ++ (R.take (j + 1)).map fun r => F[i].map (letA a :: ·) ++ r).map slW = (pi i ++ (R.take j).map fun r => F[i].map (letA a :: ·) ++ r).map slW ++ [PV.sl ((F[i].map (letA a :: ·)).map PV.str ++ R[j].map PV.str)] := by
        rw [htR, ← List.append_assoc, List.map_append (l₂ := [F[i].map (letA a :: ·) ++ R[j]])]
        simp [slW]
      rw [hrow]
      exact .inr (.inl rfl)
end Go.Proofs.YtnaekjbbakofdaaGreat
end

section
namespace Go.Proofs.YtnaekjbbakofdaaGreat
open Go Go.AM List
set_option maxRecDepth 100000

theorem frs_cong {T T' : Nat → List (List Wd)} : ∀ {d a left ch : Nat}, (∀ k, 1 ≤ k → k ≤ left → ¬ (k = left ∧ ch = 0) → T k = T' k) → frs T d a left ch = frs T' d a left ch
  | 0, _, _, _, _ => by unfold frs; rfl
  | d + 1, a, left, ch, h => by
    rw [frs, frs, frs_cong (d := d) (a := a + 1) h]
    split
    · rfl
    split
    · rfl
    congr 1
    refine flatMap_cong fun k hk => ?_
    have hk := List.mem_range.1 hk
    split
    · rfl
    · rename_i hn
      rw [h (k + 1) (by omega) (by omega) hn, frs_cong (d := d) (a := a + 1) (left := left - (k + 1)) (ch := ch + 1) fun j h1 h2 _ => h j h1 (by omega) (by omega)]
theorem trs_fuel (q : Nat) : ∀ (n f : Nat), 1 ≤ n → n ≤ f → trs q f n = trs q n n := by
  intro n
  induction n using Nat.strongRecOn with
  | ind n ih =>
    intro f h1 hf
    obtain ⟨m, rfl⟩ : ∃ m, n = m + 1 := ⟨n - 1, by omega⟩
    obtain ⟨g, rfl⟩ : ∃ g, f = g + 1 := ⟨f - 1, by omega⟩
    rw [trs, trs]
    split
    · rfl
    · exact frs_cong fun k k1 k2 k3 => by rw [ih k (by omega) g k1 (by omega), ih k (by omega) m k1 (by omega)]
def trT (q n : Nat) : List (List Wd) := trs q n n
theorem trT_one (q : Nat) : trT q 1 = [[[]]] := by rw [trT, trs, if_pos rfl]
theorem trT_more {q n : Nat} (h0 : n ≠ 0) (h : n ≠ 1) : trT q n = frs (trT q) q 0 n 0 := by
  obtain ⟨m, rfl⟩ : ∃ m, n = m + 1 := ⟨n - 1, by omega⟩
  rw [trT, trs, if_neg h]
  exact frs_cong fun k k1 k2 k3 => trs_fuel q k m k1 (by omega)
theorem trT_trees {q n : Nat} (h : 1 ≤ n) : trT q n = treesF q n n [] := by
  rw [trees_eq q n n [] h, trT]
  have : (fun x : List Wd => x.map (([] : Wd) ++ ·)) = id := by funext x; simp
  rw [this, List.map_id]
theorem trT_len {q n : Nat} {x : List Wd} (hx : x ∈ trT q n) : x.length = n := by
  rcases Nat.eq_zero_or_pos n with rfl | h
  · rw [trT, trs] at hx; cases hx
  · rw [trT_trees h] at hx; exact treesF_len hx
theorem frs_len {T : Nat → List (List Wd)} (hT : ∀ k x, x ∈ T k → x.length = k) : ∀ {d a left ch : Nat} {r : List Wd}, r ∈ frs T d a left ch → r.length = left
  | 0, a, left, ch, r, h => by
    unfold frs at h
    split at h
    · rename_i g
      have : r = [] := by simpa using h
      rw [this, g.1]; rfl
    · cases h
  | d + 1, a, left, ch, r, h => by
    rw [frs] at h
    split at h
    · rename_i g
      have : r = [] := by simpa using h
      rw [this, g.1]; rfl
    split at h
    · cases h
    rcases List.mem_append.1 h with h | h
    · exact frs_len hT h
    · obtain ⟨k, hk, h⟩ := List.mem_flatMap.1 h
      have hk := List.mem_range.1 hk
      split at h
      · cases h
      · obtain ⟨x, hx, h⟩ := List.mem_flatMap.1 h
        obtain ⟨s, hs, rfl⟩ := List.mem_map.1 h
        rw [List.length_append, List.length_map, hT _ _ hx, frs_len hT hs]
        omega
theorem frs_wlen {T : Nat → List (List Wd)} {B : Nat} (hT : ∀ k x, x ∈ T k → ∀ w ∈ x, w.length ≤ B) : ∀ {d a left ch : Nat} {r : List Wd}, r ∈ frs T d a left ch → ∀ w ∈ r, w.length ≤ B + 1
  | 0, a, left, ch, r, h => by
    unfold frs at h
    split at h
    · have : r = [] := by simpa using h
      rw [this]; simp
    · cases h
  | d + 1, a, left, ch, r, h => by
    rw [frs] at h
    split at h
    · have : r = [] := by simpa using h
      rw [this]; simp
    split at h
    · cases h
    rcases List.mem_append.1 h with h | h
    · exact frs_wlen hT h
    · obtain ⟨k, hk, h⟩ := List.mem_flatMap.1 h
      split at h
      · cases h
      · obtain ⟨x, hx, h⟩ := List.mem_flatMap.1 h
        obtain ⟨s, hs, rfl⟩ := List.mem_map.1 h
        intro w hw
        rcases List.mem_append.1 hw with hw | hw
        · obtain ⟨v, hv, rfl⟩ := List.mem_map.1 hw
          have := hT _ _ hx v hv
          simpa using this
        · exact frs_wlen hT hs w hw
theorem trs_wlen (q : Nat) : ∀ (f n : Nat) {x : List Wd}, x ∈ trs q f n → ∀ w ∈ x, w.length ≤ f
  | 0, _, _, h => by rw [trs] at h; cases h
  | f + 1, n, x, h => by
    rw [trs] at h
    split at h
    · have : x = [[]] := by simpa using h
      rw [this]; simp
    · exact frs_wlen (fun k y hy => trs_wlen q f k hy) h

def frn (T : Nat → Nat) : Nat → Nat → Nat → Nat
  | 0, left, ch => if left = 0 ∧ 1 < ch then 1 else 0
  | d + 1, left, ch => if left = 0 ∧ 1 < ch then 1 else if left = 0 then 0 else
    frn T d left ch + (List.range left).foldl (fun s k => s + if k + 1 = left ∧ ch = 0 then 0 else T (k + 1) * frn T d (left - (k + 1)) (ch + 1)) 0
def trn (q : Nat) : Nat → Nat → Nat
  | 0, _ => 0
  | f + 1, n => if n = 1 then 1 else frn (trn q f) q n 0
theorem len_flatMap_const {α β : Type} {g : α → List β} {c : Nat} : ∀ {l : List α}, (∀ x ∈ l, (g x).length = c) → (l.flatMap g).length = l.length * c
  | [], _ => by simp
  | x :: l, h => by rw [List.flatMap_cons, List.length_append, h x (by simp), len_flatMap_const fun y hy => h y (by simp [hy]), List.length_cons, Nat.succ_mul, Nat.add_comm]
theorem len_flatMap_fold {α β : Type} {g : α → List β} {f : α → Nat} : ∀ {l : List α} {s : Nat}, (∀ x ∈ l, (g x).length = f x) → l.foldl (fun s x => s + f x) s = s + (l.flatMap g).length
  | [], s, _ => by simp
  | x :: l, s, h => by rw [List.foldl_cons, len_flatMap_fold fun y hy => h y (by simp [hy]), List.flatMap_cons, List.length_append, h x (by simp)]; omega
theorem frs_num {T : Nat → List (List Wd)} {T' : Nat → Nat} (hT : ∀ k, (T k).length = T' k) : ∀ {d a left ch : Nat}, (frs T d a left ch).length = frn T' d left ch
  | 0, a, left, ch => by unfold frs frn; split <;> rfl
  | d + 1, a, left, ch => by
    rw [frs, frn]
    split
    · rfl
    split
    · rfl
    rw [List.length_append, frs_num hT (d := d), len_flatMap_fold (g := fun k => if k + 1 = left ∧ ch = 0 then [] else (T (k + 1)).flatMap fun x => (frs T d (a + 1) (left - (k + 1)) (ch + 1)).map fun r => x.map (letA a :: ·) ++ r), Nat.zero_add]
    intro k hk
    split
    · rfl
    · rw [len_flatMap_const (c := frn T' d (left - (k + 1)) (ch + 1)), hT]
      intro x hx
      rw [List.length_map, frs_num hT (d := d)]
theorem trs_num (q : Nat) : ∀ (f n : Nat), (trs q f n).length = trn q f n
  | 0, _ => rfl
  | f + 1, n => by
    rw [trs, trn]
    split
    · rfl
    · exact frs_num fun k => trs_num q f k
theorem small_nums : ∀ q, q < 4 → (∀ n, n < 6 → trn q n n ≤ 100000) ∧ ∀ d, d < 4 → ∀ left, left < 6 → ∀ ch, ch < 7 → frn (fun k => if k < 6 then trn q k k else 0) d left ch ≤ 100000 := by decide +kernel
theorem trT_num {q n : Nat} (hq : q ≤ 3) (hn : n ≤ 5) : (trT q n).length ≤ 100000 := by
  rw [trT, trs_num]
  exact (small_nums q (by omega)).1 n (by omega)
theorem frT_num {q d a left ch : Nat} (hq : q ≤ 3) (hd : d ≤ 3) (hl : left ≤ 5) (hc : ch ≤ 6) : (frs (trT q) d a left ch).length ≤ 100000 := by
  rw [frs_cong (T' := fun k => if k < 6 then trT q k else []) fun k _ _ _ => by rw [if_pos (by omega)],
    frs_num (T' := fun k => if k < 6 then trn q k k else 0) fun k => by split; exact trs_num q k k; rfl]
  exact (small_nums q (by omega)).2 d (by omega) left (by omega) ch (by omega)
end Go.Proofs.YtnaekjbbakofdaaGreat
end

section
namespace Go.Proofs.YtnaekjbbakofdaaGreat
open Go Go.AM
set_option maxRecDepth 100000
set_option maxHeartbeats 4000000
set_option linter.unusedSimpArgs false

theorem q41a (q : Int) : PFn Tryz.prog 41 [.int .i64 q, .int .i64 1] [.sl ([[[]]].map slW)] := by
  refine PFn.of_body hΓ Tryz.func41 (by kernel_rfl) rfl (AWp.seq (AWp.of_awpD [] hΓ hmix (by kernel_rfl) ?_))
  simp -implicitDefEqProofs only [Tryz.ntmps41, Tryz.results41, Nat.reduceAdd, Nat.reduceSub, go_sem]
  refine AWp.of_awpD [] hΓ hmix (by kernel_rfl) ?_
  simp -implicitDefEqProofs only [go_sem]
  exact ⟨⟨by simp [sizeOK, PV.cells], by omega⟩, ⟨by simp [sizeOK, PV.cells], by omega⟩, rfl⟩
theorem q41b {q n : Nat} {xs : List PV} (hn : n ≠ 1) (h : PRow Tryz.prog 71 [.int .i64 q, .int .i64 (0 : Nat), .int .i64 n, .int .i64 (0 : Nat)] 26 1 xs) : PFn Tryz.prog 41 [.int .i64 q, .int .i64 n] [.sl xs] := by
  have e71 : PFn Tryz.prog 71 [.int .i64 q, .int .i64 0, .int .i64 n, .int .i64 0] [.sl xs] := PFn.of_row h
  have hn' : ¬ (n : Int) = 1 := by omega
  refine PFn.of_body hΓ Tryz.func41 (by kernel_rfl) rfl (AWp.seq (AWp.of_awpD [] hΓ hmix (by kernel_rfl) ?_))
  simp -implicitDefEqProofs only [Tryz.ntmps41, Tryz.results41, Nat.reduceAdd, Nat.reduceSub, hn', go_sem]
  refine AWp.of_awpD [] hΓ hmix (by kernel_rfl) ?_
  simp -implicitDefEqProofs only [hn', go_sem]
  refine callK_fn e71 (.pures rfl) ?_
  simp -implicitDefEqProofs only [go_sem]
theorem q41_71 {q : Nat} (hq : q ≤ 3) : ∀ n : Nat, n ≤ 5 →
    ((1 ≤ n → PFn Tryz.prog 41 [.int .i64 q, .int .i64 n] [.sl ((trT q n).map slW)]) ∧
     (∀ d a ch : Nat, a + d = q → n + ch ≤ 5 → PRow Tryz.prog 71 [.int .i64 q, .int .i64 a, .int .i64 n, .int .i64 ch] 26 1 ((frs (trT q) d a n ch).map slW))) := by
  intro n
  induction n using Nat.strongRecOn with
  | ind n ih =>
    intro hn
    have hTl : ∀ k x, k ≤ n → x ∈ trT q k → x.length = k ∧ ∀ w ∈ x, w.length ≤ 100 := fun k x hk hx => ⟨trT_len hx, fun w hw => by have := trs_wlen q k k hx w hw; omega⟩
    have hTs : ∀ k, k ≤ n → (trT q k).length ≤ 100000 := fun k hk => trT_num hq (by omega)
    have hfl : ∀ d' a' l' c' r, l' ≤ 5 → r ∈ frs (trT q) d' a' l' c' → r.length ≤ 100 := fun d' a' l' c' r hl hr => by rw [frs_len (fun k x hx => trT_len hx) hr]; omega
    have step : ∀ ch : Nat, n + ch ≤ 5 → (ch ≠ 0 → 1 ≤ n → PFn Tryz.prog 41 [.int .i64 q, .int .i64 n] [.sl ((trT q n).map slW)]) → ∀ d a : Nat, a + d = q →
        PRow Tryz.prog 71 [.int .i64 q, .int .i64 a, .int .i64 n, .int .i64 ch] 26 1 ((frs (trT q) d a n ch).map slW) := by
      intro ch hch hA d
      induction d with
      | zero =>
        intro a had
        exact q71s had hq hn (by omega) hTl (fun k h1 h2 h3 => by
          by_cases hk : k = n
          · rw [hk]; exact hA (fun h => h3 ⟨hk, h⟩) (by omega)
          · exact (ih k (by omega) (by omega)).1 h1) (fun _ d' h => by omega) (fun k _ _ _ d' h => by omega) hTs (fun d' k h => by omega) hfl (frT_num hq (by omega) hn (by omega))
      | succ d ihd =>
        intro a had
        exact q71s had hq hn (by omega) hTl (fun k h1 h2 h3 => by
          by_cases hk : k = n
          · rw [hk]; exact hA (fun h => h3 ⟨hk, h⟩) (by omega)
          · exact (ih k (by omega) (by omega)).1 h1) (fun _ d' h => by
            obtain rfl : d = d' := by omega
            exact ihd (a + 1) (by omega)) (fun k h1 h2 h3 d' h => by
            obtain rfl : d = d' := by omega
            exact .of_row ((ih (n - k) (by omega) (by omega)).2 d (a + 1) (ch + 1) (by omega) (by omega))) hTs (fun d' k h => frT_num hq (by omega) (by omega) (by omega)) hfl (frT_num hq (by omega) hn (by omega))
    have hA : 1 ≤ n → PFn Tryz.prog 41 [.int .i64 q, .int .i64 n] [.sl ((trT q n).map slW)] := fun h1 => by
      by_cases h : n = 1
      · subst h; rw [trT_one]; exact q41a q
      · rw [trT_more (by omega) h]
        exact q41b h (step 0 (by omega) (fun h => absurd rfl h) q 0 (by omega))
    exact ⟨hA, fun d a ch had hch => step ch hch (fun _ h => hA h) d a had⟩
theorem q41 {q n : Nat} (hq : q ≤ 3) (h1 : 1 ≤ n) (hn : n ≤ 5) : PFn Tryz.prog 41 [.int .i64 q, .int .i64 n] [.sl ((trT q n).map slW)] := (q41_71 hq n hn).1 h1
end Go.Proofs.YtnaekjbbakofdaaGreat
end

section
namespace Go.Proofs.YtnaekjbbakofdaaGreat
open Go Go.AM
set_option maxRecDepth 100000
set_option maxHeartbeats 4000000
set_option linter.unusedSimpArgs false

theorem leastL_eq {cs W : List Nat} {v : Nat} (hcl : cs.length ≤ 16) (hl : W.length ≤ 1000) (h1 : ∀ x ∈ treesF cs.length W.length W.length [], v ≤ matchN cs W x) (h2 : ∃ x ∈ treesF cs.length W.length W.length [], matchN cs W x = v) : leastL cs W = v := by
  have hB := optN_ok (cs := cs) (W := W) hcl hl
  unfold leastL
  match optN cs W, hB with
  | none, hB =>
    obtain ⟨x, hx, _⟩ := h2
    have hB : treesF cs.length W.length W.length [] = [] := hB
    rw [hB] at hx; cases hx
  | some (b, m), hB =>
    obtain ⟨⟨x, hx, _, hm⟩, hall⟩ := hB
    obtain ⟨y, hy, hyv⟩ := h2
    have a1 := h1 x hx
    have a2 := hall y hy
    show m = v
    omega
end Go.Proofs.YtnaekjbbakofdaaGreat
end

section
namespace Go.Proofs.YtnaekjbbakofdaaGreat
open Go Go.AM
set_option maxRecDepth 100000
set_option maxHeartbeats 4000000
set_option linter.unusedSimpArgs false

structure Ex (r : Nat → Nat → Prop) (W w : List Nat) (i k : Nat) : Prop where
  p : w.Perm W
  a : ∀ a b, a < i → a < b → b < W.length → r (w.getD a 0) (w.getD b 0)
  b : ∀ b, i < b → b < k → r (w.getD i 0) (w.getD b 0)
theorem Ex.len {r : Nat → Nat → Prop} {W w : List Nat} {i k : Nat} (h : Ex r W w i k) : w.length = W.length := h.p.length_eq
def swp (w : List Nat) (i k : Nat) : List Nat := (w.set i (w.getD k 0)).set k (w.getD i 0)
theorem swp_get {w : List Nat} {i k j : Nat} (hi : i < w.length) (hk : k < w.length) : (swp w i k).getD j 0 = if j = k then w.getD i 0 else if j = i then w.getD k 0 else w.getD j 0 := by
  unfold swp
  rw [List.getD_eq_getElem?_getD, List.getElem?_set, List.length_set]
  by_cases h1 : k = j
  · rw [if_pos h1, if_pos (by omega), if_pos h1.symm]; rfl
  · rw [if_neg h1, if_neg (fun e => h1 e.symm), List.getElem?_set]
    by_cases h2 : i = j
    · rw [if_pos h2, if_pos (by omega), if_pos h2.symm]; rfl
    · rw [if_neg h2, if_neg (fun e => h2 e.symm), List.getD_eq_getElem?_getD]
theorem swp_perm {w : List Nat} {i k : Nat} (hi : i < w.length) (hk : k < w.length) : (swp w i k).Perm w := by
  unfold swp
  rw [List.getD_eq_getElem?_getD, List.getElem?_eq_getElem hk, Option.getD_some, List.getD_eq_getElem?_getD, List.getElem?_eq_getElem hi, Option.getD_some]
  exact List.set_set_perm hi hk
theorem Ex.next {r : Nat → Nat → Prop} {W w : List Nat} {i : Nat} (h : Ex r W w i W.length) : Ex r W w (i + 1) (i + 2) where
  p := h.p
  a := fun a b h1 h2 h3 => by
    rcases Nat.lt_or_ge a i with g | g
    · exact h.a a b g h2 h3
    · obtain rfl : a = i := by omega
      exact h.b b h2 h3
  b := fun b h1 h2 => by omega
theorem Ex.keep {r : Nat → Nat → Prop} {W w : List Nat} {i k : Nat} (h : Ex r W w i k) (hr : r (w.getD i 0) (w.getD k 0)) : Ex r W w i (k + 1) where
  p := h.p
  a := h.a
  b := fun b h1 h2 => by
    rcases Nat.lt_or_ge b k with g | g
    · exact h.b b h1 g
    · obtain rfl : b = k := by omega
      exact hr
theorem Ex.swap {r : Nat → Nat → Prop} (ht : ∀ a b c, r a b → r b c → r a c) {W w : List Nat} {i k : Nat} (h : Ex r W w i k) (hik : i < k) (hk : k < W.length) (hr : r (w.getD k 0) (w.getD i 0)) : Ex r W (swp w i k) i (k + 1) := by
  have hl := h.len
  have hi' : i < w.length := by omega
  have hk' : k < w.length := by omega
  refine ⟨(swp_perm hi' hk').trans h.p, fun a b h1 h2 h3 => ?_, fun b h1 h2 => ?_⟩
  · rw [swp_get hi' hk', swp_get hi' hk', if_neg (by omega : ¬ a = k), if_neg (by omega : ¬ a = i)]
    split
    · exact h.a a i h1 h1 (by omega)
    · split
      · exact h.a a k h1 (by omega) hk
      · exact h.a a b h1 h2 h3
  · rw [swp_get hi' hk', swp_get hi' hk', if_neg (by omega : ¬ i = k), if_pos rfl]
    split
    · exact hr
    · rw [if_neg (by omega)]
      exact ht _ _ _ hr (h.b b h1 (by omega))
theorem Ex.start {r : Nat → Nat → Prop} (W : List Nat) : Ex r W W 0 1 := ⟨.refl _, fun a b h => by omega, fun b h1 h2 => by omega⟩
theorem Ex.fin {r : Nat → Nat → Prop} {W w : List Nat} {i k : Nat} (h : Ex r W w i k) (hi : W.length ≤ i + 1) : w.Pairwise r := by
  have hl := h.len
  refine List.pairwise_iff_getElem.2 fun a b ha hb hab => ?_
  have := h.a a b (by omega) hab (by omega)
  rwa [List.getD_eq_getElem?_getD, List.getElem?_eq_getElem ha, Option.getD_some, List.getD_eq_getElem?_getD, List.getElem?_eq_getElem hb, Option.getD_some] at this
theorem swp_map {β : Type} (f : Nat → β) {w : List Nat} {i k : Nat} {x y : β} (hx : x = f (w.getD k 0)) (hy : y = f (w.getD i 0)) : ((w.map f).set i x).set k y = (swp w i k).map f := by
  unfold swp
  rw [List.map_set, List.map_set, hx, hy]

def rD (a b : Nat) : Prop := b ≤ a
def rU (a b : Nat) : Prop := a ≤ b
theorem rD_trans (a b c : Nat) (h1 : rD a b) (h2 : rD b c) : rD a c := Nat.le_trans (show c ≤ b from h2) h1
theorem rU_trans (a b c : Nat) (h1 : rU a b) (h2 : rU b c) : rU a c := Nat.le_trans (show a ≤ b from h1) h2

theorem q70 (a b : Nat) : PFn Tryz.prog 70 [intN false a, intN false b] [.int .i64 (cmpN a b)] := u74 a b

theorem q42 {cs W : List Nat} (hc : OkC cs) (hw : OkW W) (l : List Wd) (hne : l.length = W.length) (hlw : ∀ w ∈ l, w.length ≤ 1000 ∧ okW cs.length w = true) :
    PFn Tryz.prog 42 [.sl (cs.map Kn.nV), .sl (W.map (intN false)), .sl (l.map .str)] [intN false (matchN cs W l)] := by
  have h5 := hw.l5
  have hp := hw.pos
  refine PFn.of_body hΓ Tryz.func42 (by kernel_rfl) rfl (AWp.seq (AWp.of_awpD [] hΓ hmix (by kernel_rfl) ?_))
  simp -implicitDefEqProofs only [Tryz.ntmps42, Tryz.results42, Nat.reduceAdd, Nat.reduceSub, go_sem]
  refine AWp.seq (AWp.of_awpD [] hΓ hmix (by kernel_rfl) ?_)
  simp -implicitDefEqProofs only [List.length_map, go_sem]
  have hs0 : ∀ n, sizeOK [] n := fun n => by simp [sizeOK]
  refine ⟨⟨hs0 _, by omega⟩, ⟨size_c24 W, one_c24 W⟩, ⟨hs0 _, by omega, by omega⟩, ?_⟩
  refine AWp.seq (AWp.of_awpD [] hΓ hmix (by kernel_rfl) ?_)
  simp -implicitDefEqProofs only [List.length_map, Int.toNat_natCast, go_sem]
  have hE : (W.map (intN false)).isEmpty = false := by cases W with
    | nil => simp at hp
    | cons a l => rfl
  refine ⟨⟨by omega, by omega⟩, ?_⟩
  refine AWp.seq (AWp.seq (AWp.of_awpD [] hΓ hmix (by kernel_rfl) ?_))
  simp -implicitDefEqProofs only [hE, Bool.false_eq_true, ↓reduceIte, go_sem]
  refine AWp.block ?_
  obtain ⟨n, hn⟩ : ∃ n, n = W.length := ⟨_, rfl⟩
  rw [hne, ← hn]
  have hln : l.length = n := by omega
  obtain ⟨C, hC⟩ : ∃ C, C = l.map (costW cs) := ⟨_, rfl⟩
  have hCl : C.length = n := by rw [hC, List.length_map, hln]
  refine AWp.loopI (fun i : Nat => ⟨mkF 115 [(0, .p (.sl (cs.map Kn.nV))), (2, .p (.sl (l.map .str))), (6, .ptr 0 0), (7, .own 1 n), (8, .own 2 n), (9, .p (.int .i64 i))],
      [.box [.p (.bool false), .p (.str [])], .row 31 2 (W.map (intN false)) .own, .row 3 1 ((C.take i ++ List.replicate (n - i) 0).map Kn.nV) .own]⟩)
    (fun i => i ≤ n) (fun i => n - i) 0 (by simp [go_sem, Kn.nV]) (Nat.zero_le _) ?_
  intro i hi
  simp -implicitDefEqProofs only [go_sem]
  refine AWp.of_awpD [] hΓ hmix (by kernel_rfl) ?_
  by_cases hlt : i < n
  · have hlt' : (i : Int) < (n : Int) := by omega
    have hlt2 : i < l.length := by omega
    have hg : (l.map PV.str).getD i default = .str l[i] := getD_map_lt _ _ _ _ hlt2
    obtain ⟨hlk, hok⟩ := hlw _ (List.getElem_mem hlt2)
    have e61 := q61 cs l[i] hc.le (by have := hc.l3; omega) (by omega) hok
    have htl : (C.take i).length = i := by rw [List.length_take]; omega
    have hCi : C[i]'(by omega) = costW cs l[i] := by simp [hC]
    have hset : ((C.take i ++ List.replicate (n - i) 0).map Kn.nV).set i (.int .i64 (costW cs l[i] : Nat)) = (C.take (i + 1) ++ List.replicate (n - (i + 1)) 0).map Kn.nV := by
      obtain ⟨z, hz⟩ : ∃ z, n - i = z + 1 := ⟨n - i - 1, by omega⟩
      have hz2 : n - (i + 1) = z := by omega
      rw [hz2, hz, List.replicate_succ, List.take_succ_eq_append_getElem (by omega : i < C.length), hCi, List.map_append, List.set_append_right _ _ (by simp; omega)]
      simp [htl, Kn.nV]
      rw [Nat.min_eq_left (by omega), Nat.sub_self]; rfl
    have hrl : (C.take i ++ List.replicate (n - i) 0).length = n := by simp; omega
    simp -implicitDefEqProofs only [hlt, hlt', hln, hg, Int.toNat_natCast, List.length_map, go_sem]
    refine callK_fn e61 (.pures rfl) ?_
    simp -implicitDefEqProofs only [hset, hrl, Int.toNat_natCast, List.length_map, go_sem]
    exact ⟨hlt, ⟨hlt, rfl⟩, by simp only [InR]; omega, i + 1, ⟨by omega, .inl rfl⟩, by omega, by omega⟩
  have hiY : n = i := by omega
  subst hiY
  simp -implicitDefEqProofs only [hln, Nat.lt_irrefl, Int.lt_irrefl, List.length_map, go_sem]
  rw [List.take_of_length_le (by omega), Nat.sub_self, List.replicate_zero, List.append_nil]
  refine AWp.seq (AWp.seq (AWp.of_awpD [] hΓ hmix (by kernel_rfl) ?_))
  simp -implicitDefEqProofs only [go_sem]
  refine AWp.block ?_
  refine AWp.loopI (fun z : Nat × List Nat × List Nat => ⟨mkF 115 [(2, .p (.sl (l.map .str))), (6, .ptr 0 0), (7, .own 1 n), (8, .own 2 n), (10, .p (.int .i64 z.1))],
      [.box [.p (.bool false), .p (.str [])], .row 31 2 (z.2.1.map (intN false)) .own, .row 3 1 (z.2.2.map Kn.nV) .own]⟩)
    (fun z => z.1 ≤ n ∧ Ex rD W z.2.1 z.1 (z.1 + 1) ∧ Ex rU C z.2.2 z.1 (z.1 + 1)) (fun z => n - z.1) (0, W, C) (by simp [go_sem]) ⟨by omega, Ex.start W, Ex.start C⟩ ?_
  rintro ⟨i, w, c⟩ ⟨hi, hEw, hEc⟩
  simp only at hi hEw hEc
  simp -implicitDefEqProofs only [go_sem]
  refine AWp.of_awpD [(13, 9), (14, 1000), (15, 8), (16, 1000)] hΓ hmix (by kernel_rfl) ?_
  by_cases hlt : i < n
  · have hlt' : (i : Int) < (n : Int) := by omega
    simp -implicitDefEqProofs only [hln, hlt', List.length_map, go_sem]
    refine ⟨by simp only [InR]; omega, ?_⟩
    refine AWp.loopI (fun z : Nat × List Nat × List Nat => ⟨mkF 115 [(2, .p (.sl (l.map .str))), (6, .ptr 0 0), (7, .own 1 n), (8, .own 2 n), (10, .p (.int .i64 i)), (11, .p (.int .i64 z.1))],
        [.box [.p (.bool false), .p (.str [])], .row 31 2 (z.2.1.map (intN false)) .own, .row 3 1 (z.2.2.map Kn.nV) .own]⟩)
      (fun z => i < z.1 ∧ z.1 ≤ n ∧ Ex rD W z.2.1 i z.1 ∧ Ex rU C z.2.2 i z.1) (fun z => n - z.1) (i + 1, w, c) (by simp [go_sem]) ⟨Nat.lt_succ_self _, hlt, hEw, hEc⟩ ?_
    clear hEw hEc
    rintro ⟨k, w, c⟩ ⟨hik, hk, hEw, hEc⟩
    simp only at hik hk hEw hEc
    simp -implicitDefEqProofs only [go_sem]
    refine AWp.of_awpD [(13, 9), (14, 1000), (15, 8), (16, 1000)] hΓ hmix (by kernel_rfl) ?_
    have hwl := hEw.len
    have hcl := hEc.len
    by_cases hlk : k < n
    · have hlk' : (k : Int) < (n : Int) := by omega
      have hGw : ∀ j, j < n → (w.map (intN false)).getD j default = .agg [.bool false, .str (magB (w.getD j 0))] := fun j hj => by
        rw [← intN_pos, getD_map_lt _ _ _ _ (by omega), List.getD_eq_getElem?_getD, List.getElem?_eq_getElem (by omega), Option.getD_some]
      have hGc : ∀ j, j < n → (c.map Kn.nV).getD j default = .int .i64 ((c.getD j 0 : Nat) : Int) := fun j hj => by
        rw [getD_map_lt _ _ _ _ (by omega), List.getD_eq_getElem?_getD, List.getElem?_eq_getElem (by omega), Option.getD_some]; rfl
      have gwi := hGw i hlt
      have gwk := hGw k hlk
      have gci := hGc i hlt
      have gck := hGc k hlk
      have e70 := q70 (w.getD i 0) (w.getD k 0)
      rw [intN_pos, intN_pos] at e70
      simp -implicitDefEqProofs only [hln, hlk', hlt, hlk, gwi, gwk, hwl, ← hn, Int.toNat_natCast, List.length_map, go_sem]
      have hsetw : ((w.map (intN false)).set i (.agg [.bool false, .str (magB (w.getD k 0))])).set k (.agg [.bool false, .str (magB (w.getD i 0))]) = (swp w i k).map (intN false) := swp_map (intN false) (intN_pos _).symm (intN_pos _).symm
      have hsetc : ((c.map Kn.nV).set i (.int .i64 ((c.getD k 0 : Nat) : Int))).set k (.int .i64 ((c.getD i 0 : Nat) : Int)) = (swp c i k).map Kn.nV := swp_map Kn.nV rfl rfl
      have hic : i < c.length := by omega
      have hkc : k < c.length := by omega
      refine callVPK_fn e70 (.pures rfl) ?_
      by_cases hsw : w.getD i 0 < w.getD k 0
      · have hm1 : (-1 : Int) < 0 := by decide
        have hEw' : Ex rD W (swp w i k) i (k + 1) := hEw.swap rD_trans hik (by omega) (show w.getD i 0 ≤ w.getD k 0 from Nat.le_of_lt hsw)
        rw [cmpN_lt hsw]
        simp -implicitDefEqProofs only [hm1, go_sem]
        refine AWp.planL (.q 0 (.q 1 (.q 2 (.q 3 (.q 4 (.q 5 (.q 6 (.q 7 (.q 8 (.q 9 (.q 10 (.q 11 (.q 12 (.e 13 (.s 2 (.s 3 (.q 14 (.e 15 .fin .nil)))) .nil)))))))))))))) hΓ hmix (by kernel_rfl) ?_
        by_cases hsc : c.getD k 0 < c.getD i 0
        · have hsc' : ((c.getD k 0 : Nat) : Int) < ((c.getD i 0 : Nat) : Int) := by omega
          have hEc' : Ex rU C (swp c i k) i (k + 1) := hEc.swap rU_trans hik (by omega) (show c.getD k 0 ≤ c.getD i 0 from Nat.le_of_lt hsc)
          simp -implicitDefEqProofs only [hlt, hlk, gwi, gwk, hwl, ← hn, hsetw, hic, hkc, gci, gck, hsc', List.length_set, Int.toNat_natCast, List.length_map, go_sem]
          refine ⟨rfl, rfl, ?_⟩
          refine AWp.planL (.q 0 (.q 1 (.q 2 (.q 3 (.q 4 (.q 5 (.q 6 (.q 7 (.q 8 (.q 9 (.q 10 (.q 11 (.q 12 (.e 13 (.s 2 (.s 3 (.q 14 (.e 15 .fin .nil)))) .nil)))))))))))))) hΓ hmix (by kernel_rfl) ?_
          simp -implicitDefEqProofs only [hlt, hlk, hic, hkc, gci, gck, hsetc, List.length_set, Int.toNat_natCast, List.length_map, go_sem]
          exact ⟨rfl, rfl, by simp only [InR]; omega, (k + 1, swp w i k, swp c i k), ⟨by simp only; omega, .inl rfl, .inl rfl⟩, ⟨by simp only; omega, by simp only; omega, hEw', hEc'⟩, by simp only; omega⟩
        · have hsc' : ¬ ((c.getD k 0 : Nat) : Int) < ((c.getD i 0 : Nat) : Int) := by omega
          have hEc' : Ex rU C c i (k + 1) := hEc.keep (show c.getD i 0 ≤ c.getD k 0 by omega)
          simp -implicitDefEqProofs only [hlt, hlk, gwi, gwk, hwl, ← hn, hsetw, hic, hkc, gci, gck, hsc', List.length_set, Int.toNat_natCast, List.length_map, go_sem]
          exact ⟨rfl, rfl, by simp only [InR]; omega, (k + 1, swp w i k, c), ⟨by simp only; omega, .inl rfl, .inl rfl⟩, ⟨by simp only; omega, by simp only; omega, hEw', hEc'⟩, by simp only; omega⟩
      · have hnn : ¬ cmpN (w.getD i 0) (w.getD k 0) < 0 := by unfold cmpN; rw [if_neg (by omega)]; split <;> decide
        have hEw' : Ex rD W w i (k + 1) := hEw.keep (show w.getD k 0 ≤ w.getD i 0 by omega)
        by_cases hsc : c.getD k 0 < c.getD i 0
        · have hsc' : ((c.getD k 0 : Nat) : Int) < ((c.getD i 0 : Nat) : Int) := by omega
          have hEc' : Ex rU C (swp c i k) i (k + 1) := hEc.swap rU_trans hik (by omega) (show c.getD k 0 ≤ c.getD i 0 from Nat.le_of_lt hsc)
          simp -implicitDefEqProofs only [hnn, hlt, hlk, gwi, gwk, hwl, ← hn, hsetw, hic, hkc, gci, gck, hsc', List.length_set, Int.toNat_natCast, List.length_map, go_sem]
          refine AWp.planL (.q 0 (.q 1 (.q 2 (.q 3 (.q 4 (.q 5 (.q 6 (.q 7 (.q 8 (.q 9 (.q 10 (.q 11 (.q 12 (.e 13 (.s 2 (.s 3 (.q 14 (.e 15 .fin .nil)))) .nil)))))))))))))) hΓ hmix (by kernel_rfl) ?_
          simp -implicitDefEqProofs only [hlt, hlk, hic, hkc, gci, gck, hsetc, List.length_set, Int.toNat_natCast, List.length_map, go_sem]
          exact ⟨rfl, rfl, by simp only [InR]; omega, (k + 1, w, swp c i k), ⟨by simp only; omega, .inl rfl, .inl rfl⟩, ⟨by simp only; omega, by simp only; omega, hEw', hEc'⟩, by simp only; omega⟩
        · have hsc' : ¬ ((c.getD k 0 : Nat) : Int) < ((c.getD i 0 : Nat) : Int) := by omega
          have hEc' : Ex rU C c i (k + 1) := hEc.keep (show c.getD i 0 ≤ c.getD k 0 by omega)
          simp -implicitDefEqProofs only [hnn, hlt, hlk, gwi, gwk, hwl, ← hn, hsetw, hic, hkc, gci, gck, hsc', List.length_set, Int.toNat_natCast, List.length_map, go_sem]
          exact ⟨by simp only [InR]; omega, (k + 1, w, c), ⟨by simp only; omega, .inl rfl, .inl rfl⟩, ⟨by simp only; omega, by simp only; omega, hEw', hEc'⟩, by simp only; omega⟩
    have hkn : n = k := by omega
    subst hkn
    simp -implicitDefEqProofs only [hln, Nat.lt_irrefl, Int.lt_irrefl, List.length_map, go_sem]
    rw [hn] at hEw
    rw [← hCl] at hEc
    exact ⟨by simp only [InR]; omega, (i + 1, w, c), ⟨by simp only; omega, .inl rfl, .inl rfl⟩, ⟨by simp only; omega, hEw.next, hEc.next⟩, by simp only; omega⟩
  have hin : n = i := by omega
  subst hin
  have hwl := hEw.len
  have hcl := hEc.len
  have hw2 : dn W = w := dn_uniq hEw.p (hEw.fin (by omega))
  have hc2 : up C = c := up_uniq hEc.p (hEc.fin (by omega))
  have hm : matchN cs W l = dotN w c := by rw [matchN_eq, ← hC, hw2, hc2]
  rw [hm]
  have hSc : ∀ y ∈ w, y < 256 ^ 100 := fun y hy => hw.cap y (hEw.p.mem_iff.1 hy)
  have hCc : ∀ y ∈ c, y ≤ 1000000 := fun y hy => by
    have hy2 := hEc.p.mem_iff.1 hy
    rw [hC] at hy2
    obtain ⟨x, hx, rfl⟩ := List.mem_map.1 hy2
    have h1 := costW_le hc.le x
    have h3 : x.length * 1000 ≤ 1000 * 1000 := Nat.mul_le_mul_right _ (hlw x hx).1
    omega
  clear hEw hEc
  simp -implicitDefEqProofs only [hln, Nat.lt_irrefl, Int.lt_irrefl, List.length_map, go_sem]
  refine AWp.seq (AWp.of_awpD [] hΓ hmix (by kernel_rfl) ?_)
  simp -implicitDefEqProofs only [go_sem]
  refine AWp.seq (AWp.seq (AWp.of_awpD [] hΓ hmix (by kernel_rfl) ?_))
  simp -implicitDefEqProofs only [go_sem]
  refine AWp.block ?_
  have hdc : ∀ k, dotN (w.take k) (c.take k) < capN := fun k => by
    have h1 := dotN_le (a := w.take k) (b := c.take k) (B := 256 ^ 100) (C := 1000000) (fun x hx => Nat.le_of_lt (hSc x (List.mem_of_mem_take hx))) (fun x hx => hCc x (List.mem_of_mem_take hx))
    have h2 : (w.take k).length ≤ 12 := by rw [List.length_take]; omega
    have h3 : (w.take k).length * (256 ^ 100 * 1000000) ≤ 12 * (256 ^ 100 * 1000000) := Nat.mul_le_mul_right _ h2
    have h4 : 12 * (256 ^ 100 * 1000000) < capN := by unfold capN; decide
    omega
  refine AWp.loopI (fun k : Nat => ⟨mkF 115 [(2, .p (.sl (l.map .str))), (6, .ptr 0 0), (7, .own 1 n), (8, .own 2 n), (12, .ptr 3 0), (13, .p (.int .i64 k))],
      [.box [.p (.bool false), .p (.str [])], .row 31 2 (w.map (intN false)) .own, .row 3 1 (c.map Kn.nV) .own, .box [.p (.bool false), .p (.str (magB (dotN (w.take k) (c.take k))))]]⟩)
    (fun k => k ≤ n) (fun k => n - k) 0 (by simp [go_sem, dotN, magB_zero]) (by omega) ?_
  intro k hk
  simp -implicitDefEqProofs only [go_sem]
  refine AWp.of_awpD [(21, 12)] hΓ hmix (by kernel_rfl) ?_
  by_cases hlt : k < n
  · have hlt' : (k : Int) < (n : Int) := by omega
    have hkS : k < w.length := by omega
    have hkC : k < c.length := by omega
    have hgC : (c.map Kn.nV).getD k default = .int .i64 (c.getD k 0 : Nat) := by
      rw [getD_map_lt _ _ _ _ hkC, List.getD_eq_getElem?_getD, List.getElem?_eq_getElem hkC, Option.getD_some]; rfl
    have hgS : (w.map (intN false)).getD k default = .agg [.bool false, .str (magB (w.getD k 0))] := by
      rw [← intN_pos, getD_map_lt _ _ _ _ hkS, List.getD_eq_getElem?_getD, List.getElem?_eq_getElem hkS, Option.getD_some]
    have hcC : c.getD k 0 ≤ 1000000 := by
      rw [List.getD_eq_getElem?_getD, List.getElem?_eq_getElem hkC, Option.getD_some]; exact hCc _ (List.getElem_mem hkC)
    have hcS : w.getD k 0 < 256 ^ 100 := by
      rw [List.getD_eq_getElem?_getD, List.getElem?_eq_getElem hkS, Option.getD_some]; exact hSc _ (List.getElem_mem hkS)
    have e74 := u76 (c.getD k 0) (by omega)
    have e73 := q73 (w.getD k 0) (c.getD k 0) (cap_of hcS (by decide)) (cap_of (k := 3) (by omega) (by decide))
    have hmul : w.getD k 0 * c.getD k 0 < capN := by
      have h1 : w.getD k 0 * c.getD k 0 ≤ 256 ^ 100 * 1000000 := Nat.mul_le_mul (Nat.le_of_lt hcS) hcC
      have h4 : 256 ^ 100 * 1000000 < capN := by unfold capN; decide
      omega
    have e72 := q72 (dotN (w.take k) (c.take k)) (w.getD k 0 * c.getD k 0) (hdc k) hmul
    rw [← dotN_take hkS hkC, intN_pos, intN_pos, intN_pos] at e72
    rw [intN_pos, intN_pos, intN_pos] at e73
    rw [intN_pos] at e74
    simp -implicitDefEqProofs only [hln, hlt, hlt', hgC, hgS, hkS, hkC, Int.toNat_natCast, List.length_map, go_sem]
    refine callVPK_fn e74 (.pures rfl) ?_
    simp -implicitDefEqProofs only [go_sem]
    refine callVPK_fn e73 (.still rfl) ?_
    simp -implicitDefEqProofs only [go_sem]
    refine callVPK_fn e72 (.still rfl) ?_
    simp -implicitDefEqProofs only [go_sem]
    refine ⟨by simp only [InR]; omega, k + 1, ?_, by omega, by omega⟩
    first | omega | exact ⟨by omega, rfl⟩ | simp
  have hkL : n = k := by omega
  subst hkL
  simp -implicitDefEqProofs only [hln, Nat.lt_irrefl, Int.lt_irrefl, List.length_map, go_sem]
  rw [List.take_of_length_le (by omega : w.length ≤ n), List.take_of_length_le (by omega : c.length ≤ n)]
  refine AWp.of_awpD [] hΓ hmix (by kernel_rfl) ?_
  simp -implicitDefEqProofs only [go_sem]
  try rfl
end Go.Proofs.YtnaekjbbakofdaaGreat
end

section
namespace Go.Proofs.YtnaekjbbakofdaaGreat
open Go Go.AM List

def minM (cs W : List Nat) (m : Nat) (x : List Wd) : Nat := if matchN cs W x < m then matchN cs W x else m
theorem minM_fold (cs W : List Nat) : ∀ (xs : List (List Wd)) (m : Nat), xs.foldl (minM cs W) m ≤ m ∧ (∀ x ∈ xs, xs.foldl (minM cs W) m ≤ matchN cs W x) ∧ (xs.foldl (minM cs W) m = m ∨ ∃ x ∈ xs, matchN cs W x = xs.foldl (minM cs W) m)
  | [], m => ⟨Nat.le_refl _, by simp, .inl rfl⟩
  | x :: xs, m => by
    obtain ⟨h1, h2, h3⟩ := minM_fold cs W xs (minM cs W m x)
    rw [List.foldl_cons]
    have h4 : minM cs W m x ≤ m ∧ minM cs W m x ≤ matchN cs W x ∧ (minM cs W m x = m ∨ minM cs W m x = matchN cs W x) := by
      unfold minM; split
      · exact ⟨by omega, by omega, .inr rfl⟩
      · exact ⟨by omega, by omega, .inl rfl⟩
    refine ⟨by omega, fun y hy => ?_, ?_⟩
    · rcases List.mem_cons.1 hy with rfl | hy
      · omega
      · exact h2 y hy
    · rcases h3 with h3 | ⟨y, hy, h3⟩
      · rcases h4.2.2 with h5 | h5
        · exact .inl (by omega)
        · exact .inr ⟨x, by simp, by omega⟩
      · exact .inr ⟨y, by simp [hy], h3⟩
theorem least_fold {cs W : List Nat} (hc : OkC cs) (hw : OkW W) : ∃ x rest, trT cs.length W.length = x :: rest ∧ rest.foldl (minM cs W) (matchN cs W x) = leastL cs W := by
  have hT : trT cs.length W.length = treesF cs.length W.length W.length [] := trT_trees hw.pos
  obtain ⟨⟨x, hx, _⟩, _⟩ := best_min hc hw
  rw [← hT] at hx
  match hm : trT cs.length W.length with
  | [] => rw [hm] at hx; cases hx
  | y :: rest =>
    refine ⟨y, rest, rfl, ?_⟩
    obtain ⟨h1, h2, h3⟩ := minM_fold cs W rest (matchN cs W y)
    refine (leastL_eq (by have := hc.l3; omega) (by have := hw.l5; omega) (fun z hz => ?_) ?_).symm
    · rw [← hT, hm] at hz
      rcases List.mem_cons.1 hz with rfl | hz
      · exact h1
      · exact h2 z hz
    · rw [← hT, hm]
      rcases h3 with h3 | ⟨z, hz, h3⟩
      · exact ⟨y, by simp, h3.symm⟩
      · exact ⟨z, by simp [hz], h3⟩
theorem trT_good {cs W : List Nat} (hc : OkC cs) (hw : OkW W) {x : List Wd} (hx : x ∈ trT cs.length W.length) : x.length = W.length ∧ ∀ w ∈ x, w.length ≤ 1000 ∧ okW cs.length w = true := by
  rw [trT_trees hw.pos] at hx
  exact goodB_of.1 (trees_good (by have := hc.l3; omega) (by have := hw.l5; omega) hx)
theorem ins_behind {l : List Nat} {x k : Nat} (h : l.Pairwise (· ≤ ·)) (hk : k ≤ l.length) (h1 : ∀ j (hj : j < l.length), j < k → l[j] ≤ x) (h2 : ∀ hj : k < l.length, x < l[k]) : insA l k x = putS l x := by
  have hp : ∀ i, insA l i x ~ x :: l := fun i => by
    unfold insA
    have := (List.perm_middle (a := x) (l₁ := l.take i) (l₂ := l.drop i))
    rwa [List.take_append_drop] at this
  have hs : (insA l k x).Pairwise rU := by
    unfold insA
    have hd : ∀ y ∈ l.drop k, x ≤ y := fun y hy => by
      obtain ⟨j, hj, rfl⟩ := List.getElem_of_mem hy
      rw [List.length_drop] at hj
      rw [List.getElem_drop]
      have hkl : k < l.length := by omega
      have := h2 hkl
      rcases Nat.eq_zero_or_pos j with rfl | hj0
      · simp only [Nat.add_zero]; omega
      · have := List.pairwise_iff_getElem.1 h k (k + j) hkl (by omega) (by omega)
        omega
    have ht : ∀ y ∈ l.take k, y ≤ x := fun y hy => by
      obtain ⟨j, hj, rfl⟩ := List.getElem_of_mem hy
      rw [List.length_take] at hj
      rw [List.getElem_take]
      exact h1 j (by omega) (by omega)
    rw [List.pairwise_append]
    refine ⟨h.sublist (List.take_sublist _ _), List.pairwise_cons.2 ⟨hd, h.sublist (List.drop_sublist _ _)⟩, fun a ha b hb => ?_⟩
    have := ht a ha
    rcases List.mem_cons.1 hb with rfl | hb
    · exact this
    · exact Nat.le_trans this (hd b hb)
  have e1 := up_uniq (hp k) hs
  have e2 := up_uniq (hp (cntLt l x)) (putS_sorted h)
  rw [← e1, e2]; rfl

theorem ordF_num : ∀ {f : Nat} {l : List Wd}, l.length = f → f ≤ 5 → (ordF f l).length ≤ 5 ^ f ∧ ∀ m ∈ ordF f l, m.length = f
  | 0, l, _, _ => by simp [ordF]
  | f + 1, l, h, hf => by
    have h0 : l ≠ [] := fun e => by rw [e] at h; cases h
    have ih : ∀ i, i < l.length → (ordF f (cutOut l i (i + 1))).length ≤ 5 ^ f ∧ ∀ m ∈ ordF f (cutOut l i (i + 1)), m.length = f := fun i hi => ordF_num (by unfold cutOut; simp; omega) (by omega)
    rw [ordF, if_neg h0]
    constructor
    · have key : ∀ k, k ≤ l.length → ((List.range k).flatMap fun i => (ordF f (cutOut l i (i + 1))).map (l.getD i [] :: ·)).length ≤ k * 5 ^ f := by
        intro k
        induction k with
        | zero => intro _; simp
        | succ k ihk =>
          intro hk
          have := ihk (by omega)
          rw [List.range_succ, List.flatMap_append, List.length_append, List.flatMap_cons, List.flatMap_nil, List.append_nil, List.length_map, Nat.succ_mul]
          have := (ih k (by omega)).1
          omega
      have := key l.length (Nat.le_refl _)
      rw [h] at this
      have h5 : (f + 1) * 5 ^ f ≤ 5 * 5 ^ f := Nat.mul_le_mul_right _ hf
      rw [Nat.pow_succ, Nat.mul_comm (5 ^ f) 5]
      rw [h]; omega
    · intro m hm
      obtain ⟨i, hi, hm⟩ := List.mem_flatMap.1 hm
      obtain ⟨r, hr, rfl⟩ := List.mem_map.1 hm
      have := (ih i (List.mem_range.1 hi)).2 r hr
      simp [this]
end Go.Proofs.YtnaekjbbakofdaaGreat
end

section
namespace Go.Proofs.YtnaekjbbakofdaaGreat
open Go Go.AM
set_option maxRecDepth 100000
set_option maxHeartbeats 4000000
set_option linter.unusedSimpArgs false

theorem q43 : ∀ (f : Nat) (l : List Wd), l.length = f → f ≤ 5 → (∀ w ∈ l, w.length ≤ 1000) → PFn Tryz.prog 43 [.sl (l.map .str)] [.sl ((ordF f l).map slW)] := by
  intro f
  induction f with
  | zero =>
    intro l hl _ _
    have : l = [] := List.length_eq_zero_iff.1 hl
    subst this
    have hs0 : sizeOK [PV.sl []] 1 := by simp [sizeOK, PV.cells]
    refine PFn.of_body hΓ Tryz.func43 (by kernel_rfl) rfl (AWp.seq (AWp.of_awpD [] hΓ hmix (by kernel_rfl) ?_))
    simp -implicitDefEqProofs only [Tryz.ntmps43, Tryz.results43, Nat.reduceAdd, Nat.reduceSub, List.map_nil, go_sem]
    refine AWp.seq (AWp.of_awpD [] hΓ hmix (by kernel_rfl) ?_)
    have h00 : ((0 : Nat) : Int) = 0 := rfl
    simp -implicitDefEqProofs only [List.length_nil, h00, go_sem]
    exact ⟨⟨hs0, by omega⟩, rfl⟩
  | succ f ih =>
    intro l hl hf hw
    have hl0 : ¬ (l.length : Int) = 0 := by omega
    have hne : l ≠ [] := fun h => by rw [h] at hl; cases hl
    obtain ⟨acc, hacc⟩ : ∃ acc : Nat → List (List Wd), acc = fun k => (List.range k).flatMap fun i => (ordF f (cutOut l i (i + 1))).map (l.getD i [] :: ·) := ⟨_, rfl⟩
    have he : ordF (f + 1) l = acc l.length := by rw [ordF, if_neg hne, hacc]
    have hstep : ∀ k, acc (k + 1) = acc k ++ (ordF f (cutOut l k (k + 1))).map (l.getD k [] :: ·) := fun k => by rw [hacc]; simp [List.range_succ, List.flatMap_append]
    have ha0 : acc 0 = [] := by rw [hacc]; rfl
    have hcl : ∀ k, k < l.length → (cutOut l k (k + 1)).length = f := fun k hk => by unfold cutOut; simp; omega
    have hmono : ∀ k, k ≤ l.length → (acc k).length ≤ k * 5 ^ f := by
      intro k
      induction k with
      | zero => intro _; rw [ha0]; simp
      | succ k ihk =>
        intro hk
        have := ihk (by omega)
        have h2 := (ordF_num (hcl k (by omega)) (by omega)).1
        rw [hstep, List.length_append, List.length_map, Nat.succ_mul]
        omega
    have h5f : 5 ^ f ≤ 625 := by
      have : 5 ^ f ≤ 5 ^ 4 := Nat.pow_le_pow_right (by omega) (by omega)
      omega
    have hcap : ∀ k, k ≤ l.length → (acc k).length ≤ 100000 := fun k hk => by
      have h1 := hmono k hk
      have h2 : k * 5 ^ f ≤ 5 * 625 := Nat.mul_le_mul (by omega) h5f
      omega
    rw [he]
    refine PFn.of_body hΓ Tryz.func43 (by kernel_rfl) rfl (AWp.seq (AWp.of_awpD [] hΓ hmix (by kernel_rfl) ?_))
    simp -implicitDefEqProofs only [Tryz.ntmps43, Tryz.results43, Nat.reduceAdd, Nat.reduceSub, go_sem]
    refine AWp.seq (AWp.of_awpD [] hΓ hmix (by kernel_rfl) ?_)
    simp -implicitDefEqProofs only [List.length_map, hl0, go_sem]
    refine AWp.seq (AWp.of_awpD [] hΓ hmix (by kernel_rfl) ?_)
    simp -implicitDefEqProofs only [go_sem]
    refine AWp.adopt (l := []) 3 26 1 (by rfl) (by simp) ?_
    simp -implicitDefEqProofs only [go_sem]
    refine AWp.seq (AWp.seq (AWp.of_awpD [] hΓ hmix (by kernel_rfl) ?_))
    simp -implicitDefEqProofs only [go_sem]
    refine AWp.block ?_
    refine AWp.loopJ (fun k : Nat => ⟨mkF 48 [(0, .p (.sl (l.map .str))), (3, .own 0 (acc k).length), (4, .p (.int .i64 k))], [.row 26 1 ((acc k).map slW) .lax]⟩)
      (fun k => k ≤ l.length) (fun k => l.length - k) 0 (fun x => by simp [BelowAll, mkF, AV.blw, AV.blw.blwL, blwH, AObj.blw]) (by simp [go_sem, ha0]) (Nat.zero_le _) ?_
    intro k hk
    simp -implicitDefEqProofs only [go_sem]
    refine AWp.of_awpD [(7, 1000), (11, 1000)] hΓ hmix (by kernel_rfl) ?_
    by_cases hlt : k < l.length
    rotate_left
    · have hkl : l.length = k := by omega
      subst hkl
      simp -implicitDefEqProofs only [Int.lt_irrefl, List.length_map, go_sem]
      refine AWp.of_awpD [] hΓ hmix (by kernel_rfl) ?_
      simp -implicitDefEqProofs only [go_sem]
    have hlt' : (k : Int) < (l.length : Int) := by omega
    have hk1 : (k : Int) + 1 = ((k + 1 : Nat) : Int) := by omega
    have hcut : (l.map PV.str).take k ++ (l.map PV.str).drop (k + 1) = (cutOut l k (k + 1)).map .str := by unfold cutOut; rw [List.map_append, List.map_take, List.map_drop]
    have hsl : sizeOK (l.map PV.str) 1 := size_str l
    have htk : sizeOK ((l.map PV.str).take k) 1 ∧ oneOK ((l.map PV.str).take k) := by rw [← List.map_take]; exact ⟨size_str _, one_str _⟩
    have hdp : sizeOK ((l.map PV.str).drop (k + 1)) 1 ∧ oneOK ((l.map PV.str).drop (k + 1)) := by rw [← List.map_drop]; exact ⟨size_str _, one_str _⟩
    have hsn : sizeOK [] 1 := by simp [sizeOK]
    have ht1 : ((l.map PV.str).take k).length ≤ 100 := by rw [List.length_take, List.length_map]; omega
    have hd1 : ((l.map PV.str).drop (k + 1)).length ≤ 100 := by rw [List.length_drop, List.length_map]; omega
    have e43 := ih (cutOut l k (k + 1)) (hcl k hlt) (by omega) (fun w hw' => hw w (by
      unfold cutOut at hw'
      rcases List.mem_append.1 hw' with h | h
      · exact List.mem_of_mem_take h
      · exact List.mem_of_mem_drop h))
    rw [← hcut] at e43
    have hs := hstep k
    have hcapk := hcap (k + 1) (by omega)
    obtain ⟨hRn, hRl⟩ := ordF_num (hcl k hlt) (by omega : f ≤ 5)
    rw [hs] at hcapk
    generalize ordF f (cutOut l k (k + 1)) = R at *
    simp -implicitDefEqProofs only [hlt', List.length_map, go_sem]
    refine AWp.planL (.q 0 (.q 1 (.q 2 (.q 3 (.q 5 (.q 6 (.q 7 (.q 8 (.e 4 (.s 5 (.s 6 (.s 7 (.s 8 (.e 9 (.e 10 (.q 11 .fin) .nil) .nil))))) .nil))))))))) hΓ hmix (by kernel_rfl) ?_
    simp -implicitDefEqProofs only [List.length_map, hk1, Int.toNat_natCast, go_sem]
    refine ⟨⟨hsn, by omega⟩, hsl, by omega, by simp only [InR]; omega, hsl, by omega, htk, ⟨hsn, by omega, by omega⟩, by simp only [InR]; omega, ⟨hsl, by omega⟩, hdp, ⟨by split <;> simp, .inl (by omega), by omega, by omega⟩,
      callK_give 1 e43 rfl (by simp [AV.thaw, AV.purL, AV.pur, AV.pur1]) ?_⟩
    simp -implicitDefEqProofs only [AObj.thaw, AV.thaw, AV.thaw.thawL, List.map_cons, List.map_nil, List.set_cons_zero, List.set_cons_succ, go_sem]
    have hkg : l.getD k [] = l[k] := by rw [List.getD_eq_getElem?_getD, List.getElem?_eq_getElem hlt, Option.getD_some]
    have hgl : (l.map PV.str).getD k default = .str (l.getD k []) := by rw [getD_map_lt _ _ _ _ hlt, hkg]
    obtain ⟨x, hx⟩ : ∃ x, x = l.getD k [] := ⟨_, rfl⟩
    rw [← hx] at hgl hs hcapk
    refine AWp.loopJ (fun j : Nat => ⟨mkF 48 [(0, .p (.sl (l.map .str))), (3, .own 0 (acc k ++ (R.take j).map (x :: ·)).length), (4, .p (.int .i64 k)), (5, .p (.sl (R.map slW))), (6, .p (.int .i64 j))], [.row 26 1 ((acc k ++ (R.take j).map (x :: ·)).map slW) .lax]⟩)
      (fun j => j ≤ R.length) (fun j => R.length - j) 0 (fun x => by simp [BelowAll, mkF, AV.blw, AV.blw.blwL, blwH, AObj.blw]) (by simp [go_sem]) (Nat.zero_le _) ?_
    intro j hj
    simp -implicitDefEqProofs only [go_sem]
    refine AWp.of_awpD [(11, 1000)] hΓ hmix (by kernel_rfl) ?_
    by_cases hjr : j < R.length
    rotate_left
    · have hjR : R.length = j := by omega
      have hjr' : ¬ (j : Int) < (R.length : Int) := by omega
      simp -implicitDefEqProofs only [hjr', List.length_map, go_sem]
      refine ⟨by simp only [InR]; omega, k + 1, ⟨⟨?_, by omega⟩, ?_⟩, by omega, by omega⟩
      · rw [hs, List.take_of_length_le (by omega)]
      · rw [hs, List.take_of_length_le (by omega)]
    have hjr' : (j : Int) < (R.length : Int) := by omega
    have hgR : (R.map slW).getD j default = .sl (R[j].map .str) := getD_map_lt _ _ _ _ hjr
    have hRj := hRl _ (List.getElem_mem hjr)
    have hnum : (acc k ++ (R.take j).map (x :: ·)).length ≤ 100000 := by
      rw [List.length_append, List.length_map] at hcapk ⊢
      rw [List.length_take]; omega
    simp -implicitDefEqProofs only [hjr', List.length_map, go_sem]
    refine AWp.planL (.q 0 (.q 1 (.q 2 (.q 3 (.q 4 (.q 5 (.q 6 (.q 7 (.q 8 (.q 9 (.e 10 (.s 0 (.e 11 (.s 0 (.e 12 (.q 13 .fin) .nil)) .nil)) .nil))))))))))) hΓ hmix (by kernel_rfl) ?_
    simp -implicitDefEqProofs only [hlt, hgl, hjr, hgR, Int.toNat_natCast, List.length_map, go_sem]
    have hsx : sizeOK [PV.str x] 1 := by simp [sizeOK, PV.cells]
    have hss : ∀ l, sizeOK [PV.sl l] 1 := fun l => by simp [sizeOK, PV.cells]
    have hoo : ∀ l, oneOK [PV.sl l] := fun l => by simp [oneOK, PV.cells, PV.isAgg]
    have htR : (R.take (j + 1)).map (x :: ·) = (R.take j).map (x :: ·) ++ [x :: R[j]] := by rw [List.take_succ_eq_append_getElem hjr, List.map_append]; rfl
    refine ⟨⟨hsx, by omega⟩, ⟨size_str _, one_str _⟩, ⟨hsx, by omega, by omega⟩, ⟨hss _, by omega⟩, ⟨hss _, hoo _⟩, ⟨by omega, by omega⟩, by simp only [InR]; omega, j + 1, ⟨⟨?_, by omega⟩, .inr (.inl ?_)⟩, by omega, by omega⟩
    · rw [htR, ← List.append_assoc, List.length_append]; rfl
    · have hrow : (acc k ++ (R.take (j + 1)).map (x :: ·)).map slW = (acc k ++ (R.take j).map (x :: ·)).map slW ++ [PV.sl (PV.str x :: R[j].map PV.str)] := by
        rw [htR, ← List.append_assoc, List.map_append (l₂ := [x :: R[j]])]; rfl
      rw [hrow]
end Go.Proofs.YtnaekjbbakofdaaGreat
end

section
namespace Go.Proofs.YtnaekjbbakofdaaGreat
open Go Go.AM
set_option maxRecDepth 100000
set_option maxHeartbeats 4000000
set_option linter.unusedSimpArgs false

theorem q40 {cs W : List Nat} (hc : OkC cs) (hw : OkW W) : PFn Tryz.prog 40 [.sl (cs.map Kn.nV), .sl (W.map (intN false))] [intN false (leastL cs W)] := by
  obtain ⟨x, rest, hT, hL⟩ := least_fold hc hw
  have e41 := q41 (q := cs.length) (n := W.length) hc.l3 hw.pos hw.l5
  have hgood : ∀ y ∈ x :: rest, y.length = W.length ∧ ∀ w ∈ y, w.length ≤ 1000 ∧ okW cs.length w = true := fun y hy => trT_good hc hw (hT ▸ hy)
  have hnum := trT_num (q := cs.length) (n := W.length) hc.l3 hw.l5
  rw [hT] at e41 hnum
  obtain ⟨L, hLd⟩ : ∃ L, L = (x :: rest).map slW := ⟨_, rfl⟩
  have hLl : L.length = rest.length + 1 := by rw [hLd, List.length_map, List.length_cons]
  rw [← hLd] at e41
  have hrl : rest.length ≤ 100000 := by rw [List.length_cons] at hnum; omega
  have e42 := q42 hc hw x (hgood x (by simp)).1 (hgood x (by simp)).2
  rw [intN_pos] at e42 ⊢
  have h3 := hc.l3
  have h5 := hw.l5
  refine PFn.of_body hΓ Tryz.func40 (by kernel_rfl) rfl (AWp.seq (AWp.of_awpD [] hΓ hmix (by kernel_rfl) ?_))
  simp -implicitDefEqProofs only [Tryz.ntmps40, Tryz.results40, Nat.reduceAdd, Nat.reduceSub, go_sem]
  refine AWp.seq (AWp.of_awpD [] hΓ hmix (by kernel_rfl) ?_)
  simp -implicitDefEqProofs only [List.length_map, go_sem]
  refine callK_fn e41 (.pures rfl) ?_
  simp -implicitDefEqProofs only [go_sem]
  refine AWp.seq (AWp.of_awpD [] hΓ hmix (by kernel_rfl) ?_)
  have hg0 : L.getD (Int.toNat 0) default = .sl (x.map .str) := by rw [hLd]; rfl
  simp -implicitDefEqProofs only [hg0, hLl, go_sem]
  refine ⟨by omega, callK_fn e42 (.pures rfl) ?_⟩
  simp -implicitDefEqProofs only [go_sem]
  refine AWp.seq (AWp.seq (AWp.of_awpD [] hΓ hmix (by kernel_rfl) ?_))
  simp -implicitDefEqProofs only [go_sem]
  refine AWp.block ?_
  obtain ⟨mi, hmi⟩ : ∃ mi : Nat → Nat, mi = fun i => (rest.take i).foldl (minM cs W) (matchN cs W x) := ⟨_, rfl⟩
  have hm0 : mi 0 = matchN cs W x := by rw [hmi]; rfl
  have hmL : mi rest.length = leastL cs W := by rw [hmi, ← hL]; simp
  have hms : ∀ i (hi : i < rest.length), mi (i + 1) = minM cs W (mi i) rest[i] := fun i hi => by
    rw [hmi]; simp only; rw [List.take_succ_eq_append_getElem hi, List.foldl_append]; rfl
  rw [← hm0, ← hmL]
  refine AWp.loopJ (fun i : Nat => ⟨mkF 39 [(0, .p (.sl (cs.map Kn.nV))), (1, .p (.sl (W.map (intN false)))), (4, .ptr 0 0), (5, .p (.sl L)), (6, .ptr 1 0), (7, .p (.int .i64 (i + 1 : Nat)))],
      [.box [.p (.bool false), .p (.str [])], .box [.p (.bool false), .p (.str (magB (mi i)))]]⟩)
    (fun i => i ≤ rest.length) (fun i => rest.length - i) 0 (fun x => by simp [BelowAll, mkF, AV.blw, AV.blw.blwL, blwH, AObj.blw]) (by simp [go_sem]) (Nat.zero_le _) ?_
  intro i hi
  simp -implicitDefEqProofs only [go_sem]
  refine AWp.of_awpD [] hΓ hmix (by kernel_rfl) ?_
  by_cases hlt : i < rest.length
  rotate_left
  · have hil : rest.length = i := by omega
    have hlt' : ¬ ((i + 1 : Nat) : Int) < (L.length : Int) := by omega
    subst hil
    simp -implicitDefEqProofs only [hlt', go_sem]
    refine AWp.of_awpD [] hΓ hmix (by kernel_rfl) ?_
    simp -implicitDefEqProofs only [go_sem]
  have hlt' : ((i + 1 : Nat) : Int) < (L.length : Int) := by omega
  have hgi : L.getD (i + 1) default = .sl (rest[i].map .str) := by
    rw [hLd, List.map_cons, List.getD_cons_succ, getD_map_lt _ _ _ _ hlt]; rfl
  have hmem : rest[i] ∈ x :: rest := List.mem_cons_of_mem _ (List.getElem_mem hlt)
  have e42i := q42 hc hw rest[i] (hgood _ hmem).1 (hgood _ hmem).2
  have e70 := q70 (matchN cs W rest[i]) (mi i)
  rw [intN_pos] at e42i
  rw [intN_pos, intN_pos] at e70
  have hs := hms i hlt
  have hi1 : i + 1 < L.length := by omega
  simp -implicitDefEqProofs only [hlt', hi1, hgi, Int.toNat_natCast, go_sem]
  refine callK_fn e42i (.pures rfl) ?_
  simp -implicitDefEqProofs only [go_sem]
  refine callK_fn e70 (.still rfl) ?_
  by_cases hm : matchN cs W rest[i] < mi i
  · have hm1 : (-1 : Int) < 0 := by decide
    have he : mi (i + 1) = matchN cs W rest[i] := by rw [hs]; unfold minM; rw [if_pos hm]
    rw [cmpN_lt hm]
    simp -implicitDefEqProofs only [hm1, go_sem]
    --@@
    exact ⟨by simp only [InR]; omega, i + 1, ⟨by omega, by rw [he]⟩, by omega, by omega⟩
  · have hnn : ¬ cmpN (matchN cs W rest[i]) (mi i) < 0 := by unfold cmpN; rw [if_neg (by omega)]; split <;> decide
    have he : mi (i + 1) = mi i := by rw [hs]; unfold minM; rw [if_neg hm]
    simp -implicitDefEqProofs only [hnn, go_sem]
    exact ⟨by simp only [InR]; omega, i + 1, ⟨by omega, by rw [he]⟩, by omega, by omega⟩

theorem q16 (cs : List Int) (W : List WV) (hcl : cs.length ≤ 1000) (hWl : W.length ≤ 1000) (hW : ∀ w ∈ W, w.2.length ≤ 100) : PFn Tryz.prog 16 [.sl (cs.map Kn.iV), .sl (W.map wV)] [intN false (leastR cs W).1, .int .i64 (leastR cs W).2] := by
  have hz : intN false 0 = .agg [.bool false, .str []] := rfl
  have e37 := c37w cs W (by omega) hW (by omega)
  by_cases h0 : chkW cs W = 0
  rotate_left
  · unfold leastR
    rw [if_pos h0, hz]
    refine PFn.of_body hΓ Tryz.func16 (by kernel_rfl) rfl (AWp.of_awpD [] hΓ hmix (by kernel_rfl) ?_)
    simp -implicitDefEqProofs only [Tryz.ntmps16, Tryz.results16, Nat.reduceAdd, Nat.reduceSub, go_sem]
    refine callK_fn e37 (.pures rfl) ?_
    simp -implicitDefEqProofs only [h0, go_sem]
    try rfl
  obtain ⟨ns, V, e1, e2, hc, hw, e3, e4⟩ := optW hW h0
  have e40 := q40 hc hw
  rw [h0, e1, e2] at e37
  unfold leastR
  rw [if_neg (by omega), e1, e2, ← e3, ← e4]
  rw [intN_pos] at e40 ⊢
  refine PFn.of_body hΓ Tryz.func16 (by kernel_rfl) rfl (AWp.of_awpD [] hΓ hmix (by kernel_rfl) ?_)
  simp -implicitDefEqProofs only [Tryz.ntmps16, Tryz.results16, Nat.reduceAdd, Nat.reduceSub, go_sem]
  refine callK_fn e37 (.pures rfl) ?_
  simp -implicitDefEqProofs only [go_sem]
  refine callK_fn e40 (.pures rfl) ?_
  simp -implicitDefEqProofs only [go_sem]
  try rfl
end Go.Proofs.YtnaekjbbakofdaaGreat
end

section
namespace Go.AM
theorem AWp.setNil {E : Env} {r : Option Nat} {Q : Exit → St → Prop} {st : St} {id d : Nat} {T : TypeId} {pos : String} (hk : Q .normal ⟨putD st.tmps (some d) .nil, st.h⟩) :
    AWp E r (.region id #[⟨some d, .assign (.const (.slice none 0 0)), T, pos, #[], none⟩] false) Q st := fun X I w a hE hN => by
  refine wpIn_region ?_
  obtain ⟨I', μ', ob', hI, R⟩ := hN
  have h0 : (#[(⟨some d, .assign (.const (.slice none 0 0)), T, pos, #[], none⟩ : Oper)] : Array Oper)[0]? = some ⟨some d, .assign (.const (.slice none 0 0)), T, pos, #[], none⟩ := rfl
  show wpOpsIn (Fw r) 0 E.P _ _ [0] a w
  simp only [wpOpsIn, h0]
  exact wpIn_next_mono (fun a' w' ⟨st', hn, hd', hk'⟩ => ⟨st', hn.trans hI, hk'⟩) (wp_pure (K := Q .normal) R (by simp) ⟨.nil, .slice none 0 0, by simp [execOp, Act.eval], .nil, hk⟩)
end Go.AM
end

section
namespace Go.Proofs.YtnaekjbbakofdaaGreat
open Go Go.AM
set_option maxRecDepth 100000
set_option maxHeartbeats 4000000
set_option linter.unusedSimpArgs false

def outA : Option (List Wd) → AV
  | none => .nil
  | some b => .p (.sl (b.map .str))
theorem q14n {cs W : List Nat} (hc : OkC cs) (hw : OkW W) (e37 : PFn Tryz.prog 37 [.sl (cs.map Kn.nV), .sl (W.map (intN false))] [.int .i64 0]) :
    PFn Tryz.prog 14 [.sl (cs.map Kn.nV), .sl (W.map (intN false))] [.sl ((bestL cs W).map .str), .int .i64 0] := by
  have e40 := q40 hc hw
  have e41 := q41 (q := cs.length) (n := W.length) hc.l3 hw.pos hw.l5
  have hbest := refOpt_best hc hw
  rw [← trT_trees hw.pos] at hbest
  have hgood : ∀ y ∈ trT cs.length W.length, y.length = W.length ∧ ∀ w ∈ y, w.length ≤ 1000 ∧ okW cs.length w = true := fun y hy => trT_good hc hw hy
  have hnum := trT_num (q := cs.length) (n := W.length) hc.l3 hw.l5
  unfold refOpt at hbest
  generalize trT cs.length W.length = T at *
  generalize leastL cs W = most at *
  obtain ⟨st, hst⟩ : ∃ st : Nat → Option (List Wd), st = fun i => (T.take i).foldl (refTree cs W most W.length) none := ⟨_, rfl⟩
  have hst0 : st 0 = none := by rw [hst]; rfl
  have hstL : st T.length = some (bestL cs W) := by rw [hst, ← hbest]; simp
  have hstS : ∀ i (hi : i < T.length), st (i + 1) = refTree cs W most W.length (st i) T[i] := fun i hi => by
    rw [hst]; simp only; rw [List.take_succ_eq_append_getElem hi, List.foldl_append]; rfl
  have hfold : ∀ (ls : List (List Wd)) (o : Option (List Wd)), (∀ b, o = some b → b.length = W.length) → (∀ l ∈ ls, l.length = W.length) → ∀ b, ls.foldl (refStep cs W most) o = some b → b.length = W.length := by
    intro ls
    induction ls with
    | nil => intro o ho _ b hb; exact ho b hb
    | cons l ls ih =>
      intro o ho hl b hb
      rw [List.foldl_cons] at hb
      refine ih _ (fun b hb => ?_) (fun m hm => hl m (by simp [hm])) b hb
      unfold refStep at hb
      split at hb
      · cases o with
        | none => injection hb with hb; rw [← hb]; exact hl l (by simp)
        | some c =>
          simp only at hb
          split at hb
          · injection hb with hb; rw [← hb]; exact hl l (by simp)
          · injection hb with hb; rw [← hb]; exact ho c rfl
      · exact ho b hb
  have hordl : ∀ y ∈ T, ∀ l ∈ ordF W.length y, l.length = W.length := fun y hy l hl => (ordF_num (hgood y hy).1 hw.l5).2 l hl
  have hlen : ∀ i, i ≤ T.length → ∀ b, st i = some b → b.length = W.length := by
    intro i
    induction i with
    | zero => intro _ b hb; rw [hst0] at hb; cases hb
    | succ i ih =>
      intro hi b hb
      rw [hstS i (by omega)] at hb
      unfold refTree at hb
      split at hb
      · exact ih (by omega) b hb
      · exact hfold _ _ (ih (by omega)) (hordl _ (List.getElem_mem (by omega))) b hb
  have h3 := hc.l3
  have h5 := hw.l5
  rw [intN_pos] at e40
  refine PFn.of_body hΓ Tryz.func14 (by kernel_rfl) rfl (AWp.seq (AWp.of_awpD [] hΓ hmix (by kernel_rfl) ?_))
  simp -implicitDefEqProofs only [Tryz.ntmps14, Tryz.results14, Nat.reduceAdd, Nat.reduceSub, go_sem]
  refine AWp.seq (AWp.of_awpD [] hΓ hmix (by kernel_rfl) ?_)
  simp -implicitDefEqProofs only [go_sem]
  refine callK_fn e37 (.pures rfl) ?_
  simp -implicitDefEqProofs only [go_sem]
  refine AWp.seq (AWp.of_awpD [] hΓ hmix (by kernel_rfl) ?_)
  simp -implicitDefEqProofs only [go_sem]
  refine callK_fn e40 (.pures rfl) ?_
  simp -implicitDefEqProofs only [go_sem]
  refine AWp.seq (AWp.setNil ?_)
  simp -implicitDefEqProofs only [go_sem]
  refine AWp.seq (AWp.of_awpD [] hΓ hmix (by kernel_rfl) ?_)
  simp -implicitDefEqProofs only [List.length_map, go_sem]
  refine callK_fn e41 (.pures rfl) ?_
  simp -implicitDefEqProofs only [go_sem]
  refine AWp.seq (AWp.seq (AWp.of_awpD [] hΓ hmix (by kernel_rfl) ?_))
  simp -implicitDefEqProofs only [go_sem]
  refine AWp.block ?_
  refine AWp.loopJ (fun i : Nat => ⟨mkF 79 [(0, .p (.sl (cs.map Kn.nV))), (1, .p (.sl (W.map (intN false)))), (7, .ptr 0 0), (8, outA (st i)), (9, .p (.sl (T.map slW))), (10, .p (.int .i64 i))],
      [.box [.p (.bool false), .p (.str (magB most))]]⟩)
    (fun i => i ≤ T.length) (fun i => T.length - i) 0 (fun x => by cases st x <;> simp [BelowAll, mkF, AV.blw, AV.blw.blwL, blwH, AObj.blw, outA]) (by rw [hst0]; simp [go_sem, outA]) (Nat.zero_le _) ?_
  intro i hi
  simp -implicitDefEqProofs only [go_sem]
  refine AWp.of_awpD [(10, 1000), (15, 1000)] hΓ hmix (by kernel_rfl) ?_
  by_cases hlt : i < T.length
  rotate_left
  · have hil : T.length = i := by omega
    subst hil
    rw [hstL]
    simp -implicitDefEqProofs only [Int.lt_irrefl, List.length_map, outA, go_sem]
    refine AWp.of_awpD [] hΓ hmix (by kernel_rfl) ?_
    simp -implicitDefEqProofs only [go_sem]
  have hlt' : (i : Int) < (T.length : Int) := by omega
  have hg : (T.map slW).getD i default = .sl (T[i].map .str) := getD_map_lt _ _ _ _ hlt
  obtain ⟨hx1, hx2⟩ := hgood _ (List.getElem_mem hlt)
  have e42 := q42 hc hw T[i] hx1 hx2
  have hs := hstS i hlt
  rw [intN_pos] at e42
  simp -implicitDefEqProofs only [hlt', List.length_map, go_sem]
  refine AWp.planL (.q 0 (.q 1 (.q 2 (.q 3 (.q 4 (.q 5 (.q 7 (.e 6 (.s 7 (.q 8 .fin)) .nil)))))))) hΓ hmix (by kernel_rfl) ?_
  simp -implicitDefEqProofs only [hlt, hg, Int.toNat_natCast, List.length_map, go_sem]
  refine callK_fn e42 (.pures rfl) ?_
  simp -implicitDefEqProofs only [go_sem]
  refine aggIn rfl rfl ?_
  by_cases hm : matchN cs W T[i] = most
  rotate_left
  · have he : st (i + 1) = st i := by rw [hs]; unfold refTree; rw [if_pos hm]
    have hm' : ¬ magB (matchN cs W T[i]) = magB most := fun h => hm (magB_inj h)
    rw [decide_eq_false hm']
    simp -implicitDefEqProofs only [Bool.not_false, go_sem]
    exact ⟨by simp only [InR]; omega, i + 1, ⟨by rw [he]; exact .inr rfl, by omega⟩, by omega, by omega⟩
  have hm' : magB (matchN cs W T[i]) = magB most := by rw [hm]
  have he : st (i + 1) = (ordF W.length T[i]).foldl (refStep cs W most) (st i) := by rw [hs]; unfold refTree; rw [if_neg (by simpa using hm)]
  have e43 := q43 W.length T[i] hx1 hw.l5 (fun w hw => (hx2 w hw).1)
  have hLg : ∀ l ∈ ordF W.length T[i], l.length = W.length ∧ ∀ w ∈ l, w.length ≤ 1000 ∧ okW cs.length w = true := fun l hl =>
    ⟨hordl _ (List.getElem_mem hlt) l hl, fun w hw => hx2 w ((ordF_perm (by rw [hx1]; exact Nat.le_refl _) hl).mem_iff.1 hw)⟩
  have hLn : (ordF W.length T[i]).length ≤ 100000 := by
    have h1 := (ordF_num hx1 hw.l5).1
    have h2 : 5 ^ W.length ≤ 5 ^ 5 := Nat.pow_le_pow_right (by omega) h5
    omega
  have hsl := hlen i hi
  generalize ordF W.length T[i] = L at *
  rw [decide_eq_true hm']
  simp -implicitDefEqProofs only [Bool.not_true, hlt, hg, Int.toNat_natCast, List.length_map, go_sem]
  refine callK_fn e43 (.pures rfl) ?_
  simp -implicitDefEqProofs only [go_sem]
  obtain ⟨sk, hsk⟩ : ∃ sk : Nat → Option (List Wd), sk = fun k => (L.take k).foldl (refStep cs W most) (st i) := ⟨_, rfl⟩
  have hsk0 : sk 0 = st i := by rw [hsk]; rfl
  have hskL : sk L.length = st (i + 1) := by rw [hsk, he]; simp
  have hskS : ∀ k (hk : k < L.length), sk (k + 1) = refStep cs W most (sk k) L[k] := fun k hk => by
    rw [hsk]; simp only; rw [List.take_succ_eq_append_getElem hk, List.foldl_append]; rfl
  have hskl : ∀ k b, sk k = some b → b.length = W.length := fun k b hb => by
    rw [hsk] at hb
    exact hfold _ _ hsl (fun l hl => (hLg l (List.mem_of_mem_take hl)).1) b hb
  refine AWp.loopJ (fun k : Nat => ⟨mkF 79 [(0, .p (.sl (cs.map Kn.nV))), (1, .p (.sl (W.map (intN false)))), (7, .ptr 0 0), (8, outA (sk k)), (9, .p (.sl (T.map slW))), (10, .p (.int .i64 i)), (11, .p (.sl (L.map slW))), (12, .p (.int .i64 k))],
      [.box [.p (.bool false), .p (.str (magB most))]]⟩)
    (fun k => k ≤ L.length) (fun k => L.length - k) 0 (fun x => by cases sk x <;> simp [BelowAll, mkF, AV.blw, AV.blw.blwL, blwH, AObj.blw, outA]) (by rw [hsk0]; simp [go_sem]) (Nat.zero_le _) ?_
  intro k hk
  simp -implicitDefEqProofs only [go_sem]
  refine AWp.of_awpD [(10, 1000), (15, 1000)] hΓ hmix (by kernel_rfl) ?_
  by_cases hlk : k < L.length
  rotate_left
  · have hkl : L.length = k := by omega
    subst hkl
    rw [hskL]
    simp -implicitDefEqProofs only [Int.lt_irrefl, List.length_map, go_sem]
    exact ⟨by simp only [InR]; omega, i + 1, ⟨.inr rfl, by omega⟩, by omega, by omega⟩
  have hlk' : (k : Int) < (L.length : Int) := by omega
  have hgk : (L.map slW).getD k default = .sl (L[k].map .str) := getD_map_lt _ _ _ _ hlk
  obtain ⟨hy1, hy2⟩ := hLg _ (List.getElem_mem hlk)
  have e44 := q44 hc hw L[k] hy1 hy2
  have hss := hskS k hlk
  have hslk := hskl k
  rw [intN_pos] at e44
  simp -implicitDefEqProofs only [hlk', List.length_map, go_sem]
  refine AWp.planL (.q 0 (.q 1 (.q 2 (.q 3 (.q 4 (.q 5 (.q 7 (.e 6 (.s 7 (.q 8 (.q 9 (.q 10 (.e 11 (.q 12 (.q 13 (.q 14 (.q 15 (.q 16 (.q 17 (.e 18 (.q 19 (.q 20 .fin)) .nil))))))) .nil))))) .nil)))))))) hΓ hmix (by kernel_rfl) ?_
  simp -implicitDefEqProofs only [hlk, hgk, Int.toNat_natCast, List.length_map, go_sem]
  refine callK_fn e44 (.pures rfl) ?_
  simp -implicitDefEqProofs only [go_sem]
  refine aggI rfl rfl ?_
  generalize sk k = o at *
  by_cases ht : totN cs W L[k] = most
  rotate_left
  · have ht' : ¬ magB (totN cs W L[k]) = magB most := fun h => ht (magB_inj h)
    have hn : sk (k + 1) = o := by rw [hss]; unfold refStep; rw [if_neg ht]
    rw [decide_eq_false ht']
    simp -implicitDefEqProofs only [go_sem]
    exact ⟨by simp only [InR]; omega, k + 1, ⟨by rw [hn]; exact .inr rfl, by omega⟩, by omega, by omega⟩
  have ht' : magB (totN cs W L[k]) = magB most := by rw [ht]
  rw [decide_eq_true ht']
  cases o with
  | none =>
    have hn : sk (k + 1) = some L[k] := by rw [hss]; unfold refStep; rw [if_pos ht]
    simp -implicitDefEqProofs only [outA, hlk, hgk, Int.toNat_natCast, List.length_map, go_sem]
    --@@
    exact ⟨by simp only [InR]; omega, k + 1, ⟨by rw [hn]; exact .inr rfl, by omega⟩, by omega, by omega⟩
  | some b =>
    have hbl := hslk b rfl
    have e45 := q45 L[k] b (by rw [hy1, hbl]) (by rw [hy1]; omega)
    obtain ⟨y, ys, hy⟩ : ∃ y ys, b.map PV.str = y :: ys := by
      cases b with
      | nil => have := hw.pos; simp at hbl; omega
      | cons y ys => exact ⟨_, _, rfl⟩
    rw [hy] at e45
    cases hbf : beforeL L[k] b
    · have hn : sk (k + 1) = some b := by rw [hss]; unfold refStep; rw [if_pos ht]; simp only [hbf]; rfl
      rw [hbf] at e45
      simp -implicitDefEqProofs only [outA, hy, hlk, hgk, Int.toNat_natCast, List.length_map, go_sem]
      refine callK_fn e45 (.pures rfl) ?_
      simp -implicitDefEqProofs only [go_sem]
      exact ⟨by simp only [InR]; omega, k + 1, ⟨by rw [hn]; simp only [outA, hy, or_true], by omega⟩, by omega, by omega⟩
    · have hn : sk (k + 1) = some L[k] := by rw [hss]; unfold refStep; rw [if_pos ht]; simp only [hbf]; rfl
      rw [hbf] at e45
      simp -implicitDefEqProofs only [outA, hy, hlk, hgk, Int.toNat_natCast, List.length_map, go_sem]
      refine callK_fn e45 (.pures rfl) ?_
      simp -implicitDefEqProofs only [hlk, hgk, Int.toNat_natCast, List.length_map, go_sem]
      exact ⟨by simp only [InR]; omega, k + 1, ⟨by rw [hn]; exact .inr rfl, by omega⟩, by omega, by omega⟩

theorem q14 (cs : List Int) (W : List WV) (hcl : cs.length ≤ 1000) (hWl : W.length ≤ 1000) (hW : ∀ w ∈ W, w.2.length ≤ 100) : PFn Tryz.prog 14 [.sl (cs.map Kn.iV), .sl (W.map wV)] [.sl ((optR cs W).1.map .str), .int .i64 (optR cs W).2] := by
  have e37 := c37w cs W (by omega) hW (by omega)
  by_cases h0 : chkW cs W = 0
  rotate_left
  · unfold optR
    rw [if_pos h0]
    refine PFn.of_body hΓ Tryz.func14 (by kernel_rfl) rfl (AWp.seq (AWp.of_awpD [] hΓ hmix (by kernel_rfl) ?_))
    simp -implicitDefEqProofs only [Tryz.ntmps14, Tryz.results14, Nat.reduceAdd, Nat.reduceSub, go_sem]
    refine AWp.seq (AWp.of_awpD [] hΓ hmix (by kernel_rfl) ?_)
    simp -implicitDefEqProofs only [go_sem]
    refine callK_fn e37 (.pures rfl) ?_
    simp -implicitDefEqProofs only [h0, go_sem]
    try rfl
  obtain ⟨ns, V, e1, e2, hc, hw, e3, e4⟩ := optW hW h0
  unfold optR
  rw [if_neg (by omega), e1, e2, ← e3, ← e4]
  rw [h0, e1, e2] at e37
  exact q14n hc hw e37
end Go.Proofs.YtnaekjbbakofdaaGreat
end

section
namespace Go.Proofs.YtnaekjbbakofdaaGreat
open Go Go.AM
set_option maxRecDepth 100000
set_option maxHeartbeats 4000000
set_option linter.unusedSimpArgs false

theorem q18n {cs : List Nat} (hc : OkC cs) {n : Nat} (hn1 : 1 ≤ n) (hn : n ≤ 64) : PFn Tryz.prog 18 [.sl (cs.map Kn.nV), .int .i64 n] [.sl ((lensL cs n).map Kn.nV), .int .i64 0] := by
  have e49 : PFn Tryz.prog 49 [.sl (cs.map Kn.nV)] [.int .i64 0] := by
    have hl3 := hc.l3
    have := q49 (cs.map Int.ofNat) (by rw [List.length_map]; omega)
    rwa [hc.chk, ← nVs] at this
  have h2 := hc.l2
  have h3 := hc.l3
  have hn1' : ¬ (n : Int) < 1 := by omega
  have hn' : ¬ (64 : Int) < (n : Int) := by omega
  refine PFn.of_body hΓ Tryz.func18 (by kernel_rfl) rfl (AWp.seq (AWp.of_awpD [] hΓ hmix (by kernel_rfl) ?_))
  simp -implicitDefEqProofs only [Tryz.ntmps18, Tryz.results18, Nat.reduceAdd, Nat.reduceSub, go_sem]
  refine AWp.seq (AWp.of_awpD [] hΓ hmix (by kernel_rfl) ?_)
  simp -implicitDefEqProofs only [go_sem]
  refine callK_fn e49 (.still rfl) ?_
  simp -implicitDefEqProofs only [go_sem]
  refine AWp.seq (AWp.of_awpD [] hΓ hmix (by kernel_rfl) ?_)
  simp -implicitDefEqProofs only [hn1', hn', go_sem]
  have hs0 : sizeOK [PV.int .i64 0] 1 := by simp [sizeOK, PV.cells]
  refine AWp.seq (AWp.of_awpD [] hΓ hmix (by kernel_rfl) ?_)
  simp -implicitDefEqProofs only [go_sem]
  refine ⟨⟨hs0, by omega⟩, ?_⟩
  refine AWp.fullP (l := [.int .i64 0]) 7 rfl ?_
  simp -implicitDefEqProofs only [List.set_cons_succ, List.set_cons_zero, go_sem]
  refine AWp.seq (AWp.block ?_)
  generalize hLL : lensL cs n = LL
  unfold lensL at hLL
  generalize hL0 : lensN cs n n [0] = L0 at hLL
  refine AWp.loopJ (fun a : Nat × List Nat => ⟨mkF 74 [(0, .p (.sl (cs.map Kn.nV))), (1, .p (.int .i64 n)), (7, .p (.sl (a.2.map Kn.nV)))], []⟩)
    (fun a => a.1 ≤ n ∧ lensN cs n a.1 a.2 = L0 ∧ SL (8 * (n - a.1)) a.2 ∧ 0 < a.2.length ∧ n ≤ a.2.length + a.1 ∧ a.2.length ≤ n + 1) (fun a => a.1) (n, [0])
    (fun a => by simp [BelowAll, mkF, AV.blw, AV.blw.blwL, blwH]) (by simp [go_sem, Kn.nV]) ⟨Nat.le_refl _, hL0, ⟨by simp, by simp⟩, by simp, by simp <;> omega, by simp <;> omega⟩ ?_
  rintro ⟨k, l⟩ ⟨hk, hLn, hSL, hl0, hnk, hln⟩
  simp only at hk hLn hSL hl0 hnk hln
  simp -implicitDefEqProofs only [go_sem]
  by_cases hlt : l.length < n
  rotate_left
  · have hlt' : ¬ (l.length : Int) < (n : Int) := by omega
    refine AWp.seq (AWp.of_awpD [] hΓ hmix (by kernel_rfl) ?_)
    simp -implicitDefEqProofs only [hlt, hlt', List.length_map, go_sem]
    have hl2 : L0 = l := by
      rw [← hLn]
      cases k with
      | zero => rfl
      | succ k => rw [lensN, if_neg hlt]
    rw [← hLL, hl2]
    have hle : (n : Int) ≤ (l.length : Int) := by omega
    refine AWp.seq (AWp.of_awpD [] hΓ hmix (by kernel_rfl) ?_)
    have hszl := size_c26 l
    simp -implicitDefEqProofs only [hszl, List.length_map, Int.toNat_natCast, List.map_take, go_sem]
    refine ⟨by omega, ?_⟩
    refine AWp.of_awpD [] hΓ hmix (by kernel_rfl) ?_
    simp -implicitDefEqProofs only [go_sem]
  have hlt' : (l.length : Int) < (n : Int) := by omega
  obtain ⟨k', rfl⟩ : ∃ k', k = k' + 1 := ⟨k - 1, by omega⟩
  rw [lensN, if_pos hlt] at hLn
  obtain ⟨f, rest, rfl⟩ : ∃ f rest, l = f :: rest := by
    cases l with
    | nil => simp at hl0
    | cons f rest => exact ⟨f, rest, rfl⟩
  obtain ⟨hg1, hg2⟩ := SL.grow hc.hi hSL
  have hfB := hSL.le f (by simp)
  have hszl := size_c26 (f :: rest)
  simp only [List.map_cons, List.length_cons] at hlt hlt' hszl hnk
  refine AWp.seq (AWp.of_awpD [] hΓ hmix (by kernel_rfl) ?_)
  simp -implicitDefEqProofs only [hlt, hlt', List.length_map, List.map_cons, List.length_cons, go_sem]
  refine AWp.block ?_
  have hnv : Kn.nV f = .int .i64 (f : Int) := rfl
  refine AWp.seq (AWp.of_awpD [] hΓ hmix (by kernel_rfl) ?_)
  have hg0 : (PV.int .i64 (f : Int) :: rest.map Kn.nV).getD (Int.toNat 0) default = .int .i64 (f : Int) := rfl
  simp -implicitDefEqProofs only [hnv, hg0, List.map_cons, List.length_cons, go_sem]
  refine ⟨by omega, ?_⟩
  refine AWp.seq (AWp.of_awpD [] hΓ hmix (by kernel_rfl) ?_)
  have h01 : (0 : Int) ≤ 1 := by decide
  have hszl2 : sizeOK (.int .i64 (f : Int) :: rest.map Kn.nV) 1 := hszl
  simp -implicitDefEqProofs only [hszl2, hnv, List.length_cons, List.length_map, h01, go_sem]
  refine ⟨by omega, ?_⟩
  refine AWp.seq (AWp.of_awpD [] hΓ hmix (by kernel_rfl) ?_)
  simp -implicitDefEqProofs only [List.length_map, go_sem]
  refine AWp.block ?_
  obtain ⟨cur, hcur⟩ : ∃ cur : Nat → List Nat, cur = fun j => ((cs.take j).map fun c => f + c).foldl putS rest := ⟨_, rfl⟩
  have hc0 : cur 0 = rest := by rw [hcur]; rfl
  have hce : cur cs.length = growS cs (f :: rest) := by rw [hcur]; simp [growS]
  have hcs : ∀ j (hj : j < cs.length), cur (j + 1) = putS (cur j) (f + cs[j]) := fun j hj => by
    rw [hcur]
    simp only
    rw [List.take_succ_eq_append_getElem hj, List.map_append, List.foldl_append]
    rfl
  have hcB : ∀ j, j ≤ cs.length → SL 600 (cur j) ∧ (cur j).length = rest.length + j := fun j hj => by
    have h := SL.fold (B := 600) (xs := (cs.take j).map fun c => f + c) (l := rest) ⟨(List.pairwise_cons.1 hSL.so).2, fun x hx => by have := hSL.le x (by simp [hx]); omega⟩ (fun x hx => by
      obtain ⟨c, hcm, rfl⟩ := List.mem_map.1 hx
      have := hc.hi c (List.mem_of_mem_take hcm); omega)
    rw [hcur]
    refine ⟨h.1, ?_⟩
    have := h.2
    rw [List.length_map, List.length_take, Nat.min_eq_left hj] at this
    exact this
  refine AWp.loopJ (fun j : Nat => ⟨mkF 74 [(0, .p (.sl (cs.map Kn.nV))), (1, .p (.int .i64 n)), (7, .p (.sl ((cur j).map Kn.nV))), (8, .p (.int .i64 f)), (9, .p (.int .i64 j))], []⟩)
    (fun j => j ≤ cs.length) (fun j => cs.length - j) 0 (fun a => by simp [BelowAll, mkF, AV.blw, AV.blw.blwL, blwH]) (by rw [hc0]; simp [go_sem]) (Nat.zero_le _) ?_
  intro j hj
  simp -implicitDefEqProofs only [go_sem]
  by_cases hjc : j < cs.length
  rotate_left
  · have hje : j = cs.length := by omega
    subst hje
    rw [hce]
    refine AWp.of_awpD [(16, 1000)] hΓ hmix (by kernel_rfl) ?_
    simp -implicitDefEqProofs only [Nat.lt_irrefl, Int.lt_irrefl, List.length_map, go_sem]
    refine ⟨(k', growS cs (f :: rest)), rfl, ⟨by omega, hLn, ?_, by rw [hg2]; omega, by rw [hg2]; omega, ?_⟩, by omega⟩
    · rw [show 8 * (n - k') = 8 * (n - (k' + 1)) + 8 by omega]; exact hg1
    · simp only; rw [hg2]; simp only [List.length_cons] at hln; omega
  have hjc' : (j : Int) < (cs.length : Int) := by omega
  obtain ⟨hSj, hlj⟩ := hcB j hj
  have hsuc := hcs j hjc
  have hcj := hc.hi _ (List.getElem_mem hjc)
  have hgc : (cs.map Kn.nV).getD j default = .int .i64 (cs[j] : Nat) := getD_map_lt _ _ _ _ hjc
  have hadd : (f : Int) + ((cs[j] : Nat) : Int) = ((f + cs[j] : Nat) : Int) := by omega
  have hin : InR .i64 ((f + cs[j] : Nat) : Int) := by simp only [InR]; omega
  refine AWp.seq (AWp.of_awpD [] hΓ hmix (by kernel_rfl) ?_)
  simp -implicitDefEqProofs only [hjc', List.length_map, go_sem]
  refine AWp.seq (AWp.block ?_)
  refine AWp.seq (AWp.of_awpD [] hΓ hmix (by kernel_rfl) ?_)
  simp -implicitDefEqProofs only [hjc, hgc, hadd, Int.toNat_natCast, List.length_map, go_sem]
  refine ⟨hin, ?_⟩
  refine AWp.seq (AWp.block ?_)
  refine AWp.loopJ (fun m : Nat => ⟨mkF 74 [(0, .p (.sl (cs.map Kn.nV))), (1, .p (.int .i64 n)), (7, .p (.sl ((cur j).map Kn.nV))), (8, .p (.int .i64 f)), (9, .p (.int .i64 j)), (10, .p (.int .i64 (f + cs[j] : Nat))), (11, .p (.int .i64 m))], []⟩)
    (fun m => m ≤ (cur j).length ∧ ∀ i (hi : i < (cur j).length), i < m → (cur j)[i] ≤ f + cs[j]) (fun m => (cur j).length - m) 0 (fun a => by simp [BelowAll, mkF, AV.blw, AV.blw.blwL, blwH]) (by simp [go_sem]) ⟨Nat.zero_le _, fun i _ h => by omega⟩ ?_
  intro m ⟨hm, hmle⟩
  simp -implicitDefEqProofs only [go_sem]
  refine AWp.of_awpD [] hΓ hmix (by kernel_rfl) ?_
  by_cases hml : m < (cur j).length ∧ (cur j).getD m 0 ≤ f + cs[j]
  · obtain ⟨hml, hle⟩ := hml
    have hml' : (m : Int) < ((cur j).length : Int) := by omega
    have hgm : ((cur j).map Kn.nV).getD m default = .int .i64 (((cur j).getD m 0 : Nat) : Int) := by
      rw [getD_map_lt _ _ _ _ hml, List.getD_eq_getElem?_getD, List.getElem?_eq_getElem hml, Option.getD_some]; rfl
    have hle' : (((cur j).getD m 0 : Nat) : Int) ≤ ((f + cs[j] : Nat) : Int) := by omega
    simp -implicitDefEqProofs only [hml, hml', hgm, hle', Int.toNat_natCast, List.length_map, go_sem]
    refine ⟨by simp only [InR]; omega, m + 1, by omega, ⟨by omega, fun i hi him => ?_⟩, by omega⟩
    rcases Nat.lt_or_ge i m with h | h
    · exact hmle i hi h
    · obtain rfl : i = m := by omega
      rwa [List.getD_eq_getElem?_getD, List.getElem?_eq_getElem hi, Option.getD_some] at hle
  have hins : insA (cur j) m (f + cs[j]) = cur (j + 1) := by
    rw [hsuc]
    refine ins_behind hSj.so hm hmle fun hml2 => ?_
    have hno : ¬ (cur j).getD m 0 ≤ f + cs[j] := fun h => hml ⟨hml2, h⟩
    rw [List.getD_eq_getElem?_getD, List.getElem?_eq_getElem hml2, Option.getD_some] at hno
    omega
  unfold insA at hins
  have hsc := size_c26 (cur j)
  have htk : sizeOK (((cur j).map Kn.nV).take m) 1 ∧ oneOK (((cur j).map Kn.nV).take m) := by rw [← List.map_take]; exact ⟨size_c26 _, one_c26 _⟩
  have hdp : sizeOK (((cur j).map Kn.nV).drop m) 1 ∧ oneOK (((cur j).map Kn.nV).drop m) := by rw [← List.map_drop]; exact ⟨size_c26 _, one_c26 _⟩
  have hs1 : sizeOK [PV.int .i64 ((f + cs[j] : Nat) : Int)] 1 := size_c26 [f + cs[j]]
  have ho1 : oneOK [PV.int .i64 ((f + cs[j] : Nat) : Int)] := one_c26 [f + cs[j]]
  have hsn : sizeOK [] 1 := by simp [sizeOK]
  have hl100 : (cur j).length ≤ 100 := by rw [hlj]; simp only [List.length_cons] at hln; omega
  have ht1 : (((cur j).map Kn.nV).take m).length ≤ 100 := by rw [List.length_take, List.length_map]; omega
  have hd1 : (((cur j).map Kn.nV).drop m).length ≤ 100 := by rw [List.length_drop, List.length_map]; omega
  have hrow : ((cur j).map Kn.nV).take m ++ [PV.int .i64 ((f + cs[j] : Nat) : Int)] ++ ((cur j).map Kn.nV).drop m = (cur (j + 1)).map Kn.nV := by
    rw [← hins, List.map_append, List.map_cons, List.map_take, List.map_drop]; simp [Kn.nV]
  by_cases hml2 : m < (cur j).length
  case' pos =>
    have hml' : (m : Int) < ((cur j).length : Int) := by omega
    have hgm : ((cur j).map Kn.nV).getD m default = .int .i64 (((cur j).getD m 0 : Nat) : Int) := by
      rw [getD_map_lt _ _ _ _ hml2, List.getD_eq_getElem?_getD, List.getElem?_eq_getElem hml2, Option.getD_some]; rfl
    have hle' : ¬ (((cur j).getD m 0 : Nat) : Int) ≤ ((f + cs[j] : Nat) : Int) := by
      have hno : ¬ (cur j).getD m 0 ≤ f + cs[j] := fun h => hml ⟨hml2, h⟩
      omega
    simp -implicitDefEqProofs only [hml2, hml', hgm, hle', Int.toNat_natCast, List.length_map, go_sem]
  case' neg =>
    have hml' : ¬ (m : Int) < ((cur j).length : Int) := by omega
    simp -implicitDefEqProofs only [hml', Int.toNat_natCast, List.length_map, go_sem]
  all_goals
    refine AWp.planL (.q 0 (.q 1 (.q 2 (.q 3 (.q 5 (.q 6 (.q 8 (.q 9 (.q 10 (.e 4 (.s 5 (.s 6 (.s 8 (.s 9 (.s 10 (.e 7 (.s 8 (.s 9 (.s 10 (.e 11 (.q 12 .fin) .nil)))) .nil)))))) .nil)))))))))) hΓ hmix (by kernel_rfl) ?_
    simp -implicitDefEqProofs only [hm, Int.toNat_natCast, List.length_map, go_sem]
    refine ⟨⟨hsn, by omega⟩, hsc, ⟨hs1, by omega⟩, hsc, htk, ⟨hsn, by omega, by omega⟩, ⟨hs1, by omega⟩, hsc, ⟨hs1, ho1⟩, ⟨by split <;> simp, by omega, by omega⟩, hsc, hdp, ⟨by split <;> (try split) <;> simp, by omega, by omega⟩, ?_⟩
    rw [List.append_assoc] at hrow
    refine AWp.freeze 0 rfl ?_
    simp -implicitDefEqProofs only [Frozen, AV.thaw, AObj.thaw, AV.thaw.thawL, List.map_cons, List.map_nil, List.set_cons_zero, List.set_cons_succ, Nat.reduceEqDiff, List.append_assoc, hrow, go_sem]
    refine AWp.of_awpD [] hΓ hmix (by kernel_rfl) ?_
    simp -implicitDefEqProofs only [go_sem]
    exact ⟨by simp only [InR]; omega, j + 1, ⟨by rw [← hrow]; rfl, by omega⟩, by omega, by omega⟩
theorem q18 (cs : List Int) (n : Int) (hcl : cs.length ≤ 1000) : PFn Tryz.prog 18 [.sl (cs.map Kn.iV), .int .i64 n] [.sl ((lensR cs n).1.map Kn.nV), .int .i64 (lensR cs n).2] := by
  have e49 := q49 cs (by omega)
  by_cases h0 : chkC cs = 0
  rotate_left
  · unfold lensR
    rw [if_pos h0]
    refine PFn.of_body hΓ Tryz.func18 (by kernel_rfl) rfl (AWp.seq (AWp.of_awpD [] hΓ hmix (by kernel_rfl) ?_))
    simp -implicitDefEqProofs only [Tryz.ntmps18, Tryz.results18, Nat.reduceAdd, Nat.reduceSub, go_sem]
    refine AWp.seq (AWp.of_awpD [] hΓ hmix (by kernel_rfl) ?_)
    simp -implicitDefEqProofs only [go_sem]
    refine callK_fn e49 (.pures rfl) ?_
    simp -implicitDefEqProofs only [h0, go_sem]
    try rfl
  obtain ⟨ns, rfl, hc⟩ := ok_costs h0
  have hr : lensR (ns.map Int.ofNat) n = if n < 1 ∨ 64 < n then ([], 2) else (lensL ns n.toNat, 0) := by
    unfold lensR
    rw [if_neg (by omega), toNat_ofNat]
  rw [h0] at e49
  rw [iV_nV] at e49
  rw [hr, iV_nV]
  by_cases hn : n < 1 ∨ 64 < n
  · rw [if_pos hn]
    refine PFn.of_body hΓ Tryz.func18 (by kernel_rfl) rfl (AWp.seq (AWp.of_awpD [] hΓ hmix (by kernel_rfl) ?_))
    simp -implicitDefEqProofs only [Tryz.ntmps18, Tryz.results18, Nat.reduceAdd, Nat.reduceSub, go_sem]
    refine AWp.seq (AWp.of_awpD [] hΓ hmix (by kernel_rfl) ?_)
    simp -implicitDefEqProofs only [go_sem]
    refine callK_fn e49 (.pures rfl) ?_
    simp -implicitDefEqProofs only [go_sem]
    refine AWp.seq (AWp.of_awpD [] hΓ hmix (by kernel_rfl) ?_)
    by_cases h1 : n < 1
    · simp -implicitDefEqProofs only [h1, go_sem]
      try rfl
    · have h2 : 64 < n := by omega
      simp -implicitDefEqProofs only [h1, h2, go_sem]
      try rfl
  · rw [if_neg hn]
    have := q18n hc (n := n.toNat) (by omega) (by omega)
    rw [show ((n.toNat : Nat) : Int) = n by omega] at this
    exact this
end Go.Proofs.YtnaekjbbakofdaaGreat
end

section
namespace Go.Proofs.YtnaekjbbakofdaaGreat
open Go Go.AM
set_option maxRecDepth 100000
set_option maxHeartbeats 4000000
set_option linter.unusedSimpArgs false

def greatI (W : List WV) : Bool := decide (8 < W.length) || W.any fun w => decide (8 < w.2.length)
theorem q11 (W : List WV) (hl : W.length ≤ 9223372036854775807) : PFn Tryz.prog 11 [.sl (W.map wV)] [.bool (greatI W)] := by
  refine PFn.of_body hΓ Tryz.func11 (by kernel_rfl) rfl (AWp.seq (AWp.of_awpD [] hΓ hmix (by kernel_rfl) ?_))
  simp -implicitDefEqProofs only [Tryz.ntmps11, Tryz.results11, Nat.reduceAdd, Nat.reduceSub, go_sem]
  refine AWp.seq (AWp.of_awpD [] hΓ hmix (by kernel_rfl) ?_)
  by_cases h8 : 8 < W.length
  · have h8' : (8 : Int) < (W.length : Int) := by omega
    have he : greatI W = true := by unfold greatI; rw [decide_eq_true h8]; rfl
    rw [he]
    simp -implicitDefEqProofs only [h8', List.length_map, go_sem]
  have h8' : ¬ (8 : Int) < (W.length : Int) := by omega
  have he : greatI W = W.any fun w => decide (8 < w.2.length) := by unfold greatI; rw [decide_eq_false h8]; rfl
  simp -implicitDefEqProofs only [h8', List.length_map, go_sem]
  refine AWp.seq (AWp.seq (AWp.of_awpD [] hΓ hmix (by kernel_rfl) ?_))
  simp -implicitDefEqProofs only [go_sem]
  refine AWp.block ?_
  refine AWp.loopI (fun i : Nat => ⟨mkF 20 [(0, .p (.sl (W.map wV))), (2, .p (.bool false)), (3, .p (.int .i64 i))], []⟩)
    (fun i => i ≤ W.length ∧ ∀ j (hj : j < W.length), j < i → ¬ 8 < W[j].2.length) (fun i => W.length - i) 0 (by simp [go_sem]) ⟨by omega, fun j _ h => by omega⟩ ?_
  intro i ⟨hi, hj0⟩
  simp -implicitDefEqProofs only [go_sem]
  refine AWp.of_awpD [] hΓ hmix (by kernel_rfl) ?_
  by_cases hlt : i < W.length
  · have hlt' : (i : Int) < (W.length : Int) := by omega
    have hg : (W.map wV).getD i default = .agg [.bool W[i].1, .str W[i].2] := getD_map_lt _ _ _ _ hlt
    by_cases hb : 8 < W[i].2.length
    · have hb' : (8 : Int) < (W[i].2.length : Int) := by omega
      rw [he, show (W.any fun w => decide (8 < w.2.length)) = true from List.any_eq_true.2 ⟨_, List.getElem_mem hlt, decide_eq_true hb⟩]
      simp -implicitDefEqProofs only [hlt, hlt', hg, hb', Int.toNat_natCast, List.length_map, go_sem]
      try omega
    · have hb' : ¬ (8 : Int) < (W[i].2.length : Int) := by omega
      simp -implicitDefEqProofs only [hlt, hlt', hg, hb', Int.toNat_natCast, List.length_map, go_sem]
      refine ⟨by omega, by simp only [InR]; omega, i + 1, by omega, ⟨by omega, fun j hj hji => ?_⟩, by omega⟩
      rcases Nat.lt_or_ge j i with h | h
      · exact hj0 j hj h
      · obtain rfl : j = i := by omega
        exact hb
  have hiW : i = W.length := by omega
  have h0 : (W.any fun w => decide (8 < w.2.length)) = false := by
    refine List.any_eq_false.2 fun w hw => ?_
    obtain ⟨j, hj, rfl⟩ := List.getElem_of_mem hw
    simpa using hj0 j hj (by omega)
  rw [he, h0]
  subst hiW
  simp -implicitDefEqProofs only [Nat.lt_irrefl, Int.lt_irrefl, List.length_map, go_sem]
  refine AWp.of_awpD [] hΓ hmix (by kernel_rfl) ?_
  simp -implicitDefEqProofs only [go_sem]
end Go.Proofs.YtnaekjbbakofdaaGreat
end

section
namespace Go.Proofs.YtnaekjbbakofdaaGreat
open Go Go.AM
set_option maxRecDepth 100000
set_option maxHeartbeats 4000000
set_option linter.unusedSimpArgs false

theorem optR_len (cs : List Int) (W : List WV) (hW : ∀ w ∈ W, w.2.length ≤ 100) (hl : W.length ≤ 8) : (optR cs W).1.length ≤ 8 := by
  unfold optR
  split
  · simp
  · rename_i h0
    obtain ⟨ns, V, e1, e2, hc, hw, e3, e4⟩ := optW hW (by omega : chkW cs W = 0)
    rw [← e3, ← e4]
    have := (best_ok hc hw).1
    rw [e4, List.length_map] at this
    rw [← e4] at this
    simp only; omega
theorem lensR_len (cs : List Int) (n : Int) : (lensR cs n).1.length ≤ 64 := by
  unfold lensR
  split
  · simp
  split
  · simp
  · rename_i h
    unfold lensL
    simp only [List.length_take]
    omega
theorem k20 (l : List Nat) (hl : l.length ≤ 64) : PFn Tryz.prog 20 [.sl (l.map Kn.nV), .sl (l.map Kn.nV)] [.bool true] := by
  have := p36 (l.map Int.ofNat) (l.map Int.ofNat) (by rw [List.length_map]; omega)
  rw [decide_eq_true rfl] at this
  have e : slI (l.map Int.ofNat) = .sl (l.map Kn.nV) := by unfold slI; rw [List.map_map]; rfl
  rwa [e] at this

theorem b3 (cs : List Int) (W : List WV) (n : Int) (hcl : cs.length ≤ 9223372036854775807) (hWl : W.length ≤ 9223372036854775807) :
    PFn Tryz.prog 3 [.sl (cs.map Kn.iV), .sl (W.map wV), .int .i64 n] [.bool true] := by
  have e11 := q11 W hWl
  refine PFn.of_body hΓ Tryz.func3 (by kernel_rfl) rfl (AWp.seq (AWp.of_awpD [] hΓ hmix (by kernel_rfl) ?_))
  simp -implicitDefEqProofs only [Tryz.ntmps3, Tryz.results3, Nat.reduceAdd, Nat.reduceSub, go_sem]
  refine AWp.seq (AWp.of_awpD [] hΓ hmix (by kernel_rfl) ?_)
  simp -implicitDefEqProofs only [go_sem]
  refine callK_fn e11 (.still rfl) ?_
  cases hg : greatI W
  rotate_left
  · simp -implicitDefEqProofs only [go_sem]
    refine callK_fn awake41 (.still rfl) ?_
    simp -implicitDefEqProofs only [go_sem]
  by_cases h8 : 8 < cs.length
  · have h8' : (8 : Int) < (cs.length : Int) := by omega
    simp -implicitDefEqProofs only [h8', List.length_map, go_sem]
    refine callK_fn awake41 (.still rfl) ?_
    simp -implicitDefEqProofs only [go_sem]
  have h8' : ¬ (8 : Int) < (cs.length : Int) := by omega
  have hW : ∀ x ∈ W, x.2.length ≤ 100 := fun x hx => by
    unfold greatI at hg
    rw [Bool.or_eq_false_iff] at hg
    have := List.any_eq_false.1 hg.2 x hx
    simp at this; omega
  have hW8 : W.length ≤ 8 := by
    unfold greatI at hg
    rw [Bool.or_eq_false_iff] at hg
    have := of_decide_eq_false hg.1
    omega
  have e13 := c13w cs W (by omega) (by omega) hW
  have e14 := q14 cs W (by omega) (by omega) hW
  have e15 := c15w cs W (by omega) (by omega) hW
  have e16 := q16 cs W (by omega) (by omega) hW
  have e17 := c17w cs n (by omega)
  have e18 := q18 cs n (by omega)
  have hol := optR_len cs W hW hW8
  have hll := lensR_len cs n
  generalize optR cs W = O at *
  generalize leastR cs W = L at *
  generalize lensR cs n = M at *
  have e19 := p43 O.1 O.1 (by omega)
  have e20 := k20 M.1 hll
  rw [decide_eq_true rfl] at e19
  rw [intN_pos] at e15 e16
  simp -implicitDefEqProofs only [h8', List.length_map, go_sem]
  refine AWp.seq (AWp.of_awpD [] hΓ hmix (by kernel_rfl) ?_)
  simp -implicitDefEqProofs only [go_sem]
  refine callK_fn e13 (.pures rfl) ?_
  simp -implicitDefEqProofs only [go_sem]
  refine AWp.seq (AWp.of_awpD [] hΓ hmix (by kernel_rfl) ?_)
  simp -implicitDefEqProofs only [go_sem]
  refine callK_fn e14 (.pures rfl) ?_
  simp -implicitDefEqProofs only [go_sem]
  refine AWp.seq (AWp.of_awpD [] hΓ hmix (by kernel_rfl) ?_)
  simp -implicitDefEqProofs only [go_sem]
  refine callK_fn e15 (.pures rfl) ?_
  simp -implicitDefEqProofs only [go_sem]
  refine AWp.seq (AWp.of_awpD [] hΓ hmix (by kernel_rfl) ?_)
  simp -implicitDefEqProofs only [go_sem]
  refine callK_fn e16 (.pures rfl) ?_
  simp -implicitDefEqProofs only [go_sem]
  refine AWp.seq (AWp.of_awpD [] hΓ hmix (by kernel_rfl) ?_)
  simp -implicitDefEqProofs only [go_sem]
  refine callK_fn e17 (.pures rfl) ?_
  simp -implicitDefEqProofs only [go_sem]
  refine AWp.seq (AWp.of_awpD [] hΓ hmix (by kernel_rfl) ?_)
  simp -implicitDefEqProofs only [go_sem]
  refine callK_fn e18 (.pures rfl) ?_
  simp -implicitDefEqProofs only [go_sem]
  refine AWp.of_awpD [] hΓ hmix (by kernel_rfl) ?_
  simp -implicitDefEqProofs only [go_sem]
  refine callK_fn e19 (.pures rfl) ?_
  simp -implicitDefEqProofs only [go_sem]
  refine aggI rfl rfl ?_
  rw [decide_eq_true rfl]
  simp -implicitDefEqProofs only [go_sem]
  refine callK_fn e20 (.pures rfl) ?_
  simp -implicitDefEqProofs only [go_sem]
  refine callK_fn awake41 (.still rfl) ?_
  simp -implicitDefEqProofs only [go_sem]
end Go.Proofs.YtnaekjbbakofdaaGreat
end

