/-
  Texts of this claim, joined.
-/
import Derived.Test.YtnilegembmcelaaDoorJb08f5b7d6d77
import Derived.Test.YtnilegembmcelaaDoorJ11d6ef8752a5

set_option linter.unusedSimpArgs false
set_option maxRecDepth 100000
namespace Go.Proofs.YtnilegembmcelaaDoor
open Go Go.AM Rst

def mapV (K : List Nat) : List (Int × PV) := K.map fun x : Nat => ((x : Int), .bool true)
theorem Z56 (y : Nat) : ∀ K : List Nat, (Z1j (y : Int) (mapV K) = none ↔ y ∉ K) ∧ ∀ j, Z1j (y : Int) (mapV K) = some j → j < K.length
  | [] => ⟨by simp [mapV, Z1j], fun j h => by simp [mapV, Z1j] at h⟩
  | x :: K => by
    obtain ⟨h1, h2⟩ := Z56 y K; have e : mapV (x :: K) = ((x : Int), .bool true) :: mapV K := rfl; rw [e]; unfold Z1j; by_cases hx : (y : Int) = (x : Int)
    · have : y = x := by omega
      subst this; simp
    · have hne : y ≠ x := fun e => hx (by rw [e])
      simp only [if_neg hx]; refine ⟨?_, fun j h => ?_⟩
      · rw [Option.map_eq_none_iff, h1]; simp [hne]
      · obtain ⟨i, hi, rfl⟩ := Option.map_eq_some_iff.1 h
        have := h2 i hi; simp only [List.length_cons]; omega
theorem Z1v (y : Nat) (K : List Nat) : (Z3j (y : Int) (mapV K)).getD (.bool false) = .bool (decide (y ∈ K)) := by
  obtain ⟨h1, h2⟩ := Z56 y K; unfold Z3j
  cases hm : Z1j (y : Int) (mapV K) with
  | none => rw [decide_eq_false (h1.1 hm)]; rfl
  | some j =>
    have hj := h2 j hm; have hy : y ∈ K := Classical.byContradiction fun h => by rw [h1.2 h] at hm; cases hm
    rw [decide_eq_true hy]; simp only [Option.map_some, Option.getD_some, mapV]; rw [List.getD_eq_getElem?_getD, List.getElem?_map, List.getElem?_eq_getElem hj]
    rfl
theorem Z1u {y : Nat} {K : List Nat} (h : y ∉ K) : Z1c (y : Int) (.bool true) (mapV K) = mapV (K ++ [y]) := by
  unfold Z1c; rw [(Z56 y K).1.2 h]; simp [mapV]

def qV (p : Nat × List Nat) : PV := .agg [.int .i64 p.1, .str (wd p.2)]
def hpS (q : Int) (N : List (List Int)) (K : List Nat) (Q : Rec) (x : Nat) (w : List Nat) (rk : RK) (T : List AObj) : List AObj :=
  auB q N :: .mpi (mapV K) :: .box [.own 3 Q.length] :: .row 68 2 (Q.map qV) rk :: .box [.p (.int .i64 x), .p (.str (wd w))] :: T

theorem c33 (q : Int) (N : List (List Int)) (K : List Nat) (Q : Rec) (x : Nat) (w : List Nat) (rk : RK) (T : List AObj) {a y : Nat} (ha : a < 16) (hrk : rk ≠ .raw) (hT : T.map (AObj.kill 3) = T) (hQ : Q.length ≤ 1000000) (hw : w.length ≤ 1000000) :
    AC Tryd.prog 33 [.p (.int .i64 a), .p (.int .i64 y), .ptr 2 0, .ptr 4 0] (hpS q N K Q x w rk T) [3] (fun v h' => v = .tup [] ∧ h' = hpS q N K (Q ++ [(y, w ++ [a])]) x w .own T) := by
  refine AC.of_bodyE hΓ Tryd.func33 (by kernel_rfl) rfl (AWp.mono (Q := fun e st => AM.Ends e ∧ st.h = hpS q N K (Q ++ [(y, w ++ [a])]) x w .own T) ?_ ?_)
  rotate_left
  · rintro e st ⟨he, h2⟩
    refine ⟨he, st, Less.refl st, ?_⟩; have h3 : (hpS q N K Q x w rk T).length = st.h.length := by rw [h2]; simp [hpS]
    refine ⟨st.h.length, by omega, .inl rfl, ?_⟩; rw [List.take_length]; exact ⟨rfl, h2⟩
  refine Wd [(0, 11)] ?_; unfold hpS; have hti : ((a : Int) + 1).toNat - a = 1 := by omega
  have hsl : (([48, 49, 50, 51, 52, 53, 54, 55, 56, 57, 97, 98, 99, 100, 101, 102] : List UInt8).drop a).take 1 = [ltB a] := by
    have h2 : ∀ a, a < 16 → (([48, 49, 50, 51, 52, 53, 54, 55, 56, 57, 97, 98, 99, 100, 101, 102] : List UInt8).drop a).take 1 = [ltB a] := by decide +kernel
    exact h2 a ha
  have hwl : (wd w).length = w.length := by unfold wd; rw [List.length_map]
  simp -implicitDefEqProofs only [Tryd.ntmps33, Nat.reduceAdd, Nat.reduceSub, auB, hti, hsl, hwl, hT, go_sem]; have hwd : wd w ++ [ltB a] = wd (w ++ [a]) := by simp [wd]
  rw [hwd]; refine ⟨by simp only [InR]; omega, ⟨by omega, by omega⟩, by omega, by omega, ⟨fun z hz => ?_, by omega⟩, ⟨fun z hz => ?_, fun z hz c hc => ?_⟩, ⟨hrk, .inr (by simp), by omega, by omega⟩, by simp, by simp [qV], by simp⟩
  · rw [List.mem_singleton.1 hz]; rfl
  · rw [List.mem_singleton.1 hz]; rfl
  · rw [List.mem_singleton.1 hz] at hc
    simp only [PV.cells, List.mem_cons, List.not_mem_nil, or_false] at hc; rcases hc with rfl | rfl <;> rfl

theorem Z3r {N : List (List Int)} {x a : Nat} : ∀ {l K : List Nat}, frs N x (l ++ [a]) K = frs N x l K ++ (if img N x a ∈ K ++ (frs N x l K).map Prod.snd then [] else [(a, img N x a)])
  | [], K => by simp [frs]
  | b :: l, K => by
    rw [List.cons_append]; unfold frs
    split
    · exact Z3r
    · rw [Z3r (l := l) (K := K ++ [img N x b])]
      rw [List.map_cons, List.append_assoc, List.singleton_append]
      rfl
def frq (N : List (List Int)) (x : Nat) (w : List Nat) (l K : List Nat) : Rec := (frs N x l K).map fun p => (p.2, w ++ [p.1])
def frk (N : List (List Int)) (x : Nat) (l K : List Nat) : List Nat := (frs N x l K).map Prod.snd

theorem c18 {q : Nat} {N : List (List Int)} (A : AutOK q N) (K : List Nat) (Q : Rec) {x : Nat} (w : List Nat) (rk : RK) (hx : x < 2 ^ N.length) (hrk : rk ≠ .raw) (hQ : Q.length ≤ 10000) (hw : w.length ≤ 1000000) :
    AC Tryd.prog 18 [.agg [.p (.int .i64 q), .p (.sl (N.map slI))], .p (.int .i64 x), .map 1, .fn 33 [.ptr 2 0, .ptr 4 0]] (hpS q N K Q x w rk []) [3]
      (fun v h' => v = .tup [] ∧ ∃ rk', (rk' = rk ∨ rk' = .own) ∧ h' = hpS q N (K ++ frk N x (List.range q) K) (Q ++ frq N x w (List.range q) K) x w rk' []) := by
  have hq8 := A.q8; refine AC.of_bodyE hΓ Tryd.func18 (by kernel_rfl) rfl (AWp.mono (Q := fun e st => AM.Ends e ∧ ∃ rk', (rk' = rk ∨ rk' = .own) ∧ st.h = hpS q N (K ++ frk N x (List.range q) K) (Q ++ frq N x w (List.range q) K) x w rk' [auB q N]) ?_ ?_)
  rotate_left
  · rintro e ⟨tm, h'⟩ ⟨he, rk', h1, h2⟩
    simp only at h2; subst h2; refine ⟨he, _, Less.refl _, ?_⟩; refine ⟨5, by simp [hpS], .inr ⟨rfl, by simp [hpS, AObj.under, AV.under, auB, Nat.blt], by simp [hpS]⟩, rfl, rk', h1, rfl⟩
  refine AWp.seq (Wd [] ?_); unfold hpS; simp -implicitDefEqProofs only [Tryd.ntmps18, Nat.reduceAdd, Nat.reduceSub, auB, auV, go_sem]; refine Wd [] ?_; simp -implicitDefEqProofs only [go_sem]; have hk0 : frk N x [] K = [] := rfl; have hq0 : frq N x w [] K = [] := rfl
  refine AWp.loopI (fun z : Nat × RK => ⟨mkF 30 [(1, .p (.int .i64 x)), (2, .map 1), (3, .fn 33 [.ptr 2 0, .ptr 4 0]), (4, .ptr 5 0), (11, .p (.int .i64 q)), (12, .p (.int .i64 z.1))], hpS q N (K ++ frk N x (List.range z.1) K) (Q ++ frq N x w (List.range z.1) K) x w z.2 [auB q N]⟩)
    (fun z => z.1 ≤ q ∧ (z.2 = rk ∨ z.2 = .own)) (fun z => q - z.1) (0, rk) (by simp [go_sem, hpS, auB, hk0, hq0]) ⟨Nat.zero_le _, .inl rfl⟩ ?_
  rintro ⟨k, rk1⟩ ⟨hk, hrk1⟩; simp only at hk hrk1; obtain ⟨K1, hK1⟩ : ∃ K1, K1 = K ++ frk N x (List.range k) K := ⟨_, rfl⟩; obtain ⟨Q1, hQ1⟩ : ∃ Q1, Q1 = Q ++ frq N x w (List.range k) K := ⟨_, rfl⟩; rw [← hK1, ← hQ1]; have hlq : (frs N x (List.range k) K).length ≤ k := by
    have : ∀ l K, (frs N x l K).length ≤ l.length := by
      intro l
      induction l with
      | nil => intro K; simp [frs]
      | cons b l ih =>
        intro K; unfold frs
        split
        · have := ih K; simp only [List.length_cons]; omega
        · have := ih (K ++ [img N x b]); simp only [List.length_cons]; omega
    simpa using this (List.range k) K
  have hQl : Q1.length ≤ 1000000 := by rw [hQ1]; simp [frq]; omega
  by_cases hlt : k < q
  rotate_left
  · have hkq : k = q := by omega
    subst hkq; unfold hpS; simp -implicitDefEqProofs only [auB, go_sem]; refine Wd [] ?_; simp -implicitDefEqProofs only [Int.lt_irrefl, go_sem]; exact ⟨rk1, hrk1, by rw [← hK1, ← hQ1]; simp⟩
  have hlt' : (k : Int) < (q : Int) := by omega
  have e1 := c34 A hx hlt; unfold auV at e1; have hsn : List.range (k + 1) = List.range k ++ [k] := List.range_succ; obtain ⟨y, hy⟩ : ∃ y, y = img N x k := ⟨_, rfl⟩; rw [← hy] at e1; have hgrow : frs N x (List.range (k + 1)) K = frs N x (List.range k) K ++ (if y ∈ K1 then [] else [(k, y)]) := by
    rw [hsn, Z3r, ← hy, hK1]; rfl
  by_cases hin : y ∈ K1
  · rw [if_pos hin, List.append_nil] at hgrow
    unfold hpS; simp -implicitDefEqProofs only [auB, go_sem]; refine Wd [] ?_; simp -implicitDefEqProofs only [hlt', go_sem]; refine Z0 e1 (.still rfl) ?_; simp -implicitDefEqProofs only [Z1v, hin, go_sem]; refine ⟨by simp only [InR]; omega, (k + 1, rk1), ⟨by simp, ?_⟩, ⟨hlt, hrk1⟩, by simp only; omega⟩; simp [frk, frq, hgrow, hK1, hQ1, auB]
  · rw [if_neg hin] at hgrow
    have e3 := c33 q N (K1 ++ [y]) Q1 x w rk1 [auB q N] (a := k) (y := y) (by omega) (by rcases hrk1 with h | h <;> rw [h]; exact hrk; simp) (by simp [auB, AObj.kill, AV.kill]) hQl hw; unfold hpS at e3 ⊢; simp -implicitDefEqProofs only [auB, go_sem]; refine Wd [] ?_; simp -implicitDefEqProofs only [hlt', go_sem]; refine Z0 e1 (.still rfl) ?_; simp -implicitDefEqProofs only [Z1v, hin, Bool.not_false, Z1u hin, go_sem]; unfold auB at e3; refine Zu e3 (by simp) ?_; rintro v h' ⟨rfl, rfl⟩; simp -implicitDefEqProofs only [Zc, List.foldl, go_sem]; refine ⟨by simp only [InR]; omega, (k + 1, .own), ⟨by simp, ?_⟩, ⟨hlt, by simp⟩, by simp only; omega⟩; have eK : K ++ frk N x (List.range (k + 1)) K = K1 ++ [y] := by unfold frk; rw [hgrow, List.map_append, ← List.append_assoc, hK1]; rfl
    have eQ : Q ++ frq N x w (List.range (k + 1)) K = Q1 ++ [(y, w ++ [k])] := by unfold frq; rw [hgrow, List.map_append, ← List.append_assoc, hQ1]; rfl
    rw [eK, eQ]; simp [auB]
end Go.Proofs.YtnilegembmcelaaDoor
