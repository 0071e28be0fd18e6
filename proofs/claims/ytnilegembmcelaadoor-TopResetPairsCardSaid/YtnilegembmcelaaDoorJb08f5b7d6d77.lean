/-
  Texts of this claim, joined.
-/
import Derived.Shelf.SlicesG.In.CompactS
import Derived.Shelf.SlGeneric
import Derived.Ground.SlgnProg
import Derived.Test.YtnilegembmcelaaDoorProg
import Derived.Test.YtnilegembmcelaaDoorJf65881fab42f
import Derived.Test.YtnilegembmcelaaDoorJ11d6ef8752a5
import Derived.Test.YtnilegembmcelaaDoorJ3ad81f63eadc

set_option linter.unusedSimpArgs false
set_option maxRecDepth 100000
section
namespace Go.Proofs
open Go.Shelf
end Go.Proofs
end

section
namespace Go.Proofs.YtnilegembmcelaaDoor
open Go Go.AM Go.RowKit

theorem Z8w (l : List (List UInt8)) : (Lib.compact l).length ≤ l.length := by
  unfold Lib.compact Lib.compactUpTo; rw [List.length_map]; exact Nat.le_trans (List.length_filter_le _ _) (by simp)

end Go.Proofs.YtnilegembmcelaaDoor
end

section
namespace Go.Proofs.YtnilegembmcelaaDoor
open Go Go.AM

/-! ### Sorted lists -/
theorem Z4p (l : List (List UInt8)) : (Z02 l).Perm l := List.mergeSort_perm l _
theorem Z68 (l : List (List UInt8)) (x : List UInt8) : x ∈ Z02 l ↔ x ∈ l := (Z4p l).mem_iff
theorem Z1d (l : List (List UInt8)) : (Z02 l).Pairwise fun a b => ¬ ltW b a := by
  have h := List.pairwise_mergeSort (le := fun x y => !(ltOf cmpK) y x) (fun a b c h1 h2 => by
    simp only [Bool.not_eq_true', Z0e] at *; intro h; by_cases hbc : ltW b c
    · exact h1 (by
        by_cases hab : ltW a b
        · exact absurd (Z0j hab (Z0j hbc h)) (Z00 a)
        · have := Z0r hab h1
          subst this; exact absurd (Z0j hbc h) (Z00 _))
    · have := Z0r hbc h2
      subst this; exact h1 h) (fun a b => by
    simp only [Bool.or_eq_true, Bool.not_eq_true', Z0e]; by_cases hab : ltW b a
    · exact .inr (fun h => Z00 a (Z0j h hab))
    · exact .inl hab) l
  refine h.imp ?_; intro a b hab
  simpa [Z0e] using hab
theorem Z6x {l : List (List UInt8)} (h : l.Nodup) : (Z02 l).Nodup := (Z4p l).nodup_iff.2 h
theorem Z5w {l : List (List UInt8)} (h : l.Nodup) : (Z02 l).Pairwise ltW := by
  refine (Z1d l).imp₂ ?_ (Z6x h); intro a b h1 h2; by_cases hab : ltW a b
  · exact hab
  · exact absurd (Z0r hab h1) h2

theorem Z13 : ∀ {l m : List (List UInt8)}, l.Pairwise ltW → m.Pairwise ltW → (∀ x, x ∈ l ↔ x ∈ m) → l = m
  | [], [], _, _, _ => rfl
  | [], b :: m, _, _, h => absurd ((h b).2 (by simp)) (by simp)
  | a :: l, [], _, _, h => absurd ((h a).1 (by simp)) (by simp)
  | a :: l, b :: m, hl, hm, h => by
    obtain ⟨ha, hl2⟩ := List.pairwise_cons.1 hl; obtain ⟨hb, hm2⟩ := List.pairwise_cons.1 hm; have e : a = b := by
      rcases List.mem_cons.1 ((h a).1 (by simp)) with e | e
      · exact e
      · rcases List.mem_cons.1 ((h b).2 (by simp)) with e2 | e2
        · exact e2.symm
        · exact absurd (Z0j (ha b e2) (hb a e)) (Z00 a)
    subst e; refine congrArg (List.cons a) (Z13 hl2 hm2 (fun x => ⟨fun hx => ?_, fun hx => ?_⟩))
    · rcases List.mem_cons.1 ((h x).1 (by simp [hx])) with e | e
      · subst e; exact absurd (ha x hx) (Z00 x)
      · exact e
    · rcases List.mem_cons.1 ((h x).2 (by simp [hx])) with e | e
      · subst e; exact absurd (hb x hx) (Z00 x)
      · exact e




def made (l : List (List UInt8)) : List (List UInt8) := Lib.compact (Z02 l)
theorem Ze1 (l : List (List UInt8)) : (made l).length ≤ l.length := by
  have := Z8w (Z02 l); rw [Zf] at this; exact this


def Z2f (pr : List UInt8 → List UInt8 → Bool) (ws : List (List UInt8)) (i n : Nat) : Bool := (List.range n).all fun k => decide (i = k) || !pr (ws.getD i []) (ws.getD k [])
def Z52 (pr : List UInt8 → List UInt8 → Bool) (ws : List (List UInt8)) (n : Nat) : Bool := (List.range n).all fun i => Z2f pr ws i ws.length
def Z3e (pr : List UInt8 → List UInt8 → Bool) (ws : List (List UInt8)) : Bool := Z52 pr ws ws.length

theorem Z3d (pr : List UInt8 → List UInt8 → Bool) (ws : List (List UInt8)) (i n : Nat) : Z2f pr ws i (n + 1) = (Z2f pr ws i n && (decide (i = n) || !pr (ws.getD i []) (ws.getD n []))) := by
  unfold Z2f; rw [List.range_succ, List.all_append]; simp
theorem Z7m (pr : List UInt8 → List UInt8 → Bool) (ws : List (List UInt8)) (n : Nat) : Z52 pr ws (n + 1) = (Z52 pr ws n && Z2f pr ws n ws.length) := by
  unfold Z52; rw [List.range_succ, List.all_append]; simp
theorem Zau {pr : List UInt8 → List UInt8 → Bool} {ws : List (List UInt8)} {i k : Nat} (hi : i < ws.length) (hk : k < ws.length) (hne : i ≠ k) (hp : pr (ws.getD i []) (ws.getD k []) = true) : Z3e pr ws = false := by
  unfold Z3e Z52 Z2f; rw [Bool.eq_false_iff]; intro h; have h1 := List.all_eq_true.1 h i (List.mem_range.2 hi); have h2 := List.all_eq_true.1 h1 k (List.mem_range.2 hk); rw [hp] at h2; simp [hne] at h2

theorem c68 {g : FuncId} {pr : List UInt8 → List UInt8 → Bool} (q : Int) (ws : List (List UInt8)) (hg : ∀ x y : List UInt8, x.length ≤ 9223372036854775807 → PFn Tryd.prog g [.str x, .str y] [.bool (pr x y)]) :
    AC Tryd.prog 69 [.agg [.p (.int .i64 q), .p (.sl (ws.map .str))], .fn g []] [Zi q ws] [] (fun v h' => v = .tup [.p (.bool (if Z4 q ws = 0 then Z3e pr ws else false)), .p (.int .i64 (if Z4 q ws = 0 then 0 else 1))] ∧ h' = [Zi q ws]) := by
  refine AC.of_bodyE hΓ Tryd.func69 (by kernel_rfl) rfl (AWp.mono (Q := fun e st => AM.Ends e ∧ st.tmps.getD 4 .junk = .p (.bool (if Z4 q ws = 0 then Z3e pr ws else false)) ∧ st.tmps.getD 5 .junk = .p (.int .i64 (if Z4 q ws = 0 then 0 else 1)) ∧ st.h = [Zi q ws, Zi q ws]) ?_ ?_)
  rotate_left
  · rintro e ⟨tm, h'⟩ ⟨he, h1, h2, h3⟩
    simp only at h1 h2 h3; subst h3; refine ⟨he, _, Less.refl _, ?_⟩; unfold Z92; simp +contextual -implicitDefEqProofs only [Tryd.results69, h1, h2, go_sem]; exact ⟨1, by omega, .inr ⟨rfl, rfl, by simp⟩, rfl⟩
  refine Wd [] ?_; simp -implicitDefEqProofs only [Tryd.ntmps69, Nat.reduceAdd, Nat.reduceSub, Zi, go_sem]; refine Z0 (t45 q ws) (.still rfl) ?_; by_cases h : Z4 q ws = 0
  · have hv := Z3k h
    have hws := hv.len; rw [h]; simp -implicitDefEqProofs only [go_sem]
    refine AWp.loopI (fun i : Nat => ⟨mkF 40 [(1, .fn g []), (2, .ptr 1 0), (14, .p (.sl (ws.map .str))), (15, .p (.int .i64 ws.length)), (16, .p (.int .i64 i))], [Zi q ws, Zi q ws]⟩)
      (fun i => i ≤ ws.length ∧ Z52 pr ws i = true) (fun i => ws.length - i) 0 (by simp [go_sem, Zi]) ⟨by omega, rfl⟩ ?_
    rintro i ⟨hi, hal⟩; refine Wd [] ?_; by_cases hlt : i < ws.length
    · simp -implicitDefEqProofs only [hlt, Z3, ↓reduceIte, Zi, go_sem]
      refine AWp.loopI (fun k : Nat => ⟨mkF 40 [(1, .fn g []), (2, .ptr 1 0), (6, .p (.int .i64 i)), (7, .p (.str ws[i])), (14, .p (.sl (ws.map .str))), (15, .p (.int .i64 ws.length)), (16, .p (.int .i64 i)), (22, .p (.sl (ws.map .str))), (23, .p (.int .i64 ws.length)), (24, .p (.int .i64 k))], [Zi q ws, Zi q ws]⟩)
        (fun k => k ≤ ws.length ∧ Z2f pr ws i k = true) (fun k => ws.length - k) 0 (by simp [go_sem, Zi]) ⟨by omega, rfl⟩ ?_
      rintro k ⟨hk, hal2⟩; refine Wd [] ?_; have hwi : ws.getD i [] = ws[i] := by rw [List.getD_eq_getElem?_getD, List.getElem?_eq_getElem hlt, Option.getD_some]
      by_cases hlt2 : k < ws.length
      · have hwk : ws.getD k [] = ws[k] := by rw [List.getD_eq_getElem?_getD, List.getElem?_eq_getElem hlt2, Option.getD_some]
        by_cases he : (i : Int) = k
        · simp -implicitDefEqProofs only [hlt2, he, Z3, ↓reduceIte, Zi, go_sem]
          refine ⟨by simp only [InR]; omega, k + 1, by omega, ⟨hlt2, ?_⟩, by omega⟩; rw [Z3d, hal2, decide_eq_true (by omega)]; rfl
        · simp -implicitDefEqProofs only [hlt2, he, Z3, ↓reduceIte, Zi, go_sem]
          refine Z0 (hg ws[i] ws[k] (by have := hv.short i hlt; rw [hwi] at this; omega)) (.pures rfl) ?_
          cases hp : pr ws[i] ws[k]
          · simp -implicitDefEqProofs only [go_sem]
            refine ⟨by simp only [InR]; omega, k + 1, by omega, ⟨hlt2, ?_⟩, by omega⟩; rw [Z3d, hal2, hwi, hwk, hp]; simp
          · simp -implicitDefEqProofs only [go_sem]
            rw [Zau hlt hlt2 (by omega) (by rw [hwi, hwk]; exact hp)]
      · simp -implicitDefEqProofs only [hlt2, Zi, go_sem]
        refine ⟨by simp only [InR]; omega, i + 1, by omega, ⟨hlt, ?_⟩, by omega⟩; rw [Z7m, hal, show ws.length = k by omega, hal2]; rfl
    · simp -implicitDefEqProofs only [hlt, Zi, go_sem]
      rw [show i = ws.length by omega] at hal; exact hal.symm
  · simp -implicitDefEqProofs only [h, go_sem]

theorem t38 (q : Int) (ws : List (List UInt8)) : PFn Tryd.prog 44 [Zv q ws] [.bool (if Z4 q ws = 0 then Z3e (fun w x => x.isPrefixOf w) ws else false), .int .i64 (if Z4 q ws = 0 then 0 else 1)] := by
  refine PFn.of_body hΓ Tryd.func44 (by kernel_rfl) rfl (Wd [] ?_); simp +contextual -implicitDefEqProofs only [Zv, Tryd.ntmps44, Tryd.results44, Nat.reduceAdd, Nat.reduceSub, go_sem]; refine Zu (c68 q ws fun x y _ => t69 x y) (by simp) ?_; rintro v h' ⟨rfl, rfl⟩; simp -implicitDefEqProofs only [Zc, List.foldl, Zi, go_sem]

theorem Z0m {d : List (List UInt8)} (hs : d.Pairwise fun a b => ¬ ltW b a) : ∀ m, m ≤ d.length →
    (Lib.compactUpTo d.toArray m).Pairwise ltW ∧ (∀ x, x ∈ Lib.compactUpTo d.toArray m ↔ x ∈ d.take m)
  | 0, _ => by simp [Lib.compactUpTo]
  | m + 1, hm => by
    obtain ⟨h1, h2⟩ := Z0m hs m (by omega); have hml : m < d.length := hm; have get : ∀ j (h : j < d.length), d.toArray[j]! = d[j] := fun j h => by rw [getElem!_pos d.toArray j (by simpa using h)]; simp
    have hle : ∀ i j (hi : i < d.length) (hj : j < d.length), i ≤ j → ¬ ltW d[j] d[i] := fun i j hi hj hij => by
      by_cases e : i = j
      · subst e; exact Z00 _
      · exact List.pairwise_iff_getElem.1 hs i j hi hj (by omega)
    rw [Lib.compactUpTo_succ, List.take_succ_eq_append_getElem hml, get m hml]; by_cases hk : Lib.keeps d.toArray m = true
    · rw [if_pos hk]
      refine ⟨List.pairwise_append.2 ⟨h1, by simp, fun x hx y hy => ?_⟩, fun x => ?_⟩
      · rw [List.mem_singleton] at hy; subst hy
        obtain ⟨j, hj, rfl⟩ := List.mem_take_iff_getElem.1 ((h2 x).1 hx); have hjm : j < m := by omega
        apply Classical.byContradiction
        intro hno; have e : d[j] = d[m] := Z0r hno (hle j m (by omega) hml (by omega)); have e2 : d[m - 1] = d[m] := Z0r (by rw [← e]; exact hle j (m - 1) (by omega) (by omega) (by omega)) (hle (m - 1) m (by omega) hml (by omega)); have := Lib.keeps_neg (d := d.toArray) (m := m) (by omega) (by rw [get m hml, get (m - 1) (by omega), e2]); rw [this] at hk; cases hk
      · simp only [List.mem_append, h2 x]
    · rw [if_neg hk, List.append_nil]
      refine ⟨h1, fun x => ?_⟩; simp only [List.mem_append, h2 x, List.mem_singleton]; refine ⟨.inl, fun h => h.elim id fun e => ?_⟩; subst e; have hm0 : 0 < m := by
        rcases Nat.eq_zero_or_pos m with h | h
        · subst h; exact absurd (Lib.keeps_lt_one _ 0 (by omega)) hk
        · exact h
      have e : d[m] = d[m - 1] := by
        apply Classical.byContradiction
        intro hne; exact hk (Lib.keeps_pos (by rw [get m hml, get (m - 1) (by omega)]; exact hne))
      rw [e]; exact List.mem_take_iff_getElem.2 ⟨m - 1, by omega, rfl⟩

theorem Z2a (l : List (List UInt8)) : (made l).Pairwise ltW := by
  have := (Z0m (Z1d l) (Z02 l).length (Nat.le_refl _)).1; exact this
theorem mem_made {l : List (List UInt8)} {x : List UInt8} : x ∈ made l ↔ x ∈ l := by
  have := (Z0m (Z1d l) (Z02 l).length (Nat.le_refl _)).2 x; rw [List.take_length, Z68] at this; exact this
theorem Ze0 {l m : List (List UInt8)} (hm : m.Pairwise ltW) (h : ∀ x, x ∈ l ↔ x ∈ m) : made l = m := Z13 (Z2a l) hm fun x => mem_made.trans (h x)

theorem Valid.words {q : Int} {ws : List (List UInt8)} (hv : Valid q ws) : ∀ x ∈ ws, x ≠ [] ∧ x.length ≤ 32 ∧ Ze q x = 0 := fun x hx => by
  obtain ⟨j, hj, rfl⟩ := List.getElem_of_mem hx; have h1 := hv.ne j hj; have h2 := hv.short j hj; have h3 := hv.word j hj; rw [List.getD_eq_getElem?_getD, List.getElem?_eq_getElem hj, Option.getD_some] at h1 h2 h3; exact ⟨h1, h2, h3⟩


theorem Z82 {α : Type} {l : List α} (hd : l.Nodup) {i j : Nat} (hi : i < l.length) (hj : j < l.length) (h : l[i] = l[j]) : i = j := by
  rcases Nat.lt_trichotomy i j with g | g | g
  · exact absurd h (List.pairwise_iff_getElem.1 hd i j hi hj g)
  · exact g
  · exact absurd h.symm (List.pairwise_iff_getElem.1 hd j i hj hi g)
/-! Maps whose values follow from the keys. -/
def entF (f : List UInt8 → PV) (k : List UInt8) : List UInt8 × PV := (k, f k)
theorem Z9v (f : List UInt8 → PV) (k : List UInt8) : ∀ ks : List (List UInt8), (k ∉ ks → midx k (ks.map (entF f)) = none) ∧ (k ∈ ks → ∃ j, midx k (ks.map (entF f)) = some j ∧ ∃ h : j < ks.length, ks[j] = k)
  | [] => ⟨fun _ => rfl, fun h => by cases h⟩
  | a :: ks => by
    obtain ⟨h1, h2⟩ := Z9v f k ks
    constructor
    · intro h
      simp only [List.mem_cons, not_or] at h; rw [List.map_cons]; unfold midx; rw [if_neg (show ¬ k = (entF f a).1 from h.1)]; rw [h1 h.2]; rfl
    · intro h
      by_cases e : k = a
      · exact ⟨0, by simp [midx, entF, e], by simp, e.symm⟩
      · simp only [List.mem_cons, e, false_or] at h
        obtain ⟨j, h3, h4, h5⟩ := h2 h; refine ⟨j + 1, ?_, by simpa using h4, by simpa using h5⟩; rw [List.map_cons]; unfold midx; rw [if_neg (show ¬ k = (entF f a).1 from e)]; rw [h3]; rfl
theorem Zi7 (f : List UInt8 → PV) (k : List UInt8) (ks : List (List UInt8)) : mget k (ks.map (entF f)) = if k ∈ ks then some (f k) else none := by
  unfold mget; by_cases h : k ∈ ks
  · obtain ⟨j, h1, h2, h3⟩ := (Z9v f k ks).2 h
    rw [h1, if_pos h]; simp only [Option.map_some, List.getD_eq_getElem?_getD, List.getElem?_map, List.getElem?_eq_getElem h2, Option.map_some, Option.getD_some, entF, h3]
  · rw [(Z9v f k ks).1 h, if_neg h]; rfl
theorem Z9t {f : List UInt8 → PV} {k : List UInt8} {ks : List (List UInt8)} {v : PV} (h : k ∉ ks) (hv : v = f k) : mset k v (ks.map (entF f)) = (ks ++ [k]).map (entF f) := by
  unfold mset; rw [(Z9v f k ks).1 h, hv]; simp [entF]
theorem Z9s {f g : List UInt8 → PV} {k : List UInt8} {ks : List (List UInt8)} (hd : ks.Nodup) (h : k ∈ ks) (hg : ∀ x ∈ ks, x ≠ k → g x = f x) : mset k (g k) (ks.map (entF f)) = ks.map (entF g) := by
  unfold mset; obtain ⟨j, h1, h2, h3⟩ := (Z9v f k ks).2 h; rw [h1]
  apply List.ext_getElem (by simp)
  intro i hi hi2; simp only [List.length_map] at hi2; simp only [List.getElem_set, List.getElem_map]; by_cases e : j = i
  · subst e; rw [if_pos rfl, h3]; rfl
  · rw [if_neg e]
    unfold entF; rw [hg _ (List.getElem_mem hi2) (fun e2 => e (Z82 hd h2 hi2 (h3.trans e2.symm)))]

/-! Words, each once, in the order of their coming. -/
def addK (ks : List (List UInt8)) (k : List UInt8) : List (List UInt8) := if k ∈ ks then ks else ks ++ [k]
def Zl (l : List (List UInt8)) : List (List UInt8) := l.foldl addK []
theorem Z2b (l : List (List UInt8)) (k : List UInt8) : Zl (l ++ [k]) = addK (Zl l) k := by unfold Zl; rw [List.foldl_append]; rfl
theorem Z34 : ∀ l : List (List UInt8), (∀ k, k ∈ Zl l ↔ k ∈ l) ∧ (Zl l).Nodup ∧ (Zl l).length ≤ l.length := by
  intro l
  induction hn : l.length generalizing l with
  | zero =>
    have : l = [] := List.length_eq_zero_iff.1 hn; subst this; simp [Zl]
  | succ n ih =>
    obtain ⟨m, x, rfl⟩ : ∃ m x, l = m ++ [x] := by
      refine ⟨l.dropLast, l.getLast (fun e => by rw [e] at hn; cases hn), (List.dropLast_concat_getLast _).symm⟩
    simp only [List.length_append, List.length_singleton, Nat.add_right_cancel_iff] at hn; obtain ⟨h1, h2, h3⟩ := ih m hn; rw [Z2b]; unfold addK; by_cases hx : x ∈ Zl m
    · rw [if_pos hx]
      refine ⟨fun k => ?_, h2, by omega⟩; rw [List.mem_append, h1 k, List.mem_singleton]; exact ⟨.inl, fun h => h.elim id fun e => by subst e; exact (h1 _).1 hx⟩
    · rw [if_neg hx]
      refine ⟨fun k => ?_, ?_, by simp only [List.length_append, List.length_singleton]; omega⟩
      · simp only [List.mem_append, h1 k, List.mem_singleton]
      · rw [List.nodup_append]
        exact ⟨h2, by simp, fun a ha b hb e => by
          rw [List.mem_singleton] at hb; subst hb; subst e; exact hx ha⟩
theorem Z05 {l : List (List UInt8)} {k : List UInt8} : k ∈ Zl l ↔ k ∈ l := (Z34 l).1 k
theorem Z37 (l : List (List UInt8)) : (Zl l).Nodup := (Z34 l).2.1
theorem Z4w (l : List (List UInt8)) : (Zl l).length ≤ l.length := (Z34 l).2.2
theorem Z8s {l : List (List UInt8)} {k : List UInt8} (h : k ∈ l) : Zl (l ++ [k]) = Zl l := by
  rw [Z2b]; unfold addK; rw [if_pos (Z05.2 h)]
theorem Z4v {l : List (List UInt8)} {k : List UInt8} (h : k ∉ l) : Zl (l ++ [k]) = Zl l ++ [k] := by
  rw [Z2b]; unfold addK; rw [if_neg (fun e => h (Z05.1 e))]
theorem Z5u (l : List (List UInt8)) : Z02 (Zl l) = made l :=
  Z13 (Z5w (Z37 l)) (Z2a l) fun x => by rw [Z68, Z05, mem_made]

/-! Proper beginnings. -/
def inits (w : List UInt8) (n : Nat) : List (List UInt8) := (List.range n).map fun j => w.take j
theorem Z8t (w : List UInt8) (n : Nat) : inits w (n + 1) = inits w n ++ [w.take n] := by unfold inits; rw [List.range_succ, List.map_append]; rfl
theorem Z6f (w : List UInt8) (n : Nat) : (inits w n).length = n := by simp [inits]
def Za (ws : List (List UInt8)) : List (List UInt8) := ws.flatMap fun w => inits w w.length
theorem Z63 (ws : List (List UInt8)) (w : List UInt8) : Za (ws ++ [w]) = Za ws ++ inits w w.length := by
  unfold Za; rw [List.flatMap_append]; simp
theorem Z42 {ws : List (List UInt8)} {x : List UInt8} : x ∈ Za ws ↔ ∃ w ∈ ws, x <+: w ∧ x.length < w.length := by
  unfold Za inits; simp only [List.mem_flatMap, List.mem_map, List.mem_range]
  constructor
  · rintro ⟨w, hw, j, hj, rfl⟩
    exact ⟨w, hw, List.take_prefix _ _, by rw [List.length_take]; omega⟩
  · rintro ⟨w, hw, hp, hl⟩
    exact ⟨w, hw, x.length, hl, (List.prefix_iff_eq_take.1 hp).symm⟩
theorem Z26 {ws : List (List UInt8)} {m : Nat} (h : ∀ w ∈ ws, w.length ≤ m) : (Za ws).length ≤ ws.length * m := by
  unfold Za
  induction ws with
  | nil => simp
  | cons w ws ih =>
    rw [List.flatMap_cons, List.length_append, Z6f, List.length_cons, Nat.add_mul, Nat.one_mul]; have h1 := h w (by simp); have h2 := ih (fun x hx => h x (by simp [hx])); omega
def Z12 (ws : List (List UInt8)) : List (List UInt8) := made (Za ws)
theorem Z69 {ws : List (List UInt8)} {x : List UInt8} : x ∈ Z12 ws ↔ ∃ w ∈ ws, x <+: w ∧ x.length < w.length := mem_made.trans Z42
theorem Z64 (ws : List (List UInt8)) : (Z12 ws).Pairwise ltW := Z2a _
theorem Z5s {l : List (List UInt8)} (h : l.Pairwise ltW) : l.Nodup := h.imp fun h e => by subst e; exact Z00 _ h
theorem Z73 (ws : List (List UInt8)) : (Z12 ws).Nodup := Z5s (Z64 ws)

/-! Places. -/
def ixN {α : Type} [DecidableEq α] (w : α) : List α → Nat
  | [] => 0
  | x :: l => if x = w then 0 else ixN w l + 1
def ixW {α : Type} [DecidableEq α] (ws : List α) (w : α) : Int := if w ∈ ws then (ixN w ws : Int) else -1
theorem Za5 {α : Type} [DecidableEq α] {w : α} : ∀ {l : List α} {k : Nat} (hk : k < l.length), (∀ j (hj : j < k), l[j] ≠ w) → l[k] = w → ixN w l = k
  | x :: l, 0, _, _, h => by unfold ixN; rw [if_pos (show x = w from h)]
  | x :: l, k + 1, hk, h0, h => by
    unfold ixN; rw [if_neg (show ¬ x = w from h0 0 (by omega)), Za5 (k := k) (by simpa using hk) (fun j hj => h0 (j + 1) (by omega)) h]
theorem Z5b {α : Type} [DecidableEq α] {w : α} : ∀ {l : List α}, w ∈ l → ∃ h : ixN w l < l.length, l[ixN w l] = w
  | x :: l, h => by
    by_cases e : x = w
    · have : ixN w (x :: l) = 0 := by unfold ixN; rw [if_pos e]
      refine ⟨by rw [this]; simp, ?_⟩; simp only [this, List.getElem_cons_zero]; exact e
    · have h' : w ∈ l := (List.mem_cons.1 h).elim (fun e2 => absurd e2.symm e) id
      obtain ⟨h1, h2⟩ := Z5b h'; have : ixN w (x :: l) = ixN w l + 1 := by
        show (if x = w then 0 else ixN w l + 1) = _; rw [if_neg e]
      refine ⟨by rw [this, List.length_cons]; omega, ?_⟩; simp only [this, List.getElem_cons_succ]; exact h2
theorem Za4 {α : Type} [DecidableEq α] {l : List α} (hd : l.Nodup) {k : Nat} (hk : k < l.length) : ixN l[k] l = k :=
  Za5 hk (fun j hj e => by have := Z82 hd (by omega) hk e; omega) rfl
theorem Zcn {α : Type} [DecidableEq α] {ws : List α} {w : α} (h : w ∈ ws) : ixW ws w = (ixN w ws : Int) := by unfold ixW; rw [if_pos h]
theorem Za2 {α : Type} [DecidableEq α] {ws : List α} {w : α} (h : w ∉ ws) : ixW ws w = -1 := by unfold ixW; rw [if_neg h]
theorem Za3 {α : Type} [DecidableEq α] {ws : List α} {w : α} : 0 ≤ ixW ws w ↔ w ∈ ws := by
  unfold ixW; split
  · rename_i h; exact ⟨fun _ => h, fun _ => by omega⟩
  · rename_i h; exact ⟨fun h2 => by omega, fun h2 => absurd h2 h⟩
theorem Zih {α : Type} [DecidableEq α] (ws : List α) (w : α) : ixW ws w < ws.length ∨ ws.length = 0 := by
  unfold ixW; split
  · rename_i h; obtain ⟨h1, _⟩ := Z5b h; exact .inl (by omega)
  · omega

/-! Parsers as values. -/
def slI (l : List Int) : PV := .sl (l.map (.int .i64))
def psV (q : Int) (P : List (List UInt8)) (N E : List (List Int)) : PV := .agg [.int .i64 q, .sl (P.map .str), .sl (N.map slI), .sl (E.map slI)]
def Z32 (ws P : List (List UInt8)) (w : List UInt8) : Int := if w ∈ ws then 0 else ixW P w
def Z08 (x : List UInt8) (a : Nat) : List UInt8 := x ++ [L16.getD a 0]
def nxL (q : Nat) (ws P : List (List UInt8)) (x : List UInt8) : List Int := (List.range q).map fun a => Z32 ws P (Z08 x a)
def emL (q : Nat) (ws : List (List UInt8)) (x : List UInt8) : List Int := (List.range q).map fun a => ixW ws (Z08 x a)
def nxP (q : Int) (ws : List (List UInt8)) : List (List Int) := (Z12 ws).map (nxL q.toNat ws (Z12 ws))
def emP (q : Int) (ws : List (List UInt8)) : List (List Int) := (Z12 ws).map (emL q.toNat ws)
def parV (q : Int) (ws : List (List UInt8)) : PV := psV q (Z12 ws) (nxP q ws) (emP q ws)

theorem Z81 {α : Type} {ws : List α} {w : α} {k : Nat} (hk : ws.length ≤ k) (h0 : ∀ j (hj : j < ws.length), j < k → ws[j] ≠ w) : w ∉ ws := fun h => by
  obtain ⟨j, hj, e⟩ := List.getElem_of_mem h; exact h0 j hj (by omega) e
theorem Zco {α : Type} [DecidableEq α] {ws : List α} {k : Nat} (hk : k < ws.length) {w : α} (h0 : ∀ j (hj : j < ws.length), j < k → ws[j] ≠ w) (h : ws[k] = w) : (k : Int) = ixW ws w := by
  rw [Zcn (h ▸ List.getElem_mem hk), Za5 hk (fun j hj => h0 j (by omega) hj) h]
theorem Z67 {α : Type} {ws : List α} {k : Nat} (hk : k < ws.length) {w : α} (h0 : ∀ j (hj : j < ws.length), j < k → ws[j] ≠ w) (h : ¬ ws[k] = w) : ∀ j (hj : j < ws.length), j < k + 1 → ws[j] ≠ w := fun j hj hjk => by
  by_cases e : j = k
  · subst e; exact h
  · exact h0 j hj (by omega)

theorem p60 (ws : List (List UInt8)) (w : List UInt8) (hl : ws.length ≤ 1000000) : PFn Tryd.prog 50 [.sl (ws.map .str), .str w] [.int .i64 (ixW ws w)] := by
  refine PFn.of_body hΓ Tryd.func50 (by kernel_rfl) rfl (AWp.seq (Wd [] ?_)); simp -implicitDefEqProofs only [Tryd.ntmps50, Tryd.results50, Nat.reduceAdd, Nat.reduceSub, go_sem]; refine Wd [] ?_; simp -implicitDefEqProofs only [List.length_map, go_sem]
  refine AWp.loopI (fun k : Nat => ⟨mkF 19 [(0, .p (.sl (ws.map .str))), (1, .p (.str w)), (7, .p (.int .i64 ws.length)), (8, .p (.int .i64 k))], []⟩)
    (fun k => k ≤ ws.length ∧ ∀ j (hj : j < ws.length), j < k → ws[j] ≠ w) (fun k => ws.length - k) 0 (by simp [go_sem]) (by simp) ?_
  rintro k ⟨hk, h0⟩; simp -implicitDefEqProofs only [go_sem]; refine Wd [] ?_; by_cases hlt : k < ws.length
  · by_cases he : ws[k] = w
    · simp -implicitDefEqProofs only [hlt, Z3, ↓reduceIte, List.length_map, he, go_sem]
      exact Zco hlt h0 he
    · have he2 : ¬ w = ws[k] := fun e => he e.symm
      simp -implicitDefEqProofs only [hlt, Z3, ↓reduceIte, List.length_map, he2, go_sem]; exact ⟨by simp only [InR]; omega, k + 1, by simp, ⟨hlt, Z67 hlt h0 he⟩, by omega⟩
  · have hz : ¬ (k : Int) < ws.length := by omega
    simp -implicitDefEqProofs only [hz, hlt, go_sem]; exact (Za2 (Z81 (by omega) h0)).symm

theorem p80 (l : List Int) (v : Int) (hl : l.length ≤ 1000000) : PFn Tryd.prog 42 [slI l, .int .i64 v] [.int .i64 (ixW l v)] := by
  refine PFn.of_body hΓ Tryd.func42 (by kernel_rfl) rfl (AWp.seq (Wd [] ?_)); simp -implicitDefEqProofs only [Tryd.ntmps42, Tryd.results42, Nat.reduceAdd, Nat.reduceSub, slI, go_sem]; refine Wd [] ?_; simp -implicitDefEqProofs only [List.length_map, go_sem]
  refine AWp.loopI (fun k : Nat => ⟨mkF 19 [(0, .p (.sl (l.map (.int .i64)))), (1, .p (.int .i64 v)), (7, .p (.int .i64 l.length)), (8, .p (.int .i64 k))], []⟩)
    (fun k => k ≤ l.length ∧ ∀ j (hj : j < l.length), j < k → l[j] ≠ v) (fun k => l.length - k) 0 (by simp [go_sem]) (by simp) ?_
  rintro k ⟨hk, h0⟩; simp -implicitDefEqProofs only [go_sem]; refine Wd [] ?_; by_cases hlt : k < l.length
  · by_cases he : l[k] = v
    · simp -implicitDefEqProofs only [hlt, Z3, ↓reduceIte, List.length_map, he, go_sem]
      exact Zco hlt h0 he
    · have he2 : ¬ v = l[k] := fun e => he e.symm
      simp -implicitDefEqProofs only [hlt, Z3, ↓reduceIte, List.length_map, he2, go_sem]; exact ⟨by simp only [InR]; omega, k + 1, by simp, ⟨hlt, Z67 hlt h0 he⟩, by omega⟩
  · have hz : ¬ (k : Int) < l.length := by omega
    simp -implicitDefEqProofs only [hz, hlt, go_sem]; exact (Za2 (Z81 (by omega) h0)).symm

theorem p51 (l : List Int) (v : Int) (hl : l.length ≤ 1000000) : PFn Tryd.prog 27 [slI l, .int .i64 v] [.bool (decide (v ∈ l))] := by
  have e80 := p80 l v hl; have hr : 0 ≤ ixW l v ↔ v ∈ l := Za3; generalize ixW l v = r at e80 hr; refine PFn.of_body hΓ Tryd.func27 (by kernel_rfl) rfl (Wd [] ?_); simp +contextual -implicitDefEqProofs only [Tryd.ntmps27, Tryd.results27, Nat.reduceAdd, Nat.reduceSub, go_sem]; refine Z0 e80 (.pures rfl) ?_; simp -implicitDefEqProofs only [go_sem]; exact decide_eq_decide.2 hr
end Go.Proofs.YtnilegembmcelaaDoor
end

section
namespace Go.Proofs.YtnilegembmcelaaDoor
open Go Go.AM Go.RowKit

theorem k93 (x : ByteArray) (w : World) : Calls Tryd.prog 73 #[.string x] w fun e w' => e = .returned (.bool false) ∧ w' = w := by
  go_enter Tryd.func73, Tryd.ntmps73
  go_wp2
  go_ret
  exact ⟨by simp, rfl⟩

theorem Zix {a b : ByteArray} (h : Op.bytesLess a.data.toList b.data.toList = true) : (-1 : Int) = cmpB a.data.toList b.data.toList := by
  unfold cmpB; rw [Zar, h]
theorem Ziy {a b : ByteArray} (h : Op.bytesLess a.data.toList b.data.toList = false) (h2 : (!decide (a.data = b.data)) = true) : (1 : Int) = cmpB a.data.toList b.data.toList := by
  have : bEq a.data.toList b.data.toList = false := by
    rw [Zcw]; simp at h2 ⊢; exact h2
  unfold cmpB; rw [Zar, h, this]
theorem Ziz {a b : ByteArray} (h : Op.bytesLess a.data.toList b.data.toList = false) (h2 : (!decide (a.data = b.data)) = false) : (0 : Int) = cmpB a.data.toList b.data.toList := by
  have : bEq a.data.toList b.data.toList = true := by
    rw [Zcw]; simp at h2 ⊢; exact h2
  unfold cmpB; rw [Zar, h, this]

theorem k76 (a b : ByteArray) (w : World) : Calls Tryd.prog 49 #[.string a, .string b] w fun e w' => e = .returned (.int .i64 (cmpB a.data.toList b.data.toList)) ∧ w' = w := by
  have hc := k93; have eg : binOp .gtr 9 (.string a) (.string b) = pure (.bool (!(Op.bytesLess a.data.toList b.data.toList || decide (a.data.toList = b.data.toList)))) := by
    rw [show binOp .gtr 9 (.string a) (.string b) = Op.stringOp .gtr a b from rfl]; simp only [Op.stringOp, ByteArray.toList_eq, lbeq]
  have eF : ByteArray.toList a = a.data.toList := ByteArray.toList_eq a; have eG : ByteArray.toList b = b.data.toList := ByteArray.toList_eq b
  go_enter Tryd.func49, Tryd.ntmps49
  go_wp2_with (go_at_call 73; refine (hc _ _).mono ?_; rintro e w' ⟨rfl, rfl⟩)
  all_goals go_ret
  · exact ⟨congrArg (fun n => Ending.returned (Value.int .i64 n)) (Zix ‹_›), rfl⟩
  · exact ⟨congrArg (fun n => Ending.returned (Value.int .i64 n)) (Ziy ‹_› ‹_›), rfl⟩
  · exact ⟨congrArg (fun n => Ending.returned (Value.int .i64 n)) (Ziz ‹_› ‹_›), rfl⟩

theorem k73 (a b : ByteArray) (w : World) : Calls Tryd.prog 46 #[.string a, .string b] w fun e w' => e = .returned (.int .i64 (cmpK a.data.toList b.data.toList)) ∧ ∃ q os, w' = Sort.grow (w.drewN q) os := by
  have hc1 := k103; have hc2 := k76; have hc3 := k102
  go_enter Tryd.func46, Tryd.ntmps46
  go_wp2_with (first | (go_at_call 48; refine (hc1 _ _ _).mono ?_; rintro e w' ⟨rfl, rfl⟩) | (go_at_call 49; refine (hc2 _ _ _).mono ?_; rintro e w' ⟨rfl, rfl⟩) | (go_at_call 47; refine (hc3 _ _ _ _ _ (Z83 _ _ _ _ _ rfl) (Z83 _ _ _ _ _ rfl)).mono ?_; rintro e w' ⟨rfl, rfl⟩))
  all_goals go_ret
  all_goals have e1 : ∀ x : ByteArray, x.data.toList.length = x.size := fun x => by simp
  · refine ⟨congrArg (fun n => Ending.returned (Value.int .i64 n)) ?_, 0, #[_], by rw [Sort.alloc_eq_grow]; rfl⟩
    have hs : a.size = b.size := by
      rcases Nat.lt_trichotomy a.size b.size with g | g | g
      · rw [if_pos g] at h; cases h
      · exact g
      · rw [if_neg (by omega), if_pos g] at h; cases h
    unfold cmpK; simp only [e1, hs]; rw [if_pos (by simp), Z5g]
  · refine ⟨congrArg (fun n => Ending.returned (Value.int .i64 n)) ?_, 0, #[_], by rw [Sort.alloc_eq_grow]; rfl⟩
    unfold cmpK; simp only [e1]; rw [if_pos (show (a.size : Int) < b.size by omega)]; rfl
  · refine ⟨congrArg (fun n => Ending.returned (Value.int .i64 n)) ?_, 0, #[_], by rw [Sort.alloc_eq_grow]; rfl⟩
    unfold cmpK; simp only [e1]; rw [if_neg (show ¬ (a.size : Int) < b.size by omega), if_pos (show (b.size : Int) < a.size by omega)]; rfl
theorem Z5v (d : List (List UInt8)) (blk off cap : Nat) (w : World) (hH : Sort.Holds encW w blk off d.toArray) (hblk : blk < w.heap.size) (hsz : d.length < 4611686018427387904) :
    Calls Tryd.prog 45 #[.slice (some ⟨blk, off, none⟩) d.length cap, .func (.func 46) #[] #[]] w fun e w' => e = .returned (.tuple #[]) ∧ ∃ n os, w' = sortWorld encW w blk off n (Z02 d).toArray os := by
  have eg : ∀ args w, (callFunc 46 args).run Tryd.prog w = .ok (.enter 46 args) w := Z06 Tryd.func46 (by kernel_rfl) rfl; have hcmp : CmpLays1 Tryd.prog 46 #[] encW cmpK blk off d.toArray.size w := fun m os dk _ x y => k73 ⟨x.toArray⟩ ⟨y.toArray⟩ _
  have h := Any.slices_SortFunc_total Tryd.sortS encW (fun _ => rfl) cmpK swoW 46 #[] blk off cap d.toArray w eg hcmp hH hblk (by simpa using hsz) (fun x y h1 h2 => Z0r ((Z0e x y).1 h1) ((Z0e y x).1 h2)); exact h
theorem c72b {h : List AObj} {b : Nat} (l : List (List UInt8)) (hb : h[b]? = some (.row 9 1 (l.map .str) .own)) (hsz : l.length ≤ 1000000) :
    AC Tryd.prog 45 [.own b l.length, .fn 46 []] h [] (fun v h' => v = .tup [] ∧ h' = h.set b (.row 9 1 ((Z02 l).map .str) .own)) := Zja Z5v l hb hsz
end Go.Proofs.YtnilegembmcelaaDoor
end

section
namespace Go.Proofs.YtnilegembmcelaaDoor
open Go Go.AM

def zi (_ : List UInt8) : PV := .int .i64 0
def pk {α : Type} (path : List α) : RK := if path.isEmpty then .lax else .own
theorem Zdm {α : Type} (path : List α) (k : α) : pk (path ++ [k]) = .own := by simp [pk]
theorem Zhd {α : Type} (path : List α) : pk path ≠ .raw := by unfold pk; split <;> simp
theorem Zhe {α : Type} {path : List α} (h : path ≠ []) : pk path = .own := by
  unfold pk; rw [if_neg]; simpa using h
def buH (q : Int) (ws L : List (List UInt8)) : List AObj :=
  [Zi q ws, .box [.p (.int .i64 0), .full [], .full [], .full []], .mp ((Zl L).map (entF zi)), .box [.p (.int .i64 q), .own 4 (Zl L).length, .full [], .full []], .row 9 1 ((Zl L).map .str) (pk (Zl L))]

theorem Zi6 (k : List UInt8) (L : List (List UInt8)) : (mget k ((Zl L).map (entF zi))).isSome = decide (k ∈ L) := by
  rw [Zi7]; by_cases h : k ∈ L
  · rw [if_pos (Z05.2 h), decide_eq_true h]; rfl
  · rw [if_neg (fun e => h (Z05.1 e)), decide_eq_false h]; rfl

def fN (P : List (List UInt8)) (i : Nat) (x : List UInt8) : PV := .int .i64 (if ixN x P < i then (ixN x P : Int) else 0)
theorem Zeb (P : List (List UInt8)) : entF (fN P 0) = entF zi := by
  funext x; simp [entF, fN, zi]
theorem Zio {K P : List (List UInt8)} (hK : K.Nodup) (hP : P.Nodup) (hm : ∀ x, x ∈ K ↔ x ∈ P) {i : Nat} (hi : i < P.length) : mset P[i] (.int .i64 i) (K.map (entF (fN P i))) = K.map (entF (fN P (i + 1))) := by
  have h1 := Za4 hP hi; have h2 : fN P (i + 1) P[i] = .int .i64 i := by unfold fN; rw [h1, if_pos (by omega)]
  rw [← h2]; refine Z9s hK ((hm _).2 (List.getElem_mem hi)) fun x hx hne => ?_
  obtain ⟨g1, g2⟩ := Z5b ((hm x).1 hx); have : ixN x P ≠ i := fun e => hne (by rw [← g2]; simp only [e])
  unfold fN; by_cases h : ixN x P < i
  · rw [if_pos h, if_pos (by omega)]
  · rw [if_neg h, if_neg (by omega)]
theorem Zip {K P : List (List UInt8)} (hm : ∀ x, x ∈ K ↔ x ∈ P) (w : List UInt8) : mget w (K.map (entF (fN P P.length))) = if w ∈ P then some (.int .i64 (ixN w P)) else none := by
  rw [Zi7]; by_cases h : w ∈ P
  · rw [if_pos ((hm w).2 h), if_pos h]
    unfold fN; rw [if_pos (Z5b h).1]
  · rw [if_neg (fun e => h ((hm w).1 e)), if_neg h]

def rngV (q j : Nat) (f : Nat → Int) : List PV := (List.range q).map fun a => .int .i64 (if a < j then f a else 0)
theorem Z7x (q j : Nat) (f : Nat → Int) : (rngV q j f).length = q := by simp [rngV]
theorem Z61 (q : Nat) (f : Nat → Int) : List.replicate q (PV.int .i64 0) = rngV q 0 f := by
  unfold rngV
  apply List.ext_getElem (by simp)
  intro i h1 h2; simp
theorem Z7w {q j : Nat} (f : Nat → Int) : (rngV q j f).set j (.int .i64 (f j)) = rngV q (j + 1) f := by
  unfold rngV
  apply List.ext_getElem (by simp)
  intro i h1 h2; simp only [List.getElem_set, List.getElem_map, List.getElem_range]; by_cases e : j = i
  · subst e; rw [if_pos rfl, if_pos (by omega)]
  · rw [if_neg e]
    by_cases h : i < j
    · rw [if_pos h, if_pos (by omega)]
    · rw [if_neg h, if_neg (by omega)]
theorem Z7y (q : Nat) (f : Nat → Int) : rngV q q f = ((List.range q).map f).map (.int .i64) := by
  unfold rngV; rw [List.map_map]
  apply List.map_congr_left
  intro a ha; rw [if_pos (List.mem_range.1 ha)]; rfl

def buI (qn : Nat) (ws P K : List (List UInt8)) (x : List UInt8) (i j : Nat) : List AObj :=
  [Zi qn ws, .box [.p (.int .i64 0), .full [], .full [], .full []], .mp (K.map (entF (fN P P.length))), .box [.p (.int .i64 qn), .p (.sl (P.map .str)), .own 4 i, .own 5 i],
   .row 53 1 ((P.take i).map fun x => slI (nxL qn ws P x)) .lax, .row 53 1 ((P.take i).map fun x => slI (emL qn ws x)) .lax,
   .row 3 1 (rngV qn j fun a => Z32 ws P (Z08 x a)) .own, .row 3 1 (rngV qn j fun a => ixW ws (Z08 x a)) .own]
theorem Ze5 {j : Nat} (hj : j < 16) : List.take (((j : Int) + 1).toNat - j) (List.drop j [48, 49, 50, 51, 52, 53, 54, 55, 56, 57, 97, 98, 99, 100, 101, 102]) = [L16.getD j 0] := by
  rw [show ((j : Int) + 1).toNat - j = 1 by omega]; have : ∀ j, j < 16 → List.take 1 (List.drop j ([48, 49, 50, 51, 52, 53, 54, 55, 56, 57, 97, 98, 99, 100, 101, 102] : List UInt8)) = [L16.getD j 0] := by decide
  exact this j hj
theorem Zd6 (x : List UInt8) (j : Nat) : x ++ [L16.getD j 0] = Z08 x j := rfl
theorem Zd1 {p p' q q' A B : Prop} (hp : p) (hp' : p') (hq : q) (hq' : q') (h : A ∧ B) : (p ∧ p' ∧ A) ∧ (q ∧ q' ∧ B) := ⟨⟨hp, hp', h.1⟩, hq, hq', h.2⟩
def buG (qn : Nat) (ws P K : List (List UInt8)) (i : Nat) : List AObj :=
  [Zi qn ws, .box [.p (.int .i64 0), .full [], .full [], .full []], .mp (K.map (entF (fN P P.length))), .box [.p (.int .i64 qn), .p (.sl (P.map .str)), .own 4 i, .own 5 i],
   .row 53 1 ((P.take i).map fun x => slI (nxL qn ws P x)) .lax, .row 53 1 ((P.take i).map fun x => slI (emL qn ws x)) .lax]

set_option maxHeartbeats 2000000 in
theorem p45 {q : Int} {ws : List (List UInt8)} (hv : Valid q ws) : PFn Tryd.prog 30 [Zv q ws] [parV q ws] := by
  have hq2 := hv.q2; have hq16 := hv.q16; obtain ⟨qn, rfl⟩ := Int.eq_ofNat_of_zero_le (show 0 ≤ q by omega); have hlen := hv.len; have hw32 : ∀ x ∈ ws, x.length ≤ 32 := fun x hx => (hv.words x hx).2.1
  have hpl := Z26 hw32; refine PFn.of_body hΓ Tryd.func30 (by kernel_rfl) rfl (AWp.seq (Wd [] ?_)); simp -implicitDefEqProofs only [Tryd.ntmps30, Tryd.results30, Nat.reduceAdd, Nat.reduceSub, Zv, go_sem]; refine AWp.seq (Wd [] ?_); simp -implicitDefEqProofs only [go_sem]; refine AWp.seq (Wd [] ?_); simp -implicitDefEqProofs only [go_sem]; refine ⟨by omega, ?_⟩; refine AWp.adoptCell (l := []) 3 1 9 1 rfl rfl (by simp) ?_; simp -implicitDefEqProofs only [List.set_cons_zero, List.set_cons_succ, go_sem]; refine AWp.seq (AWp.seq (Wd [] ?_)); simp -implicitDefEqProofs only [List.length_map, go_sem]; refine AWp.block ?_; refine AWp.mono (Q := fun e st => e = .exit 0 ∧ Weak st ⟨mkF 143 [(1, .ptr 0 0), (2, .ptr 1 0), (3, .map 2), (4, .ptr 3 0)], buH qn ws (Za ws)⟩) ?_ ?_
  · refine AWp.loopI (fun i : Nat => ⟨mkF 143 [(1, .ptr 0 0), (2, .ptr 1 0), (3, .map 2), (4, .ptr 3 0), (25, .p (.sl (ws.map .str))), (26, .p (.int .i64 ws.length)), (27, .p (.int .i64 i))], buH qn ws (Za (ws.take i))⟩)
      (fun i => i ≤ ws.length) (fun i => ws.length - i) 0 (by simp [go_sem, Zi, buH, Za, Zl, pk]) (by simp) ?_
    intro i hi; simp -implicitDefEqProofs only [buH, Zi, go_sem]; refine Wd [] ?_; by_cases hlt : i < ws.length
    · have hwi := hw32 _ (List.getElem_mem hlt)
      have hpli := Z26 (ws := ws.take i) (m := 32) fun x hx => hw32 x (List.mem_of_mem_take hx)
      have htl : (ws.take i).length ≤ 64 := by rw [List.length_take]; omega
      simp -implicitDefEqProofs only [hlt, Z3, ↓reduceIte, go_sem]
      refine AWp.loopI (fun n : Nat => ⟨mkF 143 [(1, .ptr 0 0), (2, .ptr 1 0), (3, .map 2), (4, .ptr 3 0), (6, .p (.str ws[i])), (25, .p (.sl (ws.map .str))), (26, .p (.int .i64 ws.length)), (27, .p (.int .i64 i)), (32, .p (.int .i64 ws[i].length)), (33, .p (.int .i64 n))], buH qn ws (Za (ws.take i) ++ inits ws[i] n)⟩)
        (fun n => n ≤ ws[i].length) (fun n => ws[i].length - n) 0 (by simp [go_sem, Zi, buH, inits]) (by simp) ?_
      intro n hn; simp -implicitDefEqProofs only [buH, Zi, go_sem]; refine Wd [(12, 1000)] ?_; by_cases hlt2 : n < ws[i].length
      · have hL : Za (ws.take i) ++ inits ws[i] (n + 1) = (Za (ws.take i) ++ inits ws[i] n) ++ [ws[i].take n] := by rw [Z8t, List.append_assoc]
        have hLl : (Za (ws.take i) ++ inits ws[i] n).length ≤ 2100 := by
          rw [List.length_append, Z6f]; have : (ws.take i).length * 32 ≤ 64 * 32 := Nat.mul_le_mul_right _ htl; omega
        generalize Za (ws.take i) ++ inits ws[i] n = L at hL hLl; have hkl := Z4w L; by_cases hm : ws[i].take n ∈ L
        · simp -implicitDefEqProofs only [hlt2, Zi6, hm, go_sem]
          refine ⟨by omega, by simp only [InR]; omega, n + 1, ⟨by simp, ?_⟩, hlt2, by omega⟩; rw [hL]; unfold buH; rw [Z8s hm]; exact Zm _
        · simp -implicitDefEqProofs only [hlt2, Zi6, hm, go_sem]
          refine ⟨by omega, by omega, ?_⟩; have hset : mset (ws[i].take n) (.int .i64 0) ((Zl L).map (entF zi)) = (Zl (L ++ [ws[i].take n])).map (entF zi) := by
            rw [Z4v hm]; exact Z9t (fun e => hm (Z05.1 e)) rfl
          rw [hset]; refine AWp.planL (.q 0 (.q 1 (.q 2 (.q 3 (.q 4 (.q 5 (.e 6 (.q 7 (.e 8 .fin .nil)) .nil))))))) hΓ hmix (by kernel_rfl) ?_; simp -implicitDefEqProofs only [go_sem]; refine ⟨by omega, ⟨by simp [Zp, PV.cells], by omega⟩, ⟨by simp [Zp, PV.cells], by simp [Z8n, PV.cells, PV.isAgg]⟩, ⟨Zhd _, .inl (by omega), by omega, by omega⟩, by omega, by simp only [InR]; omega, n + 1, ⟨by simp, ?_⟩, hlt2, by omega⟩; rw [hL]; unfold buH; rw [Z4v hm, Zdm]; simp only [List.map_append, List.length_append, List.length_singleton, List.map_cons, List.map_nil, List.isEmpty_cons, Bool.false_eq_true, if_false]; exact Zm _
      · have hnl : n = ws[i].length := by omega
        have hL : Za (ws.take (i + 1)) = Za (ws.take i) ++ inits ws[i] ws[i].length := by rw [List.take_succ_eq_append_getElem hlt, Z63]
        rw [hnl, ← hL]; simp -implicitDefEqProofs only [Nat.lt_irrefl, ↓reduceIte, go_sem]; exact ⟨by simp only [InR]; omega, i + 1, ⟨by simp, Zm _⟩, hlt, by omega⟩
    · have hil : i = ws.length := by omega
      rw [hil, List.take_length]; simp -implicitDefEqProofs only [Nat.lt_irrefl, go_sem]; exact Zm _
  rintro e st ⟨rfl, hw⟩; show AWp _ _ _ _ _; refine AWp.weak hw ?_; clear hw; have hne : Zl (Za ws) ≠ [] := fun e => by
    have hp := hv.pos; have : ([] : List UInt8) ∈ Zl (Za ws) := Z05.2 (Z42.2 ⟨ws[0], List.getElem_mem hp, List.nil_prefix, List.length_pos_iff.2 (hv.words _ (List.getElem_mem hp)).1⟩); rw [e] at this; cases this
  have hkl := Z4w (Za ws); have hsl : (Zl (Za ws)).length = (Z12 ws).length := by unfold Z12; rw [← Z5u, Zf]
  have hmem : ∀ x, x ∈ Zl (Za ws) ↔ x ∈ Z12 ws := fun x => by unfold Z12; rw [Z05, mem_made]
  have hKd := Z37 (Za ws); have e72 := c72b (h := buH qn ws (Za ws)) (b := 4) (Zl (Za ws)) (by unfold buH; rw [Zhe hne]; rfl) (by omega); rw [Z5u, hsl] at e72; have hPd := Z73 ws
  change AC Tryd.prog 45 _ _ _ (fun v h' => v = .tup [] ∧ h' = (buH qn ws (Za ws)).set 4 (.row 9 1 ((Z12 ws).map .str) .own)) at e72
  unfold buH at e72 ⊢; rw [hsl] at e72 ⊢; generalize Zl (Za ws) = K at *; generalize hP : Z12 ws = P at *; simp -implicitDefEqProofs only [Zi, go_sem]; refine AWp.seq (Wd [] ?_); simp -implicitDefEqProofs only [go_sem]; refine Zu e72 (by simp) ?_; rintro v h' ⟨rfl, rfl⟩; clear e72; simp -implicitDefEqProofs only [Zc, List.foldl, List.set_cons_zero, List.set_cons_succ, Zi, go_sem]; refine AWp.freeze 4 rfl ?_; simp -implicitDefEqProofs only [Z0c, AV.thaw, AObj.thaw, AV.thaw.thawL, List.map_cons, List.map_nil, List.set_cons_zero, List.set_cons_succ, go_sem]; refine AWp.trimN 4 (by simp) (by simp [AV.blw, AV.blw.blwL]) (by simp [blwH, AObj.blw, AV.blw, AV.blw.blwL]) ?_; simp -implicitDefEqProofs only [List.take_succ_cons, List.take_zero, go_sem]; have hPl : P.length ≤ 2100 := by
    have : ws.length * 32 ≤ 64 * 32 := Nat.mul_le_mul_right _ hlen; omega
  refine AWp.seq (AWp.seq (Wd [] ?_)); simp -implicitDefEqProofs only [List.length_map, go_sem]; refine AWp.block ?_; refine AWp.mono (Q := fun e st => e = .exit 4 ∧ Weak st ⟨mkF 143 [(1, .ptr 0 0), (2, .ptr 1 0), (3, .map 2), (4, .ptr 3 0)], [Zi qn ws, .box [.p (.int .i64 0), .full [], .full [], .full []], .mp (K.map (entF (fN P P.length))), .box [.p (.int .i64 qn), .p (.sl (P.map .str)), .full [], .full []]]⟩) ?_ ?_
  · refine AWp.loopI (fun i : Nat => ⟨mkF 143 [(1, .ptr 0 0), (2, .ptr 1 0), (3, .map 2), (4, .ptr 3 0), (64, .p (.sl (P.map .str))), (65, .p (.int .i64 P.length)), (66, .p (.int .i64 i))], [Zi qn ws, .box [.p (.int .i64 0), .full [], .full [], .full []], .mp (K.map (entF (fN P i))), .box [.p (.int .i64 qn), .p (.sl (P.map .str)), .full [], .full []]]⟩)
      (fun i => i ≤ P.length) (fun i => P.length - i) 0 (by simp [go_sem, Zi, Zeb]) (by simp) ?_
    intro i hi; simp -implicitDefEqProofs only [Zi, go_sem]; refine Wd [] ?_; by_cases hlt : i < P.length
    · simp -implicitDefEqProofs only [hlt, Z3, ↓reduceIte, Zio hKd hPd hmem hlt, go_sem]
      exact ⟨by simp only [InR]; omega, i + 1, ⟨by simp, .inr rfl, rfl⟩, hlt, by omega⟩
    · have hil : i = P.length := by omega
      rw [hil]; simp -implicitDefEqProofs only [Nat.lt_irrefl, go_sem]; exact .inr rfl
  rintro e st ⟨rfl, hw⟩; show AWp _ _ _ _ _; refine AWp.weak hw ?_; clear hw; simp -implicitDefEqProofs only [Zi, go_sem]; refine AWp.adoptCell (l := []) 3 2 53 1 rfl rfl (by simp) ?_; simp -implicitDefEqProofs only [List.set_cons_zero, List.set_cons_succ, go_sem]; refine AWp.adoptCell (l := []) 3 3 53 1 rfl rfl (by simp) ?_; simp -implicitDefEqProofs only [List.set_cons_zero, List.set_cons_succ, go_sem]; refine AWp.seq (AWp.seq (Wd [] ?_)); simp -implicitDefEqProofs only [List.length_map, go_sem]; refine AWp.block ?_; refine AWp.mono (Q := fun e st => e = .exit 6 ∧ Weak st ⟨mkF 143 [(1, .ptr 0 0), (2, .ptr 1 0), (4, .ptr 3 0)], buG qn ws P K P.length⟩) ?_ ?_
  · refine AWp.loopI (fun i : Nat => ⟨mkF 143 [(1, .ptr 0 0), (2, .ptr 1 0), (3, .map 2), (4, .ptr 3 0), (76, .p (.sl (P.map .str))), (77, .p (.int .i64 P.length)), (78, .p (.int .i64 i))], buG qn ws P K i⟩)
      (fun i => i ≤ P.length) (fun i => P.length - i) 0 (by simp [go_sem, Zi, buG]) (by simp) ?_
    intro i hi; simp -implicitDefEqProofs only [buG, Zi, go_sem]; refine Wd [(24, 1000), (36, 1000)] ?_; by_cases hlt : i < P.length
    · simp -implicitDefEqProofs only [hlt, Z3, ↓reduceIte, go_sem]
      refine AWp.planL (.q 0 (.q 1 (.q 3 (.q 4 (.e 2 (.s 3 (.s 4 (.q 6 (.e 5 (.s 0 (.s 1 (.s 6 (.q 7 .fin)))) .nil)))) (.e 5 (.s 0 (.s 1 (.e 2 (.s 3 (.s 4 (.q 6 (.q 7 .fin)))) .nil))) .nil)))))) hΓ hmix (by kernel_rfl) ?_; simp -implicitDefEqProofs only [go_sem]; have hZ1 : (rngV qn 0 fun a => Z32 ws P (Z08 P[i] a)) = List.replicate qn (.int .i64 0) := (Z61 _ _).symm; have hZ2 : (rngV qn 0 fun a => ixW ws (Z08 P[i] a)) = List.replicate qn (.int .i64 0) := (Z61 _ _).symm
      refine Zd1 ⟨by omega, by omega⟩ ⟨by omega, by omega⟩ ⟨by omega, by omega⟩ ⟨by omega, by omega⟩ (AWp.two 6 7 ⟨mkF 143 [(1, .ptr 0 0), (2, .ptr 1 0), (3, .map 2), (4, .ptr 3 0), (13, .p (.str P[i])), (14, .own 6 qn), (15, .own 7 qn), (76, .p (.sl (P.map .str))), (77, .p (.int .i64 P.length)), (78, .p (.int .i64 i)), (89, .p (.int .i64 qn)), (90, .p (.int .i64 (0 : Nat)))], buI qn ws P K P[i] i 0⟩ rfl rfl (Nat.zero_le _) (Nat.zero_le _)
        (by simp [go_sem, Zi, buI, hZ1, hZ2]) (by simp [go_sem, Zi, buI, AV.sw, AV.sw.swL, AObj.sw, swN, hZ1, hZ2]) ?_)
      clear hZ1 hZ2
      refine AWp.loopI (fun j : Nat => ⟨mkF 143 [(1, .ptr 0 0), (2, .ptr 1 0), (3, .map 2), (4, .ptr 3 0), (13, .p (.str P[i])), (14, .own 6 qn), (15, .own 7 qn), (76, .p (.sl (P.map .str))), (77, .p (.int .i64 P.length)), (78, .p (.int .i64 i)), (89, .p (.int .i64 qn)), (90, .p (.int .i64 j))], buI qn ws P K P[i] i j⟩)
        (fun j => j ≤ qn) (fun j => qn - j) 0 (by simp [go_sem, Zi, buI]) (by simp) ?_
      intro j hj; simp -implicitDefEqProofs only [buI, Zi, go_sem]; refine Wd [(36, 1000)] ?_; by_cases hlt2 : j < qn
      · have hq16n : qn ≤ 16 := by omega
        have hws1 : ws.length ≤ 1000000 := by omega
        have e60 := p60 ws (Z08 P[i] j) hws1; have hPx : P[i].length ≤ 32 := by
          have h1 : P[i] ∈ Z12 ws := by rw [hP]; exact List.getElem_mem hlt
          obtain ⟨w, hw, _, h2⟩ := Z69.1 h1; have := hw32 w hw; omega
        have hlen1 : ∀ f : Nat → Int, (rngV qn j f).length = qn := fun f => Z7x _ _ _
        simp -implicitDefEqProofs only [hlt2, ↓reduceIte, Ze5 (show j < 16 by omega), Zd6, List.length_singleton, go_sem]; refine ⟨by simp only [InR]; omega, ⟨by omega, by omega⟩, by omega, Z0 e60 (.pures rfl) ?_⟩; simp -implicitDefEqProofs only [hlt2, ↓reduceIte, hlen1, go_sem]; refine ⟨rfl, rfl, ?_⟩; have hget := Zip hmem (Z08 P[i] j); have hgE : ((rngV qn j fun a => ixW ws (Z08 P[i] a)).set j (.int .i64 (ixW ws (Z08 P[i] j)))).getD j default = .int .i64 (ixW ws (Z08 P[i] j)) := by
          rw [List.getD_eq_getElem?_getD, List.getElem?_set_self (by rw [Z7x]; exact hlt2)]; rfl
        have hE : (rngV qn j fun a => ixW ws (Z08 P[i] a)).set j (.int .i64 (ixW ws (Z08 P[i] j))) = rngV qn (j + 1) fun a => ixW ws (Z08 P[i] a) := Z7w _
        have hN : ∀ V : Int, V = Z32 ws P (Z08 P[i] j) → (rngV qn j fun a => Z32 ws P (Z08 P[i] a)).set j (.int .i64 V) = rngV qn (j + 1) fun a => Z32 ws P (Z08 P[i] a) := by
          rintro V rfl; exact Z7w _
        have hend : InR IntKind.i64 ((j : Int) + 1) := by simp only [InR]; omega
        by_cases he : Z08 P[i] j ∈ ws
        · have hge : 0 ≤ ixW ws (Z08 P[i] j) := Za3.2 he
          have hV := hN 0 (by unfold Z32; rw [if_pos he]); by_cases hp : Z08 P[i] j ∈ P
          · simp -implicitDefEqProofs only [hget, hp, ↓reduceIte, Option.isSome_some, Option.getD_some, hlen1, hlt2, List.length_set, hgE, hge, List.set_set, hV, go_sem]
            exact ⟨rfl, rfl, hend, j + 1, ⟨by simp, by rw [hE]; exact Zm _⟩, hlt2, by omega⟩
          · simp -implicitDefEqProofs only [hget, hp, ↓reduceIte, Option.isSome_none, Option.getD_none, hlen1, hlt2, List.length_set, hgE, hge, List.set_set, hV, go_sem]
            exact ⟨rfl, hend, j + 1, ⟨by simp, by rw [hE]; exact Zm _⟩, hlt2, by omega⟩
        · have hge : ¬ 0 ≤ ixW ws (Z08 P[i] j) := fun h => he (Za3.1 h)
          by_cases hp : Z08 P[i] j ∈ P
          · have hV := hN (ixN (Z08 P[i] j) P : Int) (by unfold Z32; rw [if_neg he, Zcn hp])
            simp -implicitDefEqProofs only [hget, hp, ↓reduceIte, Option.isSome_some, Option.getD_some, hlen1, hlt2, List.length_set, hgE, hge, List.set_set, hV, go_sem]; exact ⟨rfl, hend, j + 1, ⟨by simp, by rw [hE]; exact Zm _⟩, hlt2, by omega⟩
          · have hV := hN (-1) (by unfold Z32; rw [if_neg he, Za2 hp])
            simp -implicitDefEqProofs only [hget, hp, ↓reduceIte, Option.isSome_none, Option.getD_none, hlen1, hlt2, List.length_set, hgE, hge, List.set_set, hV, go_sem]; exact ⟨hend, j + 1, ⟨by simp, by rw [hE]; exact Zm _⟩, hlt2, by omega⟩
      · have hjl : j = qn := by omega
        rw [hjl]; simp -implicitDefEqProofs only [Nat.lt_irrefl, go_sem]; have hrN := Z7y qn fun a => Z32 ws P (Z08 P[i] a)
        have hrE := Z7y qn fun a => ixW ws (Z08 P[i] a)
        refine AWp.freeze 6 rfl ?_; simp -implicitDefEqProofs only [Z0c, AV.thaw, AObj.thaw, AV.thaw.thawL, List.map_cons, List.map_nil, List.set_cons_zero, List.set_cons_succ, go_sem]; refine AWp.freeze 7 rfl ?_; simp -implicitDefEqProofs only [Z0c, AV.thaw, AObj.thaw, AV.thaw.thawL, List.map_cons, List.map_nil, List.set_cons_zero, List.set_cons_succ, go_sem]; refine AWp.trimN 6 (by simp) (by simp [AV.blw, AV.blw.blwL]) (by simp [blwH, AObj.blw, AV.blw, AV.blw.blwL]) ?_; simp -implicitDefEqProofs only [List.take_succ_cons, List.take_zero, go_sem]; rw [hrN, hrE]; refine AWp.planL (.q 0 (.q 1 (.q 2 (.q 3 (.q 5 (.q 6 (.q 7 (.q 8 (.e 4 (.s 5 (.s 6 (.s 7 (.s 8 (.q 10 (.e 9 (.s 10 (.e 11 (.q 12 (.e 13 .fin .nil)) .nil)) .nil)))))) .nil))))))))) hΓ hmix (by kernel_rfl) ?_; simp -implicitDefEqProofs only [go_sem]; have hs1 : ∀ l, Zp [PV.sl l] 1 := fun l => by simp [Zp, PV.cells]
        have ho1 : ∀ l, Z8n [PV.sl l] := fun l => by simp [Z8n, PV.cells, PV.isAgg]
        have hr1 : ((P.take i).map fun x => slI (nxL qn ws P x)) ++ [PV.sl (((List.range qn).map fun a => Z32 ws P (Z08 P[i] a)).map (.int .i64))] = (P.take (i + 1)).map fun x => slI (nxL qn ws P x) := by
          rw [List.take_succ_eq_append_getElem hlt, List.map_append]; rfl
        have hr2 : ((P.take i).map fun x => slI (emL qn ws x)) ++ [PV.sl (((List.range qn).map fun a => ixW ws (Z08 P[i] a)).map (.int .i64))] = (P.take (i + 1)).map fun x => slI (emL qn ws x) := by
          rw [List.take_succ_eq_append_getElem hlt, List.map_append]; rfl
        rw [hr1, hr2]; refine ⟨⟨hs1 _, by omega⟩, ⟨hs1 _, by omega⟩, ⟨hs1 _, ho1 _⟩, ⟨.inl (by omega), by omega, by omega⟩, ⟨hs1 _, by omega⟩, ⟨hs1 _, ho1 _⟩, ⟨.inl (by omega), by omega, by omega⟩, by omega, by simp only [InR]; omega, i + 1, ⟨by simp, ?_⟩, hlt, by omega⟩; unfold buG; simp [Z4j, Z8r, Zi]
    · have hil : i = P.length := by omega
      rw [hil]; simp -implicitDefEqProofs only [Nat.lt_irrefl, go_sem]; exact Zm _
  rintro e st ⟨rfl, hw⟩; show AWp _ _ _ _ _; refine AWp.weak hw ?_; clear hw; simp -implicitDefEqProofs only [buG, Zi, go_sem]; rw [List.take_length]; refine AWp.freeze 4 rfl ?_; simp -implicitDefEqProofs only [Z0c, AV.thaw, AObj.thaw, AV.thaw.thawL, List.map_cons, List.map_nil, List.set_cons_zero, List.set_cons_succ, go_sem]; refine AWp.freeze 5 rfl ?_; simp -implicitDefEqProofs only [Z0c, AV.thaw, AObj.thaw, AV.thaw.thawL, List.map_cons, List.map_nil, List.set_cons_zero, List.set_cons_succ, go_sem]; refine Wd [] ?_; simp -implicitDefEqProofs only [go_sem]; unfold parV nxP emP psV; rw [hP, Int.toNat_natCast, List.map_map, List.map_map]
  rfl

theorem p36 (a b : List Int) (hl : a.length ≤ 1000000) : PFn Tryd.prog 39 [slI a, slI b] [.bool (decide (a = b))] := by
  refine PFn.of_body hΓ Tryd.func39 (by kernel_rfl) rfl (Wd [(6, 9)] ?_); simp +contextual -implicitDefEqProofs only [slI, Tryd.ntmps39, Tryd.results39, Nat.reduceAdd, Nat.reduceSub, go_sem]; by_cases he : a.length = b.length
  rotate_left
  · have hz : ¬ (a.length : Int) = b.length := by omega
    simp -implicitDefEqProofs only [he, hz, List.length_map, go_sem]; exact (decide_eq_false fun e => he (by rw [e])).symm
  simp -implicitDefEqProofs only [he, List.length_map, go_sem]
  refine AWp.loopI (fun k : Nat => ⟨mkF 26 [(0, .p (.sl (a.map (.int .i64)))), (1, .p (.sl (b.map (.int .i64)))), (4, .p (.bool false)), (12, .p (.int .i64 b.length)), (13, .p (.int .i64 k))], []⟩)
    (fun k => k ≤ a.length ∧ a.take k = b.take k) (fun k => a.length - k) 0 (by simp [go_sem]) (by simp) ?_
  rintro k ⟨hk, heq⟩; simp -implicitDefEqProofs only [go_sem]; refine Wd [(6, 9)] ?_; by_cases hlt : k < b.length
  · have hla : k < a.length := by omega
    by_cases hk' : a[k] = b[k]
    · simp -implicitDefEqProofs only [hlt, hla, Z3, ↓reduceIte, hk', go_sem]
      refine ⟨by simp only [InR]; omega, k + 1, by simp, ⟨hla, ?_⟩, by omega⟩; rw [List.take_succ_eq_append_getElem hla, List.take_succ_eq_append_getElem hlt, heq, hk']
    · simp -implicitDefEqProofs only [hlt, hla, Z3, ↓reduceIte, hk', go_sem]
      exact (decide_eq_false fun e => hk' (by subst e; rfl)).symm
  · have hz : ¬ (k : Int) < b.length := by omega
    simp -implicitDefEqProofs only [hz, hlt, go_sem]; rw [List.take_of_length_le (by omega), List.take_of_length_le (by omega)] at heq; exact (decide_eq_true heq).symm

theorem p44 (q : Int) (ws : List (List UInt8)) : PFn Tryd.prog 29 [Zv q ws] [.bool (decide (Z4 q ws = 0) && Z3e (fun w x => x.isPrefixOf w) ws)] := by
  refine PFn.of_body hΓ Tryd.func29 (by kernel_rfl) rfl (Wd [] ?_); simp +contextual -implicitDefEqProofs only [Zv, Tryd.ntmps29, Tryd.results29, Nat.reduceAdd, Nat.reduceSub, go_sem]; refine Z0 (t38 q ws) (.still rfl) ?_; by_cases h : Z4 q ws = 0
  · simp -implicitDefEqProofs only [h, go_sem]
  · have h10 : ¬ (1 : Int) = 0 := by decide
    simp -implicitDefEqProofs only [h, h10, go_sem]
    rfl

theorem p50 (l : List Int) (hl : l.length ≤ 1000000) : PFn Tryd.prog 26 [slI l] [.bool (decide (-1 ∈ l))] := by
  refine PFn.of_body hΓ Tryd.func26 (by kernel_rfl) rfl (Wd [] ?_); simp +contextual -implicitDefEqProofs only [Tryd.ntmps26, Tryd.results26, Nat.reduceAdd, Nat.reduceSub, go_sem]; refine Z0 (p51 l (-1) hl) (.pures rfl) ?_; simp -implicitDefEqProofs only [go_sem]



def preB (ws : List (List UInt8)) : Bool := Z3e (fun w x => x.isPrefixOf w) ws
def pR (q : Int) (ws : List (List UInt8)) : PV := if Z4 q ws = 0 ∧ preB ws = true then parV q ws else psV 0 [] [] []
def pE (q : Int) (ws : List (List UInt8)) : Int := if Z4 q ws = 0 then (if preB ws = true then 0 else 8) else 1

theorem p12 (q : Int) (ws : List (List UInt8)) : PFn Tryd.prog 14 [Zv q ws] [pR q ws, .int .i64 (pE q ws)] := by
  refine PFn.of_body hΓ Tryd.func14 (by kernel_rfl) rfl (Wd [] ?_); simp -implicitDefEqProofs only [Tryd.ntmps14, Tryd.results14, Nat.reduceAdd, Nat.reduceSub, Zv, go_sem]; refine Z0 (t45 q ws) (.still rfl) ?_; by_cases h : Z4 q ws = 0
  rotate_left
  · have e1 : pR q ws = psV 0 [] [] [] := by unfold pR; rw [if_neg (fun e => h e.1)]
    have e2 : pE q ws = 1 := by unfold pE; rw [if_neg h]
    rw [e1, e2]; simp -implicitDefEqProofs only [h, psV, List.map_nil, go_sem]
  have hv := Z3k h; rw [h]; simp -implicitDefEqProofs only [go_sem]; refine Z0 (p44 q ws) (.still rfl) ?_; rw [h, show Z3e (fun w x => x.isPrefixOf w) ws = preB ws from rfl]
  cases hp : preB ws
  · have e1 : pR q ws = psV 0 [] [] [] := by unfold pR; rw [if_neg (fun e => by rw [hp] at e; cases e.2)]
    have e2 : pE q ws = 8 := by unfold pE; rw [if_pos h, if_neg (by rw [hp]; simp)]
    rw [e1, e2]; simp -implicitDefEqProofs only [psV, List.map_nil, Bool.and_false, go_sem]
  · have e1 : pR q ws = parV q ws := by unfold pR; rw [if_pos ⟨h, hp⟩]
    have e2 : pE q ws = 0 := by unfold pE; rw [if_pos h, if_pos hp]
    rw [e1, e2]; simp -implicitDefEqProofs only [Bool.and_true, go_sem]; refine Z0 (p45 hv) (.still rfl) ?_; simp -implicitDefEqProofs only [parV, psV, go_sem]


theorem c79 {h : List AObj} (N : List (List Int)) (hl : N.length ≤ 1000000) (hs : ∀ x ∈ N, x.length ≤ 1000000) :
    AC Tryd.prog 41 [.p (.sl (N.map slI)), .fn 26 []] h [] (fun v h' => (∃ i : Int, v = .p (.int .i64 i) ∧ decide (0 ≤ i) = N.any fun l => decide (-1 ∈ l)) ∧ h' = h) := by
  refine AC.of_bodyE hΓ Tryd.func41 (by kernel_rfl) rfl (AWp.mono (Q := fun e st => AM.Ends e ∧ (∃ i : Int, st.tmps.getD 4 .junk = .p (.int .i64 i) ∧ decide (0 ≤ i) = N.any fun l => decide (-1 ∈ l)) ∧ st.h = h) ?_ ?_)
  rotate_left
  · rintro e ⟨tm, h'⟩ ⟨he, ⟨i, h1, h3⟩, h2⟩
    simp only at h1 h2; subst h2; refine ⟨he, _, Less.refl _, ?_⟩; unfold Z92; simp +contextual -implicitDefEqProofs only [Tryd.results41, h1, go_sem]; exact ⟨_, Nat.le_refl _, .inl rfl, ⟨i, rfl, h3⟩, List.take_length⟩
  refine Wd [] ?_; simp -implicitDefEqProofs only [Tryd.ntmps41, Nat.reduceAdd, Nat.reduceSub, List.length_map, go_sem]
  refine AWp.loopI (fun k : Nat => ⟨mkF 19 [(0, .p (.sl (N.map slI))), (1, .fn 26 []), (7, .p (.int .i64 N.length)), (8, .p (.int .i64 k))], h⟩)
    (fun k => k ≤ N.length ∧ ((N.take k).any fun l => decide (-1 ∈ l)) = false) (fun k => N.length - k) 0 (by simp [go_sem, Z1r]) (by simp) ?_
  rintro k ⟨hk, h0⟩; simp -implicitDefEqProofs only [go_sem]; refine Wd [] ?_; by_cases hlt : k < N.length
  · simp -implicitDefEqProofs only [hlt, Z3, ↓reduceIte, slI, go_sem]
    refine Z0 (p50 N[k] (hs _ (List.getElem_mem hlt))) (.pures rfl) ?_; by_cases hp : -1 ∈ N[k]
    · simp -implicitDefEqProofs only [hp, go_sem]
      refine ⟨k, rfl, ?_⟩; rw [List.any_eq_true.2 ⟨_, List.getElem_mem hlt, decide_eq_true hp⟩]; simp
    · simp -implicitDefEqProofs only [hp, go_sem]
      refine ⟨by simp only [InR]; omega, k + 1, by simp [Z1r, slI], ⟨hlt, ?_⟩, by omega⟩; rw [List.take_succ_eq_append_getElem hlt, List.any_append, h0]; simp [hp]
  · have hz : ¬ (k : Int) < N.length := by omega
    simp -implicitDefEqProofs only [hz, hlt, go_sem]; exact ⟨-1, rfl, by rw [List.take_of_length_le (by omega)] at h0; rw [h0]; rfl⟩

theorem c49 {h : List AObj} (N : List (List Int)) (hl : N.length ≤ 1000000) (hs : ∀ x ∈ N, x.length ≤ 1000000) :
    AC Tryd.prog 25 [.p (.sl (N.map slI)), .fn 26 []] h [] (fun v h' => v = .p (.bool (N.any fun l => decide (-1 ∈ l))) ∧ h' = h) := by
  refine AC.of_bodyE hΓ Tryd.func25 (by kernel_rfl) rfl (AWp.mono (Q := fun e st => AM.Ends e ∧ st.tmps.getD 4 .junk = .p (.bool (N.any fun l => decide (-1 ∈ l))) ∧ st.h = h) ?_ ?_)
  rotate_left
  · rintro e ⟨tm, h'⟩ ⟨he, h1, h2⟩
    simp only at h1 h2; subst h2; refine ⟨he, _, Less.refl _, ?_⟩; unfold Z92; simp +contextual -implicitDefEqProofs only [Tryd.results25, h1, go_sem]; exact ⟨_, Nat.le_refl _, .inl rfl, List.take_length⟩
  refine Wd [] ?_; simp -implicitDefEqProofs only [Tryd.ntmps25, Nat.reduceAdd, Nat.reduceSub, go_sem]; refine Zu (c79 N hl hs) (by simp) ?_; rintro v h' ⟨⟨i, rfl, hi⟩, rfl⟩; simp -implicitDefEqProofs only [Zc, List.foldl, go_sem]; exact hi

def Z4l (q : Int) (ws : List (List UInt8)) : Bool := (nxP q ws).any fun l => decide (-1 ∈ l)
def auV (q : Int) (N : List (List Int)) : PV := .agg [.int .i64 q, .sl (N.map slI)]
def aR (q : Int) (ws : List (List UInt8)) : PV := if Z4 q ws = 0 ∧ preB ws = true ∧ Z4l q ws = false then auV q (nxP q ws) else auV 0 []
def aE (q : Int) (ws : List (List UInt8)) : Int := if Z4 q ws = 0 ∧ preB ws = true then (if Z4l q ws = true then 8 else 0) else pE q ws

theorem Z9i {q : Int} {ws : List (List UInt8)} (hv : Valid q ws) : (Z12 ws).length ≤ 2048 := by
  have h1 := Ze1 (Za ws); have h2 := Z26 (ws := ws) (m := 32) fun x hx => (hv.words x hx).2.1
  have : ws.length * 32 ≤ 64 * 32 := Nat.mul_le_mul_right _ hv.len; unfold Z12; omega
theorem Z9p {q : Int} {ws : List (List UInt8)} (hv : Valid q ws) : (nxP q ws).length ≤ 2048 ∧ ∀ x ∈ nxP q ws, x.length = q.toNat := by
  refine ⟨by have := Z9i hv; simp [nxP]; exact this, fun x hx => ?_⟩; obtain ⟨y, _, rfl⟩ := List.mem_map.1 hx; simp [nxL]
theorem p14 (q : Int) (ws : List (List UInt8)) : PFn Tryd.prog 13 [Zv q ws] [aR q ws, .int .i64 (aE q ws)] := by
  have e12 := p12 q ws; by_cases h : Z4 q ws = 0 ∧ preB ws = true
  rotate_left
  · have e1 : pR q ws = psV 0 [] [] [] := by unfold pR; rw [if_neg h]
    have e2 : aR q ws = auV 0 [] := by unfold aR; rw [if_neg (fun e => h ⟨e.1, e.2.1⟩)]
    have e3 : aE q ws = pE q ws := by unfold aE; rw [if_neg h]
    have e4 : ¬ pE q ws = 0 := fun e => h (by
      unfold pE at e; by_cases h1 : Z4 q ws = 0
      · rw [if_pos h1] at e
        by_cases h2 : preB ws = true
        · exact ⟨h1, h2⟩
        · rw [if_neg h2] at e; cases e
      · rw [if_neg h1] at e; cases e)
    rw [e1] at e12; rw [e2, e3]; generalize pE q ws = ee at *; refine PFn.of_body hΓ Tryd.func13 (by kernel_rfl) rfl (Wd [] ?_); simp -implicitDefEqProofs only [Tryd.ntmps13, Tryd.results13, Nat.reduceAdd, Nat.reduceSub, Zv, go_sem]; refine Z0 e12 (.still rfl) ?_; simp -implicitDefEqProofs only [psV, auV, e4, List.map_nil, go_sem]
  have hv := Z3k h.1; have e1 : pR q ws = parV q ws := by unfold pR; rw [if_pos h]
  have e2 : pE q ws = 0 := by unfold pE; rw [if_pos h.1, if_pos h.2]
  have hq2 := hv.q2; have hq16 := hv.q16; have hN := Z9p hv; have e49 := fun (hh : List AObj) => c49 (h := hh) (nxP q ws) (by omega) (fun x hx => by rw [hN.2 x hx]; omega)
  change ∀ hh, AC Tryd.prog 25 [.p (.sl ((nxP q ws).map slI)), .fn 26 []] hh [] (fun v h' => v = .p (.bool (Z4l q ws)) ∧ h' = hh) at e49
  rw [e1, e2] at e12; unfold aR aE; rw [if_pos h]; refine PFn.of_body hΓ Tryd.func13 (by kernel_rfl) rfl (Wd [] ?_); simp -implicitDefEqProofs only [Tryd.ntmps13, Tryd.results13, Nat.reduceAdd, Nat.reduceSub, Zv, go_sem]; refine Z0 e12 (.still rfl) ?_; simp -implicitDefEqProofs only [parV, psV, go_sem]; refine Zu (e49 _) (by simp) ?_; rintro v h' ⟨rfl, rfl⟩
  cases hh : Z4l q ws
  · rw [if_pos ⟨h.1, h.2, rfl⟩]
    simp -implicitDefEqProofs only [Zc, List.foldl, auV, AV.kill, go_sem]; exact ⟨by omega, by omega⟩
  · rw [if_neg (fun e => by cases e.2.2)]
    simp -implicitDefEqProofs only [Zc, List.foldl, auV, AV.kill, go_sem]

theorem Zi2 {q : Int} {ws : List (List UInt8)} : ∀ l ∈ nxP q ws, ∀ x ∈ l, -1 ≤ x := fun l hl x hx => by
  obtain ⟨y, _, rfl⟩ := List.mem_map.1 hl; unfold nxL at hx; obtain ⟨a, _, rfl⟩ := List.mem_map.1 hx; unfold Z32 ixW
  split
  · omega
  · split <;> omega


theorem tab64 : ∀ j, j < 64 → ([0, 1, 56, 2, 57, 49, 28, 3, 61, 58, 42, 50, 38, 29, 17, 4, 62, 47, 59, 36, 45, 43, 51, 22, 53, 39, 33, 30, 24, 18, 12, 5,
    63, 55, 48, 27, 60, 41, 37, 16, 46, 35, 44, 21, 52, 32, 23, 11, 54, 26, 40, 15, 34, 20, 31, 10, 25, 14, 19, 9, 13, 8, 7, 6] : List Int).getD j 0 = ((Lib.deBruijn64tab.getD j 0 : Nat) : Int) := by decide +kernel

theorem tabAt {I : Nat → Prop} {w : World} (h : Laid I w) : TabAt 1 Lib.deBruijn64tab w := by
  intro j hj
  obtain ⟨_, cur, E, fz, h1, h2⟩ := h (1, .u8, [0, 1, 56, 2, 57, 49, 28, 3, 61, 58, 42, 50, 38, 29, 17, 4, 62, 47, 59, 36, 45, 43, 51, 22, 53, 39, 33, 30, 24, 18, 12, 5,
    63, 55, 48, 27, 60, 41, 37, 16, 46, 35, 44, 21, 52, 32, 23, 11, 54, 26, 40, 15, 34, 20, 31, 10, 25, 14, 19, 9, 13, 8, 7, 6]) (by unfold tabs; simp)
  have h3 := h2 j hj; simp only at h1 h3; rw [tab64 j hj] at h3; simp [World.cell?, h1, h3]

theorem tz52 (x : Nat) (hx : x < 18446744073709551616) : PFn Tryd.prog 52 [.int .u64 x] [.int .i64 (Lib.ctz 64 x : Nat)] := by
  refine ⟨Z06 Tryd.func52 (by kernel_rfl) rfl, fun I w cargs himm hL hlen hargs => ?_⟩
  match cargs, hlen with
  | [c], _ =>
    have h0 := hargs 0 (by simp); have hc : c = .int .u64 x := by
      cases h0
      rfl
    subst hc; refine (Any7.bits_TrailingZeros Tryd.tzS x hx w (fun _ => tabAt hL)).mono ?_; rintro e w' ⟨rfl, rfl⟩; exact ⟨_, I, rfl, World.grownBy.refl _ _, fun _ h => h, fun _ h => .inl h, .p _ _ (.int _ _)⟩

def m1 (x : Nat) : Nat := (x / 2 &&& 6148914691236517205) + (x &&& 6148914691236517205)
def m2 (x : Nat) : Nat := (x / 4 &&& 3689348814741910323) + (x &&& 3689348814741910323)
def m3 (x : Nat) : Nat := (x / 16 + x) &&& 1085102592571150095
def m4 (x : Nat) : Nat := x + x / 256
def m5 (x : Nat) : Nat := x + x / 65536
def m6 (x : Nat) : Nat := x + x / 4294967296
def pop (x : Nat) : Nat := m6 (m5 (m4 (m3 (m2 (m1 x))))) &&& 127
def sgl (x : Nat) : Bool := decide (pop x = 1)

def Zdk : Nat → Bool := fun n => Nat.rec true (fun k ih => (decide (m3 (m2 (m1 k)) < 1000000) && (decide (pop k = 1) == (decide (k ≠ 0) && decide (k &&& (k - 1) = 0)))) && ih) n
theorem Z80 {n : Nat} : Zdk n = true → ∀ k, k < n → m3 (m2 (m1 k)) < 1000000 ∧ (pop k = 1 ↔ k ≠ 0 ∧ k &&& (k - 1) = 0) := by
  induction n with
  | zero => intro _ k hk; omega
  | succ n ih =>
    intro h k hk; have h' : ((decide (m3 (m2 (m1 n)) < 1000000) && (decide (pop n = 1) == (decide (n ≠ 0) && decide (n &&& (n - 1) = 0)))) && Zdk n) = true := h; simp only [Bool.and_eq_true, decide_eq_true_eq, beq_iff_eq] at h'; rcases Nat.lt_succ_iff_lt_or_eq.1 hk with h1 | h1
    · exact ih h'.2 k h1
    · subst h1
      refine ⟨h'.1.1, ?_⟩; have := h'.1.2; rw [Bool.eq_iff_iff] at this
      simpa using this
theorem Zcf : Zdk 4096 = true := by kernel_rfl

theorem band (a b : Nat) (ha : a < 18446744073709551616) (hb : b < 18446744073709551616) : Z0s .and .u64 (a : Int) (b : Int) = ((a &&& b : Nat) : Int) := bits_and_u64_nat a b ha hb

theorem Z41 {a : Nat} (ha : a < 4611686018427387904) : (BitVec.ofInt 64 (a : Int)).toNat = a := by
  rw [BitVec.ofInt_natCast, BitVec.toNat_ofNat]; exact Nat.mod_eq_of_lt (by omega)
theorem bandI (a b : Nat) (ha : a < 4611686018427387904) (hb : b < 4611686018427387904) : Z0s .and .i64 (a : Int) (b : Int) = ((a &&& b : Nat) : Int) := by
  have h : a &&& b ≤ a := Nat.and_le_left; show IntKind.i64.wrap ((BitVec.ofInt 64 (a : Int) &&& BitVec.ofInt 64 (b : Int)).toNat : Nat) = _; rw [BitVec.toNat_and, Z41 ha, Z41 hb]; exact InR.wrap (by simp only [InR]; omega)
theorem borI (a b : Nat) (ha : a < 4611686018427387904) (hb : b < 4611686018427387904) : Z0s .or .i64 (a : Int) (b : Int) = ((a ||| b : Nat) : Int) := by
  have h : a ||| b < 2 ^ 62 := Nat.or_lt_two_pow (by omega) (by omega); show IntKind.i64.wrap ((BitVec.ofInt 64 (a : Int) ||| BitVec.ofInt 64 (b : Int)).toNat : Nat) = _; rw [BitVec.toNat_or, Z41 ha, Z41 hb]; exact InR.wrap (by simp only [InR]; omega)
theorem Zjh (a : Nat) (h0 : a ≠ 0) (ha : a < 4611686018427387904) : Z0s .and .i64 (a : Int) (-(a : Int)) = ((2 ^ Lib.ctz 64 a : Nat) : Int) := by
  obtain ⟨h1, h2⟩ := Lib.lowest_bit 64 a h0 (by omega); have h3 : a &&& (18446744073709551616 - a) ≤ a := Nat.and_le_left; have h4 : (2 : Nat) ^ 64 = 18446744073709551616 := by decide
  rw [h4] at h1; show IntKind.i64.wrap ((BitVec.ofInt 64 (a : Int) &&& BitVec.ofInt 64 (-(a : Int))).toNat : Nat) = _; have h5 : (BitVec.ofInt 64 (-(a : Int))).toNat = 18446744073709551616 - a := by
    rw [BitVec.toNat_ofInt]; omega
  rw [BitVec.toNat_and, Z41 ha, h5, h1]; exact InR.wrap (by simp only [InR]; omega)
def andn (a b : Nat) : Nat := (BitVec.ofNat 64 a &&& ~~~BitVec.ofNat 64 b).toNat
theorem Zc2 {a b : Nat} (ha : a < 4611686018427387904) (hb : b < 4611686018427387904) (i : Nat) : (andn a b).testBit i = (a.testBit i && !b.testBit i) := by
  unfold andn; rw [BitVec.toNat_and, Nat.testBit_and, BitVec.toNat_ofNat, Nat.mod_eq_of_lt (by omega), BitVec.toNat_not, BitVec.toNat_ofNat, Nat.mod_eq_of_lt (show b < 2 ^ 64 by omega)]; by_cases hi : a.testBit i = true
  · have hi64 : i < 64 := by
      apply Classical.byContradiction
      intro h; rw [Nat.testBit_lt_two_pow (Nat.lt_of_lt_of_le (show a < 2 ^ 62 by omega) (Nat.pow_le_pow_right (by decide) (by omega)))] at hi
      cases hi
    rw [hi, Bool.true_and, Bool.true_and, Nat.sub_sub, Nat.add_comm 1 b, Nat.testBit_two_pow_sub_succ (by omega)]; simp [hi64]
  · simp only [Bool.not_eq_true] at hi
    rw [hi, Bool.false_and, Bool.false_and]
theorem Zjl (a b : Nat) (ha : a < 4611686018427387904) : Z0s .andNot .i64 (a : Int) (b : Int) = ((andn a b : Nat) : Int) := by
  have h : andn a b ≤ a := by
    unfold andn; rw [BitVec.toNat_and, BitVec.toNat_ofNat]; exact Nat.le_trans Nat.and_le_left (Nat.mod_le _ _)
  show IntKind.i64.wrap ((BitVec.ofInt 64 (a : Int) &&& ~~~BitVec.ofInt 64 (b : Int)).toNat : Nat) = _; rw [BitVec.ofInt_natCast, BitVec.ofInt_natCast]; exact InR.wrap (by simp only [InR]; unfold andn at h; omega)

theorem c65 (x : Nat) (hx : x < 4096) : PFn Tryd.prog 65 [.int .u64 x] [.int .i64 (pop x : Nat)] := by
  obtain ⟨hb, _⟩ := Z80 Zcf x hx; have b1 : m1 x < 8192 := by
    have h1 : x / 2 &&& 6148914691236517205 ≤ x / 2 := Nat.and_le_left; have h2 : x &&& 6148914691236517205 ≤ x := Nat.and_le_left; unfold m1; omega
  have b2 : m2 (m1 x) < 16384 := by
    have h1 : m1 x / 4 &&& 3689348814741910323 ≤ m1 x / 4 := Nat.and_le_left; have h2 : m1 x &&& 3689348814741910323 ≤ m1 x := Nat.and_le_left; unfold m2; omega
  have e1 : Z0s .and .u64 ((x : Int) / 2) 6148914691236517205 = ((x / 2 &&& 6148914691236517205 : Nat) : Int) := band (x / 2) 6148914691236517205 (by omega) (by decide); have e2 : Z0s .and .u64 (x : Int) 6148914691236517205 = ((x &&& 6148914691236517205 : Nat) : Int) := band x 6148914691236517205 (by omega) (by decide); have e3 : ((x / 2 &&& 6148914691236517205 : Nat) : Int) + ((x &&& 6148914691236517205 : Nat) : Int) = ((m1 x : Nat) : Int) := rfl; have e4 : Z0s .and .u64 (((m1 x : Nat) : Int) / 4) 3689348814741910323 = ((m1 x / 4 &&& 3689348814741910323 : Nat) : Int) := band (m1 x / 4) 3689348814741910323 (by omega) (by decide); have e5 : Z0s .and .u64 ((m1 x : Nat) : Int) 3689348814741910323 = ((m1 x &&& 3689348814741910323 : Nat) : Int) := band (m1 x) 3689348814741910323 (by omega) (by decide); have e6 : ((m1 x / 4 &&& 3689348814741910323 : Nat) : Int) + ((m1 x &&& 3689348814741910323 : Nat) : Int) = ((m2 (m1 x) : Nat) : Int) := rfl; have e7 : ((m2 (m1 x) : Nat) : Int) / 16 + ((m2 (m1 x) : Nat) : Int) = ((m2 (m1 x) / 16 + m2 (m1 x) : Nat) : Int) := by omega
  have e8 : Z0s .and .u64 ((m2 (m1 x) / 16 + m2 (m1 x) : Nat) : Int) 1085102592571150095 = ((m3 (m2 (m1 x)) : Nat) : Int) := band _ 1085102592571150095 (by omega) (by decide); have e9 : ((m3 (m2 (m1 x)) : Nat) : Int) + ((m3 (m2 (m1 x)) : Nat) : Int) / 256 = ((m4 (m3 (m2 (m1 x))) : Nat) : Int) := by unfold m4; omega
  have b4 : m4 (m3 (m2 (m1 x))) < 2000000 := by unfold m4; omega
  have e10 : ((m4 (m3 (m2 (m1 x))) : Nat) : Int) + ((m4 (m3 (m2 (m1 x))) : Nat) : Int) / 65536 = ((m5 (m4 (m3 (m2 (m1 x)))) : Nat) : Int) := by unfold m5; omega
  have b5 : m5 (m4 (m3 (m2 (m1 x)))) < 4000000 := by unfold m5; omega
  have e11 : ((m5 (m4 (m3 (m2 (m1 x)))) : Nat) : Int) + ((m5 (m4 (m3 (m2 (m1 x)))) : Nat) : Int) / 4294967296 = ((m6 (m5 (m4 (m3 (m2 (m1 x))))) : Nat) : Int) := by unfold m6; omega
  have b6 : m6 (m5 (m4 (m3 (m2 (m1 x))))) < 8000000 := by unfold m6; omega
  generalize hM6 : m6 (m5 (m4 (m3 (m2 (m1 x))))) = M6 at *; generalize hM5 : m5 (m4 (m3 (m2 (m1 x)))) = M5 at *; generalize hM4 : m4 (m3 (m2 (m1 x))) = M4 at *; generalize hM3 : m3 (m2 (m1 x)) = M3 at *; generalize hM2 : m2 (m1 x) = M2 at *; generalize hM1 : m1 x = M1 at *; refine PFn.of_body hΓ Tryd.func65 (by kernel_rfl) rfl (Wd [] ?_); simp -implicitDefEqProofs only [Tryd.ntmps65, Tryd.results65, Nat.reduceAdd, Nat.reduceSub, Int.reduceToNat, Int.reducePow, e1, e2, e3, e4, e5, e6, e7, e8, e9, e10, e11, go_sem]; have hw : IntKind.i64.wrap (M6 : Int) = M6 := InR.wrap (by simp only [InR]; omega); have hp : pop x = M6 &&& 127 := by unfold pop; rw [hM1, hM2, hM3, hM4, hM5, hM6]
  rw [hw, hp]; refine ⟨by omega, by simp only [InR]; omega, by omega, by simp only [InR]; omega, by omega, by simp only [InR]; omega, by omega, by simp only [InR]; omega, by omega, by simp only [InR]; omega, by omega, by simp only [InR]; omega, ?_⟩; exact bandI M6 127 (by omega) (by omega)
theorem c37 (x : Nat) (hx : x < 4096) : PFn Tryd.prog 37 [.int .u64 x] [.int .i64 (pop x : Nat)] := by
  have e1 := c65 x hx; refine PFn.of_body hΓ Tryd.func37 (by kernel_rfl) rfl (Wd [] ?_); simp -implicitDefEqProofs only [Tryd.ntmps37, Tryd.results37, Nat.reduceAdd, Nat.reduceSub, go_sem]; refine Z0 e1 (.pures rfl) ?_; simp -implicitDefEqProofs only [go_sem]
theorem c21 (x : Nat) (hx : x < 4096) : PFn Tryd.prog 21 [.int .i64 x] [.bool (sgl x)] := by
  have e1 := c37 x hx; have hw : IntKind.u64.wrap (x : Int) = x := InR.wrap (by simp only [InR]; omega); refine PFn.of_body hΓ Tryd.func21 (by kernel_rfl) rfl (Wd [] ?_); simp -implicitDefEqProofs only [Tryd.ntmps21, Tryd.results21, Nat.reduceAdd, Nat.reduceSub, hw, go_sem]; refine Z0 e1 (.pures rfl) ?_; simp -implicitDefEqProofs only [go_sem]; unfold sgl; rw [Bool.eq_iff_iff]; simp only [decide_eq_true_eq]; omega
end Go.Proofs.YtnilegembmcelaaDoor
end

section
namespace Go.Proofs.YtnilegembmcelaaDoor.Rst
open Go

/-! ### Bits -/
theorem Z15 {x : Nat} (h0 : x ≠ 0) (hx : x < 18446744073709551616) : x.testBit (Lib.ctz 64 x) = true ∧ Lib.ctz 64 x < 64 := by
  obtain ⟨h1, h2⟩ := Lib.lowest_bit 64 x h0 hx; refine ⟨?_, h2⟩; have h3 : (x &&& (2 ^ 64 - x)).testBit (Lib.ctz 64 x) = true := by rw [h1]; exact Nat.testBit_two_pow_self
  rw [Nat.testBit_and, Bool.and_eq_true] at h3; exact h3.1
theorem Z4e {x : Nat} (h0 : x ≠ 0) (hx : x < 18446744073709551616) (i : Nat) : (x &&& (x - 1)).testBit i = (x.testBit i && decide (i ≠ Lib.ctz 64 x)) := by
  obtain ⟨m, hm, _⟩ := Lib.ctzFrom_spec 64 x (by omega) hx; have e : Lib.ctz 64 x = Lib.ctzFrom 64 x := by simp [Lib.ctz, h0]
  rw [e]; generalize Lib.ctzFrom 64 x = k at hm; have hp : 0 < 2 ^ k := Nat.two_pow_pos k; have e1 : x - 1 = 2 ^ k * (2 * m) + (2 ^ k - 1) := by
    rw [hm, Nat.mul_add, Nat.mul_one]; omega
  rw [Nat.testBit_and, e1, hm, Nat.testBit_two_pow_mul_add _ (show 2 ^ k - 1 < 2 ^ k by omega), Nat.testBit_two_pow_mul]; by_cases hik : i < k
  · rw [if_pos hik]
    simp [show ¬ k ≤ i by omega]
  · rw [if_neg hik]
    simp only [ge_iff_le, show k ≤ i by omega, decide_true, Bool.true_and]; by_cases he : i = k
    · subst he
      simp
    · obtain ⟨j, hj⟩ : ∃ j, i - k = j + 1 := ⟨i - k - 1, by omega⟩
      rw [hj, Nat.testBit_succ, Nat.testBit_succ]; have d1 : (2 * m + 1) / 2 = m := by omega
      have d2 : 2 * m / 2 = m := by omega
      rw [d1, d2]; simp [he]
theorem Z1w {x n : Nat} (h : ∀ i, x.testBit i = true → i < n) : x < 2 ^ n := by
  refine Nat.lt_pow_two_of_testBit x fun i hi => ?_
  cases hb : x.testBit i
  · rfl
  · have := h i hb; omega
theorem Z0w {x n i : Nat} (hx : x < 2 ^ n) (h : x.testBit i = true) : i < n := by
  apply Classical.byContradiction
  intro hn; rw [Nat.testBit_lt_two_pow (Nat.lt_of_lt_of_le hx (Nat.pow_le_pow_right (by decide) (by omega)))] at h
  cases h
theorem Zaf {x k : Nat} (h : ∀ i, x.testBit i = true ↔ i = k) : x = 2 ^ k := by
  apply Nat.eq_of_testBit_eq
  intro i; rw [Nat.testBit_two_pow, Bool.eq_iff_iff, h i, decide_eq_true_eq, eq_comm]

theorem Z6z {x : Nat} (hx : x < 4096) : sgl x = true ↔ ∃ i, x = 2 ^ i := by
  unfold sgl; rw [decide_eq_true_eq, (Z80 Zcf x hx).2]
  constructor
  · rintro ⟨h0, h1⟩
    refine ⟨Lib.ctz 64 x, Zaf fun i => ⟨fun h => ?_, fun h => h ▸ (Z15 h0 (by omega)).1⟩⟩; have h2 := Z4e h0 (by omega) i; rw [h1, Nat.zero_testBit, h, Bool.true_and] at h2
    simpa using h2.symm
  · rintro ⟨i, rfl⟩
    refine ⟨Nat.ne_of_gt (Nat.two_pow_pos i), Nat.eq_of_testBit_eq fun j => ?_⟩; have hp : (2 : Nat) ^ i ≠ 0 := Nat.ne_of_gt (Nat.two_pow_pos i); rw [Z4e hp (by omega), Nat.zero_testBit, Nat.testBit_two_pow]; have h3 := (Z15 hp (by omega)).1; rw [Nat.testBit_two_pow, decide_eq_true_eq] at h3; rw [← h3]; by_cases h : i = j
    · simp [h]
    · simp [h]

/-! ### Where letters lead -/
def dl (N : List (List Int)) (s a : Nat) : Nat := ((N.getD s []).getD a 0).toNat
def img (N : List (List Int)) (S a : Nat) : Nat := (List.range N.length).foldl (fun o s => if S.testBit s then o ||| 2 ^ dl N s a else o) 0
theorem Z88 (N : List (List Int)) (S a t : Nat) : ∀ (l : List Nat) (o : Nat), (l.foldl (fun o s => if S.testBit s then o ||| 2 ^ dl N s a else o) o).testBit t = true ↔ o.testBit t = true ∨ ∃ s ∈ l, S.testBit s = true ∧ dl N s a = t
  | [], o => by simp
  | s :: l, o => by
    rw [List.foldl_cons, Z88 N S a t l]; by_cases h : S.testBit s = true
    · rw [if_pos h, Nat.testBit_or, Bool.or_eq_true, Nat.testBit_two_pow, decide_eq_true_eq]
      constructor
      · rintro ((h1 | h1) | ⟨s', h1, h2⟩)
        · exact .inl h1
        · exact .inr ⟨s, by simp, h, h1⟩
        · exact .inr ⟨s', by simp [h1], h2⟩
      · rintro (h1 | ⟨s', h1, h2, h3⟩)
        · exact .inl (.inl h1)
        · rcases List.mem_cons.1 h1 with rfl | h1
          · exact .inl (.inr h3)
          · exact .inr ⟨s', h1, h2, h3⟩
    · rw [if_neg h]
      constructor
      · rintro (h1 | ⟨s', h1, h2⟩)
        · exact .inl h1
        · exact .inr ⟨s', by simp [h1], h2⟩
      · rintro (h1 | ⟨s', h1, h2, h3⟩)
        · exact .inl h1
        · rcases List.mem_cons.1 h1 with rfl | h1
          · exact absurd h2 h
          · exact .inr ⟨s', h1, h2, h3⟩
theorem Z48 {N : List (List Int)} {S a t : Nat} : (img N S a).testBit t = true ↔ ∃ s, s < N.length ∧ S.testBit s = true ∧ dl N s a = t := by
  unfold img; rw [Z88, Nat.zero_testBit]; simp [List.mem_range]

structure AutOK (q : Nat) (N : List (List Int)) : Prop where
  q1 : 1 ≤ q
  q8 : q ≤ 8
  n1 : 1 ≤ N.length
  n12 : N.length ≤ 12
  rows : ∀ r ∈ N, r.length = q
  ents : ∀ r ∈ N, ∀ t ∈ r, 0 ≤ t ∧ t < N.length

variable {q : Nat} {N : List (List Int)}
theorem AutOK.get (A : AutOK q N) {s a : Nat} (hs : s < N.length) (ha : a < q) : ∃ (r : List Int) (t : Int), N.getD s [] = r ∧ r ∈ N ∧ r.length = q ∧ r.getD a 0 = t ∧ 0 ≤ t ∧ t < N.length := by
  have h1 : N.getD s [] = N[s] := by rw [List.getD_eq_getElem?_getD, List.getElem?_eq_getElem hs, Option.getD_some]
  have hm : N[s] ∈ N := List.getElem_mem hs; have hl := A.rows _ hm; have ha' : a < N[s].length := by omega
  have h2 : N[s].getD a 0 = N[s][a] := by rw [List.getD_eq_getElem?_getD, List.getElem?_eq_getElem ha', Option.getD_some]
  exact ⟨N[s], N[s][a], h1, hm, hl, h2, A.ents _ hm _ (List.getElem_mem ha')⟩
theorem AutOK.dl_lt (A : AutOK q N) {s a : Nat} (hs : s < N.length) (ha : a < q) : dl N s a < N.length := by
  obtain ⟨r, t, h1, _, _, h2, h3, h4⟩ := A.get hs ha; unfold dl; rw [h1, h2]; omega
theorem AutOK.pow (A : AutOK q N) : 2 ^ N.length ≤ 4096 := Nat.pow_le_pow_right (by decide) A.n12
theorem Z87 (A : AutOK q N) {S a : Nat} (ha : a < q) : img N S a < 2 ^ N.length := Z1w fun i h => by
  obtain ⟨s, h1, _, rfl⟩ := Z48.1 h; exact A.dl_lt h1 ha
theorem Zii (A : AutOK q N) {S a : Nat} (hS : S < 2 ^ N.length) (h0 : S ≠ 0) : img N S a ≠ 0 := fun h => by
  have hp := A.pow; have h1 := (Z15 h0 (by omega)).1; have : (img N S a).testBit (dl N (Lib.ctz 64 S) a) = true := Z48.2 ⟨_, Z0w hS h1, h1, rfl⟩; rw [h, Nat.zero_testBit] at this
  cases this

def ld (N : List (List Int)) (S : Nat) (u : List Nat) : Nat := u.foldl (img N) S
def dlW (N : List (List Int)) (s : Nat) (u : List Nat) : Nat := u.foldl (dl N) s
theorem Z4u (A : AutOK q N) {t : Nat} : ∀ {u : List Nat} {S : Nat}, (∀ a ∈ u, a < q) → S < 2 ^ N.length → ((ld N S u).testBit t = true ↔ ∃ s, s < N.length ∧ S.testBit s = true ∧ dlW N s u = t)
  | [], S, _, hS => ⟨fun h => ⟨t, Z0w hS h, h, rfl⟩, fun ⟨s, _, h, e⟩ => by subst e; exact h⟩
  | a :: u, S, hu, hS => by
    have ha := hu a (by simp); show (ld N (img N S a) u).testBit t = true ↔ _; rw [Z4u A (u := u) (fun b hb => hu b (by simp [hb])) (Z87 A ha)]
    constructor
    · rintro ⟨s, h1, h2, h3⟩
      obtain ⟨s', h4, h5, rfl⟩ := Z48.1 h2; exact ⟨s', h4, h5, h3⟩
    · rintro ⟨s, h1, h2, h3⟩
      exact ⟨dl N s a, A.dl_lt h1 ha, Z48.2 ⟨s, h1, h2, rfl⟩, h3⟩
theorem Z46 (A : AutOK q N) : ∀ {u : List Nat} {S : Nat}, (∀ a ∈ u, a < q) → S < 2 ^ N.length → ld N S u < 2 ^ N.length
  | [], _, _, hS => hS
  | a :: u, _, hu, _ => Z46 A (u := u) (fun b hb => hu b (by simp [hb])) (Z87 A (hu a (by simp)))
theorem Z7a (A : AutOK q N) : ∀ {u : List Nat} {S : Nat}, (∀ a ∈ u, a < q) → S < 2 ^ N.length → S ≠ 0 → ld N S u ≠ 0
  | [], _, _, _, h => h
  | a :: u, _, hu, hS, h => Z7a A (u := u) (fun b hb => hu b (by simp [hb])) (Z87 A (hu a (by simp))) (Zii A hS h)
theorem Z1l (S : Nat) (u v : List Nat) : ld N S (u ++ v) = ld N (ld N S u) v := List.foldl_append

/-! ### The search in breadth -/
def frs (N : List (List Int)) (x : Nat) : List Nat → List Nat → List (Nat × Nat)
  | [], _ => []
  | a :: l, K => if img N x a ∈ K then frs N x l K else (a, img N x a) :: frs N x l (K ++ [img N x a])
theorem Z5c {x : Nat} : ∀ {l K : List Nat} {p : Nat × Nat}, p ∈ frs N x l K → p.1 ∈ l ∧ p.2 = img N x p.1 ∧ p.2 ∉ K
  | a :: l, K, p, h => by
    unfold frs at h
    split at h
    · have := Z5c h
      exact ⟨by simp [this.1], this.2⟩
    · rcases List.mem_cons.1 h with rfl | h
      · exact ⟨by simp, rfl, ‹_›⟩
      · have := Z5c h
        exact ⟨by simp [this.1], this.2.1, fun hk => this.2.2 (by simp [hk])⟩
theorem Z5d {x : Nat} : ∀ {l K : List Nat} {a : Nat}, a ∈ l → img N x a ∈ K ∨ ∃ p ∈ frs N x l K, p.2 = img N x a
  | b :: l, K, a, h => by
    unfold frs
    split
    · rename_i hb
      rcases List.mem_cons.1 h with rfl | h
      · exact .inl hb
      · exact Z5d h
    · rcases List.mem_cons.1 h with rfl | h
      · exact .inr ⟨_, List.mem_cons_self, rfl⟩
      · rcases Z5d (K := K ++ [img N x b]) h with h1 | ⟨p, h1, h2⟩
        · rcases List.mem_append.1 h1 with h1 | h1
          · exact .inl h1
          · exact .inr ⟨_, List.mem_cons_self, (List.mem_singleton.1 h1).symm⟩
        · exact .inr ⟨p, by simp [h1], h2⟩
theorem Z2t {x : Nat} : ∀ {l K : List Nat}, K.Nodup → (K ++ (frs N x l K).map Prod.snd).Nodup
  | [], K, h => by simpa [frs] using h
  | a :: l, K, h => by
    unfold frs
    split
    · exact Z2t h
    · rename_i ha
      have : (K ++ [img N x a]).Nodup := by
        rw [List.nodup_append]; refine ⟨h, by simp, ?_⟩; rintro y hy z hz rfl; exact ha (by simpa [List.mem_singleton.1 hz] using hy)
      have h2 := Z2t (x := x) (l := l) this
      simpa using h2

abbrev Rec := List (Nat × List Nat)
def grow (N : List (List Int)) (q : Nat) (x : Nat) (w : List Nat) (R : Rec) : Rec := R ++ (frs N x (List.range q) (R.map Prod.fst)).map fun p => (p.2, w ++ [p.1])
def bfs (N : List (List Int)) (q : Nat) : Nat → Rec → Nat → Option (List Nat)
  | 0, _, _ => none
  | f + 1, R, i => match R[i]? with
    | none => none
    | some (x, w) => if sgl x = true then some w else bfs N q f (grow N q x w R) (i + 1)
def sr (N : List (List Int)) (q S : Nat) : Option (List Nat) := bfs N q 4097 [(S, [])] 0

structure BInv (N : List (List Int)) (q S : Nat) (R : Rec) (i : Nat) : Prop where
  le : i ≤ R.length
  recs : ∀ p ∈ R, ld N S p.2 = p.1 ∧ ∀ a ∈ p.2, a < q
  root : (S, []) ∈ R
  closed : ∀ k p, k < i → R[k]? = some p → ∀ a, a < q → ∃ w', (img N p.1 a, w') ∈ R ∧ w'.length ≤ p.2.length + 1
  sorted : R.Pairwise fun x y => x.2.length ≤ y.2.length
  step : ∀ p y, R[i]? = some p → y ∈ R → y.2.length ≤ p.2.length + 1
  dead : ∀ k p, k < i → R[k]? = some p → sgl p.1 = false
  nodup : (R.map Prod.fst).Nodup
  short : ∀ (k : Nat) (p : Nat × List Nat), R[k]? = some p → p.2.length ≤ k

theorem BInv.lt (A : AutOK q N) {S : Nat} (hS : S < 2 ^ N.length) (h0 : S ≠ 0) {R : Rec} {i : Nat} (B : BInv N q S R i) : ∀ p ∈ R, p.1 < 2 ^ N.length ∧ p.1 ≠ 0 := fun p hp => by
  obtain ⟨h1, h2⟩ := B.recs p hp; rw [← h1]; exact ⟨Z46 A h2 hS, Z7a A h2 hS h0⟩
theorem Z2p : ∀ {n : Nat} {l : List Nat}, l.Nodup → (∀ x ∈ l, x < n) → l.length ≤ n := fun {n l} h hl => by
  have : ∀ {l m : List Nat}, l.Nodup → (∀ a ∈ l, a ∈ m) → l.length ≤ m.length := by
    intro l
    induction l with
    | nil => intro m _ _; simp
    | cons a l ih =>
      intro m hnd hs; have ha := hs a (by simp); have h1 := ih (m := m.erase a) (List.nodup_cons.1 hnd).2 fun b hb => by
        have hne : b ≠ a := fun e => (List.nodup_cons.1 hnd).1 (e ▸ hb)
        exact (List.mem_erase_of_ne hne).2 (hs b (by simp [hb]))
      rw [List.length_erase_of_mem ha] at h1; have : 0 < m.length := List.length_pos_of_mem ha; simp only [List.length_cons]; omega
  have h1 := this (m := List.range n) h fun a ha => List.mem_range.2 (hl a ha)
  simpa using h1
theorem BInv.len (A : AutOK q N) {S : Nat} (hS : S < 2 ^ N.length) (h0 : S ≠ 0) {R : Rec} {i : Nat} (B : BInv N q S R i) : R.length ≤ 4096 := by
  have := Z2p B.nodup (n := 2 ^ N.length) fun x hx => by
    obtain ⟨p, hp, rfl⟩ := List.mem_map.1 hx; exact (B.lt A hS h0 p hp).1
  have hp := A.pow; rw [List.length_map] at this; omega
theorem BInv.start (S : Nat) : BInv N q S [(S, [])] 0 where
  le := Nat.zero_le _
  recs := fun p hp => by rw [List.mem_singleton.1 hp]; exact ⟨rfl, by simp⟩
  root := by simp
  closed := fun k p h => by omega
  sorted := by simp
  step := fun p y _ hy => by rw [List.mem_singleton.1 hy]; simp
  dead := fun k p h => by omega
  nodup := by simp
  short := fun k p h => by
    have := List.mem_of_getElem? h; rw [List.mem_singleton.1 this]; exact Nat.zero_le _

theorem BInv.next {S : Nat} {R : Rec} {i : Nat} (B : BInv N q S R i) {x : Nat} {w : List Nat} (hi : R[i]? = some (x, w)) (hx : sgl x = false) : BInv N q S (grow N q x w R) (i + 1) := by
  have hlt : i < R.length := (List.getElem?_eq_some_iff.1 hi).1; have hmem : (x, w) ∈ R := List.mem_of_getElem? hi; obtain ⟨hrx, hrw⟩ := B.recs _ hmem; simp only at hrx hrw; have hnew : ∀ p ∈ (frs N x (List.range q) (R.map Prod.fst)).map (fun p => (p.2, w ++ [p.1])), ∃ a, a < q ∧ p = (img N x a, w ++ [a]) := fun p hp => by
    obtain ⟨z, hz, rfl⟩ := List.mem_map.1 hp; obtain ⟨h1, h2, _⟩ := Z5c hz; exact ⟨z.1, List.mem_range.1 h1, by rw [h2]⟩
  have hget : ∀ k p, k < i + 1 → (grow N q x w R)[k]? = some p → R[k]? = some p := fun k p hk h => by
    unfold grow at h
    rwa [List.getElem?_append_left (by omega)] at h
  refine {
    le := by unfold grow; simp; omega
    recs := fun p hp => ?_, root := by unfold grow; simp [B.root]
    closed := fun k p hk hp a ha => ?_, sorted := ?_, step := fun p y hp hy => ?_, dead := fun k p hk hp => ?_, nodup := ?_, short := fun k p hp => ?_ }
  · unfold grow at hp
    rcases List.mem_append.1 hp with hp | hp
    · exact B.recs p hp
    · obtain ⟨a, ha, rfl⟩ := hnew p hp
      refine ⟨?_, fun b hb => ?_⟩
      · show ld N S (w ++ [a]) = _
        rw [Z1l, hrx]; rfl
      · rcases List.mem_append.1 hb with hb | hb
        · exact hrw b hb
        · rw [List.mem_singleton.1 hb]; exact ha
  · have hp' := hget k p hk hp
    rcases Nat.lt_succ_iff_lt_or_eq.1 hk with h1 | h1
    · obtain ⟨w', h2, h3⟩ := B.closed k p h1 hp' a ha
      exact ⟨w', by unfold grow; simp [h2], h3⟩
    · subst h1
      rw [hi] at hp'
      injection hp' with hp'; subst hp'
      rcases Z5d (N := N) (x := x) (l := List.range q) (K := R.map Prod.fst) (List.mem_range.2 ha) with h1 | ⟨z, h1, h2⟩
      · obtain ⟨y, hy, he⟩ := List.mem_map.1 h1
        refine ⟨y.2, by unfold grow; rw [← he]; simp [hy], ?_⟩; exact B.step _ y hi hy
      · refine ⟨w ++ [z.1], ?_, by simp⟩
        unfold grow; rw [← h2]; exact List.mem_append_right _ (List.mem_map.2 ⟨z, h1, rfl⟩)
  · unfold grow
    rw [List.pairwise_append]; refine ⟨B.sorted, ?_, fun y hy z hz => ?_⟩
    · rw [List.pairwise_map]
      exact List.pairwise_of_forall fun _ _ => by simp
    · obtain ⟨a, ha, rfl⟩ := hnew z hz
      have := B.step _ y hi hy
      simpa using this
  · have hin : y.2.length ≤ w.length + 1 := by
      unfold grow at hy; rcases List.mem_append.1 hy with hy | hy
      · exact B.step _ y hi hy
      · obtain ⟨a, ha, rfl⟩ := hnew y hy
        simp
    have hpw : w.length ≤ p.2.length := by
      unfold grow at hp; by_cases h : i + 1 < R.length
      · rw [List.getElem?_append_left h] at hp
        have h1 := List.pairwise_iff_getElem.1 B.sorted i (i + 1) hlt h (by omega); rw [List.getElem?_eq_getElem hlt] at hi; rw [List.getElem?_eq_getElem h] at hp
        injection hi with hi
        injection hp with hp
        rw [hi, hp] at h1; exact h1
      · rw [List.getElem?_append_right (by omega)] at hp
        obtain ⟨a, ha, rfl⟩ := hnew p (List.mem_of_getElem? hp); simp
    omega
  · have hp' := hget k p hk hp
    rcases Nat.lt_succ_iff_lt_or_eq.1 hk with h1 | h1
    · exact B.dead k p h1 hp'
    · subst h1
      rw [hi] at hp'
      injection hp' with hp'; subst hp'
      exact hx
  · unfold grow
    rw [List.map_append, List.map_map]; have := Z2t (N := N) (x := x) (l := List.range q) B.nodup; exact this
  · unfold grow at hp
    by_cases h : k < R.length
    · rw [List.getElem?_append_left h] at hp
      exact B.short k p hp
    · rw [List.getElem?_append_right (by omega)] at hp
      obtain ⟨a, ha, rfl⟩ := hnew p (List.mem_of_getElem? hp); have := B.short _ _ hi; simp only [List.length_append, List.length_singleton] at this ⊢; omega

theorem BInv.met {S : Nat} {R : Rec} {i : Nat} (B : BInv N q S R i) {m : Nat} (hm : ∀ k p, i ≤ k → R[k]? = some p → m < p.2.length) :
    ∀ (n : Nat) (u : List Nat), u.length = n → (∀ a ∈ u, a < q) → u.length ≤ m → ∃ k p, k < i ∧ R[k]? = some p ∧ p.1 = ld N S u ∧ p.2.length ≤ u.length
  | 0, u, hn, _, _ => by
    have hu := List.length_eq_zero_iff.1 hn; subst hu; obtain ⟨k, hk⟩ := List.getElem?_of_mem B.root; refine ⟨k, _, ?_, hk, rfl, by simp⟩
    apply Classical.byContradiction
    intro h; have := hm k _ (by omega) hk; simp at this
  | n + 1, u, hn, hu, hl => by
    obtain ⟨u, a, rfl⟩ : ∃ v a, u = v ++ [a] := by
      rcases List.eq_nil_or_concat u with h | ⟨v, a, h⟩
      · subst h; simp at hn
      · exact ⟨v, a, by simpa using h⟩
    rw [List.length_append, List.length_singleton] at hl hn; obtain ⟨k, p, h1, h2, h3, h4⟩ := B.met hm n u (by omega) (fun b hb => hu b (by simp [hb])) (by omega); obtain ⟨w', h5, h6⟩ := B.closed k p h1 h2 a (hu a (by simp)); obtain ⟨j, hj⟩ := List.getElem?_of_mem h5; refine ⟨j, _, ?_, hj, ?_, ?_⟩
    · apply Classical.byContradiction
      intro h; have := hm j _ (by omega) hj; simp only at this; omega
    · show img N p.1 a = ld N S (u ++ [a])
      rw [Z1l, h3]; rfl
    · simp only [List.length_append, List.length_singleton]; omega

theorem Zaq (A : AutOK q N) {S : Nat} (hS : S < 2 ^ N.length) (h0 : S ≠ 0) : ∀ (f : Nat) {R : Rec} {i : Nat}, BInv N q S R i → 4097 ≤ f + i →
    match bfs N q f R i with
    | some w => (∀ a ∈ w, a < q) ∧ sgl (ld N S w) = true ∧ w.length ≤ 4096 ∧ ∀ u : List Nat, (∀ a ∈ u, a < q) → u.length < w.length → sgl (ld N S u) = false
    | none => ∀ u : List Nat, (∀ a ∈ u, a < q) → sgl (ld N S u) = false
  | 0, R, i, B, hf => by
    have := B.len A hS h0; have := B.le; omega
  | f + 1, R, i, B, hf => by
    unfold bfs
    cases hi : R[i]? with
    | none =>
      simp only; intro u hu; have hle : R.length ≤ i := List.getElem?_eq_none_iff.1 hi; obtain ⟨k, p, h1, h2, h3, _⟩ := B.met (m := u.length) (fun k p hk hp => by
        have := (List.getElem?_eq_some_iff.1 hp).1
        omega) _ u rfl hu (Nat.le_refl _)
      rw [← h3]; exact B.dead k p h1 h2
    | some p =>
      obtain ⟨x, w⟩ := p; simp only
      cases hx : sgl x with
      | true =>
        simp only [if_true]; obtain ⟨h1, h2⟩ := B.recs _ (List.mem_of_getElem? hi); simp only at h1 h2; have hsh := B.short _ _ hi; have hlen := B.len A hS h0; have hltR : i < R.length := (List.getElem?_eq_some_iff.1 hi).1; simp only at hsh; refine ⟨h2, by rw [h1]; exact hx, by omega, fun u hu hlt => ?_⟩; obtain ⟨k, p, h3, h4, h5, _⟩ := B.met (m := u.length) (fun k p hk hp => by
          have hlt' : i < R.length := (List.getElem?_eq_some_iff.1 hi).1; have hkl : k < R.length := (List.getElem?_eq_some_iff.1 hp).1; have : w.length ≤ p.2.length := by
            rcases Nat.lt_or_eq_of_le hk with h | h
            · have h6 := List.pairwise_iff_getElem.1 B.sorted i k hlt' hkl h
              rw [List.getElem?_eq_getElem hlt'] at hi; rw [List.getElem?_eq_getElem hkl] at hp
              injection hi with hi
              injection hp with hp
              rw [hi, hp] at h6; exact h6
            · subst h
              rw [hi] at hp
              injection hp with hp; subst hp
              exact Nat.le_refl _
          omega) _ u rfl hu (Nat.le_refl _)
        rw [← h5]; exact B.dead k p h3 h4
      | false =>
        simp only [Bool.false_eq_true, if_false]; exact Zaq A hS h0 f (B.next hi hx) (by omega)
theorem Z2y (A : AutOK q N) {S : Nat} (hS : S < 2 ^ N.length) (h0 : S ≠ 0) {w : List Nat} (h : sr N q S = some w) :
    (∀ a ∈ w, a < q) ∧ sgl (ld N S w) = true ∧ w.length ≤ 4096 ∧ ∀ u : List Nat, (∀ a ∈ u, a < q) → u.length < w.length → sgl (ld N S u) = false := by
  have := Zaq A hS h0 4097 (BInv.start S) (by omega); unfold sr at h; rw [h] at this; exact this
theorem Z97 (A : AutOK q N) {S : Nat} (hS : S < 2 ^ N.length) (h0 : S ≠ 0) (h : sr N q S = none) (u : List Nat) (hu : ∀ a ∈ u, a < q) : sgl (ld N S u) = false := by
  have := Zaq A hS h0 4097 (BInv.start S) (by omega); unfold sr at h; rw [h] at this; exact this u hu
end Go.Proofs.YtnilegembmcelaaDoor.Rst
end

section
namespace Go.Proofs.YtnilegembmcelaaDoor
open Go Go.AM Rst

def auB (q : Int) (N : List (List Int)) : AObj := .box [.p (.int .i64 q), .p (.sl (N.map slI))]

theorem c34 {q : Nat} {N : List (List Int)} (A : AutOK q N) {S a : Nat} (hS : S < 2 ^ N.length) (ha : a < q) : PFn Tryd.prog 34 [auV q N, .int .i64 S, .int .i64 a] [.int .i64 (img N S a : Nat)] := by
  have hp := A.pow; have hq8 := A.q8; have hn12 := A.n12; have hw : IntKind.u64.wrap (S : Int) = S := InR.wrap (by simp only [InR]; omega); refine PFn.of_body hΓ Tryd.func34 (by kernel_rfl) rfl (AWp.seq (Wd [] ?_)); simp -implicitDefEqProofs only [Tryd.ntmps34, Tryd.results34, Nat.reduceAdd, Nat.reduceSub, auV, go_sem]; refine AWp.seq (Wd [] ?_); simp -implicitDefEqProofs only [hw, go_sem]; refine AWp.seq (Wd [] ?_); simp -implicitDefEqProofs only [hw, go_sem]
  refine AWp.loopI (fun z : Nat × Nat => ⟨mkF 30 [(2, .p (.int .i64 a)), (3, .ptr 0 0), (7, .p (.int .i64 z.2)), (8, .p (.int .u64 z.1))], [auB q N]⟩)
    (fun z => (∀ i, z.1.testBit i = true → S.testBit i = true) ∧ z.1 < 2 ^ N.length ∧ z.2 < 2 ^ N.length ∧ ∀ t, z.2.testBit t = true ↔ ∃ s, s < N.length ∧ S.testBit s = true ∧ z.1.testBit s = false ∧ dl N s a = t)
    (fun z => z.1) (S, 0) (by simp [go_sem, auB]) ⟨fun _ h => h, hS, Nat.two_pow_pos _, fun t => by
      rw [Nat.zero_testBit]
      constructor
      · intro h; cases h
      · rintro ⟨s, _, h1, h2, _⟩
        rw [h1] at h2; cases h2⟩ ?_
  rintro ⟨left, out⟩ ⟨h1, h2, h3, h4⟩; simp only at h1 h2 h3 h4; by_cases h0 : left = 0
  · subst h0
    have e : out = img N S a := Nat.eq_of_testBit_eq fun t => by
      rw [Bool.eq_iff_iff, h4 t, Z48]
      constructor
      · rintro ⟨s, g1, g2, _, g3⟩; exact ⟨s, g1, g2, g3⟩
      · rintro ⟨s, g1, g2, g3⟩; exact ⟨s, g1, g2, Nat.zero_testBit _, g3⟩
    simp -implicitDefEqProofs only [auB, go_sem]; refine Wd [(5, 13)] ?_; have hz : ¬ (0 : Int) < ((0 : Nat) : Int) := by omega
    simp -implicitDefEqProofs only [hz, go_sem]; refine Wd [] ?_; simp -implicitDefEqProofs only [e, go_sem]
  obtain ⟨hk, hk64⟩ := Z15 h0 (by omega); have hkn := Z0w h2 hk; obtain ⟨r, t, g1, g2, g3, g4, g5, g6⟩ := A.get hkn ha; have et := tz52 left (by omega); generalize hkk : Lib.ctz 64 left = k at *; have hl0 : (0 : Int) < (left : Int) := by omega
  simp -implicitDefEqProofs only [auB, go_sem]; refine Wd [(5, 13)] ?_; simp -implicitDefEqProofs only [hl0, go_sem]; have eN : (N.map slI).getD k default = .sl (r.map (.int .i64)) := by
    rw [List.getD_eq_getElem?_getD, List.getElem?_map, List.getElem?_eq_getElem hkn, Option.map_some, Option.getD_some]; rw [List.getD_eq_getElem?_getD, List.getElem?_eq_getElem hkn, Option.getD_some] at g1; rw [g1]; rfl
  have har : a < r.length := by omega
  have er : (r.map (PV.int .i64)).getD a default = .int .i64 t := by
    rw [List.getD_eq_getElem?_getD, List.getElem?_map, List.getElem?_eq_getElem har, Option.map_some, Option.getD_some]; rw [List.getD_eq_getElem?_getD, List.getElem?_eq_getElem har, Option.getD_some] at g4; rw [g4]
  refine Zb et (.pures rfl) ?_; simp -implicitDefEqProofs only [eN, er, List.length_map, Int.toNat_natCast, go_sem]; have ht62 : (2 : Int) ^ t.toNat = ((2 ^ t.toNat : Nat) : Int) := by norm_cast
  have hT : 2 ^ t.toNat ≤ 4096 := Nat.le_trans (Nat.pow_le_pow_right (by decide) (by omega)) hp; have hIn : InR .i64 (1 * 2 ^ t.toNat) := by
    rw [Int.one_mul, ht62]; generalize 2 ^ t.toNat = T at hT ⊢; simp only [InR]; omega
  have edl : dl N k a = t.toNat := by unfold dl; rw [g1, g4]
  have hcl := Z4e h0 (show left < 18446744073709551616 by omega); rw [hkk] at hcl; have hle : left &&& (left - 1) ≤ left - 1 := Nat.and_le_right; refine ⟨hkn, har, ⟨g5, by omega, hIn⟩, by simp only [InR]; omega, (left &&& (left - 1), out ||| 2 ^ t.toNat), ⟨⟨?_, ?_⟩, by simp [auB]⟩, ⟨fun i hi => ?_, by simp only; omega, ?_, fun u => ?_⟩, by simp only; omega⟩
  · rw [Int.one_mul, ht62]; exact (borI _ _ (by omega) (by omega)).symm
  · have : (left : Int) - 1 = ((left - 1 : Nat) : Int) := by omega
    rw [this]; exact (band _ _ (by omega) (by omega)).symm
  · simp only at hi
    rw [hcl, Bool.and_eq_true] at hi; exact h1 i hi.1
  · simp only
    refine Z1w fun i hi => ?_
    rw [Nat.testBit_or, Bool.or_eq_true, Nat.testBit_two_pow, decide_eq_true_eq] at hi; rcases hi with hi | hi
    · exact Z0w h3 hi
    · omega
  · simp only
    rw [Nat.testBit_or, Bool.or_eq_true, h4 u, Nat.testBit_two_pow, decide_eq_true_eq]
    constructor
    · rintro (⟨s, q1, q2, q3, q4⟩ | h)
      · exact ⟨s, q1, q2, by rw [hcl, q3, Bool.false_and], q4⟩
      · exact ⟨k, hkn, h1 k hk, by rw [hcl]; simp, by rw [edl, h]⟩
    · rintro ⟨s, q1, q2, q3, q4⟩
      by_cases hs : s = k
      · subst hs
        exact .inr (by rw [← q4, edl])
      · refine .inl ⟨s, q1, q2, ?_, q4⟩
        rw [hcl] at q3
        simpa [hs] using q3

theorem c17 {q : Nat} {N : List (List Int)} (A : AutOK q N) : PFn Tryd.prog 17 [auV q N] [.int .i64 (2 ^ N.length - 1 : Nat)] := by
  have hp := A.pow; have hn12 := A.n12; have hpos : 0 < 2 ^ N.length := Nat.two_pow_pos _; have e : (2 : Int) ^ N.length = ((2 ^ N.length : Nat) : Int) := by norm_cast
  refine PFn.of_body hΓ Tryd.func17 (by kernel_rfl) rfl (Wd [] ?_); simp -implicitDefEqProofs only [Tryd.ntmps17, Tryd.results17, Nat.reduceAdd, Nat.reduceSub, auV, List.length_map, Int.toNat_natCast, Int.one_mul, e, go_sem]; generalize 2 ^ N.length = M at hp hpos ⊢; exact ⟨⟨by omega, by simp only [InR]; omega⟩, by simp only [InR]; omega, by omega⟩

theorem c51 {h : List AObj} {g : FuncId} {caps : List AV} {pr : Int → Bool} (ws : List Int) (hl : ws.length ≤ 9223372036854775807)
    (hg : ∀ w ∈ ws, AC Tryd.prog g (.p (.int .i64 w) :: caps) h [] (fun v h' => v = .p (.bool (pr w)) ∧ h' = h)) :
    AC Tryd.prog 51 [.p (.sl (ws.map (.int .i64))), .fn g caps] h [] (fun v h' => (∃ i : Int, v = .p (.int .i64 i) ∧ decide (0 ≤ i) = ws.any pr) ∧ h' = h) := by
  refine AC.of_bodyE hΓ Tryd.func51 (by kernel_rfl) rfl (AWp.mono (Q := fun e st => AM.Ends e ∧ (∃ i : Int, st.tmps.getD 4 .junk = .p (.int .i64 i) ∧ decide (0 ≤ i) = ws.any pr) ∧ st.h = h) ?_ ?_)
  rotate_left
  · rintro e ⟨tm, h'⟩ ⟨he, ⟨i, h1, h3⟩, h2⟩
    simp only at h1 h2; subst h2; refine ⟨he, _, Less.refl _, ?_⟩; unfold Z92; simp +contextual -implicitDefEqProofs only [Tryd.results51, h1, go_sem]; exact ⟨_, Nat.le_refl _, .inl rfl, ⟨i, rfl, h3⟩, List.take_length⟩
  refine Wd [] ?_; simp +contextual -implicitDefEqProofs only [Tryd.ntmps51, Nat.reduceAdd, Nat.reduceSub, go_sem]
  refine AWp.loopI (fun k : Nat => ⟨mkF 19 [(0, .p (.sl (ws.map (.int .i64)))), (1, .fn g caps), (7, .p (.int .i64 ws.length)), (8, .p (.int .i64 k))], h⟩)
    (fun k => k ≤ ws.length ∧ (ws.take k).any pr = false) (fun k => ws.length - k) 0 (by simp [go_sem, Z1r]) (by simp) ?_
  rintro k ⟨hk, h0⟩; refine Wd [] ?_; simp +contextual -implicitDefEqProofs only [Z3, ↓reduceIte, go_sem]; refine ⟨fun hlt => ?_, fun hge => ⟨-1, rfl, by rw [List.take_of_length_le (by omega)] at h0; rw [h0]; rfl⟩⟩; refine Zu (hg ws[k] (List.getElem_mem hlt)) (by simp) ?_; rintro v h' ⟨rfl, rfl⟩
  cases hp : pr ws[k]
  · simp -implicitDefEqProofs only [Zc, List.foldl, go_sem]
    refine ⟨by simp only [InR]; omega, k + 1, by simp [Z1r], ⟨hlt, ?_⟩, by omega⟩; rw [List.take_succ_eq_append_getElem hlt, List.any_append, h0]; simp [hp]
  · simp -implicitDefEqProofs only [Zc, List.foldl, go_sem]
    refine ⟨k, rfl, ?_⟩; rw [List.any_eq_true.2 ⟨_, List.getElem_mem hlt, hp⟩]; simp

theorem c31 {h : List AObj} {g : FuncId} {caps : List AV} {pr : Int → Bool} (ws : List Int) (hl : ws.length ≤ 9223372036854775807)
    (hg : ∀ w ∈ ws, AC Tryd.prog g (.p (.int .i64 w) :: caps) h [] (fun v h' => v = .p (.bool (pr w)) ∧ h' = h)) :
    AC Tryd.prog 31 [.p (.sl (ws.map (.int .i64))), .fn g caps] h [] (fun v h' => v = .p (.bool (ws.any pr)) ∧ h' = h) := by
  refine AC.of_bodyE hΓ Tryd.func31 (by kernel_rfl) rfl (AWp.mono (Q := fun e st => AM.Ends e ∧ st.tmps.getD 4 .junk = .p (.bool (ws.any pr)) ∧ st.h = h) ?_ ?_)
  rotate_left
  · rintro e ⟨tm, h'⟩ ⟨he, h1, h2⟩
    simp only at h1 h2; subst h2; refine ⟨he, _, Less.refl _, ?_⟩; unfold Z92; simp +contextual -implicitDefEqProofs only [Tryd.results31, h1, go_sem]; exact ⟨_, Nat.le_refl _, .inl rfl, List.take_length⟩
  refine Wd [] ?_; simp +contextual -implicitDefEqProofs only [Tryd.ntmps31, Nat.reduceAdd, Nat.reduceSub, go_sem]; refine Zu (c51 ws hl hg) (by simp) ?_; rintro v h' ⟨⟨i, rfl, hi⟩, rfl⟩; simp -implicitDefEqProofs only [Zc, List.foldl, go_sem]; exact hi

theorem c32 {q : Nat} {N : List (List Int)} {t : Int} (h0 : 0 ≤ t) (h1 : t < N.length) :
    AC Tryd.prog 32 [.p (.int .i64 t), .ptr 0 0] [auB q N] [] (fun v h' => v = .p (.bool false) ∧ h' = [auB q N]) := by
  have e0 : ¬ t < 0 := by omega
  have e1 : ¬ (N.length : Int) ≤ t := by omega
  refine AC.of_body 1 hΓ Tryd.func32 (by kernel_rfl) rfl (by simp) (Wd [] ?_); simp -implicitDefEqProofs only [Tryd.ntmps32, Tryd.results32, Nat.reduceAdd, Nat.reduceSub, List.map_cons, List.map_nil, auB, e0, List.length_map, e1, go_sem]

theorem c15 {q : Nat} {N : List (List Int)} (A : AutOK q N) : PFn Tryd.prog 15 [auV q N] [.int .i64 0] := by
  have hq1 := A.q1; have hq8 := A.q8; have hn1 := A.n1; have hn12 := A.n12; have e1 : ¬ (q : Int) < 1 := by omega
  have e2 : ¬ (8 : Int) < q := by omega
  have e3 : ¬ (N.length : Int) = 0 := by omega
  have e4 : ¬ (16 : Int) < N.length := by omega
  refine PFn.of_body hΓ Tryd.func15 (by kernel_rfl) rfl (Wd [] ?_); simp -implicitDefEqProofs only [Tryd.ntmps15, Tryd.results15, Nat.reduceAdd, Nat.reduceSub, auV, e1, e2, List.length_map, e3, e4, go_sem]
  refine AWp.loopI (fun k : Nat => ⟨mkF 40 [(1, .ptr 0 0), (25, .p (.sl (N.map slI))), (26, .p (.int .i64 N.length)), (27, .p (.int .i64 k))], [auB q N]⟩)
    (fun k => k ≤ N.length) (fun k => N.length - k) 0 (by simp [go_sem, auB]) (Nat.zero_le _) ?_
  intro k hk; simp -implicitDefEqProofs only [auB, go_sem]; refine Wd [] ?_; by_cases hlt : k < N.length
  · have hlt' : (k : Int) < N.length := by omega
    have hm := List.getElem_mem hlt; have hr := A.rows _ hm; have hr' : (N[k].length : Int) = q := by omega
    have ec := c31 (h := [auB q N]) (g := 32) (caps := [.ptr 0 0]) (pr := fun _ => false) N[k] (by omega) fun t ht => c32 (A.ents _ hm t ht).1 (A.ents _ hm t ht).2
    have ea : N[k].any (fun _ => false) = false := by simp
    rw [ea] at ec; unfold auB at ec; simp -implicitDefEqProofs only [hlt', hlt, Z3, ↓reduceIte, slI, List.length_map, hr', go_sem]; refine Zu ec (by simp) ?_; rintro v h' ⟨rfl, rfl⟩; simp -implicitDefEqProofs only [Zc, List.foldl, go_sem]; refine ⟨by simp only [InR]; omega, k + 1, ⟨by simp [slI], by simp [auB]⟩, hlt, by omega⟩
  · have hz : ¬ (k : Int) < N.length := by omega
    simp -implicitDefEqProofs only [hz, go_sem]

/-! ### Words -/
def ltB (a : Nat) : UInt8 := L16.getD a 0
def wd (u : List Nat) : List UInt8 := u.map ltB
theorem Zcl : ∀ a, a < 16 → ixB (ltB a) L16 0 = (a : Int) := by decide +kernel
theorem Zi9 : ∀ a, a < 16 → (ltB a).toNat < 128 := by decide +kernel
theorem Zb5 {q : Nat} (hq : 1 ≤ q) (hq8 : q ≤ 8) {u : List Nat} (hu : ∀ a ∈ u, a < q) (hl : u.length ≤ 65536) : Ze q (wd u) = 0 := by
  refine Z23 (by omega) (by omega) (by unfold wd; rw [List.length_map]; omega) ?_; unfold okW wd; rw [List.all_map, List.all_eq_true]; intro a ha; have := hu a ha; show okB q (ltB a) = true; unfold okB; rw [Zcl a (by omega), Bool.and_eq_true, decide_eq_true_eq, decide_eq_true_eq]; omega

theorem c22 {q : Nat} {N : List (List Int)} (A : AutOK q N) {S : Nat} (hS : S < 2 ^ N.length) {u : List Nat} (hu : ∀ a ∈ u, a < q) (hl : u.length ≤ 9223372036854775807) :
    PFn Tryd.prog 22 [auV q N, .int .i64 S, .str (wd u)] [.int .i64 (ld N S u : Nat)] := by
  have hq8 := A.q8; have hwl : (wd u).length = u.length := by unfold wd; rw [List.length_map]
  refine PFn.of_body hΓ Tryd.func22 (by kernel_rfl) rfl (Wd [(4, 8)] ?_); simp -implicitDefEqProofs only [Tryd.ntmps22, Tryd.results22, Nat.reduceAdd, Nat.reduceSub, auV, hwl, go_sem]
  refine AWp.loopI (fun k : Nat => ⟨mkF 22 [(1, .p (.int .i64 (ld N S (u.take k) : Nat))), (2, .p (.str (wd u))), (3, .ptr 0 0), (9, .p (.int .i64 u.length)), (10, .p (.int .i64 k))], [auB q N]⟩)
    (fun k => k ≤ u.length) (fun k => u.length - k) 0 (by simp [go_sem, auB, ld]) (Nat.zero_le _) ?_
  intro k hk; simp -implicitDefEqProofs only [auB, go_sem]; refine Wd [(4, 8)] ?_; by_cases hlt : k < u.length
  · have hlt' : (k : Int) < u.length := by omega
    have hget : (wd u).getD k 0 = ltB u[k] := by
      unfold wd; rw [List.getD_eq_getElem?_getD, List.getElem?_map, List.getElem?_eq_getElem hlt]; rfl
    have ha := hu _ (List.getElem_mem hlt); have e1 := t101 L16 ((ltB u[k]).toNat : Int); have e2 : ((ltB u[k]).toNat : Int).toNat.toUInt8 = ltB u[k] := by simp
    rw [e2, Zcl _ (show u[k] < 16 by omega)] at e1; have hS' := Z46 A (u := u.take k) (fun a h => hu a (List.mem_of_mem_take h)) hS; have e3 := c34 A hS' ha; have e4 : img N (ld N S (u.take k)) u[k] = ld N S (u.take (k + 1)) := by
      rw [List.take_succ_eq_append_getElem hlt, Z1l]; rfl
    rw [e4] at e3; unfold auV at e3; have hk' : (k : Int) < ((wd u).length : Int) := by omega
    simp -implicitDefEqProofs only [hlt', hwl, Int.toNat_natCast, hget, go_sem]; refine Zb e1 (.pures rfl) ?_; simp -implicitDefEqProofs only [go_sem]; refine Zb e3 (.still rfl) ?_; simp -implicitDefEqProofs only [go_sem]; refine ⟨by simp only [InR]; omega, k + 1, ⟨by simp, by simp [auB]⟩, hlt, by omega⟩
  · have hz : ¬ (k : Int) < u.length := by omega
    simp -implicitDefEqProofs only [hz, go_sem]; rw [List.take_of_length_le (by omega)]

theorem c24 {q : Nat} {N : List (List Int)} (A : AutOK q N) {u : List Nat} (hu : ∀ a ∈ u, a < q) (hl : u.length ≤ 65536) : PFn Tryd.prog 24 [auV q N, .str (wd u)] [.int .i64 0] := by
  have e1 := c15 A; have e2 := t80 (q : Int) (wd u); rw [Zb5 A.q1 A.q8 hu hl] at e2; unfold auV at e1; refine PFn.of_body hΓ Tryd.func24 (by kernel_rfl) rfl (Wd [] ?_); simp -implicitDefEqProofs only [Tryd.ntmps24, Tryd.results24, Nat.reduceAdd, Nat.reduceSub, auV, go_sem]; refine Z0 e1 (.still rfl) ?_; simp -implicitDefEqProofs only [go_sem]; refine Z0 e2 (.pures rfl) ?_; simp -implicitDefEqProofs only [go_sem]
theorem c11 {q : Nat} {N : List (List Int)} (A : AutOK q N) {u : List Nat} (hu : ∀ a ∈ u, a < q) (hl : u.length ≤ 65536) (hs : sgl (ld N (2 ^ N.length - 1) u) = true) : PFn Tryd.prog 11 [auV q N, .str (wd u)] [.int .i64 0] := by
  have hp := A.pow; have hpos : 0 < 2 ^ N.length := Nat.two_pow_pos _; have hall : 2 ^ N.length - 1 < 2 ^ N.length := by omega
  have e1 := c24 A hu hl; have e2 := c17 A; have e3 := c22 A hall hu (by omega); have e4 := c21 (ld N (2 ^ N.length - 1) u) (Nat.lt_of_lt_of_le (Z46 A hu hall) hp); rw [hs] at e4; unfold auV at e1 e2 e3; refine PFn.of_body hΓ Tryd.func11 (by kernel_rfl) rfl (Wd [(4, 7)] ?_); simp -implicitDefEqProofs only [Tryd.ntmps11, Tryd.results11, Nat.reduceAdd, Nat.reduceSub, auV, go_sem]; refine Z0 e1 (.still rfl) ?_; simp -implicitDefEqProofs only [go_sem]; refine Zb e2 (.still rfl) ?_; simp -implicitDefEqProofs only [go_sem]; refine Zb e3 (.still rfl) ?_; simp -implicitDefEqProofs only [go_sem]; refine Zb e4 (.pures rfl) ?_; simp -implicitDefEqProofs only [go_sem]
end Go.Proofs.YtnilegembmcelaaDoor
end

