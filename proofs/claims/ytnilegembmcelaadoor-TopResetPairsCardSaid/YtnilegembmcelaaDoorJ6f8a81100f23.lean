/-
  Texts of this claim, joined.
-/
import Derived.Shelf.Slices.In.SortNone
import Derived.Test.YtnilegembmcelaaDoorJ8751cac895c0
import Derived.Test.YtnilegembmcelaaDoorJf65881fab42f
import Derived.Test.YtnilegembmcelaaDoorJb08f5b7d6d77
import Derived.Test.YtnilegembmcelaaDoorJb11d9e939c9f
import Derived.Test.YtnilegembmcelaaDoorJ11d6ef8752a5
import Derived.Test.YtnilegembmcelaaDoorJd818405e9344

set_option linter.unusedSimpArgs false
set_option maxRecDepth 100000
section
namespace Go.Proofs.YtnilegembmcelaaDoor
open Go Go.AM Go.RowKit Go.Shelf

theorem Z6h (l : List Int) : Zk (l.map (.int .i64)) = l.map (.int .i64) := by
  unfold Zk
  induction l with
  | nil => rfl
  | cons a l ih => rw [List.map_cons, List.flatMap_cons, ih]; rfl
theorem Zee {I : Nat → Prop} {w : World} {n : Int} {v : Value} (h : PR I w (.int .i64 n) v) : v = Value.int .i64 n := by cases h; rfl
theorem Zhb {I : Nat → Prop} {w : World} (n : Int) : PR I w (.int .i64 n) (Value.int .i64 n) := .int _ _
def Z0u (l : List Int) : List Int := l.mergeSort fun x y => decide (x ≤ y)
theorem Zo (l : List Int) : (Z0u l).length = l.length := by unfold Z0u; simp
theorem Zd8 (d : List Int) (blk off cap : Nat) (w : World) (hH : Sort.Holds (Value.int .i64) w blk off d.toArray) (hb : blk < w.heap.size) (hd : d.length < 4611686018427387904) :
    Calls Tryd.prog 20 #[.slice (some ⟨blk, off, none⟩) d.length cap] w fun e w' => e = .returned (.tuple #[]) ∧ ∃ n os, w' = sortWorld (Value.int .i64) w blk off n (Z0u d).toArray os :=
  Any.slices_Sort_int (ρ := Tryd.sortO_ren) Tryd.sortO blk off cap d w hH hb hd

theorem c20i {h : List AObj} {b : Nat} (l : List Int) (hb : h[b]? = some (.row 3 1 (l.map (.int .i64)) .own)) (hsz : l.length ≤ 1000000) :
    AC Tryd.prog 20 [.own b l.length] h [] (fun v h' => v = .tup [] ∧ h' = h.set b (.row 3 1 ((Z0u l).map (.int .i64)) .own)) := by
  refine ⟨Z06 Tryd.func20 (by kernel_rfl) rfl, fun X I μ ob w cargs R hlen hargs _ => ?_⟩; obtain ⟨a0, rfl⟩ : ∃ a, cargs = [a] := by
    match cargs, hlen with
    | [a], _ => exact ⟨a, rfl⟩
  have g0 := hargs 0 (by simp); simp only [List.getD_cons_zero] at g0; obtain ⟨a, c, rfl, hbn, hbm⟩ := g0.own_inv; obtain ⟨hall, hrow⟩ := R.objs _ _ hb; rcases hrow with ⟨g, hg, off, cap, cur, fr, vs, e1, e2, e3, e4, e5, e6, e7, e8, e9, e10⟩ | ⟨hk, _⟩
  rotate_left
  · cases hk
  rw [hbm] at e1; simp only [List.length_map] at e1 e5 e7 e8 e9 e10
  injection e1 with e1a _ e1c
  subst e1a e1c; have hfr := e3 rfl; subst hfr; have hgl := (R.own b g hg).2.2; have cell : ∀ j (hj : j < l.length), cur[off + j]? = some ((Value.int .i64) l[j]) := fun j hj => by
    have h1 := e10 j (by omega); rw [Z6h, Z3 _ _ _ _ hj] at h1; have h2 := Zee h1; have h3 : cur.toList[off + j]? = some (vs.getD j undef) := by
      have : vs[j]? = some (vs.getD j undef) := by rw [List.getD_eq_getElem?_getD, List.getElem?_eq_getElem (by omega)]; rfl
      rw [← e8, List.getElem?_take_of_lt (by omega), List.getElem?_drop] at this; exact this.trans (by rw [e8])
    rw [Array.getElem?_toList, h2] at h3; exact h3
  have hH : Sort.Holds (Value.int .i64) w g off l.toArray := fun j hj => by
    have hj' : j < l.length := by simpa using hj
    refine ⟨?_, ?_⟩
    · unfold World.cell?
      simp only [e2]; rw [cell j hj', getElem!_pos l.toArray j hj]; simp
    · unfold World.frozen?
      simp only [e2]; simp
  have hc := Zd8 l g off c w hH hgl (by omega); refine Calls.mono (P := Tryd.prog) hc ?_; rintro e w' ⟨rfl, n, os, rfl⟩; have hsl : (Z0u l).toArray.size = l.length := by simp [Zo]
  -- the world that is left
  have hnew : (sortWorld (Value.int .i64) w g off n (Z0u l).toArray os).heap[g]? = some (.cells (Sort.putCells (Value.int .i64) off (Z0u l).toArray cur) 3 (0, 0)) := by
    unfold sortWorld; rw [Sort.heap_grow_old _ _ (by simp [Sort.ahead]; exact hgl)]; show (w.heap.modify g _)[g]? = _; rw [Array.getElem?_modify, if_pos rfl, e2]; rfl
  have hold : ∀ k, k < w.heap.size → k ≠ g → (sortWorld (Value.int .i64) w g off n (Z0u l).toArray os).heap[k]? = w.heap[k]? := fun k hk hne => by
    unfold sortWorld; rw [Sort.heap_grow_old _ _ (by simp [Sort.ahead]; exact hk)]; show (w.heap.modify g _)[k]? = _; rw [Array.getElem?_modify, if_neg (fun e => hne e.symm)]
  have hgrow : w.grownBy (sortWorld (Value.int .i64) w g off n (Z0u l).toArray os) (some g) := ⟨rfl, rfl, rfl, by simp [sortWorld, Sort.ahead], fun k hk hk2 => hold k hk (fun e => hk2 (by rw [e]))⟩; have hput : ∀ j, j < l.length → (Sort.putCells (Value.int .i64) off (Z0u l).toArray cur)[off + j]? = some ((Value.int .i64) ((Z0u l).getD j 0)) := fun j hj => by
    unfold Sort.putCells; rw [Array.getElem?_mapIdx, cell j hj]; simp only [Option.map_some]; rw [if_pos ⟨Nat.le_add_right _ _, by rw [hsl]; omega⟩, Nat.add_sub_cancel_left, getElem!_pos (Z0u l).toArray j (by rw [hsl]; exact hj), List.getD_eq_getElem?_getD, List.getElem?_eq_getElem (by rw [Zo]; exact hj)]; simp
  have hps : (Sort.putCells (Value.int .i64) off (Z0u l).toArray cur).size = cur.size := by unfold Sort.putCells; rw [Array.size_mapIdx]
  have hpl : (((Sort.putCells (Value.int .i64) off (Z0u l).toArray cur).toList.drop off).take l.length).length = l.length := by
    have h1 : (Sort.putCells (Value.int .i64) off (Z0u l).toArray cur).toList.length = cur.size := by simpa using hps
    rw [List.length_take, List.length_drop, h1]; omega
  have R2 := R.write (b0 := b) (g0 := g) (o := .row 3 1 ((Z0u l).map (.int .i64)) .own) hbn hg hgrow ⟨fun x hx => by
      obtain ⟨u, _, rfl⟩ := List.mem_map.1 hx; rfl, .inl ⟨g, hg, off, c, Sort.putCells (Value.int .i64) off (Z0u l).toArray cur, (0, 0), ((Sort.putCells (Value.int .i64) off (Z0u l).toArray cur).toList.drop off).take l.length, by rw [hbm, List.length_map, Zo], hnew, fun _ => rfl, by simp,
        by rw [List.length_map, Zo]; exact e5, e6, by rw [hps]; exact e7, by rw [List.length_map, Zo, Nat.mul_one], by
          rw [List.length_map, Zo, hpl, Nat.mul_one], fun j hj => ?_⟩⟩
  · exact ⟨_, .tup [], _, I, μ, ob, rfl, R2, .tup [] [] rfl (by simp), fun _ h => h, fun _ _ _ => rfl, by simp, fun g hg => .inl hg, fun b g hb => .inl ⟨b, hb⟩, fun k hk hno => hold k hk (fun e => hno b (by rw [e]; exact hg)), rfl, rfl⟩
  · rw [List.length_map, Zo, Nat.mul_one] at hj
    rw [Z6h, Z3 _ _ _ _ (by rw [Zo]; exact hj)]; have : (((Sort.putCells (Value.int .i64) off (Z0u l).toArray cur).toList.drop off).take l.length).getD j undef = (Value.int .i64) ((Z0u l).getD j 0) := by
      rw [List.getD_eq_getElem?_getD, List.getElem?_take_of_lt hj, List.getElem?_drop, Array.getElem?_toList, hput j hj]; rfl
    rw [this, List.getD_eq_getElem?_getD, List.getElem?_eq_getElem (by rw [Zo]; exact hj)]; exact Zhb _

end Go.Proofs.YtnilegembmcelaaDoor
end

section
namespace Go.Proofs.YtnilegembmcelaaDoor.Rst
open Go
variable {q : Nat} {N : List (List Int)}

theorem Z9b {i : Nat} (h : 2 ^ i < 4096) : sgl (2 ^ i) = true := (Z6z h).2 ⟨i, rfl⟩
theorem Zdb {S T : Nat} (hS : S < 4096) (hT : T < 4096) (h0 : S ≠ 0) (hst : ∀ i, S.testBit i = true → T.testBit i = true) (h : sgl T = true) : sgl S = true := by
  obtain ⟨i, rfl⟩ := (Z6z hT).1 h; have hb : ∀ j, S.testBit j = true → j = i := fun j hj => by
    have := hst j hj; rw [Nat.testBit_two_pow, decide_eq_true_eq] at this; exact this.symm
  have h1 := (Z15 h0 (by omega)).1; have e : S = 2 ^ i := Zaf fun j => ⟨hb j, fun e => by
    subst e; rw [← hb _ h1]; exact h1⟩
  rw [e]; exact Z9b (e ▸ hS)
theorem Zdc {S s t : Nat} (hS : S < 4096) (h : sgl S = true) (hs : S.testBit s = true) (ht : S.testBit t = true) : s = t := by
  obtain ⟨i, rfl⟩ := (Z6z hS).1 h; rw [Nat.testBit_two_pow, decide_eq_true_eq] at hs ht; omega

def allS (N : List (List Int)) : Nat := 2 ^ N.length - 1
theorem Z04 : allS N < 2 ^ N.length := by have := Nat.two_pow_pos N.length; unfold allS; omega
theorem Z8j (i : Nat) : (allS N).testBit i = true ↔ i < N.length := by
  unfold allS; rw [Nat.testBit_two_pow_sub_one, decide_eq_true_eq]
theorem Z0t (A : AutOK q N) : allS N ≠ 0 := fun h => by
  have h1 := (Z8j (N := N) 0).2 A.n1; rw [h, Nat.zero_testBit] at h1
  cases h1
def Z0q (s t : Nat) : Nat := 2 ^ s ||| 2 ^ t
theorem Z2o (s t i : Nat) : (Z0q s t).testBit i = true ↔ i = s ∨ i = t := by
  unfold Z0q; rw [Nat.testBit_or, Bool.or_eq_true, Nat.testBit_two_pow, Nat.testBit_two_pow, decide_eq_true_eq, decide_eq_true_eq]; exact or_congr eq_comm eq_comm
theorem Z09 {s t : Nat} (hs : s < N.length) (ht : t < N.length) : Z0q s t < 2 ^ N.length := Z1w fun i h => by
  rcases (Z2o s t i).1 h with rfl | rfl <;> assumption
theorem Z2n (s t : Nat) : Z0q s t ≠ 0 := fun h => by
  have h1 := (Z2o s t s).2 (.inl rfl); rw [h, Nat.zero_testBit] at h1
  cases h1

theorem Z66 (A : AutOK q N) {s t : Nat} (hs : s < N.length) (ht : t < N.length) {w : List Nat} (h : sr N q (Z0q s t) = some w) : (∀ a ∈ w, a < q) ∧ dlW N s w = dlW N t w ∧ w.length ≤ 4096 := by
  obtain ⟨h1, h2, h3, _⟩ := Z2y A (Z09 hs ht) (Z2n s t) h; have hp := A.pow; have hl := Z46 A h1 (Z09 hs ht); refine ⟨h1, Zdc (by omega) h2 ((Z4u A h1 (Z09 hs ht)).2 ⟨s, hs, (Z2o s t s).2 (.inl rfl), rfl⟩) ((Z4u A h1 (Z09 hs ht)).2 ⟨t, ht, (Z2o s t t).2 (.inr rfl), rfl⟩), h3⟩
theorem Ze6 (A : AutOK q N) {S T : Nat} (hS : S < 2 ^ N.length) (hT : T < 2 ^ N.length) {u : List Nat} (hu : ∀ a ∈ u, a < q) (hst : ∀ i, S.testBit i = true → T.testBit i = true) (i : Nat) (h : (ld N S u).testBit i = true) : (ld N T u).testBit i = true := by
  obtain ⟨s, h1, h2, h3⟩ := (Z4u A hu hS).1 h; exact (Z4u A hu hT).2 ⟨s, h1, hst s h2, h3⟩

def pr (N : List (List Int)) (q : Nat) : Bool := (List.range N.length).all fun s => (List.range s).all fun t => (sr N q (Z0q s t)).isSome
theorem Z3z : pr N q = true ↔ ∀ s t, s < N.length → t < s → (sr N q (Z0q s t)).isSome = true := by
  unfold pr; simp only [List.all_eq_true, List.mem_range]; exact ⟨fun h s t hs ht => h s hs t ht, fun h s hs t ht => h s t hs ht⟩
theorem pr_of (A : AutOK q N) {w : List Nat} (hw : ∀ a ∈ w, a < q) (h : sgl (ld N (allS N) w) = true) : pr N q = true := by
  rw [Z3z]; intro s t hs ht; have hp := A.pow; have ht' : t < N.length := by omega
  cases hn : sr N q (Z0q s t) with
  | some _ => rfl
  | none =>
    have h1 := Z97 A (Z09 hs ht') (Z2n s t) hn w hw; have h2 := Z46 A hw (Z09 hs ht'); have h3 := Z46 A hw (Z04 (N := N)); have := Zdb (by omega) (by omega) (Z7a A hw (Z09 hs ht') (Z2n s t)) (Ze6 A (Z09 hs ht') Z04 hw fun i hi => by
      rw [Z8j]; exact Z0w (Z09 hs ht') hi) h
    rw [h1] at this; cases this

/-! ### How many states -/
def els (N : List (List Int)) (S : Nat) : List Nat := (List.range N.length).filter fun s => S.testBit s
theorem Z43 {S s : Nat} : s ∈ els N S ↔ s < N.length ∧ S.testBit s = true := by
  unfold els; rw [List.mem_filter, List.mem_range]
theorem Zah (S : Nat) : (els N S).Nodup := List.Nodup.sublist List.filter_sublist List.nodup_range
theorem Zd2 : ∀ {l m : List Nat}, l.Nodup → (∀ a ∈ l, a ∈ m) → l.length ≤ m.length := by
  intro l
  induction l with
  | nil => intro m _ _; simp
  | cons a l ih =>
    intro m hnd hs; have ha := hs a (by simp); have h1 := ih (m := m.erase a) (List.nodup_cons.1 hnd).2 fun b hb => by
      have hne : b ≠ a := fun e => (List.nodup_cons.1 hnd).1 (e ▸ hb)
      exact (List.mem_erase_of_ne hne).2 (hs b (by simp [hb]))
    rw [List.length_erase_of_mem ha] at h1; have : 0 < m.length := List.length_pos_of_mem ha; simp only [List.length_cons]; omega
theorem Z8d (A : AutOK q N) {S s t : Nat} (hS : S < 2 ^ N.length) {w : List Nat} (hw : ∀ a ∈ w, a < q) (hs : S.testBit s = true) (ht : S.testBit t = true) (hne : s ≠ t) (he : dlW N s w = dlW N t w) : (els N (ld N S w)).length < (els N S).length := by
  have hsm : s ∈ els N S := Z43.2 ⟨Z0w hS hs, hs⟩; have h1 := Zd2 (Zah (N := N) (ld N S w)) (m := ((els N S).erase s).map (fun x => dlW N x w)) fun x hx => by
    obtain ⟨y, h1, h2, rfl⟩ := (Z4u A hw hS).1 (Z43.1 hx).2; by_cases hy : y = s
    · subst hy
      exact List.mem_map.2 ⟨t, (List.mem_erase_of_ne (Ne.symm hne)).2 (Z43.2 ⟨Z0w hS ht, ht⟩), he.symm⟩
    · exact List.mem_map.2 ⟨y, (List.mem_erase_of_ne hy).2 (Z43.2 ⟨h1, h2⟩), rfl⟩
  rw [List.length_map, List.length_erase_of_mem hsm] at h1; have := List.length_pos_of_mem hsm; omega
theorem Zag {S : Nat} (hS : S < 2 ^ N.length) (h64 : S < 18446744073709551616) (h0 : S ≠ 0) : 0 < (els N S).length :=
  List.length_pos_of_mem (Z43.2 ⟨Z0w hS (Z15 h0 h64).1, (Z15 h0 h64).1⟩)

/-! ### Greedy -/
def lo1 (S : Nat) : Nat := Lib.ctz 64 S
def lo2 (S : Nat) : Nat := Lib.ctz 64 (andn S (2 ^ lo1 S))
def gr (N : List (List Int)) (q : Nat) : Nat → Nat → List Nat → Option (List Nat)
  | 0, _, _ => none
  | f + 1, S, out => if sgl S = true then some out else match sr N q (Z0q (lo1 S) (lo2 S)) with
    | none => none
    | some w => gr N q f (ld N S w) (out ++ w)

theorem lows {S : Nat} (hS : S < 4096) (h0 : S ≠ 0) (h : sgl S = false) : S.testBit (lo1 S) = true ∧ S.testBit (lo2 S) = true ∧ lo1 S ≠ lo2 S ∧ andn S (2 ^ lo1 S) ≠ 0 ∧ andn S (2 ^ lo1 S) < 4096 := by
  obtain ⟨h1, _⟩ := Z15 h0 (show S < 18446744073709551616 by omega); have hk : Lib.ctz 64 S < 12 := Z0w (n := 12) (by omega) h1; have hp : 2 ^ Lib.ctz 64 S < 4611686018427387904 := Nat.lt_of_lt_of_le (Nat.pow_lt_pow_right (by decide) hk) (by decide); have hb : ∀ i, (andn S (2 ^ lo1 S)).testBit i = (S.testBit i && !decide (Lib.ctz 64 S = i)) := fun i => by
    unfold lo1; rw [Zc2 (by omega) hp, Nat.testBit_two_pow]
  have hlt : andn S (2 ^ lo1 S) < 2 ^ 12 := Z1w fun i hi => by
    rw [hb, Bool.and_eq_true] at hi; exact Z0w (n := 12) (by omega) hi.1
  have hne : andn S (2 ^ lo1 S) ≠ 0 := fun he => by
    have : S = 2 ^ Lib.ctz 64 S := Zaf fun i => ⟨fun hi => by
      have h2 := hb i; rw [he, Nat.zero_testBit, hi, Bool.true_and] at h2; have h3 := h2.symm; rw [Bool.not_eq_false', decide_eq_true_eq] at h3; exact h3.symm, fun e => e ▸ h1⟩
    rw [this, Z9b (this ▸ hS)] at h
    cases h
  obtain ⟨h2, _⟩ := Z15 hne (by omega); have h3 : (andn S (2 ^ lo1 S)).testBit (lo2 S) = true := h2; rw [hb, Bool.and_eq_true] at h3; refine ⟨h1, h3.1, ?_, hne, by omega⟩; have h4 := h3.2; simp only [Bool.not_eq_true', decide_eq_false_iff_not] at h4; exact h4

theorem Zil (A : AutOK q N) : ∀ (f : Nat) {S : Nat} {out : List Nat}, S < 2 ^ N.length → S ≠ 0 → (els N S).length ≤ f →
    match gr N q f S out with
    | some o => ∃ v, o = out ++ v ∧ (∀ a ∈ v, a < q) ∧ sgl (ld N S v) = true ∧ v.length ≤ f * 4096
    | none => ∃ s t, s < N.length ∧ t < N.length ∧ s ≠ t ∧ sr N q (Z0q s t) = none
  | 0, S, out, hS, h0, hf => by
    have hp := A.pow; have := Zag hS (by omega) h0; omega
  | f + 1, S, out, hS, h0, hf => by
    have hp := A.pow; unfold gr
    cases hs : sgl S with
    | true =>
      simp only [if_true]; exact ⟨[], by simp, by simp, hs, by simp⟩
    | false =>
      simp only [Bool.false_eq_true, if_false]; obtain ⟨g1, g2, g3, _, _⟩ := lows (by omega) h0 hs; have l1 := Z0w hS g1; have l2 := Z0w hS g2
      cases hn : sr N q (Z0q (lo1 S) (lo2 S)) with
      | none => exact ⟨_, _, l1, l2, g3, hn⟩
      | some w =>
        simp only; obtain ⟨hw, he, hl⟩ := Z66 A l1 l2 hn; have hless := Z8d A hS hw g1 g2 g3 he; have ih := Zil A f (S := ld N S w) (out := out ++ w) (Z46 A hw hS) (Z7a A hw hS h0) (by omega)
        cases hg : gr N q f (ld N S w) (out ++ w) with
        | none => rw [hg] at ih; exact ih
        | some o =>
          rw [hg] at ih; obtain ⟨v, e1, e2, e3, e4⟩ := ih; refine ⟨w ++ v, by rw [e1, List.append_assoc], fun a ha => (List.mem_append.1 ha).elim (hw a) (e2 a), by rw [Z1l]; exact e3, ?_⟩; rw [List.length_append, Nat.add_mul, Nat.one_mul]; omega

theorem Zct (S : Nat) : (els N S).length ≤ N.length := by
  have := List.length_filter_le (fun s => S.testBit s) (List.range N.length)
  rwa [List.length_range] at this
theorem Z75 (A : AutOK q N) : pr N q = (sr N q (allS N)).isSome ∧
    match sr N q (allS N) with
    | some w => ∃ o, gr N q 12 (allS N) [] = some o ∧ (∀ a ∈ o, a < q) ∧ sgl (ld N (allS N) o) = true ∧ o.length ≤ 49152 ∧ w.length ≤ o.length
    | none => gr N q 12 (allS N) [] = none := by
  have hg := Zil A 12 (S := allS N) (out := []) Z04 (Z0t A) (Nat.le_trans (Zct _) A.n12); have key : (∃ w, (∀ a ∈ w, a < q) ∧ sgl (ld N (allS N) w) = true) → (sr N q (allS N)).isSome = true := fun ⟨w, h1, h2⟩ => by
    cases h : sr N q (allS N) with
    | some _ => rfl
    | none => rw [Z97 A Z04 (Z0t A) h w h1] at h2; cases h2
  cases h : sr N q (allS N) with
  | some w =>
    obtain ⟨h1, h2, _, h4⟩ := Z2y A Z04 (Z0t A) h; have hpr := pr_of A h1 h2; refine ⟨hpr, ?_⟩; simp only
    cases ho : gr N q 12 (allS N) [] with
    | none =>
      rw [ho] at hg; obtain ⟨s, t, hs, ht, hne, hn⟩ := hg
      exfalso
      rcases Nat.lt_or_gt_of_ne hne with hst | hst
      · have := Z3z.1 hpr t s ht hst
        have e : Z0q t s = Z0q s t := by unfold Z0q; exact Nat.or_comm _ _
        rw [e, hn] at this; cases this
      · have := Z3z.1 hpr s t hs hst
        rw [hn] at this; cases this
    | some o =>
      rw [ho] at hg; obtain ⟨v, e1, e2, e3, e4⟩ := hg; rw [List.nil_append] at e1; subst e1; refine ⟨o, rfl, e2, e3, by omega, ?_⟩
      apply Classical.byContradiction
      intro hlt; rw [h4 o e2 (by omega)] at e3
      cases e3
  | none =>
    have hno : ∀ w, (∀ a ∈ w, a < q) → sgl (ld N (allS N) w) = true → False := fun w h1 h2 => by
      have := key ⟨w, h1, h2⟩; rw [h] at this; cases this
    have hgn : gr N q 12 (allS N) [] = none := by
      cases ho : gr N q 12 (allS N) [] with
      | none => rfl
      | some o =>
        rw [ho] at hg; obtain ⟨v, _, e2, e3, _⟩ := hg; exact (hno v e2 e3).elim
    refine ⟨?_, hgn⟩; rw [hgn] at hg; obtain ⟨s, t, hs, ht, hne, hn⟩ := hg; simp only [Option.isSome_none]
    cases hp : pr N q with
    | false => rfl
    | true =>
      exfalso
      rcases Nat.lt_or_gt_of_ne hne with hst | hst
      · have := Z3z.1 hp t s ht hst
        have e : Z0q t s = Z0q s t := by unfold Z0q; exact Nat.or_comm _ _
        rw [e, hn] at this; cases this
      · have := Z3z.1 hp s t hs hst
        rw [hn] at this; cases this
variable {q : Nat} {N : List (List Int)}

def lfs (N : List (List Int)) (q : Nat) : List Nat → List Nat → List Nat
  | [], _ => []
  | x :: l, K => (frs N x (List.range q) K).map Prod.snd ++ lfs N q l (K ++ (frs N x (List.range q) K).map Prod.snd)
theorem Z84 {x : Nat} : ∀ {l K : List Nat}, lfs N q (l ++ [x]) K = lfs N q l K ++ (frs N x (List.range q) (K ++ lfs N q l K)).map Prod.snd
  | [], K => by simp [lfs]
  | y :: l, K => by
    rw [List.cons_append]; unfold lfs; rw [Z84 (l := l), List.append_assoc, List.append_assoc]
theorem Z45 : ∀ {l K : List Nat}, K.Nodup → (K ++ lfs N q l K).Nodup
  | [], K, h => by simpa [lfs] using h
  | x :: l, K, h => by
    unfold lfs; rw [← List.append_assoc]; exact Z45 (Z2t h)
theorem Z79 : ∀ {l K : List Nat} {y : Nat}, y ∈ lfs N q l K → ∃ x ∈ l, ∃ a, a < q ∧ y = img N x a
  | x :: l, K, y, h => by
    unfold lfs at h; rcases List.mem_append.1 h with h | h
    · obtain ⟨p, hp, rfl⟩ := List.mem_map.1 h
      obtain ⟨h1, h2, _⟩ := Z5c hp; exact ⟨x, by simp, p.1, List.mem_range.1 h1, h2⟩
    · obtain ⟨z, hz, a, ha, e⟩ := Z79 h
      exact ⟨z, by simp [hz], a, ha, e⟩
theorem Z9y : ∀ {l K : List Nat} {x a : Nat}, x ∈ l → a < q → img N x a ∈ K ++ lfs N q l K
  | z :: l, K, x, a, h, ha => by
    unfold lfs; rw [← List.append_assoc]; rcases List.mem_cons.1 h with rfl | h
    · rcases Z5d (N := N) (x := x) (l := List.range q) (K := K) (List.mem_range.2 ha) with h1 | ⟨p, h1, h2⟩
      · simp [h1]
      · exact List.mem_append_left _ (List.mem_append_right _ (h2 ▸ List.mem_map_of_mem h1))
    · exact Z9y h ha

def Z25 (l : List Nat) : List Nat := l.mergeSort fun x y => decide (x ≤ y)
theorem Z1t (l : List Nat) : (Z25 l).Perm l := List.mergeSort_perm l _
theorem Z98 {l : List Nat} (h : l.Nodup) : (Z25 l).Pairwise (· < ·) := by
  have h1 : (Z25 l).Pairwise fun x y => decide (x ≤ y) = true := List.pairwise_mergeSort (by simp; omega) (by simp; omega) l
  have h2 : (Z25 l).Nodup := (Z1t l).nodup_iff.2 h; have h3 := h1.and h2; exact h3.imp fun ⟨a, b⟩ => by
    have := of_decide_eq_true a; omega

abbrev LayS := List (List Nat) × List Nat × List Nat
def layS (N : List (List Int)) (q : Nat) : Nat → LayS
  | 0 => ([], [allS N], [allS N])
  | k + 1 => ((layS N q k).1 ++ [(layS N q k).2.1], Z25 (lfs N q (layS N q k).2.1 (layS N q k).2.2), (layS N q k).2.2 ++ lfs N q (layS N q k).2.1 (layS N q k).2.2)

structure LInv (N : List (List Int)) (q k : Nat) (z : LayS) : Prop where
  len : z.1.length = k
  nodup : z.2.2.Nodup
  perm : z.2.2.Perm (z.1 ++ [z.2.1]).flatten
  asc : ∀ x ∈ z.1 ++ [z.2.1], x.Pairwise (· < ·)
  word : ∀ (j : Nat) (x : List Nat), (z.1 ++ [z.2.1])[j]? = some x → ∀ s ∈ x, ∃ u : List Nat, u.length = j ∧ (∀ a ∈ u, a < q) ∧ ld N (allS N) u = s
  head : (z.1 ++ [z.2.1])[0]? = some [allS N]
  step : ∀ (j : Nat) (x y : List Nat), (z.1 ++ [z.2.1])[j]? = some x → (z.1 ++ [z.2.1])[j + 1]? = some y → ∀ s ∈ x, ∀ a, a < q → img N s a ∈ ((z.1 ++ [z.2.1]).take (j + 1)).flatten ∨ img N s a ∈ y

theorem Z59 (N : List (List Int)) (q : Nat) : ∀ k, LInv N q k (layS N q k)
  | 0 => {
    len := rfl, nodup := by simp [layS], perm := by simp [layS]
    asc := by simp [layS]
    word := fun j x h s hs => by
      cases j with
      | zero =>
        simp only [layS, List.nil_append, List.getElem?_cons_zero, Option.some.injEq] at h; subst h; rw [List.mem_singleton.1 hs]; exact ⟨[], rfl, by simp, rfl⟩
      | succ j => simp [layS] at h
    head := by simp [layS]
    step := fun j x y _ h => by simp [layS] at h }
  | k + 1 => by
    have I := Z59 N q k; have e : layS N q (k + 1) = ((layS N q k).1 ++ [(layS N q k).2.1], Z25 (lfs N q (layS N q k).2.1 (layS N q k).2.2), (layS N q k).2.2 ++ lfs N q (layS N q k).2.1 (layS N q k).2.2) := rfl; rw [e]; clear e; generalize layS N q k = z at I ⊢; obtain ⟨out, now, K⟩ := z; simp only; have I1 : out.length = k := I.len; have I2 : K.Nodup := I.nodup; have I3 : K.Perm (out ++ [now]).flatten := I.perm; have I4 : ∀ x ∈ out ++ [now], x.Pairwise (· < ·) := I.asc; have I5 := I.word; have I6 := I.head; have I7 := I.step; simp only at I5 I6 I7; have hl : (out ++ [now]).length = k + 1 := by simp [I1]
    have hn := Z45 (N := N) (q := q) (l := now) I2; have hnF : (lfs N q now K).Nodup := (List.nodup_append.1 hn).2.1; have hnow : (out ++ [now])[k]? = some now := by rw [List.getElem?_append_right (by omega), I1, Nat.sub_self]; rfl
    have hold : ∀ (j : Nat) (x : List Nat), j < k + 1 → ((out ++ [now]) ++ [Z25 (lfs N q now K)])[j]? = some x → (out ++ [now])[j]? = some x := fun j x hj h => by
      rwa [List.getElem?_append_left (by omega)] at h
    have hnew : ∀ x, ((out ++ [now]) ++ [Z25 (lfs N q now K)])[k + 1]? = some x → x = Z25 (lfs N q now K) := fun x h => by
      rw [List.getElem?_append_right (by omega), hl, Nat.sub_self] at h
      simpa using h.symm
    have hlen : ∀ (j : Nat) (x : List Nat), ((out ++ [now]) ++ [Z25 (lfs N q now K)])[j]? = some x → j < k + 2 := fun j x h => by
      have := (List.getElem?_eq_some_iff.1 h).1; simp only [List.length_append, List.length_cons, List.length_nil] at this; omega
    refine { len := hl, nodup := hn, perm := ?_, asc := fun x hx => ?_, word := fun j x h s hs => ?_, head := ?_, step := fun j x y h1 h2 s hs a ha => ?_ }
    · simp only
      rw [List.flatten_append]; refine I3.append ?_
      simpa using (Z1t _).symm
    · rcases List.mem_append.1 hx with hx | hx
      · exact I4 x hx
      · rw [List.mem_singleton.1 hx]; exact Z98 hnF
    · have hj := hlen j x h
      rcases Nat.lt_succ_iff_lt_or_eq.1 hj with hj | hj
      · exact I5 j x (hold j x hj h) s hs
      · subst hj
        rw [hnew x h, (Z1t _).mem_iff] at hs; obtain ⟨y, hy, a, ha, rfl⟩ := Z79 hs; obtain ⟨u, h1, h2, h3⟩ := I5 k now hnow y hy; refine ⟨u ++ [a], by simp [h1], fun b hb => ?_, by rw [Z1l, h3]; rfl⟩; rcases List.mem_append.1 hb with hb | hb
        · exact h2 b hb
        · rw [List.mem_singleton.1 hb]; exact ha
    · simp only
      rw [List.getElem?_append_left (by omega)]; exact I6
    · simp only at h1 h2 ⊢
      have hj := hlen _ y h2; rw [List.take_append_of_le_length (by omega)]; rcases Nat.lt_succ_iff_lt_or_eq.1 hj with hj | hj
      · exact I7 j x y (hold j x (by omega) h1) (hold (j + 1) y hj h2) s hs a ha
      · obtain rfl : j = k := by omega
        rw [hnew y h2, (Z1t _).mem_iff, List.take_of_length_le (by omega)]; have h3 := hold j x (by omega) h1; rw [hnow] at h3
        injection h3 with h3
        subst h3; have h4 := Z9y (N := N) (K := K) hs ha; rcases List.mem_append.1 h4 with h4 | h4
        · exact .inl (I3.mem_iff.1 h4)
        · exact .inr h4

structure Zey (N : List (List Int)) (q : Nat) (l : List (List Nat)) : Prop where
  head : ∀ x, l[0]? = some x → x = [allS N]
  good : ∀ x ∈ l, ∀ s ∈ x, s ≠ 0 ∧ s < 2 ^ N.length ∧ sgl s = false
  asc : ∀ x ∈ l, x.Pairwise (· < ·)
  nodup : l.flatten.Nodup
  step : ∀ (k : Nat) (x y : List Nat), l[k]? = some x → l[k + 1]? = some y → ∀ s ∈ x, ∀ a, a < q → img N s a ∈ (l.take (k + 1)).flatten ∨ img N s a ∈ y

theorem Zcm (A : AutOK q N) {w : List Nat} (h : sr N q (allS N) = some w) : Zey N q (layS N q w.length).1 ∧ (layS N q w.length).1.length = w.length := by
  obtain ⟨h1, h2, h3, h4⟩ := Z2y A Z04 (Z0t A) h; have I := Z59 N q w.length; generalize layS N q w.length = z at I ⊢; obtain ⟨out, now, K⟩ := z; have I1 : out.length = w.length := I.len; have I3 : K.Perm (out ++ [now]).flatten := I.perm; have I6 := I.head; have I7 := I.step; simp only at I6 I7; have hold : ∀ (j : Nat) (x : List Nat), out[j]? = some x → (out ++ [now])[j]? = some x ∧ j < out.length := fun j x h => by
    have := (List.getElem?_eq_some_iff.1 h).1; exact ⟨by rwa [List.getElem?_append_left this], this⟩
  refine ⟨{ head := fun x hx => ?_, good := fun x hx s hs => ?_, asc := fun x hx => I.asc x (List.mem_append_left _ hx), nodup := ?_, step := fun k x y hx hy s hs a ha => ?_ }, I1⟩
  · have := (hold 0 x hx).1
    rw [I6] at this
    injection this with this
    exact this.symm
  · obtain ⟨j, hj⟩ := List.getElem?_of_mem hx
    obtain ⟨u, e1, e2, e3⟩ := I.word j x (hold j x hj).1 s hs; have := (hold j x hj).2; rw [← e3]; exact ⟨Z7a A e2 Z04 (Z0t A), Z46 A e2 Z04, h4 u e2 (by omega)⟩
  · have := (I3.nodup_iff.1 I.nodup)
    rw [List.flatten_append] at this; exact (List.nodup_append.1 this).1
  · have := I7 k x y (hold k x hx).1 (hold (k + 1) y hy).1 s hs a ha
    rwa [List.take_append_of_le_length (by have := (hold (k + 1) y hy).2; omega)] at this

theorem LInv.lt (A : AutOK q N) {k : Nat} {z : LayS} (I : LInv N q k z) : ∀ s ∈ z.2.2, s ≠ 0 ∧ s < 2 ^ N.length := fun s hs => by
  have h1 := I.perm.mem_iff.1 hs; obtain ⟨x, hx, hs⟩ := List.mem_flatten.1 h1; obtain ⟨j, hj⟩ := List.getElem?_of_mem hx; obtain ⟨u, _, e2, e3⟩ := I.word j x hj s hs; rw [← e3]; exact ⟨Z7a A e2 Z04 (Z0t A), Z46 A e2 Z04⟩
theorem LInv.now (A : AutOK q N) {k : Nat} {z : LayS} (I : LInv N q k z) : ∀ s ∈ z.2.1, s ≠ 0 ∧ s < 2 ^ N.length := fun s hs =>
  I.lt A s (I.perm.mem_iff.2 (List.mem_flatten.2 ⟨z.2.1, by simp, hs⟩))
theorem LInv.len_le (A : AutOK q N) {k : Nat} {z : LayS} (I : LInv N q k z) : z.2.2.length ≤ 4096 := by
  have h1 := Z2p I.nodup fun s hs => (I.lt A s hs).2
  have h2 := A.pow; omega
theorem LInv.now_le (A : AutOK q N) {k : Nat} {z : LayS} (I : LInv N q k z) : z.2.1.length ≤ 4096 := by
  have h1 := I.perm.length_eq; have h2 := I.len_le A; rw [List.flatten_append, List.length_append] at h1; simp only [List.flatten_cons, List.flatten_nil, List.append_nil] at h1; omega
end Go.Proofs.YtnilegembmcelaaDoor.Rst
end

section
namespace Go.Proofs.YtnilegembmcelaaDoor
open Go Go.AM Rst

theorem c16 {q : Nat} {N : List (List Int)} (A : AutOK q N) {S : Nat} (hS : S < 2 ^ N.length) (h0 : S ≠ 0) : PFn Tryd.prog 16 [auV q N, .int .i64 S] [.str (wd ((sr N q S).getD [])), .bool (sr N q S).isSome] := by
  have hp := A.pow; refine PFn.of_body hΓ Tryd.func16 (by kernel_rfl) rfl (AWp.seq (Wd [] ?_)); simp -implicitDefEqProofs only [Tryd.ntmps16, Tryd.results16, Nat.reduceAdd, Nat.reduceSub, auV, go_sem]; refine AWp.seq (Wd [] ?_); simp -implicitDefEqProofs only [go_sem]; refine ⟨by omega, ⟨by simp [Zp, PV.cells], by omega⟩, ?_⟩; refine AWp.adoptBox 2 68 2 rfl (by simp [PV.cells]) ?_; simp -implicitDefEqProofs only [List.set_cons_zero, List.set_cons_succ, List.cons_append, List.nil_append, go_sem]; have hm0 : Z1c (S : Int) (.bool true) [] = mapV [S] := Z1u (y := S) (K := []) (by simp); rw [hm0]; refine AWp.seq (AWp.block ?_)
  refine AWp.loopJ (fun z : Rec × Nat => ⟨mkF 34 [(2, .ptr 0 0), (6, .ptr 2 0), (7, .map 1)], [auB q N, .mpi (mapV (z.1.map Prod.fst)), .box [.own 3 (z.1.length - z.2)], .row 68 2 ((z.1.drop z.2).map qV) .laq]⟩)
    (fun z => BInv N q S z.1 z.2 ∧ bfs N q (4097 - z.2) z.1 z.2 = sr N q S) (fun z => 4097 - z.2) ([(S, [])], 0)
    (fun z => by simp [Z1z, mkF, AV.blw, AV.blw.blwL, blwH, AObj.blw, auB]) (by simp [go_sem, auB, qV, wd, Z3u]) ⟨BInv.start S, rfl⟩ ?_
  rintro ⟨R, i⟩ ⟨B, hb⟩; simp only at B hb; have hRl := B.len A hS h0; have hile := B.le; have hfu : 4097 - i = (4096 - i) + 1 := by omega
  rw [hfu] at hb; unfold bfs at hb
  cases hi : R[i]? with
  | none =>
    rw [hi] at hb; simp only at hb; have hle : R.length ≤ i := List.getElem?_eq_none_iff.1 hi; have hz : R.length - i = 0 := by omega
    have hzz : ¬ (0 : Int) < ((0 : Nat) : Int) := by omega
    simp -implicitDefEqProofs only [auB, hz, go_sem]; refine Wd [] ?_; simp -implicitDefEqProofs only [hzz, go_sem]; refine Wd [] ?_; simp -implicitDefEqProofs only [go_sem]; rw [← hb]; exact ⟨rfl, rfl⟩
  | some p =>
    obtain ⟨x, w⟩ := p; rw [hi] at hb; simp only at hb; have hlt : i < R.length := (List.getElem?_eq_some_iff.1 hi).1; have hdr : R.drop i = (x, w) :: R.drop (i + 1) := by
      rw [List.drop_eq_getElem_cons hlt]; rw [List.getElem?_eq_getElem hlt] at hi
      injection hi with hi
      rw [hi]
    obtain ⟨n, hn⟩ : ∃ n, n = R.length - (i + 1) := ⟨_, rfl⟩; have hn1 : R.length - i = n + 1 := by omega
    have hpos : (0 : Int) < ((n + 1 : Nat) : Int) := by omega
    have hmem := List.mem_of_getElem? hi; obtain ⟨hxl, hxn⟩ := B.lt A hS h0 _ hmem; simp only at hxl hxn; have e21 := c21 x (by omega); have hqv : qV (x, w) = .agg [.int .i64 x, .str (wd w)] := rfl; rw [hdr, List.map_cons, hqv, hn1]; simp -implicitDefEqProofs only [auB, go_sem]; refine Wd [] ?_; simp -implicitDefEqProofs only [hpos, Int.toNat_zero, Int.toNat_one, List.getD_cons_zero, PV.cells, List.take_succ_cons, List.take_zero, List.map_cons, List.map_nil, List.drop_succ_cons, List.drop_zero, setL, List.length_cons, List.length_nil, AV.kill, go_sem]; refine ⟨by omega, ⟨.inl (by omega), by omega, by omega⟩, ?_⟩; refine Z0 e21 (.pures rfl) ?_
    cases hs : sgl x with
    | true =>
      rw [hs] at hb; simp only [if_true] at hb; simp -implicitDefEqProofs only [go_sem]; rw [← hb]; exact ⟨rfl, rfl⟩
    | false =>
      rw [hs] at hb; simp only [Bool.false_eq_true, if_false] at hb; have hnd : n = (R.drop (i + 1)).length := by rw [hn, List.length_drop]
      have e18 := c18 A (R.map Prod.fst) (R.drop (i + 1)) (x := x) w .laq hxl (by simp) (by rw [List.length_drop]; omega) (by
        have := B.short _ _ hi; simp only at this
        omega)
      unfold hpS auB at e18; simp -implicitDefEqProofs only [Nat.add_sub_cancel, go_sem]; rw [hnd]; refine Zu e18 (by simp) ?_; rintro v h' ⟨rfl, rk', hrk', rfl⟩; simp -implicitDefEqProofs only [Zc, List.foldl, go_sem]; have e1 : (grow N q x w R).map Prod.fst = R.map Prod.fst ++ frk N x (List.range q) (R.map Prod.fst) := by
        unfold grow frk; rw [List.map_append, List.map_map]
        rfl
      have e2 : (grow N q x w R).drop (i + 1) = R.drop (i + 1) ++ frq N x w (List.range q) (R.map Prod.fst) := by
        unfold grow frq; rw [List.drop_append_of_le_length (by omega)]
      have e3 : (grow N q x w R).length - (i + 1) = (R.drop (i + 1) ++ frq N x w (List.range q) (R.map Prod.fst)).length := by
        rw [← e2, List.length_drop]
      have hfu2 : 4097 - (i + 1) = 4096 - i := by omega
      refine ⟨(grow N q x w R, i + 1), ⟨by simp [auB], by simp only; rw [e1], by simp only; exact e3, ?_⟩, ⟨B.next hi hs, by simp only; rw [hfu2]; exact hb⟩, by simp only; omega⟩; simp only; rw [e2]; rcases hrk' with rfl | rfl
      · exact .inl ⟨rfl, rfl⟩
      · exact .inr (.inr (.inr rfl))

theorem c6 {q : Nat} {N : List (List Int)} (A : AutOK q N) : PFn Tryd.prog 6 [auV q N] [.str (wd ((sr N q (allS N)).getD [])), .bool (sr N q (allS N)).isSome, .int .i64 0] := by
  have e1 := c15 A; have e2 : PFn Tryd.prog 17 [auV q N] [.int .i64 (allS N : Nat)] := c17 A; have e3 := c16 A (Z04 (N := N)) (Z0t A); unfold auV at e1 e2 e3; refine PFn.of_body hΓ Tryd.func6 (by kernel_rfl) rfl (Wd [(3, 9)] ?_); simp -implicitDefEqProofs only [Tryd.ntmps6, Tryd.results6, Nat.reduceAdd, Nat.reduceSub, auV, go_sem]; refine Z0 e1 (.still rfl) ?_; simp -implicitDefEqProofs only [go_sem]; refine Zb e2 (.still rfl) ?_; simp -implicitDefEqProofs only [go_sem]; refine Zb e3 (.still rfl) ?_; simp -implicitDefEqProofs only [go_sem]

theorem c7 {q : Nat} {N : List (List Int)} (A : AutOK q N) : PFn Tryd.prog 7 [auV q N] [.bool (pr N q), .int .i64 0] := by
  have hn12 := A.n12; have hp := A.pow; have e1 := c15 A; unfold auV at e1; refine PFn.of_body hΓ Tryd.func7 (by kernel_rfl) rfl (Wd [(9, 12)] ?_); simp -implicitDefEqProofs only [Tryd.ntmps7, Tryd.results7, Nat.reduceAdd, Nat.reduceSub, auV, go_sem]; refine Z0 e1 (.still rfl) ?_; simp -implicitDefEqProofs only [List.length_map, go_sem]
  refine AWp.loopI (fun s : Nat => ⟨mkF 35 [(1, .ptr 0 0), (13, .p (.int .i64 N.length)), (14, .p (.int .i64 s))], [auB q N]⟩)
    (fun s => s ≤ N.length ∧ ∀ s' t, s' < s → t < s' → (sr N q (Z0q s' t)).isSome = true) (fun s => N.length - s) 0 (by simp [go_sem, auB]) ⟨Nat.zero_le _, fun s' t h => absurd h (Nat.not_lt_zero _)⟩ ?_
  rintro s ⟨hs, hno⟩; by_cases hlt : s < N.length
  rotate_left
  · have hz : ¬ (s : Int) < N.length := by omega
    have hpr : pr N q = true := Z3z.2 fun s' t h1 h2 => hno s' t (by omega) h2
    simp -implicitDefEqProofs only [auB, go_sem]; refine Wd [(9, 12)] ?_; simp -implicitDefEqProofs only [hz, go_sem]; rw [hpr]
  have hlt' : (s : Int) < N.length := by omega
  simp -implicitDefEqProofs only [auB, go_sem]; refine Wd [(9, 12)] ?_; simp -implicitDefEqProofs only [hlt', go_sem]
  refine AWp.loopI (fun t : Nat => ⟨mkF 35 [(1, .ptr 0 0), (4, .p (.int .i64 s)), (13, .p (.int .i64 N.length)), (14, .p (.int .i64 s)), (17, .p (.int .i64 s)), (18, .p (.int .i64 t))], [auB q N]⟩)
    (fun t => t ≤ s ∧ ∀ t', t' < t → (sr N q (Z0q s t')).isSome = true) (fun t => s - t) 0 (by simp [go_sem, auB]) ⟨Nat.zero_le _, fun t' h => absurd h (Nat.not_lt_zero _)⟩ ?_
  rintro t ⟨ht, hnt⟩; by_cases htl : t < s
  rotate_left
  · have hz : ¬ (t : Int) < s := by omega
    simp -implicitDefEqProofs only [auB, go_sem]; refine Wd [(9, 12)] ?_; simp -implicitDefEqProofs only [hz, go_sem]; refine ⟨by simp only [InR]; omega, s + 1, ⟨by simp, by simp [auB]⟩, ⟨hlt, fun s' t' h1 h2 => ?_⟩, by omega⟩; rcases Nat.lt_succ_iff_lt_or_eq.1 h1 with h | h
    · exact hno s' t' h h2
    · subst h
      exact hnt t' (by omega)
  have htl' : (t : Int) < s := by omega
  have e3 := c16 A (Z09 (N := N) hlt (show t < N.length by omega)) (Z2n s t); unfold auV at e3; simp -implicitDefEqProofs only [auB, go_sem]; refine Wd [(9, 12)] ?_; simp -implicitDefEqProofs only [htl', go_sem]; have hT : ∀ k, k < N.length → 2 ^ k < 4096 := fun k hk => Nat.lt_of_lt_of_le (Nat.pow_lt_pow_right (by decide) hk) hp
  have hs2 := hT s hlt; have ht2 := hT t (by omega); have ep : ∀ k : Nat, (1 : Int) * 2 ^ k = ((2 ^ k : Nat) : Int) := fun k => by rw [Int.one_mul]; norm_cast
  have hor : Z0s .or .i64 (1 * 2 ^ s) (1 * 2 ^ t) = ((Z0q s t : Nat) : Int) := by rw [ep, ep]; exact borI _ _ (by omega) (by omega)
  have hi1 : InR .i64 (1 * 2 ^ s) := by
    rw [ep]; generalize 2 ^ s = x at hs2 ⊢; simp only [InR]; omega
  have hi2 : InR .i64 (1 * 2 ^ t) := by
    rw [ep]; generalize 2 ^ t = x at ht2 ⊢; simp only [InR]; omega
  refine ⟨⟨by omega, hi1⟩, ⟨by omega, hi2⟩, ?_⟩; rw [hor]; refine Zb e3 (.still rfl) ?_
  cases hsr : (sr N q (Z0q s t)).isSome with
  | false =>
    have hpr : pr N q = false := by
      cases h : pr N q with
      | false => rfl
      | true => rw [Z3z.1 h s t hlt htl] at hsr; cases hsr
    simp -implicitDefEqProofs only [Bool.not_false, go_sem]; rw [hpr]
  | true =>
    simp -implicitDefEqProofs only [Bool.not_true, go_sem]; refine ⟨by simp only [InR]; omega, t + 1, ⟨by simp, by simp [auB]⟩, ⟨htl, fun t' h => ?_⟩, by omega⟩; rcases Nat.lt_succ_iff_lt_or_eq.1 h with h | h
    · exact hnt t' h
    · subst h; exact hsr

theorem c9 {q : Nat} {N : List (List Int)} (A : AutOK q N) : PFn Tryd.prog 9 [auV q N] [.str (wd ((gr N q 12 (allS N) []).getD [])), .int .i64 (if (gr N q 12 (allS N) []).isSome then 0 else 20)] := by
  have hp := A.pow; have e1 := c15 A; have e2 : PFn Tryd.prog 17 [auV q N] [.int .i64 (allS N : Nat)] := c17 A; unfold auV at e1 e2; obtain ⟨G, hG⟩ : ∃ G, gr N q 12 (allS N) [] = G := ⟨_, rfl⟩; rw [hG]; refine PFn.of_body hΓ Tryd.func9 (by kernel_rfl) rfl (Wd [] ?_); simp -implicitDefEqProofs only [Tryd.ntmps9, Tryd.results9, Nat.reduceAdd, Nat.reduceSub, auV, go_sem]; refine Z0 e1 (.still rfl) ?_; simp -implicitDefEqProofs only [go_sem]; refine Z0 e2 (.still rfl) ?_; simp -implicitDefEqProofs only [go_sem]
  refine AWp.loopI (fun z : Nat × Nat × List Nat => ⟨mkF 46 [(1, .ptr 0 0), (4, .p (.str (wd z.2.2))), (5, .p (.int .i64 z.2.1))], [auB q N]⟩)
    (fun z => gr N q z.1 z.2.1 z.2.2 = G ∧ z.2.1 < 2 ^ N.length ∧ z.2.1 ≠ 0 ∧ (els N z.2.1).length ≤ z.1 ∧ z.1 ≤ 12 ∧ z.2.2.length ≤ (12 - z.1) * 4096) (fun z => z.1) (12, allS N, []) (by simp [go_sem, auB, wd])
    ⟨hG, Z04, Z0t A, Nat.le_trans (Zct _) A.n12, Nat.le_refl _, by simp⟩ ?_
  rintro ⟨f, S, out⟩ ⟨h1, h2, h3, h4, h5, h6⟩; simp only at h1 h2 h3 h4 h5 h6; have hpos := Zag h2 (by omega) h3; obtain ⟨f, rfl⟩ : ∃ g, f = g + 1 := ⟨f - 1, by omega⟩; unfold gr at h1; have e21 := c21 S (by omega)
  cases hs : sgl S with
  | true =>
    rw [hs] at e21; simp -implicitDefEqProofs only [auB, go_sem]; refine Wd [] ?_; simp -implicitDefEqProofs only [go_sem]; refine Z0 e21 (.pures rfl) ?_; simp -implicitDefEqProofs only [Bool.not_true, go_sem]; rw [hs] at h1; simp only [if_true] at h1; rw [← h1]; exact ⟨rfl, rfl⟩
  | false =>
    rw [hs] at e21; obtain ⟨g1, g2, g3, g4, g5⟩ := lows (by omega) h3 hs; have l1 := Z0w h2 g1; have l2 := Z0w h2 g2; have e3 := c16 A (Z09 l1 l2) (Z2n _ _); unfold auV at e3; have b1 : Z0s .and .i64 (S : Int) (-(S : Int)) = ((2 ^ lo1 S : Nat) : Int) := Zjh S h3 (by omega); have b2 : Z0s .andNot .i64 (S : Int) ((2 ^ lo1 S : Nat) : Int) = ((andn S (2 ^ lo1 S) : Nat) : Int) := Zjl _ _ (by omega); have b3 : Z0s .and .i64 ((andn S (2 ^ lo1 S) : Nat) : Int) (-((andn S (2 ^ lo1 S) : Nat) : Int)) = ((2 ^ lo2 S : Nat) : Int) := Zjh _ g4 (by omega); have hT : ∀ k, k < N.length → 2 ^ k < 4096 := fun k hk => Nat.lt_of_lt_of_le (Nat.pow_lt_pow_right (by decide) hk) hp
    have b4 : Z0s .or .i64 ((2 ^ lo1 S : Nat) : Int) ((2 ^ lo2 S : Nat) : Int) = ((Z0q (lo1 S) (lo2 S) : Nat) : Int) := borI _ _ (by have := hT _ l1; omega) (by have := hT _ l2; omega); have hi1 : InR .i64 (-(S : Int)) := by simp only [InR]; omega
    have hi2 : InR .i64 (-((andn S (2 ^ lo1 S) : Nat) : Int)) := by simp only [InR]; omega
    generalize (2 ^ lo1 S : Nat) = P1 at *; generalize (2 ^ lo2 S : Nat) = P2 at *; generalize andn S P1 = R1 at *; simp -implicitDefEqProofs only [auB, go_sem]; refine Wd [] ?_; simp -implicitDefEqProofs only [go_sem]; refine Z0 e21 (.pures rfl) ?_; simp -implicitDefEqProofs only [Bool.not_false, b1, b2, b3, b4, go_sem]; rw [hs] at h1; simp only [Bool.false_eq_true, if_false] at h1; refine ⟨hi1, hi2, ?_⟩; refine Z0 e3 (.still rfl) ?_
    cases hsr : sr N q (Z0q (lo1 S) (lo2 S)) with
    | none =>
      rw [hsr] at h1; simp only at h1; simp -implicitDefEqProofs only [Option.isSome_none, Bool.not_false, go_sem]; rw [← h1]; exact ⟨rfl, rfl⟩
    | some w =>
      rw [hsr] at h1; simp only at h1; obtain ⟨hw, he, hl⟩ := Z66 A l1 l2 hsr; have hless := Z8d A h2 hw g1 g2 g3 he; have e22 := c22 A h2 hw (by omega); unfold auV at e22; have hwl : ∀ u : List Nat, (wd u).length = u.length := fun u => by unfold wd; rw [List.length_map]
      have hwa : wd out ++ wd w = wd (out ++ w) := by simp [wd]
      have hm : (12 - (f + 1)) * 4096 + 4096 ≤ (12 - f) * 4096 := by
        have : 12 - f = (12 - (f + 1)) + 1 := by omega
        rw [this, Nat.add_mul, Nat.one_mul]; exact Nat.le_refl _
      have hm2 : (12 - (f + 1)) * 4096 ≤ 12 * 4096 := Nat.mul_le_mul_right _ (by omega); simp -implicitDefEqProofs only [Option.isSome_some, Bool.not_true, Option.getD_some, hwl, hwa, go_sem]; refine ⟨by omega, ?_⟩; refine Z0 e22 (.still rfl) ?_; simp -implicitDefEqProofs only [go_sem]; refine ⟨(f, ld N S w, out ++ w), ⟨⟨by simp, by simp⟩, by simp [auB]⟩, ⟨h1, Z46 A hw h2, Z7a A hw h2 h3, by simp only; omega, by simp only; omega, ?_⟩, by simp only; omega⟩; simp only [List.length_append]; omega

def nI (l : List Nat) : List Int := l.map fun s : Nat => (s : Int)
theorem Z1i (l : List Nat) : (nI l).length = l.length := by simp [nI]
def hpL (q : Int) (N : List (List Int)) (K : List Nat) (O : List PV) (ok : RK) (s : List UInt8) (p : Nat) (n : List Nat) (rk : RK) (T : List AObj) : List AObj :=
  auB q N :: .mpi (mapV K) :: .row 53 1 O ok :: .sit s p :: .box [.own 5 n.length] :: .row 3 1 ((nI n).map (.int .i64)) rk :: T

theorem c19 (q : Int) (N : List (List Int)) (K : List Nat) (O : List PV) (ok : RK) (s : List UInt8) (p : Nat) (n : List Nat) (rk : RK) (T : List AObj) {a y : Nat} (hrk : rk ≠ .raw) (hT : T.map (AObj.kill 5) = T) (hn : n.length ≤ 1000000) :
    AC Tryd.prog 19 [.p (.int .i64 a), .p (.int .i64 y), .ptr 4 0] (hpL q N K O ok s p n rk T) [5] (fun v h' => v = .tup [] ∧ h' = hpL q N K O ok s p (n ++ [y]) .own T) := by
  refine AC.of_bodyE hΓ Tryd.func19 (by kernel_rfl) rfl (AWp.mono (Q := fun e st => AM.Ends e ∧ st.h = hpL q N K O ok s p (n ++ [y]) .own T) ?_ ?_)
  rotate_left
  · rintro e st ⟨he, h2⟩
    refine ⟨he, st, Less.refl st, ?_⟩; have h3 : (hpL q N K O ok s p n rk T).length = st.h.length := by rw [h2]; simp [hpL]
    refine ⟨st.h.length, by omega, .inl rfl, ?_⟩; rw [List.take_length]; exact ⟨rfl, h2⟩
  refine Wd [] ?_; unfold hpL; simp -implicitDefEqProofs only [Tryd.ntmps19, Nat.reduceAdd, Nat.reduceSub, auB, nI, hT, List.length_map, go_sem]; exact ⟨⟨by simp [Zp, PV.cells], by omega⟩, ⟨by simp [Zp, PV.cells], fun z hz c hc => by
    rw [List.mem_singleton.1 hz] at hc; simp only [PV.cells, List.mem_cons, List.not_mem_nil, or_false] at hc; rw [hc]; rfl⟩, ⟨hrk, .inr (by simp), by omega, by omega⟩, by simp, by simp, by simp⟩

theorem c18L {q : Nat} {N : List (List Int)} (A : AutOK q N) (K : List Nat) (O : List PV) (ok : RK) (s : List UInt8) (p : Nat) (n : List Nat) {x : Nat} (rk : RK) (hx : x < 2 ^ N.length) (hrk : rk ≠ .raw) (hn : n.length ≤ 10000) :
    AC Tryd.prog 18 [.agg [.p (.int .i64 q), .p (.sl (N.map slI))], .p (.int .i64 x), .map 1, .fn 19 [.ptr 4 0]] (hpL q N K O ok s p n rk []) [5]
      (fun v h' => v = .tup [] ∧ ∃ rk', (n ++ frk N x (List.range q) K = n ∧ rk' = rk ∨ rk' = .own) ∧ h' = hpL q N (K ++ frk N x (List.range q) K) O ok s p (n ++ frk N x (List.range q) K) rk' []) := by
  have hq8 := A.q8; refine AC.of_bodyE hΓ Tryd.func18 (by kernel_rfl) rfl (AWp.mono (Q := fun e st => AM.Ends e ∧ ∃ rk', (n ++ frk N x (List.range q) K = n ∧ rk' = rk ∨ rk' = .own) ∧ st.h = hpL q N (K ++ frk N x (List.range q) K) O ok s p (n ++ frk N x (List.range q) K) rk' [auB q N]) ?_ ?_)
  rotate_left
  · rintro e ⟨tm, h'⟩ ⟨he, rk', h1, h2⟩
    simp only at h2; subst h2; refine ⟨he, _, Less.refl _, ?_⟩; refine ⟨6, by simp [hpL], .inr ⟨rfl, by simp [hpL, AObj.under, AV.under, auB, Nat.blt], by simp [hpL]⟩, rfl, rk', h1, rfl⟩
  refine AWp.seq (Wd [] ?_); unfold hpL; simp -implicitDefEqProofs only [Tryd.ntmps18, Nat.reduceAdd, Nat.reduceSub, auB, auV, go_sem]; refine Wd [] ?_; simp -implicitDefEqProofs only [go_sem]; have hk0 : frk N x [] K = [] := rfl
  refine AWp.loopI (fun z : Nat × RK => ⟨mkF 30 [(1, .p (.int .i64 x)), (2, .map 1), (3, .fn 19 [.ptr 4 0]), (4, .ptr 6 0), (11, .p (.int .i64 q)), (12, .p (.int .i64 z.1))], hpL q N (K ++ frk N x (List.range z.1) K) O ok s p (n ++ frk N x (List.range z.1) K) z.2 [auB q N]⟩)
    (fun z => z.1 ≤ q ∧ (n ++ frk N x (List.range z.1) K = n ∧ z.2 = rk ∨ z.2 = .own)) (fun z => q - z.1) (0, rk) (by simp [go_sem, hpL, auB, hk0]) ⟨Nat.zero_le _, .inl ⟨by simp [hk0], rfl⟩⟩ ?_
  rintro ⟨k, rk1⟩ ⟨hk, hrk1⟩; simp only at hk hrk1; obtain ⟨K1, hK1⟩ : ∃ K1, K1 = K ++ frk N x (List.range k) K := ⟨_, rfl⟩; obtain ⟨n1, hn1⟩ : ∃ n1, n1 = n ++ frk N x (List.range k) K := ⟨_, rfl⟩; rw [← hn1] at hrk1; rw [← hK1, ← hn1]; have hlq : (frs N x (List.range k) K).length ≤ k := by
    have : ∀ l K, (frs N x l K).length ≤ l.length := by
      intro l
      induction l with
      | nil => intro K; simp [frs]
      | cons b l ih =>
        intro K; unfold frs
        split
        · have := ih K; simp only [List.length_cons]; omega
        · have := ih (K ++ [img N x b]); simp only [List.length_cons]; omega
    simpa using this (List.range k) K
  have hnl : n1.length ≤ 1000000 := by rw [hn1]; simp [frk]; omega
  by_cases hlt : k < q
  rotate_left
  · have hkq : k = q := by omega
    subst hkq; unfold hpL; simp -implicitDefEqProofs only [auB, go_sem]; refine Wd [] ?_; simp -implicitDefEqProofs only [Int.lt_irrefl, go_sem]; exact ⟨rk1, by rw [← hn1]; exact hrk1, by rw [← hK1, ← hn1]; simp⟩
  have hlt' : (k : Int) < (q : Int) := by omega
  have e1 := c34 A hx hlt; unfold auV at e1; have hsn : List.range (k + 1) = List.range k ++ [k] := List.range_succ; obtain ⟨y, hy⟩ : ∃ y, y = img N x k := ⟨_, rfl⟩; rw [← hy] at e1; have hgrow : frs N x (List.range (k + 1)) K = frs N x (List.range k) K ++ (if y ∈ K1 then [] else [(k, y)]) := by
    rw [hsn, Z3r, ← hy, hK1]; rfl
  by_cases hin : y ∈ K1
  · rw [if_pos hin, List.append_nil] at hgrow
    have hfk : frk N x (List.range (k + 1)) K = frk N x (List.range k) K := by unfold frk; rw [hgrow]
    unfold hpL; simp -implicitDefEqProofs only [auB, go_sem]; refine Wd [] ?_; simp -implicitDefEqProofs only [hlt', go_sem]; refine Z0 e1 (.still rfl) ?_; simp -implicitDefEqProofs only [Z1v, hin, go_sem]; refine ⟨by simp only [InR]; omega, (k + 1, rk1), ⟨by simp, ?_⟩, ⟨hlt, by simp only [hfk, ← hn1]; exact hrk1⟩, by simp only; omega⟩; simp [hfk, ← hK1, ← hn1, auB]
  · rw [if_neg hin] at hgrow
    have hfk : frk N x (List.range (k + 1)) K = frk N x (List.range k) K ++ [y] := by unfold frk; rw [hgrow]; simp
    have e3 := c19 q N (K1 ++ [y]) O ok s p n1 rk1 [auB q N] (a := k) (y := y) (by rcases hrk1 with ⟨_, h⟩ | h <;> rw [h]; exact hrk; simp) (by simp [auB, AObj.kill, AV.kill]) hnl; unfold hpL at e3 ⊢; simp -implicitDefEqProofs only [auB, go_sem]; refine Wd [] ?_; simp -implicitDefEqProofs only [hlt', go_sem]; refine Z0 e1 (.still rfl) ?_; simp -implicitDefEqProofs only [Z1v, hin, Bool.not_false, Z1u hin, go_sem]; unfold auB at e3; refine Zu e3 (by simp) ?_; rintro v h' ⟨rfl, rfl⟩; simp -implicitDefEqProofs only [Zc, List.foldl, go_sem]; refine ⟨by simp only [InR]; omega, (k + 1, .own), ⟨by simp, ?_⟩, ⟨hlt, .inr rfl⟩, by simp only; omega⟩; have eK : K ++ frk N x (List.range (k + 1)) K = K1 ++ [y] := by rw [hfk, ← List.append_assoc, hK1]
    have eQ : n ++ frk N x (List.range (k + 1)) K = n1 ++ [y] := by rw [hfk, ← List.append_assoc, hn1]
    rw [eK, eQ]; simp [auB]

theorem c20n {h : List AObj} {b : Nat} : AC Tryd.prog 20 [.own b 0] h [] (fun v h' => v = .tup [] ∧ h' = h) := by
  refine ⟨Z06 Tryd.func20 (by kernel_rfl) rfl, fun X I μ ob w cargs R hlen hargs _ => ?_⟩; obtain ⟨a0, rfl⟩ : ∃ a, cargs = [a] := by
    match cargs, hlen with
    | [a], _ => exact ⟨a, rfl⟩
  have g0 := hargs 0 (by simp); simp only [List.getD_cons_zero] at g0; obtain ⟨a, c, rfl, hbn, hbm⟩ := g0.own_inv; have hc : Calls Tryd.prog 20 #[.slice a 0 c] w fun e w' => e = .returned (.tuple #[]) ∧ w' = w := Any.slices_Sort_int_none (ρ := Tryd.sortO_ren) Tryd.sortO a c w
  refine Calls.mono (P := Tryd.prog) hc ?_; rintro e w' ⟨rfl, rfl⟩; exact ⟨_, .tup [], _, I, μ, ob, rfl, R, .tup [] [] rfl (by simp), fun _ h => h, fun _ _ _ => rfl, Nat.le_refl _, fun g hg => .inl hg, fun b g hb => .inl ⟨b, hb⟩, fun k hk hno => rfl, rfl, rfl⟩

theorem Zba (l : List Nat) : Z0u (nI l) = nI (Z25 l) := by
  unfold Z0u nI Z25; exact (List.map_mergeSort (fun a _ b _ => by simp)).symm

def layV (l : List (List Nat)) : List PV := l.map fun x => slI (nI x)

theorem c8n {q : Nat} {N : List (List Int)} (A : AutOK q N) (hG : sr N q (allS N) = none) : PFn Tryd.prog 8 [auV q N] [.sl [], .int .i64 20] := by
  have e6 := c6 A; rw [hG] at e6; unfold auV at e6; refine PFn.of_body hΓ Tryd.func8 (by kernel_rfl) rfl (AWp.seq (Wd [] ?_)); simp -implicitDefEqProofs only [Tryd.ntmps8, Tryd.results8, Nat.reduceAdd, Nat.reduceSub, auV, go_sem]; refine AWp.seq (Wd [] ?_); simp -implicitDefEqProofs only [go_sem]; refine Z0 e6 (.still rfl) ?_; simp -implicitDefEqProofs only [Option.isSome_none, Option.getD_none, go_sem]; refine AWp.seq (Wd [] ?_); simp -implicitDefEqProofs only [go_sem]; refine AWp.seq (Wd [] ?_); simp -implicitDefEqProofs only [Bool.not_false, go_sem]

theorem c8s {q : Nat} {N : List (List Int)} (A : AutOK q N) {w : List Nat} (hG : sr N q (allS N) = some w) : PFn Tryd.prog 8 [auV q N] [.sl (layV (layS N q w.length).1), .int .i64 0] := by
  have hp := A.pow; have e6 := c6 A; have e17 : PFn Tryd.prog 17 [auV q N] [.int .i64 (allS N : Nat)] := c17 A; rw [hG] at e6; obtain ⟨hwq, _, hw4, _⟩ := Z2y A Z04 (Z0t A) hG; unfold auV at e6 e17; have hwl : (wd w).length = w.length := by unfold wd; rw [List.length_map]
  refine PFn.of_body hΓ Tryd.func8 (by kernel_rfl) rfl (AWp.seq (Wd [] ?_)); simp -implicitDefEqProofs only [Tryd.ntmps8, Tryd.results8, Nat.reduceAdd, Nat.reduceSub, auV, go_sem]; refine AWp.seq (Wd [] ?_); simp -implicitDefEqProofs only [go_sem]; refine Z0 e6 (.still rfl) ?_; simp -implicitDefEqProofs only [Option.isSome_some, Option.getD_some, go_sem]; refine AWp.seq (Wd [] ?_); simp -implicitDefEqProofs only [go_sem]; refine AWp.seq (Wd [] ?_); simp -implicitDefEqProofs only [Bool.not_true, go_sem]; refine AWp.seqTo ⟨mkF 55 [(1, .ptr 0 0), (2, .full []), (3, .p (.int .i64 0)), (4, .p (.str (wd w))), (7, .full [.int .i64 (allS N : Nat)]), (8, .map 1)], [auB q N, .mpi (mapV [allS N])]⟩ ?_ (fun hk => ?_)
  rotate_left
  · refine AWp.planL (.q 0 (.q 1 (.q 2 (.q 4 (.q 5 (.q 8 (.e 3 (.s 0 (.s 1 (.s 2 (.s 4 (.s 5 (.s 8 (.e 6 (.s 2 (.s 8 (.q 7 (.q 9 .fin)))) .nil))))))) .nil))))))) hΓ hmix (by kernel_rfl) ?_
    simp -implicitDefEqProofs only [go_sem]; refine Zb e17 (.still rfl) ?_; simp -implicitDefEqProofs only [go_sem]; refine ⟨⟨by simp [Zp, PV.cells], by omega⟩, ?_⟩; refine Zb e17 (.still rfl) ?_; simp -implicitDefEqProofs only [go_sem]; refine ⟨Zb e17 (.still rfl) rfl, ⟨by simp [Zp, PV.cells], by omega⟩, Zb e17 (.still rfl) rfl, ⟨by simp [Zp, PV.cells], by omega⟩, ?_⟩; have hm0 : Z1c (allS N : Int) (.bool true) [] = mapV [allS N] := Z1u (y := allS N) (K := []) (by simp); rw [hm0]; exact AWp.weak (by simp [go_sem, auB]) hk
  refine AWp.fullP 7 rfl ?_; simp -implicitDefEqProofs only [go_sem]; refine AWp.seq (Wd [] ?_); simp -implicitDefEqProofs only [go_sem]; refine AWp.adopt 9 53 1 rfl (by simp) ?_; simp -implicitDefEqProofs only [auB, go_sem]; refine AWp.seq (AWp.seq (Wd [] ?_)); simp -implicitDefEqProofs only [go_sem]; refine AWp.block ?_
  refine AWp.loopJ (fun k : Nat => ⟨mkF 55 [(1, .ptr 0 0), (7, .p (slI (nI (layS N q k).2.1))), (8, .map 1), (9, .own 2 (layS N q k).1.length), (32, .ptr 3 0)], [auB q N, .mpi (mapV (layS N q k).2.2), .row 53 1 (layV (layS N q k).1) .lax, .sit (wd w) k]⟩)
    (fun k => k ≤ w.length) (fun k => w.length - k) 0
    (fun z => by simp [Z1z, mkF, AV.blw, AV.blw.blwL, blwH, AObj.blw, auB]) (by simp [go_sem, auB, layS, slI, nI, layV, Z3u]) (Nat.zero_le _) ?_
  intro k hk; have I := Z59 N q k; have hsucc : layS N q (k + 1) = ((layS N q k).1 ++ [(layS N q k).2.1], Z25 (lfs N q (layS N q k).2.1 (layS N q k).2.2), (layS N q k).2.2 ++ lfs N q (layS N q k).2.1 (layS N q k).2.2) := rfl; have hnow := I.now A; have hnl := I.now_le A; have hlen := I.len; have hnd := I.nodup; by_cases hlt : k < w.length
  rotate_left
  · have hkw : k = w.length := by omega
    subst hkw; clear hsucc hnow hnl hnd; generalize layS N q w.length = z at *; obtain ⟨out, now, K⟩ := z; simp only at *; simp -implicitDefEqProofs only [auB, go_sem]; refine Wd [] ?_; simp -implicitDefEqProofs only [hwl, Nat.lt_irrefl, go_sem]; refine Wd [] ?_; simp -implicitDefEqProofs only [go_sem]
  generalize layS N q k = z at *; obtain ⟨out, now, K⟩ := z; simp only at *; have hlt' : k < (wd w).length := by omega
  have hch : ((wd w).getD k 0).toNat < 128 := by
    have : (wd w).getD k 0 = ltB w[k] := by unfold wd; rw [List.getD_eq_getElem?_getD, List.getElem?_map, List.getElem?_eq_getElem hlt]; rfl
    rw [this]; have hq8 := A.q8; exact Zi9 _ (by have := hwq w[k] (List.getElem_mem hlt); omega)
  refine AWp.seq (Wd [] ?_); simp -implicitDefEqProofs only [auB, hlt', hch, go_sem]; refine AWp.seq (Wd [] ?_); simp -implicitDefEqProofs only [go_sem]; refine AWp.block ?_; refine AWp.seq (Wd [] ?_); simp -implicitDefEqProofs only [go_sem]; have hone : Z8n [slI (nI now)] := fun z hz c hc => by
    rw [List.mem_singleton.1 hz] at hc; simp only [slI, PV.cells, List.mem_cons, List.not_mem_nil, or_false] at hc; rw [hc]; rfl
  refine ⟨⟨by simp [Zp, PV.cells, slI], by omega⟩, ⟨by simp [Zp, PV.cells, slI], hone⟩, ⟨.inl (by omega), by omega, by omega⟩, ?_⟩; refine AWp.seq (Wd [] ?_); simp -implicitDefEqProofs only [go_sem]; refine AWp.adoptBox 4 3 1 rfl (by simp [PV.cells]) ?_; simp -implicitDefEqProofs only [List.set_cons_zero, List.set_cons_succ, List.cons_append, List.nil_append, go_sem]; refine AWp.seq (AWp.seq (Wd [] ?_)); simp -implicitDefEqProofs only [slI, List.length_map, Z1i, go_sem]; refine AWp.block ?_; have hO : layV out ++ [.sl ((nI now).map (.int .i64))] = layV (out ++ [now]) := by simp [layV, slI]
  have hF : ∀ j, (lfs N q (now.take j) K).length ≤ 4096 := fun j => by
    have h1 := (List.nodup_append.1 (Z45 (N := N) (q := q) (l := now.take j) hnd)).2.1; have h2 := Z2p h1 (n := 2 ^ N.length) fun y hy => by
      obtain ⟨x, _, a, ha, rfl⟩ := Z79 hy; exact Z87 A ha
    omega
  have hl0 : lfs N q (now.take 0) K = [] := by simp [lfs]
  rw [hO]
  refine AWp.loopJ (fun z : Nat × RK => ⟨mkF 55 [(1, .ptr 0 0), (8, .map 1), (9, .own 2 (out.length + 1)), (10, .ptr 4 0), (32, .ptr 3 0), (39, .p (slI (nI now))), (40, .p (.int .i64 now.length)), (41, .p (.int .i64 z.1))], hpL q N (K ++ lfs N q (now.take z.1) K) (layV (out ++ [now])) .own (wd w) (k + 1) (lfs N q (now.take z.1) K) z.2 []⟩)
    (fun z => z.1 ≤ now.length ∧ (lfs N q (now.take z.1) K = [] ∧ z.2 = .lax ∨ z.2 = .own)) (fun z => now.length - z.1) (0, .lax)
    (fun z => by simp [Z1z, mkF, AV.blw, AV.blw.blwL, blwH, AObj.blw, auB, hpL]) (by simp [go_sem, auB, hpL, slI, nI, lfs]) ⟨Nat.zero_le _, .inl ⟨hl0, rfl⟩⟩ ?_
  rintro ⟨j, rk⟩ ⟨hj, hrk⟩; simp only at hj hrk; by_cases hjl : j < now.length
  rotate_left
  · have hjn : j = now.length := by omega
    subst hjn; rw [List.take_length] at hrk ⊢; unfold hpL; simp -implicitDefEqProofs only [auB, go_sem]; refine Wd [] ?_; simp -implicitDefEqProofs only [Int.lt_irrefl, go_sem]; have hFn := hF now.length; rw [List.take_length] at hFn; obtain ⟨F, hFe⟩ : ∃ F, F = lfs N q now K := ⟨_, rfl⟩; rw [← hFe] at hrk hFn hsucc ⊢; rcases hrk with ⟨h0, rfl⟩ | rfl
    · have hs0 : Z25 F = [] := by rw [h0]; simp [Z25]
      rw [hs0] at hsucc; rw [h0]; refine AWp.seq (Wd [] ?_); simp -implicitDefEqProofs only [nI, List.map_nil, List.length_nil, go_sem]; refine Zu c20n (by simp) ?_; rintro v h' ⟨rfl, rfl⟩; simp -implicitDefEqProofs only [Zc, List.foldl, go_sem]; refine AWp.freeze 5 rfl ?_; simp -implicitDefEqProofs only [Z0c, AV.thaw, AObj.thaw, AV.thaw.thawL, List.map_cons, List.map_nil, List.set_cons_zero, List.set_cons_succ, Nat.reduceEqDiff, ↓reduceIte, go_sem]; refine Wd [] ?_; simp -implicitDefEqProofs only [go_sem]; rw [h0] at hsucc; exact ⟨k + 1, ⟨⟨by rw [hsucc]; rfl, by rw [hsucc]; simp⟩, by rw [hsucc], .inr (.inl (by rw [hsucc])), rfl⟩, hlt, by omega⟩
    · have e20 := fun (h : List AObj) hb => c20i (h := h) (b := 5) (nI F) hb (by rw [Z1i]; omega)
      rw [Z1i, Zba] at e20; refine AWp.seq (Wd [] ?_); simp -implicitDefEqProofs only [go_sem]; refine Zu (e20 _ rfl) (by simp) ?_; rintro v h' ⟨rfl, rfl⟩; simp -implicitDefEqProofs only [Zc, List.foldl, go_sem]; refine AWp.freeze 5 rfl ?_; simp -implicitDefEqProofs only [Z0c, AV.thaw, AObj.thaw, AV.thaw.thawL, List.map_cons, List.map_nil, List.set_cons_zero, List.set_cons_succ, Nat.reduceEqDiff, ↓reduceIte, go_sem]; refine Wd [] ?_; simp -implicitDefEqProofs only [go_sem]; exact ⟨k + 1, ⟨⟨by rw [hsucc], by rw [hsucc]; simp⟩, by rw [hsucc], .inr (.inl (by rw [hsucc])), rfl⟩, hlt, by omega⟩
  have hjl' : (j : Int) < now.length := by omega
  have hxm : now[j] ∈ now := List.getElem_mem hjl; have hgd : ((nI now).map (PV.int .i64)).getD j default = .int .i64 ((now[j] : Nat) : Int) := by
    rw [List.getD_eq_getElem?_getD, List.getElem?_map]; unfold nI; rw [List.getElem?_map, List.getElem?_eq_getElem hjl]; rfl
  obtain ⟨F, hFe⟩ : ∃ F, F = lfs N q (now.take j) K := ⟨_, rfl⟩; have hFl : F.length ≤ 4096 := by rw [hFe]; exact hF j
  rw [← hFe] at hrk ⊢; have e18 := c18L A (K ++ F) (layV (out ++ [now])) .own (wd w) (k + 1) F (x := now[j]) rk (hnow _ hxm).2 (by rcases hrk with ⟨_, h⟩ | h <;> rw [h] <;> simp) (by omega); have hsn : lfs N q (now.take (j + 1)) K = F ++ frk N now[j] (List.range q) (K ++ F) := by
    rw [List.take_succ_eq_append_getElem hjl, Z84, ← hFe]; rfl
  unfold hpL auB at e18; unfold hpL; simp -implicitDefEqProofs only [auB, go_sem]; refine Wd [] ?_; simp -implicitDefEqProofs only [hjl', slI, hgd, go_sem]; refine ⟨by rw [Z1i]; exact hjl, ?_⟩; refine Zu e18 (by simp) ?_; rintro v h' ⟨rfl, rk', hrk', rfl⟩; simp -implicitDefEqProofs only [Zc, List.foldl, go_sem]; refine ⟨by simp only [InR]; omega, (j + 1, rk'), ⟨by simp, by simp [auB], by simp only; rw [hsn, List.append_assoc], by simp only; rw [hsn], .inl ⟨by simp only; rw [hsn], rfl⟩⟩, ⟨hjl, ?_⟩, by simp only; omega⟩; simp only; rw [hsn]; rcases hrk' with ⟨h1, h2⟩ | h2
  · rw [h1, h2]; exact hrk
  · exact .inr h2

theorem Zi8 {s : Nat} {x : List Nat} : (s : Int) ∈ nI x ↔ s ∈ x := by
  unfold nI; rw [List.mem_map]
  exact ⟨fun ⟨a, h1, h2⟩ => by have : a = s := by omega
                               rwa [← this], fun h => ⟨s, h, rfl⟩⟩

theorem c23n {q : Nat} {N : List (List Int)} : PFn Tryd.prog 23 [auV q N, .sl []] [.bool true] := by
  have hz : ¬ (0 : Int) < ((0 : Nat) : Int) := by omega
  refine PFn.of_body hΓ Tryd.func23 (by kernel_rfl) rfl (AWp.seq (Wd [] ?_)); simp -implicitDefEqProofs only [Tryd.ntmps23, Tryd.results23, Nat.reduceAdd, Nat.reduceSub, auV, go_sem]; refine AWp.seq (Wd [(1, 13)] ?_); simp -implicitDefEqProofs only [List.length_nil, hz, go_sem]; refine AWp.seq (Wd [] ?_); simp -implicitDefEqProofs only [go_sem]; refine AWp.seq (AWp.seq (Wd [] ?_)); simp -implicitDefEqProofs only [List.length_nil, go_sem]; refine AWp.block ?_; refine AWp.loopI (fun _ : Nat => ⟨mkF 107 [(29, .p (.int .i64 (0 : Nat))), (30, .p (.int .i64 0))], [auB q N, .mp []]⟩) (fun _ => True) (fun n => n) 0 (by simp [go_sem, auB]) trivial ?_; intro n _; simp -implicitDefEqProofs only [auB, go_sem]; refine Wd [] ?_; simp -implicitDefEqProofs only [hz, go_sem]; refine Wd [] ?_; simp -implicitDefEqProofs only [go_sem]

theorem c23s {q : Nat} {N : List (List Int)} (A : AutOK q N) {x0 : List Nat} {L : List (List Nat)} (hL : Zey N q (x0 :: L)) (hl : (x0 :: L).length ≤ 4096) : PFn Tryd.prog 23 [auV q N, .sl (layV (x0 :: L))] [.bool true] := by
  have hp := A.pow; have hq8 := A.q8; have e17 : PFn Tryd.prog 17 [auV q N] [.int .i64 (allS N : Nat)] := c17 A; have h0 : x0 = [allS N] := hL.head x0 rfl; have e36 := p36 [(allS N : Int)] [(allS N : Int)] (by simp); rw [decide_eq_true rfl] at e36; unfold slI at e36; unfold auV at e17; have hx0 : nI x0 = [(allS N : Int)] := by rw [h0]; rfl
  have hLv : layV (x0 :: L) = .sl [.int .i64 (allS N : Nat)] :: layV L := by
    have : layV (x0 :: L) = slI (nI x0) :: layV L := rfl; rw [this, hx0]; rfl
  have hpos : (0 : Int) < (((layV L).length + 1 : Nat) : Int) := by omega
  refine PFn.of_body hΓ Tryd.func23 (by kernel_rfl) rfl (AWp.seq (Wd [] ?_)); simp -implicitDefEqProofs only [Tryd.ntmps23, Tryd.results23, Nat.reduceAdd, Nat.reduceSub, auV, go_sem]; refine AWp.seq (Wd [(1, 13)] ?_); simp -implicitDefEqProofs only [hLv, List.length_cons, hpos, List.getD_cons_zero, Int.toNat_zero, PV.cells, List.length_nil, go_sem]; refine Zb e17 (.still rfl) ?_; simp -implicitDefEqProofs only [go_sem]; refine ⟨⟨by simp [Zp, PV.cells], by omega⟩, ?_⟩; refine Zb e36 (.pures rfl) ?_; simp -implicitDefEqProofs only [Bool.not_true, go_sem]; refine AWp.seq (Wd [] ?_); simp -implicitDefEqProofs only [go_sem]; refine AWp.mpi0 1 rfl ?_; simp -implicitDefEqProofs only [List.set_cons_zero, List.set_cons_succ, go_sem]; refine AWp.seq (AWp.seq (Wd [] ?_)); simp -implicitDefEqProofs only [List.length_cons, go_sem]; refine AWp.block ?_; have hLn : (layV L).length + 1 = (x0 :: L).length := by simp [layV]
  rw [← hLv, hLn]; clear hLv hLn hpos hx0 h0 e36; generalize x0 :: L = LL at *; have hlenx : ∀ x ∈ LL, x.length ≤ 4096 := fun x hx => by
    have h1 : x.Nodup := (hL.asc x hx).imp fun h => Nat.ne_of_lt h
    have h2 := Z2p h1 (n := 2 ^ N.length) fun s hs => (hL.good x hx s hs).2.1
    omega
  have hlv : ∀ k (hk : k < LL.length), (layV LL).getD k default = .sl ((nI LL[k]).map (.int .i64)) := fun k hk => by
    rw [List.getD_eq_getElem?_getD]; unfold layV; rw [List.getElem?_map, List.getElem?_eq_getElem hk]; rfl
  have hll : (layV LL).length = LL.length := by simp [layV]
  refine AWp.loopI (fun k : Nat => ⟨mkF 107 [(1, .p (.sl (layV LL))), (2, .ptr 0 0), (5, .map 1), (28, .p (.sl (layV LL))), (29, .p (.int .i64 LL.length)), (30, .p (.int .i64 k))], [auB q N, .mpi (mapV (LL.take k).flatten)]⟩)
    (fun k => k ≤ LL.length) (fun k => LL.length - k) 0 (by simp [go_sem, auB, mapV]) (Nat.zero_le _) ?_
  intro k hk; by_cases hkl : k < LL.length
  rotate_left
  · have hz : ¬ (k : Int) < LL.length := by omega
    simp -implicitDefEqProofs only [auB, go_sem]; refine Wd [] ?_; simp -implicitDefEqProofs only [hz, go_sem]; refine Wd [] ?_; simp -implicitDefEqProofs only [go_sem]
  have hkl' : (k : Int) < LL.length := by omega
  obtain ⟨x, hx⟩ : ∃ x, x = LL[k] := ⟨_, rfl⟩; have hxm : x ∈ LL := hx ▸ List.getElem_mem hkl; have hxk : LL[k]? = some x := by rw [List.getElem?_eq_getElem hkl, hx]
  have hxl := hlenx x hxm; have hgk := hlv k hkl; rw [← hx] at hgk; have hlx : ∀ i (hi : i < x.length), ((nI x).map (PV.int .i64)).getD i default = .int .i64 (x[i] : Nat) := fun i hi => by
    rw [List.getD_eq_getElem?_getD, List.getElem?_map]; unfold nI; rw [List.getElem?_map, List.getElem?_eq_getElem hi]; rfl
  refine AWp.seq (Wd [] ?_); simp -implicitDefEqProofs only [auB, hkl', go_sem]; refine AWp.seq (Wd [] ?_); simp -implicitDefEqProofs only [go_sem]; refine AWp.seq (AWp.block (AWp.seq (Wd [] ?_))); simp -implicitDefEqProofs only [hll, hgk, Int.toNat_natCast, go_sem]; refine ⟨hkl, ?_⟩; refine AWp.seq (AWp.seq (Wd [] ?_)); simp -implicitDefEqProofs only [List.length_map, Z1i, go_sem]; refine AWp.block ?_
  refine AWp.loopI (fun i : Nat => ⟨mkF 107 [(1, .p (.sl (layV LL))), (2, .ptr 0 0), (5, .map 1), (6, .p (.int .i64 k)), (7, .p (.sl ((nI x).map (.int .i64)))), (28, .p (.sl (layV LL))), (29, .p (.int .i64 LL.length)), (30, .p (.int .i64 k)), (35, .p (.sl ((nI x).map (.int .i64)))), (36, .p (.int .i64 x.length)), (37, .p (.int .i64 i))], [auB q N, .mpi (mapV ((LL.take k).flatten ++ x.take i))]⟩)
    (fun i => i ≤ x.length) (fun i => x.length - i) 0 (by simp [go_sem, auB]) (Nat.zero_le _) ?_
  intro i hi; by_cases hil : i < x.length
  · have hil' : (i : Int) < x.length := by omega
    obtain ⟨s, hs⟩ : ∃ s, s = x[i] := ⟨_, rfl⟩; have hsm : s ∈ x := hs ▸ List.getElem_mem hil; obtain ⟨g1, g2, g3⟩ := hL.good x hxm s hsm; have e21 := c21 s (by omega); rw [g3] at e21; have k1 : ¬ (s : Int) < 1 := by omega
    have k2 : ¬ ((allS N : Nat) : Int) < (s : Int) := by unfold allS; omega
    have hgi := hlx i hil; rw [← hs] at hgi; have hnin : s ∉ (LL.take k).flatten ++ x.take i := by
      have hnd := hL.nodup; have e : LL = LL.take k ++ (x :: LL.drop (k + 1)) := by
        conv => lhs; rw [← List.take_append_drop k LL, List.drop_eq_getElem_cons hkl, ← hx]
      rw [e, List.flatten_append, List.flatten_cons] at hnd; have e2 : x = x.take i ++ (s :: x.drop (i + 1)) := by
        conv => lhs; rw [← List.take_append_drop i x, List.drop_eq_getElem_cons hil, ← hs]
      intro hmem; obtain ⟨n1, n2, n3⟩ := List.nodup_append.1 hnd; rcases List.mem_append.1 hmem with hm | hm
      · exact n3 s hm s (List.mem_append_left _ hsm) rfl
      · have n4 := (List.nodup_append.1 n2).1
        rw [e2] at n4; exact (List.nodup_append.1 n4).2.2 s hm s (by simp) rfl
    have htk : x.take (i + 1) = x.take i ++ [s] := by rw [List.take_succ_eq_append_getElem hil, ← hs]
    have hns : mapV ((LL.take k).flatten ++ x.take i ++ [s]) = mapV ((LL.take k).flatten ++ x.take (i + 1)) := by rw [htk, List.append_assoc]
    cases i with
    | zero =>
      have hz : ¬ (0 : Int) < ((0 : Nat) : Int) := by omega
      simp -implicitDefEqProofs only [auB, go_sem]; refine Wd [] ?_; simp -implicitDefEqProofs only [hil', hgi, Int.toNat_natCast, k1, go_sem]; refine ⟨by rw [Z1i]; exact hil, ?_⟩; refine Z0 e17 (.still rfl) ?_; simp -implicitDefEqProofs only [k2, go_sem]; refine Z0 e21 (.pures rfl) ?_; simp -implicitDefEqProofs only [hz, go_sem]; refine ⟨by simp only [InR]; omega, 1, ⟨by simp, by simp [auB], ?_⟩, by omega, by omega⟩; rw [← hns]; exact congrArg _ (Z1u hnin).symm
    | succ i =>
      have hpos : (0 : Int) < ((i + 1 : Nat) : Int) := by omega
      have hsub : ((i + 1 : Nat) : Int) - 1 = (i : Int) := by omega
      have hgp := hlx i (by omega); have hlt : x[i] < s := by
        rw [hs]; exact List.pairwise_iff_getElem.1 (hL.asc x hxm) i (i + 1) (by omega) hil (by omega)
      have k3 : ¬ (s : Int) ≤ ((x[i] : Nat) : Int) := by omega
      simp -implicitDefEqProofs only [auB, go_sem]; refine Wd [] ?_; simp -implicitDefEqProofs only [hil', hgi, Int.toNat_natCast, k1, go_sem]; refine ⟨by rw [Z1i]; exact hil, ?_⟩; refine Z0 e17 (.still rfl) ?_; simp -implicitDefEqProofs only [k2, go_sem]; refine Z0 e21 (.pures rfl) ?_; simp -implicitDefEqProofs only [hpos, hsub, hgp, Int.toNat_natCast, k3, go_sem]; refine ⟨by simp only [InR]; omega, by rw [Z1i]; omega, by simp only [InR]; omega, i + 1 + 1, ⟨by simp, by simp [auB], ?_⟩, by omega, by omega⟩; rw [← hns]; exact congrArg _ (Z1u hnin).symm
  have hz : ¬ (i : Int) < x.length := by omega
  have hix : x.take i = x := List.take_of_length_le (by omega); have hsx : (LL.take k).flatten ++ x = (LL.take (k + 1)).flatten := by
    rw [List.take_succ_eq_append_getElem hkl, ← hx]; simp
  rw [hix, hsx]; simp -implicitDefEqProofs only [auB, go_sem]; refine Wd [] ?_; simp -implicitDefEqProofs only [hz, go_sem]; by_cases hlast : k + 1 = LL.length
  · have hd : decide ((k : Int) = (LL.length : Int) - 1) = true := decide_eq_true (by omega)
    refine AWp.seq (Wd [] ?_); simp -implicitDefEqProofs only [hll, hd, go_sem]; refine ⟨by simp only [InR]; omega, ?_⟩; refine Wd [] ?_; simp -implicitDefEqProofs only [go_sem]
  have hne : ¬ (k : Int) = (LL.length : Int) - 1 := by omega
  have hk1 : k + 1 < LL.length := by omega
  obtain ⟨y, hy⟩ : ∃ y, y = LL[k + 1] := ⟨_, rfl⟩; have hym : y ∈ LL := hy ▸ List.getElem_mem hk1; have hyk : LL[k + 1]? = some y := by rw [List.getElem?_eq_getElem hk1, hy]
  have hyl := hlenx y hym; have hgk1 := hlv (k + 1) hk1; rw [← hy] at hgk1; have hst := hL.step k x y hxk hyk; obtain ⟨S, hS⟩ : ∃ S, S = (LL.take (k + 1)).flatten := ⟨_, rfl⟩; rw [← hS] at hst ⊢; refine AWp.seq (Wd [] ?_); simp -implicitDefEqProofs only [hll, hne, go_sem]; refine ⟨by simp only [InR]; omega, ?_⟩; refine AWp.seq (Wd [] ?_); simp -implicitDefEqProofs only [List.length_map, Z1i, go_sem]; refine AWp.block ?_
  refine AWp.loopI (fun j : Nat => ⟨mkF 107 [(1, .p (.sl (layV LL))), (2, .ptr 0 0), (5, .map 1), (6, .p (.int .i64 k)), (7, .p (.sl ((nI x).map (.int .i64)))), (28, .p (.sl (layV LL))), (29, .p (.int .i64 LL.length)), (30, .p (.int .i64 k)), (75, .p (.sl ((nI x).map (.int .i64)))), (76, .p (.int .i64 x.length)), (77, .p (.int .i64 j))], [auB q N, .mpi (mapV S)]⟩)
    (fun j => j ≤ x.length) (fun j => x.length - j) 0 (by simp [go_sem, auB]) (Nat.zero_le _) ?_
  intro j hj; by_cases hjl : j < x.length
  rotate_left
  · have hz : ¬ (j : Int) < x.length := by omega
    simp -implicitDefEqProofs only [auB, go_sem]; refine Wd [] ?_; simp -implicitDefEqProofs only [hz, go_sem]; refine Wd [] ?_; simp -implicitDefEqProofs only [go_sem]; exact ⟨by simp only [InR]; omega, k + 1, ⟨by simp, by rw [hS]⟩, by omega, by omega⟩
  have hjl' : (j : Int) < x.length := by omega
  obtain ⟨s, hs⟩ : ∃ s, s = x[j] := ⟨_, rfl⟩; have hsm : s ∈ x := hs ▸ List.getElem_mem hjl; obtain ⟨g1, g2, g3⟩ := hL.good x hxm s hsm; have hgj := hlx j hjl; rw [← hs] at hgj; refine AWp.seq (Wd [] ?_); simp -implicitDefEqProofs only [auB, hjl', go_sem]; refine AWp.seq (Wd [] ?_); simp -implicitDefEqProofs only [go_sem]; refine AWp.seq (AWp.block (AWp.seq (Wd [] ?_))); simp -implicitDefEqProofs only [hgj, Int.toNat_natCast, go_sem]; refine ⟨by rw [Z1i]; exact hjl, ?_⟩; refine AWp.seq (Wd [] ?_); simp -implicitDefEqProofs only [go_sem]; refine AWp.block ?_
  refine AWp.loopI (fun a : Nat => ⟨mkF 107 [(1, .p (.sl (layV LL))), (2, .ptr 0 0), (5, .map 1), (6, .p (.int .i64 k)), (7, .p (.sl ((nI x).map (.int .i64)))), (11, .p (.int .i64 s)), (28, .p (.sl (layV LL))), (29, .p (.int .i64 LL.length)), (30, .p (.int .i64 k)), (75, .p (.sl ((nI x).map (.int .i64)))), (76, .p (.int .i64 x.length)), (77, .p (.int .i64 j)), (82, .p (.int .i64 q)), (83, .p (.int .i64 a))], [auB q N, .mpi (mapV S)]⟩)
    (fun a => a ≤ q) (fun a => q - a) 0 (by simp [go_sem, auB]) (Nat.zero_le _) ?_
  intro a ha; by_cases haq : a < q
  rotate_left
  · have hz : ¬ (a : Int) < q := by omega
    simp -implicitDefEqProofs only [auB, go_sem]; refine Wd [] ?_; simp -implicitDefEqProofs only [hz, go_sem]; refine Wd [] ?_; simp -implicitDefEqProofs only [go_sem]; exact ⟨by simp only [InR]; omega, j + 1, by simp, by omega, by omega⟩
  have haq' : (a : Int) < q := by omega
  have e34 := c34 A g2 haq; unfold auV at e34; have hst' := hst s hsm a haq; generalize img N s a = t at e34 hst'; have e51 := p51 (nI y) (t : Int) (by rw [Z1i]; omega); unfold slI at e51; have hk1e : ((k : Int) + 1).toNat = k + 1 := by omega
  have hk1l : (k : Int) + 1 < LL.length := by omega
  simp -implicitDefEqProofs only [auB, go_sem]; refine Wd [] ?_; simp -implicitDefEqProofs only [haq', go_sem]; refine Z0 e34 (.still rfl) ?_; by_cases hin : t ∈ S
  · simp -implicitDefEqProofs only [Z1v, hin, decide_true, Bool.not_true, go_sem]
    exact ⟨by simp only [InR]; omega, a + 1, ⟨by simp, by simp [auB]⟩, by omega, by omega⟩
  · have hiy : t ∈ y := hst'.resolve_left hin
    rw [decide_eq_true (Zi8.2 hiy)] at e51; simp -implicitDefEqProofs only [Z1v, hin, decide_false, Bool.not_false, hll, hk1e, hgk1, go_sem]; refine ⟨by simp only [InR]; omega, ⟨by omega, by omega⟩, ?_⟩; refine Z0 e51 (.pures rfl) ?_; simp -implicitDefEqProofs only [Bool.not_true, go_sem]; exact ⟨by simp only [InR]; omega, a + 1, ⟨by simp, by simp [auB]⟩, by omega, by omega⟩

theorem c23 {q : Nat} {N : List (List Int)} (A : AutOK q N) {L : List (List Nat)} (hL : Zey N q L) (hl : L.length ≤ 4096) : PFn Tryd.prog 23 [auV q N, .sl (layV L)] [.bool true] := by
  cases L with
  | nil => exact c23n
  | cons x0 L => exact c23s A hL hl

theorem c10 {q : Nat} {N : List (List Int)} (A : AutOK q N) {w : List Nat} (hG : sr N q (allS N) = some w) : PFn Tryd.prog 10 [auV q N, .sl (layV (layS N q w.length).1), .str (wd w)] [.int .i64 0] := by
  obtain ⟨h1, h2, h3, h4⟩ := Z2y A Z04 (Z0t A) hG; obtain ⟨k1, k2⟩ := Zcm A hG; have e11 := c11 A h1 (by omega) h2; have e23 := c23 A k1 (by omega); have hwl : (wd w).length = w.length := by unfold wd; rw [List.length_map]
  have hll : (layV (layS N q w.length).1).length = w.length := (List.length_map _).trans k2; generalize (layS N q w.length).1 = L at *; unfold auV at e11 e23; refine PFn.of_body hΓ Tryd.func10 (by kernel_rfl) rfl (Wd [] ?_); simp -implicitDefEqProofs only [Tryd.ntmps10, Tryd.results10, Nat.reduceAdd, Nat.reduceSub, auV, go_sem]; refine Z0 e11 (.still rfl) ?_; simp -implicitDefEqProofs only [hwl, hll, go_sem]; refine Z0 e23 (.still rfl) ?_; simp -implicitDefEqProofs only [Bool.not_true, go_sem]

theorem Z9h {q : Int} {ws : List (List UInt8)} (hv : Valid q ws) : 0 < (Z12 ws).length := by
  have h0 := hv.pos; have h1 := hv.ne 0 h0; rw [List.getD_eq_getElem?_getD, List.getElem?_eq_getElem h0, Option.getD_some] at h1; exact List.length_pos_of_mem (Z69.2 ⟨ws[0], List.getElem_mem h0, List.nil_prefix, List.length_pos_iff.2 h1⟩)
theorem Zju {q : Int} {ws : List (List UInt8)} (hv : Valid q ws) (hh : Z4l q ws = false) (hq8 : q ≤ 8) (hl : (nxP q ws).length ≤ 12) : AutOK q.toNat (nxP q ws) := by
  have hpos := Z9h hv; have hq2 := hv.q2; have hlen : (nxP q ws).length = (Z12 ws).length := by simp [nxP]
  refine { q1 := by omega, q8 := by omega, n1 := by omega, n12 := hl, rows := (Z9p hv).2, ents := fun r hr t ht => ?_ }; have h1 := Zi2 r hr t ht; have h2 : t ≠ -1 := fun e => by
    have h3 : Z4l q ws = true := List.any_eq_true.2 ⟨r, hr, decide_eq_true (e ▸ ht)⟩; rw [h3] at hh; cases hh
  refine ⟨by omega, ?_⟩; obtain ⟨y, _, rfl⟩ := List.mem_map.1 hr; unfold nxL at ht; obtain ⟨a, _, rfl⟩ := List.mem_map.1 ht; rw [hlen]; unfold Z32
  split
  · omega
  · rcases Zih (Z12 ws) (Z08 y a) with h | h
    · exact h
    · omega

def mOK (q : Int) (ws : List (List UInt8)) : Prop := (Z2s ws || ws.any Z0k) = false ∧ q ≤ 8 ∧ aE q ws = 0 ∧ (nxP q ws).length ≤ 12
theorem Z5o {q : Int} {ws : List (List UInt8)} (h : aE q ws = 0) : Z4 q ws = 0 ∧ preB ws = true ∧ Z4l q ws = false := by
  unfold aE at h
  split at h
  · rename_i h1
    refine ⟨h1.1, h1.2, ?_⟩
    cases hh : Z4l q ws with
    | false => rfl
    | true => rw [hh] at h; simp at h
  · rename_i h1
    unfold pE at h
    split at h
    · rename_i h2
      split at h
      · rename_i h3; exact absurd ⟨h2, h3⟩ h1
      · omega
    · omega

theorem c4f {q : Int} {ws : List (List UInt8)} (hl : ws.length ≤ 9223372036854775807) (h : ¬ mOK q ws) : PFn Tryd.prog 4 [Zv q ws] [psV 0 [] [] [], auV 0 [], .bool false] := by
  have e11 := t11 q ws hl; have e14 := p14 q ws; unfold Zv at e11 e14; by_cases hg : (Z2s ws || ws.any Z0k) = true
  · rw [hg] at e11
    refine PFn.of_body hΓ Tryd.func4 (by kernel_rfl) rfl (AWp.seq (Wd [] ?_)); simp -implicitDefEqProofs only [Tryd.ntmps4, Tryd.results4, Nat.reduceAdd, Nat.reduceSub, Zv, go_sem]; refine AWp.seq (Wd [] ?_); simp -implicitDefEqProofs only [go_sem]; refine Z0 e11 (.still rfl) ?_; simp -implicitDefEqProofs only [psV, auV, List.map_nil, go_sem]
  have hg' : (Z2s ws || ws.any Z0k) = false := by simpa using hg
  rw [hg'] at e11; by_cases hq : 8 < q
  · refine PFn.of_body hΓ Tryd.func4 (by kernel_rfl) rfl (AWp.seq (Wd [] ?_))
    simp -implicitDefEqProofs only [Tryd.ntmps4, Tryd.results4, Nat.reduceAdd, Nat.reduceSub, Zv, go_sem]; refine AWp.seq (Wd [] ?_); simp -implicitDefEqProofs only [go_sem]; refine Z0 e11 (.still rfl) ?_; simp -implicitDefEqProofs only [psV, auV, List.map_nil, hq, go_sem]
  by_cases hE : aE q ws = 0
  · have hn : ¬ (nxP q ws).length ≤ 12 := fun hn => h ⟨hg', by omega, hE, hn⟩
    have hn' : (12 : Int) < ((nxP q ws).length : Nat) := by omega
    have hR : aR q ws = auV q (nxP q ws) := by unfold aR; rw [if_pos (Z5o hE)]
    rw [hE, hR] at e14; unfold auV at e14; refine PFn.of_body hΓ Tryd.func4 (by kernel_rfl) rfl (AWp.seq (Wd [] ?_)); simp -implicitDefEqProofs only [Tryd.ntmps4, Tryd.results4, Nat.reduceAdd, Nat.reduceSub, Zv, go_sem]; refine AWp.seq (Wd [] ?_); simp -implicitDefEqProofs only [go_sem]; refine Z0 e11 (.still rfl) ?_; simp -implicitDefEqProofs only [hq, go_sem]; refine AWp.seq (Wd [] ?_); simp -implicitDefEqProofs only [go_sem]; refine Z0 e14 (.still rfl) ?_; simp -implicitDefEqProofs only [go_sem]; refine AWp.seq (Wd [] ?_); simp -implicitDefEqProofs only [psV, auV, List.map_nil, List.length_map, hn', go_sem]
  · obtain ⟨a, b, hR⟩ : ∃ a b, aR q ws = .agg [.int .i64 a, .sl b] := by
      unfold aR
      split
      · exact ⟨_, _, rfl⟩
      · exact ⟨_, _, rfl⟩
    rw [hR] at e14; refine PFn.of_body hΓ Tryd.func4 (by kernel_rfl) rfl (AWp.seq (Wd [] ?_)); simp -implicitDefEqProofs only [Tryd.ntmps4, Tryd.results4, Nat.reduceAdd, Nat.reduceSub, Zv, go_sem]; refine AWp.seq (Wd [] ?_); simp -implicitDefEqProofs only [go_sem]; refine Z0 e11 (.still rfl) ?_; simp -implicitDefEqProofs only [hq, go_sem]; refine AWp.seq (Wd [] ?_); simp -implicitDefEqProofs only [go_sem]; refine Z0 e14 (.still rfl) ?_; simp -implicitDefEqProofs only [go_sem]; refine AWp.seq (Wd [] ?_); simp -implicitDefEqProofs only [psV, auV, List.map_nil, hE, go_sem]

theorem c4t {q : Int} {ws : List (List UInt8)} (hl : ws.length ≤ 9223372036854775807) (h : mOK q ws) : PFn Tryd.prog 4 [Zv q ws] [parV q ws, auV q (nxP q ws), .bool true] := by
  have e11 := t11 q ws hl; have e14 := p14 q ws; have e12 := p12 q ws; obtain ⟨h1, h2, h3, h4⟩ := h; obtain ⟨k1, k2, k3⟩ := Z5o h3; have hR : aR q ws = auV q (nxP q ws) := by unfold aR; rw [if_pos ⟨k1, k2, k3⟩]
  have hP : pR q ws = parV q ws := by unfold pR; rw [if_pos ⟨k1, k2⟩]
  have hE : pE q ws = 0 := by unfold pE; rw [if_pos k1, if_pos k2]
  rw [hR, h3] at e14; rw [hP, hE] at e12; rw [h1] at e11; have hq : ¬ (8 < q) := by omega
  have hn : ¬ (12 : Int) < ((nxP q ws).length : Nat) := by omega
  unfold Zv at e11 e14 e12; unfold auV at e14; unfold parV psV at e12; refine PFn.of_body hΓ Tryd.func4 (by kernel_rfl) rfl (AWp.seq (Wd [] ?_)); simp -implicitDefEqProofs only [Tryd.ntmps4, Tryd.results4, Nat.reduceAdd, Nat.reduceSub, Zv, go_sem]; refine AWp.seq (Wd [] ?_); simp -implicitDefEqProofs only [go_sem]; refine Z0 e11 (.still rfl) ?_; simp -implicitDefEqProofs only [hq, go_sem]; refine AWp.seq (Wd [] ?_); simp -implicitDefEqProofs only [go_sem]; refine Z0 e14 (.still rfl) ?_; simp -implicitDefEqProofs only [go_sem]; refine AWp.seq (Wd [] ?_); simp -implicitDefEqProofs only [List.length_map, hn, go_sem]; refine AWp.seq (Wd [] ?_); simp -implicitDefEqProofs only [go_sem]; refine Z0 e12 (.still rfl) ?_; simp -implicitDefEqProofs only [go_sem]; refine AWp.seq ?_; refine AWp.planL (.q 0 (.q 1 (.q 2 (.q 3 (.e 4 (.s 1 (.s 2 (.s 3 (.e 5 (.s 2 (.s 3 (.q 6 .fin))) .nil)))) .nil))))) hΓ hmix (by kernel_rfl) ?_; simp -implicitDefEqProofs only [go_sem]; refine Wd [] ?_; simp -implicitDefEqProofs only [parV, psV, auV, go_sem]

/-! ### The example -/
def exR : List (List UInt8) := [[48], [49, 48], [49, 49]]
theorem Z9j : Z12 exR = [[], [49]] := Ze0 (by unfold ltW; decide) fun x => by
  have : Za exR = [[], [], [49], [], [49]] := by decide
  rw [this]; simp only [List.mem_cons, List.not_mem_nil, or_false]; exact ⟨fun h => by rcases h with h | h | h | h | h <;> simp [h], fun h => by rcases h with h | h <;> simp [h]⟩
theorem Zci : nxP 2 exR = [[0, 1], [0, 0]] := by unfold nxP; rw [Z9j]; kernel_rfl
theorem Zcy : aE 2 exR = 0 := by
  have h1 : Z4 2 exR = 0 := by kernel_rfl
  have h2 : preB exR = true := by kernel_rfl
  have h3 : Z4l 2 exR = false := by unfold Z4l; rw [Zci]; decide
  unfold aE; rw [if_pos ⟨h1, h2⟩, h3]; rfl
theorem Zgu : sr [[0, 1], [0, 0]] 2 (allS [[0, 1], [0, 0]]) = some [0] := by kernel_rfl

theorem c5 : PFn Tryd.prog 5 [] [.bool true] := by
  have e14 := p14 2 exR; have hR : aR 2 exR = auV 2 (nxP 2 exR) := by unfold aR; rw [if_pos (Z5o Zcy)]
  have A : AutOK 2 [[0, 1], [0, 0]] := { q1 := by decide, q8 := by decide, n1 := by decide, n12 := by decide, rows := by decide, ents := by decide }; have e6 := c6 A; rw [Zgu] at e6; rw [hR, Zci, Zcy] at e14; have hw : wd [0] = [48] := by decide
  simp only [Option.getD_some, Option.isSome_some, hw] at e6; unfold Zv exR at e14; unfold auV at e14 e6; refine PFn.of_body hΓ Tryd.func5 (by kernel_rfl) rfl (Wd [] ?_); simp -implicitDefEqProofs only [Tryd.ntmps5, Tryd.results5, Nat.reduceAdd, Nat.reduceSub, go_sem]; refine ⟨⟨by simp [Zp, PV.cells], by omega⟩, by omega, ?_⟩; refine Z0 e14 (.still rfl) ?_; simp -implicitDefEqProofs only [go_sem]; refine Z0 e6 (.still rfl) ?_; simp -implicitDefEqProofs only [decide_true, go_sem]

theorem p3 {q : Int} {ws : List (List UInt8)} (hl : ws.length ≤ 9223372036854775807) : PFn Tryd.prog 3 [Zv q ws] [.bool true] := by
  have e5 := c5; by_cases hm : mOK q ws
  rotate_left
  · have e4 := c4f hl hm
    unfold Zv psV auV at e4; refine PFn.of_body hΓ Tryd.func3 (by kernel_rfl) rfl (Wd [] ?_); simp -implicitDefEqProofs only [Tryd.ntmps3, Tryd.results3, Nat.reduceAdd, Nat.reduceSub, Zv, go_sem]; refine Z0 e4 (.still rfl) ?_; simp -implicitDefEqProofs only [List.map_nil, Bool.not_false, go_sem]; refine Z0 e5 (.pures rfl) ?_; simp -implicitDefEqProofs only [go_sem]
  have e4 := c4t hl hm; obtain ⟨_, h2, h3, h4⟩ := hm; obtain ⟨k1, k2, k3⟩ := Z5o h3; have hv := Z3k k1; have hq2 := hv.q2; have A := Zju hv k3 h2 h4; have hqq : ((q.toNat : Nat) : Int) = q := by omega
  obtain ⟨r1, r2⟩ := Z75 A; have e6 := c6 A; have e7 := c7 A; have e9 := c9 A; rw [hqq] at e6 e7 e9; rw [r1] at e7
  cases hG : sr (nxP q ws) q.toNat (allS (nxP q ws)) with
  | none =>
    have e8 := c8n A hG; rw [hqq] at e8; rw [hG] at e6 e7 r2; simp only at r2; rw [r2] at e9; simp only [Option.getD_none, Option.isSome_none, Bool.false_eq_true, if_false] at e6 e7 e9; unfold Zv parV psV auV at e4; unfold auV at e6 e7 e8 e9; refine PFn.of_body hΓ Tryd.func3 (by kernel_rfl) rfl (Wd [] ?_); simp -implicitDefEqProofs only [Tryd.ntmps3, Tryd.results3, Nat.reduceAdd, Nat.reduceSub, Zv, go_sem]; refine Z0 e4 (.still rfl) ?_; simp -implicitDefEqProofs only [Bool.not_true, go_sem]; refine Z0 e6 (.still rfl) ?_; simp -implicitDefEqProofs only [go_sem]; refine Z0 e7 (.still rfl) ?_; simp -implicitDefEqProofs only [go_sem]; refine Z0 e8 (.still rfl) ?_; simp -implicitDefEqProofs only [go_sem]; refine Z0 e9 (.still rfl) ?_; simp -implicitDefEqProofs only [bne_self_eq_false, Bool.not_false, decide_true, go_sem]; refine Z0 e5 (.pures rfl) ?_; simp -implicitDefEqProofs only [go_sem]
  | some w =>
    have e8 := c8s A hG; have e10 := c10 A hG; obtain ⟨_, hll⟩ := Zcm A hG; obtain ⟨w1, _, w3, _⟩ := Z2y A Z04 (Z0t A) hG; rw [hqq] at e8 e10; rw [hG] at e6 e7 r2; simp only at r2; obtain ⟨o, r3, r4, r5, r6, r7⟩ := r2; have e11 := c11 A r4 (by omega) r5; rw [hqq] at e11; rw [r3] at e9; simp only [Option.getD_some, Option.isSome_some, if_true] at e6 e7 e9; have hwl : ∀ u : List Nat, (wd u).length = u.length := fun u => by unfold wd; rw [List.length_map]
    have hlv : (layV (layS (nxP q ws) q.toNat w.length).1).length = w.length := (List.length_map _).trans hll; generalize (layS (nxP q ws) q.toNat w.length).1 = L at *; have hcmp : (w.length : Int) ≤ (o.length : Int) := by omega
    unfold Zv parV psV auV at e4; unfold auV at e6 e7 e8 e9 e10 e11; refine PFn.of_body hΓ Tryd.func3 (by kernel_rfl) rfl (Wd [] ?_); simp -implicitDefEqProofs only [Tryd.ntmps3, Tryd.results3, Nat.reduceAdd, Nat.reduceSub, Zv, go_sem]; refine Z0 e4 (.still rfl) ?_; simp -implicitDefEqProofs only [Bool.not_true, go_sem]; refine Z0 e6 (.still rfl) ?_; simp -implicitDefEqProofs only [go_sem]; refine Z0 e7 (.still rfl) ?_; simp -implicitDefEqProofs only [go_sem]; refine Z0 e8 (.still rfl) ?_; simp -implicitDefEqProofs only [go_sem]; refine Z0 e9 (.still rfl) ?_; simp -implicitDefEqProofs only [bne_self_eq_false, Bool.not_true, decide_true, hlv, hwl, go_sem]; refine Z0 e10 (.still rfl) ?_; simp -implicitDefEqProofs only [hlv, hwl, hcmp, decide_true, go_sem]; refine Z0 e11 (.still rfl) ?_; simp -implicitDefEqProofs only [decide_true, go_sem]; refine Z0 e5 (.pures rfl) ?_; simp -implicitDefEqProofs only [go_sem]
end Go.Proofs.YtnilegembmcelaaDoor
end

section
namespace Go.Proofs.YtnilegembmcelaaDoor
open Go Go.AM Go.RowKit Go.ChangeShapes

theorem Z65 (os : Os) (started : os.Started) (H : Type) (enc : TypeId × Value → H) :
    ReturnsInHanded {} Tryd.checked os 3 .any (fun w args => (Rows.topResetPairsSpec.pre enc Tryd.prog Tryd.f3 Rows.topResetPairsRow.domain false w args ∧ laidMetH Tryd.prog Zbp w) ∧ sizedMet enc Tryd.prog Tryd.f3 (OpenSpec.ofChange Rows.topResetPairsSpec) false w args)
      (Rows.topResetPairsSpec.post enc Tryd.prog Tryd.f3 false true false false) := by
  refine liftL (C := Tryd.checked) (shs := [Zcu]) (tb := 4) own Ze8 started (by kernel_rfl) Tryd.func3
    (ChangeSpec.witness_shaped (enc := enc) (C := Tryd.checked) (os := os) (X := fun w _ => laidMetH Tryd.prog Zbp w) false (World.doorLaid Tryd.prog 2000 os) #[.agg #[.int .i64 0, .slice none 0 0]] 8 rfl (World.shaped_of_RefB (by kernel_rfl) (by kernel_rfl)) (by kernel_rfl) (by kernel_rfl) (by kernel_rfl) (Zbv os _))
    (fun W h => Ze7 h) (by kernel_rfl) (by kernel_rfl) (by kernel_rfl) (by kernel_rfl) rfl ?_ ?_
  · intro ds hd
    match ds, hd with
    | [d1], _ => rfl
  · intro pv h
    obtain ⟨p1, _, rfl, h1, h⟩ := h.cons; have := h.zero; subst this; obtain ⟨q, ws, rfl, _, hws, _⟩ := Zek h1; exact p3 (Nat.le_trans hws (by decide))

theorem Z40 : Rows.TopResetPairsSaid :=
  OpenClaim.holds_of_wide 3 Tryd.f3 rfl rfl rfl rfl rfl rfl rfl ⟨rfl, rfl, rfl, rfl, rfl⟩ rfl rfl rfl rfl rfl (by kernel_rfl) Tryd.func3 (by kernel_rfl)
    (of_decide_eq_true (by kernel_rfl)) (by unfold Func.isWrapper; first | (rw [if_pos (by decide +kernel)]; kernel_rfl) | (rw [if_neg (by decide +kernel)]; exact ⟨rfl, rfl⟩))
    (fun os started H enc _ => Z65 os started H enc)
#print axioms Z40
end Go.Proofs.YtnilegembmcelaaDoor
end

