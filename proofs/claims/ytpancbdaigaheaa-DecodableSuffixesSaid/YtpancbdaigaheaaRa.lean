/-
  The plain law of dangling suffixes: what can be reached, and the one sorted list of it.
-/
import Derived.Test.YtpancbdaigaheaaSs
namespace Go.Proofs.Ytpancbdaigaheaa
open Go Go.AM
set_option linter.unusedSimpArgs false

/-- What dangles. -/
inductive Reach (ws : List (List UInt8)) : List UInt8 → Prop
  | first (u : List UInt8) (h : u ∈ firstS ws) : Reach ws u
  | next (r u : List UInt8) (hr : Reach ws r) (hne : r ≠ []) (h : u ∈ nextS ws r) : Reach ws u

theorem mem_nextS {ws : List (List UInt8)} {r u : List UInt8} : u ∈ nextS ws r ↔ ∃ x ∈ ws, (x.isPrefixOf r = true ∧ u = r.drop x.length) ∨ (x.isPrefixOf r = false ∧ r.isPrefixOf x = true ∧ u = x.drop r.length) := by
  unfold nextS
  rw [List.mem_flatMap]
  constructor
  · rintro ⟨x, hx, hu⟩
    refine ⟨x, hx, ?_⟩
    unfold nextAt at hu
    split at hu
    · rename_i h; exact .inl ⟨h, by simpa using hu⟩
    · rename_i h
      split at hu
      · rename_i h2; exact .inr ⟨Bool.eq_false_iff.2 h, h2, by simpa using hu⟩
      · cases hu
  · rintro ⟨x, hx, h | h⟩
    · exact ⟨x, hx, by unfold nextAt; rw [if_pos h.1, h.2]; simp⟩
    · exact ⟨x, hx, by unfold nextAt; rw [if_neg (by simp [h.1]), if_pos h.2.1, h.2.2]; simp⟩
theorem mem_firstS {ws : List (List UInt8)} {u : List UInt8} : u ∈ firstS ws ↔ ∃ i k, i < ws.length ∧ k < ws.length ∧ i ≠ k ∧ (ws.getD k []).isPrefixOf (ws.getD i []) = true ∧ u = (ws.getD i []).drop (ws.getD k []).length := by
  unfold firstS firstN restsOf
  simp only [List.mem_flatMap, List.mem_range]
  constructor
  · rintro ⟨i, hi, k, hk, hu⟩
    unfold restAt at hu
    split at hu
    · rename_i h; exact ⟨i, k, hi, hk, h.1, h.2, by simpa using hu⟩
    · cases hu
  · rintro ⟨i, k, hi, hk, h1, h2, rfl⟩
    exact ⟨i, hi, k, hk, by unfold restAt; rw [if_pos ⟨h1, h2⟩]; simp⟩

theorem reach_suffix {ws : List (List UInt8)} {x : List UInt8} (h : Reach ws x) : ∃ w ∈ ws, x <:+ w := by
  induction h with
  | first u h =>
    obtain ⟨i, k, hi, _, _, _, rfl⟩ := mem_firstS.1 h
    refine ⟨ws.getD i [], ?_, List.drop_suffix _ _⟩
    rw [List.getD_eq_getElem?_getD, List.getElem?_eq_getElem hi, Option.getD_some]; exact List.getElem_mem hi
  | next r u hr hne h ih =>
    obtain ⟨w, hw, hs⟩ := ih
    obtain ⟨x, hx, ⟨_, rfl⟩ | ⟨_, _, rfl⟩⟩ := mem_nextS.1 h
    · exact ⟨w, hw, (List.drop_suffix _ _).trans hs⟩
    · exact ⟨x, hx, List.drop_suffix _ _⟩

/-- All ends of words. -/
def endsOf (w : List UInt8) : List (List UInt8) := (List.range (w.length + 1)).map fun k => w.drop k
def sufs (ws : List (List UInt8)) : List (List UInt8) := ws.flatMap endsOf
theorem mem_sufs {ws : List (List UInt8)} {x : List UInt8} (h : ∃ w ∈ ws, x <:+ w) : x ∈ sufs ws := by
  obtain ⟨w, hw, t, ht⟩ := h
  refine List.mem_flatMap.2 ⟨w, hw, List.mem_map.2 ⟨t.length, List.mem_range.2 (by rw [← ht]; simp; omega), by rw [← ht]; simp⟩⟩
theorem sufs_len : ∀ {ws : List (List UInt8)} {n : Nat}, (∀ w ∈ ws, w.length ≤ n) → (sufs ws).length ≤ ws.length * (n + 1)
  | [], n, _ => by simp [sufs]
  | w :: ws, n, h => by
    have := sufs_len (ws := ws) (fun w hw => h w (by simp [hw]))
    have h1 := h w (by simp)
    unfold sufs at this ⊢
    simp only [List.flatMap_cons, List.length_append, List.length_cons, endsOf, List.length_map, List.length_range, Nat.succ_mul]
    omega

/-! ### Sorted lists -/
theorem sortW_perm (l : List (List UInt8)) : (sortW l).Perm l := List.mergeSort_perm l _
theorem mem_sortW (l : List (List UInt8)) (x : List UInt8) : x ∈ sortW l ↔ x ∈ l := (sortW_perm l).mem_iff
theorem sortW_sorted (l : List (List UInt8)) : (sortW l).Pairwise fun a b => ¬ ltW b a := by
  have h := List.pairwise_mergeSort (le := fun x y => !(ltOf cmpK) y x) (fun a b c h1 h2 => by
    simp only [Bool.not_eq_true', ltOf_false] at *
    intro h
    by_cases hbc : ltW b c
    · exact h1 (by
        by_cases hab : ltW a b
        · exact absurd (ltW_trans hab (ltW_trans hbc h)) (ltW_irrefl a)
        · have := ltW_total hab h1
          subst this; exact absurd (ltW_trans hbc h) (ltW_irrefl _))
    · have := ltW_total hbc h2
      subst this; exact h1 h) (fun a b => by
    simp only [Bool.or_eq_true, Bool.not_eq_true', ltOf_false]
    by_cases hab : ltW b a
    · exact .inr (fun h => ltW_irrefl a (ltW_trans h hab))
    · exact .inl hab) l
  refine h.imp ?_
  intro a b hab
  simpa [ltOf_false] using hab
theorem sortW_nodup {l : List (List UInt8)} (h : l.Nodup) : (sortW l).Nodup := (sortW_perm l).nodup_iff.2 h
/-- Strictly ascending. -/
theorem sortW_strict {l : List (List UInt8)} (h : l.Nodup) : (sortW l).Pairwise ltW := by
  refine (sortW_sorted l).imp₂ ?_ (sortW_nodup h)
  intro a b h1 h2
  by_cases hab : ltW a b
  · exact hab
  · exact absurd (ltW_total hab h1) h2

theorem strict_unique : ∀ {l m : List (List UInt8)}, l.Pairwise ltW → m.Pairwise ltW → (∀ x, x ∈ l ↔ x ∈ m) → l = m
  | [], [], _, _, _ => rfl
  | [], b :: m, _, _, h => absurd ((h b).2 (by simp)) (by simp)
  | a :: l, [], _, _, h => absurd ((h a).1 (by simp)) (by simp)
  | a :: l, b :: m, hl, hm, h => by
    obtain ⟨ha, hl2⟩ := List.pairwise_cons.1 hl
    obtain ⟨hb, hm2⟩ := List.pairwise_cons.1 hm
    have e : a = b := by
      rcases List.mem_cons.1 ((h a).1 (by simp)) with e | e
      · exact e
      · rcases List.mem_cons.1 ((h b).2 (by simp)) with e2 | e2
        · exact e2.symm
        · exact absurd (ltW_trans (ha b e2) (hb a e)) (ltW_irrefl a)
    subst e
    refine congrArg (List.cons a) (strict_unique hl2 hm2 (fun x => ⟨fun hx => ?_, fun hx => ?_⟩))
    · rcases List.mem_cons.1 ((h x).1 (by simp [hx])) with e | e
      · subst e; exact absurd (ha x hx) (ltW_irrefl x)
      · exact e
    · rcases List.mem_cons.1 ((h x).2 (by simp [hx])) with e | e
      · subst e; exact absurd (hb x hx) (ltW_irrefl x)
      · exact e

theorem foldK_nodup : ∀ (l acc : List (List UInt8)), acc.Nodup → (l.foldl addK acc).Nodup
  | [], acc, h => h
  | a :: l, acc, h => by
    rw [List.foldl_cons]
    refine foldK_nodup l _ ?_
    unfold addK
    split
    · exact h
    · rename_i hn
      exact List.nodup_append.2 ⟨h, by simp, fun x hx y hy e => by simp only [List.mem_singleton] at hy; subst hy; subst e; exact hn hx⟩
theorem keysOf_nodup (l : List (List UInt8)) : (keysOf l).Nodup := foldK_nodup l [] List.nodup_nil

open Classical in
/-- The dangling suffixes, in order. -/
noncomputable def residL (ws : List (List UInt8)) : List (List UInt8) := sortW ((keysOf (sufs ws)).filter fun x => decide (Reach ws x))
theorem mem_residL {ws : List (List UInt8)} {x : List UInt8} : x ∈ residL ws ↔ Reach ws x := by
  unfold residL
  rw [mem_sortW, List.mem_filter, mem_keysOf]
  simp only [decide_eq_true_eq]
  exact ⟨fun h => h.2, fun h => ⟨mem_sufs (reach_suffix h), h⟩⟩
theorem residL_strict (ws : List (List UInt8)) : (residL ws).Pairwise ltW := sortW_strict ((keysOf_nodup _).filter _)
/-- Whatever list has just these members, each once: sorted it is the one. -/
theorem residL_of {ws l : List (List UInt8)} (hn : l.Nodup) (h : ∀ x, x ∈ l ↔ Reach ws x) : sortW l = residL ws :=
  strict_unique (sortW_strict hn) (residL_strict ws) (fun x => by rw [mem_sortW, mem_residL]; exact h x)
end Go.Proofs.Ytpancbdaigaheaa
