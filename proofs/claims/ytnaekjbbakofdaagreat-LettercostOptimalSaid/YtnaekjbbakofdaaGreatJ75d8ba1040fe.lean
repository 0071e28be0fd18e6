/-
  DERIVED: THE SHELF's CONTRACTS AT THIS DUMP, IN PLAIN WORDS (tools/lay-plain.mjs out of 'YtnaekjbbakofdaaGreatTmpSc.lean', which tools/lay-shelf.mjs wrote): THE SAME DECLARATIONS UNDER THE SAME NAMES: 'import', 'namespace', 'open', 'def', 'theorem' AND NOTHING ELSE: no command of the shelf's: FOR A HAND-IN. Each laying: the table of numbers ('.._ren') and one theorem, a field a fact of the dump's own or the kernel's comparison; each contract: ONE APPLICATION.
  slices.Compact on an owned row of words, as a contract with the heap.
  slices.Clone of a list of words.
  code.Make: the words sorted, each once; checked.
  Reversed words, plain.
  Sorted lists.
  The common low layer.
  code.alone, code.Prefix.
  Plain law of codes that are made.
  completion: check, begun.
-/
import Derived.Shelf.SlicesG.In.CompactS
import Derived.Shelf.SlGeneric
import Derived.Ground.SlgnProg
import Derived.Test.YtnaekjbbakofdaaGreatProg
import Derived.Test.YtnaekjbbakofdaaGreatJ7520744bc5ab
import Derived.Test.YtnaekjbbakofdaaGreatJb66f8f526fa3
import Derived.Test.YtnaekjbbakofdaaGreatJ4e8bb2ff1847
import Derived.Test.YtnaekjbbakofdaaGreatJ55c5db00ba4b

section
namespace Go.Proofs
open Go.Shelf
end Go.Proofs
end

section
namespace Go.Proofs.YtnaekjbbakofdaaGreat
open Go Go.AM Go.RowKit
set_option maxRecDepth 100000
set_option linter.unusedSimpArgs false

end Go.Proofs.YtnaekjbbakofdaaGreat
end

section
namespace Go.Proofs.YtnaekjbbakofdaaGreat
open Go Go.AM
set_option maxRecDepth 100000
set_option linter.unusedSimpArgs false

theorem size_str (l : List (List UInt8)) : sizeOK (l.map .str) 1 := fun x hx => by
  obtain ⟨b, _, rfl⟩ := List.mem_map.1 hx
  rfl
theorem one_str (l : List (List UInt8)) : oneOK (l.map .str) := fun x hx c hc => by
  obtain ⟨b, _, rfl⟩ := List.mem_map.1 hx
  have : c = .str b := by simpa [PV.cells] using hc
  subst this; rfl

theorem c22 {h : List AObj} (ws : List (List UInt8)) (hl : ws.length ≤ 1000000) :
    AC Tryz.prog 94 [.p (.sl (ws.map .str))] h [] (fun v h' => (ws = [] ∧ v = .full [] ∧ h' = h) ∨ (∃ rk, rk ≠ .raw ∧ (ws ≠ [] → rk = .own) ∧ v = .own h.length ws.length ∧ h' = h ++ [.row 9 1 (ws.map .str) rk])) := by
  refine AC.of_bodyE hΓ Tryz.func94 (by kernel_rfl) rfl (AWp.mono (Q := fun e st => AM.Ends e ∧ ((ws = [] ∧ st.tmps.getD 2 .junk = .full [] ∧ st.h = h) ∨ (∃ rk, rk ≠ .raw ∧ (ws ≠ [] → rk = .own) ∧ st.tmps.getD 2 .junk = .own h.length ws.length ∧ st.h = h ++ [.row 9 1 (ws.map .str) rk]))) ?_ ?_)
  rotate_left
  · rintro e ⟨tm, h'⟩ ⟨he, ⟨hw, h1, h2⟩ | ⟨rk, hr, hr2, h1, h2⟩⟩
    · simp only at h1 h2
      subst h2
      refine ⟨he, _, Less.refl _, ?_⟩
      unfold DoneE
      simp +contextual -implicitDefEqProofs only [Tryz.results94, h1, go_sem]
      exact ⟨_, Nat.le_refl _, .inl rfl, .inl ⟨hw, List.take_length⟩⟩
    · simp only at h1 h2
      subst h2
      refine ⟨he, _, Less.refl _, ?_⟩
      unfold DoneE
      simp +contextual -implicitDefEqProofs only [Tryz.results94, h1, go_sem]
      exact ⟨h.length + 1, by omega, .inl (by simp), .inr ⟨rk, hr, hr2, List.take_of_length_le (by simp)⟩⟩
  refine AWp.of_awpD [] hΓ hmix (by kernel_rfl) ?_
  cases ws with
  | nil =>
    simp -implicitDefEqProofs only [Tryz.ntmps94, Nat.reduceAdd, Nat.reduceSub, go_sem]
    exact ⟨⟨by simp [sizeOK], by omega⟩, ⟨by simp [sizeOK], by simp [oneOK]⟩, ⟨by simp [sizeOK], by omega, by omega⟩, .inr ⟨.lax, by simp, rfl⟩⟩
  | cons x l =>
    simp -implicitDefEqProofs only [Tryz.ntmps94, Nat.reduceAdd, Nat.reduceSub, go_sem]
    have h1 := size_str (x :: l)
    have h2 := one_str (x :: l)
    simp only [List.map_cons] at h1 h2
    simp only [List.length_cons] at hl
    exact ⟨⟨by simp [sizeOK], by omega⟩, ⟨h1, h2⟩, ⟨by simp [sizeOK], by omega, by omega⟩, .inr ⟨.own, by simp, rfl, rfl⟩⟩
end Go.Proofs.YtnaekjbbakofdaaGreat
end

section
namespace Go.Proofs.YtnaekjbbakofdaaGreat
open Go Go.AM
set_option maxRecDepth 100000
set_option linter.unusedSimpArgs false

def made (l : List (List UInt8)) : List (List UInt8) := Lib.compact (sortW l)
end Go.Proofs.YtnaekjbbakofdaaGreat
end

section
namespace Go.Proofs.YtnaekjbbakofdaaGreat
open Go Go.AM
set_option maxRecDepth 100000

end Go.Proofs.YtnaekjbbakofdaaGreat
end

section
namespace Go.Proofs.YtnaekjbbakofdaaGreat
open Go Go.AM
set_option maxRecDepth 100000
set_option linter.unusedSimpArgs false

/-! ### Sorted lists -/
theorem sortW_perm (l : List (List UInt8)) : (sortW l).Perm l := List.mergeSort_perm l _
theorem sortW_sorted (l : List (List UInt8)) : (sortW l).Pairwise fun a b => ¬ ltW b a := by
  have h := List.pairwise_mergeSort (le := fun x y => !(ltOf cmpK) y x) (fun a b c h1 h2 => by
    simp only [Bool.not_eq_true', ltOf_false] at *
    intro h
    by_cases hbc : ltW b c
    · exact h1 (by
        by_cases hab : ltW a b
        · exact absurd (ltW_trans hab (ltW_trans hbc h)) (ltW_irrefl a)
        · have := ltW_total hab h1
          subst this; exact absurd (ltW_trans hbc h) (ltW_irrefl _))
    · have := ltW_total hbc h2
      subst this; exact h1 h) (fun a b => by
    simp only [Bool.or_eq_true, Bool.not_eq_true', ltOf_false]
    by_cases hab : ltW b a
    · exact .inr (fun h => ltW_irrefl a (ltW_trans h hab))
    · exact .inl hab) l
  refine h.imp ?_
  intro a b hab
  simpa [ltOf_false] using hab
theorem sortW_nodup {l : List (List UInt8)} (h : l.Nodup) : (sortW l).Nodup := (sortW_perm l).nodup_iff.2 h
theorem sortW_strict {l : List (List UInt8)} (h : l.Nodup) : (sortW l).Pairwise ltW := by
  refine (sortW_sorted l).imp₂ ?_ (sortW_nodup h)
  intro a b h1 h2
  by_cases hab : ltW a b
  · exact hab
  · exact absurd (ltW_total hab h1) h2

theorem strict_unique : ∀ {l m : List (List UInt8)}, l.Pairwise ltW → m.Pairwise ltW → (∀ x, x ∈ l ↔ x ∈ m) → l = m
  | [], [], _, _, _ => rfl
  | [], b :: m, _, _, h => absurd ((h b).2 (by simp)) (by simp)
  | a :: l, [], _, _, h => absurd ((h a).1 (by simp)) (by simp)
  | a :: l, b :: m, hl, hm, h => by
    obtain ⟨ha, hl2⟩ := List.pairwise_cons.1 hl
    obtain ⟨hb, hm2⟩ := List.pairwise_cons.1 hm
    have e : a = b := by
      rcases List.mem_cons.1 ((h a).1 (by simp)) with e | e
      · exact e
      · rcases List.mem_cons.1 ((h b).2 (by simp)) with e2 | e2
        · exact e2.symm
        · exact absurd (ltW_trans (ha b e2) (hb a e)) (ltW_irrefl a)
    subst e
    refine congrArg (List.cons a) (strict_unique hl2 hm2 (fun x => ⟨fun hx => ?_, fun hx => ?_⟩))
    · rcases List.mem_cons.1 ((h x).1 (by simp [hx])) with e | e
      · subst e; exact absurd (ha x hx) (ltW_irrefl x)
      · exact e
    · rcases List.mem_cons.1 ((h x).2 (by simp [hx])) with e | e
      · subst e; exact absurd (hb x hx) (ltW_irrefl x)
      · exact e

end Go.Proofs.YtnaekjbbakofdaaGreat
end

section
namespace Go.Proofs.YtnaekjbbakofdaaGreat
open Go Go.AM
set_option maxRecDepth 100000
set_option linter.unusedSimpArgs false

end Go.Proofs.YtnaekjbbakofdaaGreat
end

section
namespace Go.Proofs.YtnaekjbbakofdaaGreat
open Go Go.AM
set_option maxRecDepth 100000
set_option linter.unusedSimpArgs false

end Go.Proofs.YtnaekjbbakofdaaGreat
end

section
namespace Go.Proofs.YtnaekjbbakofdaaGreat
open Go Go.AM
set_option maxRecDepth 100000
set_option linter.unusedSimpArgs false

theorem Valid.words {q : Int} {ws : List (List UInt8)} (hv : Valid q ws) : ∀ x ∈ ws, x ≠ [] ∧ x.length ≤ 32 ∧ wordCheck q x = 0 := fun x hx => by
  obtain ⟨j, hj, rfl⟩ := List.getElem_of_mem hx
  have h1 := hv.ne j hj
  have h2 := hv.short j hj
  have h3 := hv.word j hj
  rw [List.getD_eq_getElem?_getD, List.getElem?_eq_getElem hj, Option.getD_some] at h1 h2 h3
  exact ⟨h1, h2, h3⟩

end Go.Proofs.YtnaekjbbakofdaaGreat
end

section
namespace Go.Proofs.YtnaekjbbakofdaaGreat
open Go Go.AM
set_option maxRecDepth 100000
set_option linter.unusedSimpArgs false

end Go.Proofs.YtnaekjbbakofdaaGreat
end

