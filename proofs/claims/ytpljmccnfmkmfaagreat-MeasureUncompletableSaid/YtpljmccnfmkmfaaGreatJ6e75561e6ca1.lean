/-
  DERIVED: THE SHELF's CONTRACTS AT THIS DUMP, IN PLAIN WORDS (tools/lay-plain.mjs out of 'YtpljmccnfmkmfaaGreatTmpSh.lean', which tools/lay-shelf.mjs wrote): THE SAME DECLARATIONS UNDER THE SAME NAMES: 'import', 'namespace', 'open', 'def', 'theorem' AND NOTHING ELSE: no command of the shelf's: FOR A HAND-IN. Each laying: the table of numbers ('.._ren') and one theorem, a field a fact of the dump's own or the kernel's comparison; each contract: ONE APPLICATION.
  The order of words; valid codes.
  slices.SortFunc at the words' order: the row holds the sorted words.
  slices.SortFunc on an owned row of words, as a contract with the heap.
  slices.SortFunc by code.before.
-/
import Derived.Shelf.SlSortCmp.NoneTotal
import Derived.Shelf.SlGeneric
import Derived.Ground.SlsfProg
import Derived.Test.YtpljmccnfmkmfaaGreatProg
import Derived.Test.YtpljmccnfmkmfaaGreatJ0cede4017564
import Derived.Test.YtpljmccnfmkmfaaGreatJde6548575735
import Derived.Test.YtpljmccnfmkmfaaGreatJf9df1a5adc24

section
namespace Go.Proofs
open Go.Shelf
end Go.Proofs
end

section
namespace Go.Proofs.YtpljmccnfmkmfaaGreat
open Go Go.AM
set_option maxRecDepth 100000
set_option linter.unusedSimpArgs false

/-! ### The order of words -/
def ltW (a b : List UInt8) : Prop := a.length < b.length ∨ (a.length = b.length ∧ bLt a b = true)
theorem bLt_cons (x y : UInt8) (a b : List UInt8) : bLt (x :: a) (y :: b) = true ↔ x.toNat < y.toNat ∨ (x.toNat = y.toNat ∧ bLt a b = true) := by
  have e : bLt (x :: a) (y :: b) = (match Nat.blt x.toNat y.toNat with | true => true | false => (match Nat.beq x.toNat y.toNat with | true => bLt a b | false => false)) := rfl
  rw [e]
  cases h1 : Nat.blt x.toNat y.toNat
  · have h2 : ¬ x.toNat < y.toNat := fun h => by rw [(Nat.blt_eq (x := x.toNat)).symm.mp h] at h1; cases h1
    cases h3 : Nat.beq x.toNat y.toNat
    · have : ¬ x.toNat = y.toNat := fun h => by rw [h] at h3; simp at h3
      simp [h2, this]
    · have := Nat.eq_of_beq_eq_true h3
      simp [h2, this]
  · have := (Nat.blt_eq (x := x.toNat)).mp h1
    simp [this]
theorem bLt_trans : ∀ {a b c : List UInt8}, bLt a b = true → bLt b c = true → bLt a c = true
  | a, [], c, h, _ => by cases a <;> cases h
  | [], _ :: _, [], _, h => by cases h
  | [], _ :: _, _ :: _, _, _ => rfl
  | x :: a, y :: b, [], _, h => by cases h
  | x :: a, y :: b, z :: c, h1, h2 => by
    rw [bLt_cons] at h1 h2 ⊢
    rcases h1 with h1 | ⟨h1, h3⟩
    · rcases h2 with h2 | ⟨h2, _⟩
      · exact .inl (by omega)
      · exact .inl (by omega)
    · rcases h2 with h2 | ⟨h2, h4⟩
      · exact .inl (by omega)
      · exact .inr ⟨by omega, bLt_trans h3 h4⟩
theorem bLt_irrefl : ∀ a : List UInt8, bLt a a = false
  | [] => rfl
  | x :: a => by
    rw [Bool.eq_false_iff]
    intro h
    rw [bLt_cons] at h
    rcases h with h | ⟨_, h⟩
    · omega
    · rw [bLt_irrefl a] at h; cases h
theorem ltW_iff (a b : List UInt8) : cmpW a b < 0 ↔ ltW a b := by
  unfold cmpW ltW
  by_cases h1 : a.length < b.length
  · rw [if_pos h1]; simp [h1]
  · by_cases h2 : b.length < a.length
    · rw [if_neg h1, if_pos h2]; simp [h1]; omega
    · rw [if_neg h1, if_neg h2]
      have h3 : a.length = b.length := by omega
      unfold cmpB
      cases bLt a b
      · cases bEq a b <;> simp [h1]
      · simp [h3]
theorem ltW_trans {a b c : List UInt8} (h1 : ltW a b) (h2 : ltW b c) : ltW a c := by
  rcases h1 with h1 | ⟨h1, h3⟩ <;> rcases h2 with h2 | ⟨h2, h4⟩
  · exact .inl (by omega)
  · exact .inl (by omega)
  · exact .inl (by omega)
  · exact .inr ⟨by omega, bLt_trans h3 h4⟩
theorem ltW_irrefl (a : List UInt8) : ¬ ltW a a := by
  rintro (h | ⟨_, h⟩)
  · omega
  · rw [bLt_irrefl] at h; cases h

theorem firstNZ_zero {l : List Int} (h : firstNZ l = 0) : ∀ x ∈ l, x = 0 := by
  intro x hx
  unfold firstNZ at h
  cases hf : l.find? (fun x => decide (x ≠ 0)) with
  | none => simpa using List.find?_eq_none.1 hf x hx
  | some y =>
    have h1 := List.find?_some hf
    rw [hf] at h
    simp only [decide_eq_true_eq] at h1
    exact absurd h h1

structure Valid (q : Int) (ws : List (List UInt8)) : Prop where
  q2 : 2 ≤ q
  q16 : q ≤ 16
  pos : 0 < ws.length
  len : ws.length ≤ 64
  ne : ∀ i, i < ws.length → ws.getD i [] ≠ []
  short : ∀ i, i < ws.length → (ws.getD i []).length ≤ 32
  word : ∀ i, i < ws.length → wordCheck q (ws.getD i []) = 0
  lt : ∀ i j, i < j → j < ws.length → ltW (ws.getD i []) (ws.getD j [])

theorem valid_of {q : Int} {ws : List (List UInt8)} (h : codeCheck q ws = 0) : Valid q ws := by
  unfold codeCheck at h
  split at h
  · omega
  rename_i h1
  split at h
  · omega
  rename_i h2
  split at h
  · omega
  rename_i h3
  have h4 : ∀ i, i < ws.length → wordErr q ws i = 0 := fun i hi => firstNZ_zero h _ (List.mem_map.2 ⟨i, List.mem_range.2 hi, rfl⟩)
  have h5 : ∀ i, i < ws.length → ws.getD i [] ≠ [] ∧ ¬ 32 < (ws.getD i []).length ∧ wordCheck q (ws.getD i []) = 0 ∧ ¬ (0 < i ∧ 0 ≤ cmpW (ws.getD (i - 1) []) (ws.getD i [])) := fun i hi => by
    have := h4 i hi
    unfold wordErr at this
    simp only at this
    split at this
    · omega
    rename_i g1
    split at this
    · omega
    rename_i g2
    split at this
    · omega
    rename_i g3
    split at this
    · omega
    rename_i g4
    exact ⟨g1, g2, by omega, g4⟩
  have step : ∀ i, i + 1 < ws.length → ltW (ws.getD i []) (ws.getD (i + 1) []) := fun i hi => by
    have := (h5 (i + 1) hi).2.2.2
    rw [← ltW_iff]
    simp only [Nat.add_sub_cancel] at this
    omega
  refine ⟨by omega, by omega, by omega, by omega, fun i hi => (h5 i hi).1, fun i hi => by have := (h5 i hi).2.1; omega, fun i hi => (h5 i hi).2.2.1, ?_⟩
  intro i j hij hj
  obtain ⟨d, rfl⟩ : ∃ d, j = i + 1 + d := ⟨j - i - 1, by omega⟩
  clear hij
  induction d with
  | zero => exact step i hj
  | succ d ih => exact ltW_trans (ih (by omega)) (step (i + 1 + d) hj)

end Go.Proofs.YtpljmccnfmkmfaaGreat
end

section
namespace Go.Proofs.YtpljmccnfmkmfaaGreat
open Go Go.AM
set_option maxRecDepth 100000
set_option linter.unusedSimpArgs false

def encW (x : List UInt8) : Value := .string ⟨x.toArray⟩
def sortW (l : List (List UInt8)) : List (List UInt8) := l.mergeSort fun x y => !(ltOf cmpK) y x

end Go.Proofs.YtpljmccnfmkmfaaGreat
end

section
namespace Go.Proofs.YtpljmccnfmkmfaaGreat
open Go Go.AM Go.RowKit
set_option maxRecDepth 100000
set_option linter.unusedSimpArgs false

theorem flats_str (l : List (List UInt8)) : flats (l.map .str) = l.map .str := by
  induction l with
  | nil => rfl
  | cons x l ih =>
    have e : flats ((x :: l).map PV.str) = PV.str x :: flats (l.map .str) := rfl
    rw [e, ih]; rfl
theorem encW_of {I : Nat → Prop} {w : World} {x : List UInt8} {v : Value} (h : PR I w (.str x) v) : v = encW x := by
  cases h with | str s => rfl
theorem pr_encW {I : Nat → Prop} {w : World} (x : List UInt8) : PR I w (.str x) (encW x) := .mkStr (by simp)

end Go.Proofs.YtpljmccnfmkmfaaGreat
end

section
namespace Go.Proofs.YtpljmccnfmkmfaaGreat
open Go Go.AM Go.RowKit
set_option maxRecDepth 100000
set_option linter.unusedSimpArgs false

end Go.Proofs.YtpljmccnfmkmfaaGreat
end

