/-
  DERIVED: THE SHELF's CONTRACTS AT THIS DUMP, IN PLAIN WORDS (tools/lay-plain.mjs out of 'YtgkbafkmbokkaaaShelf.lean', which tools/lay-shelf.mjs wrote): THE SAME DECLARATIONS UNDER THE SAME NAMES: 'import', 'namespace', 'open', 'def', 'theorem' AND NOTHING ELSE: no command of the shelf's: FOR A HAND-IN. Each laying: the table of numbers ('.._ren') and one theorem, a field a fact of the dump's own or the kernel's comparison; each contract: ONE APPLICATION.
  The order of words; valid codes.
  slices.SortFunc at the words' order: the row holds the sorted words.
  slices.SortFunc on an owned row of words, as a contract with the heap.
  Sorted lists.
  The common low layer.
  Reversed words: slices.Reverse of bytes, word.Reverse.
  integer.multiply and Mul; words backwards.
  Readings of a word: all lists of words whose concatenation it is, and their number.
  code.counts and code.Count: the number of readings.
  slices.SortFunc by code.before.
-/
import Derived.Shelf.SlSortCmp.NoneTotal
import Derived.Shelf.SlGeneric
import Derived.Ground.SlsfProg
import Derived.Test.YtgkbafkmbokkaaaProg
import Derived.Test.YtgkbafkmbokkaaaJ5140b6250559
import Derived.Test.YtgkbafkmbokkaaaJ16a1c712b009
import Derived.Test.YtgkbafkmbokkaaaJ3f6ec3e8e05a
import Derived.Test.YtgkbafkmbokkaaaJ210090a8d90f

section
namespace Go.Proofs
open Go.Shelf
def Try.sortS_ren : Go.Shelf.Ren := ⟨fun | 6 => 82 | 15 => 103 | 14 => 102 | 28 => 121 | 29 => 122 | 20 => 113 | 21 => 114 | 22 => 115 | 23 => 116 | 24 => 117 | 25 => 118 | 26 => 119 | 27 => 120 | 46 => 125 | 47 => 126 | 48 => 127 | 49 => 128 | 50 => 129 | 57 => 130 | n => n, fun | 22 => 22 | 24 => 9 | 25 => 69 | 3 => 3 | 39 => 82 | 0 => 0 | 53 => 81 | 55 => 79 | 4 => 4 | 46 => 121 | 45 => 120 | 50 => 125 | 5 => 5 | 9 => 9 | 66 => 130 | 70 => 134 | 76 => 136 | 77 => 137 | n => n, fun | n => n⟩
theorem Try.sortS : Go.Proofs.SlLaysF.n6 Try.prog Try.sortS_ren := {
  mixed := by kernel_rfl
  f6 := ⟨Try.f82.name, by decide, Try.func82.trans (congrArg some (by kernel_rfl))⟩
  f14 := ⟨Try.f102.name, by decide, Try.func102.trans (congrArg some (by kernel_rfl))⟩
  f15 := Try.func103.trans (congrArg some (by kernel_rfl))
  f20 := ⟨Try.f113.name, by decide, Try.func113.trans (congrArg some (by kernel_rfl))⟩
  f21 := ⟨Try.f114.name, by decide, Try.func114.trans (congrArg some (by kernel_rfl))⟩
  f22 := ⟨Try.f115.name, by decide, Try.func115.trans (congrArg some (by kernel_rfl))⟩
  f23 := ⟨Try.f116.name, by decide, Try.func116.trans (congrArg some (by kernel_rfl))⟩
  f24 := ⟨Try.f117.name, by decide, Try.func117.trans (congrArg some (by kernel_rfl))⟩
  f25 := ⟨Try.f118.name, by decide, Try.func118.trans (congrArg some (by kernel_rfl))⟩
  f26 := ⟨Try.f119.name, by decide, Try.func119.trans (congrArg some (by kernel_rfl))⟩
  f27 := ⟨Try.f120.name, by decide, Try.func120.trans (congrArg some (by kernel_rfl))⟩
  f28 := Try.func121.trans (congrArg some (by kernel_rfl))
  f29 := Try.func122.trans (congrArg some (by kernel_rfl))
  f46 := ⟨Try.f125.name, by decide, Try.func125.trans (congrArg some (by kernel_rfl))⟩
  f47 := Try.func126.trans (congrArg some (by kernel_rfl))
  f48 := Try.func127.trans (congrArg some (by kernel_rfl))
  f49 := ⟨Try.f128.name, by decide, Try.func128.trans (congrArg some (by kernel_rfl))⟩
  f50 := ⟨Try.f129.name, by decide, Try.func129.trans (congrArg some (by kernel_rfl))⟩
  f57 := ⟨Try.f130.name, by decide, Try.func130.trans (congrArg some (by kernel_rfl))⟩
  t0 := Try.underlying0
  a0 := Try.isAgg0
  z0 := Try.sizeOf0
  v0 := Try.zeroValue0
  t3 := Try.underlying3
  a3 := Try.isAgg3
  z3 := Try.sizeOf3
  v3 := Try.zeroValue3
  t4 := Try.underlying4
  a4 := Try.isAgg4
  z4 := Try.sizeOf4
  v4 := Try.zeroValue4
  t5 := Try.underlying5
  a5 := Try.isAgg5
  z5 := Try.sizeOf5
  v5 := Try.zeroValue5
  t9 := Try.underlying9
  a9 := Try.isAgg9
  z9 := Try.sizeOf9
  v9 := Try.zeroValue9
  t22 := Try.underlying22
  a22 := Try.isAgg22
  z22 := Try.sizeOf22
  v22 := Try.zeroValue22
  a24 := Try.isAgg9
  z24 := Try.sizeOf9
  t25 := Try.underlying69
  a25 := Try.isAgg69
  z25 := Try.sizeOf69
  v25 := Try.zeroValue69
  t39 := Try.underlying82
  a39 := Try.isAgg82
  z39 := Try.sizeOf82
  v39 := Try.zeroValue82
  t45 := Try.underlying120
  a45 := Try.isAgg120
  z45 := Try.sizeOf120
  v45 := Try.zeroValue120
  t46 := Try.underlying121
  a46 := Try.isAgg121
  z46 := Try.sizeOf121
  v46 := Try.zeroValue121
  t50 := Try.underlying125
  a50 := Try.isAgg125
  z50 := Try.sizeOf125
  v50 := Try.zeroValue125
  t53 := Try.underlying81
  a53 := Try.isAgg81
  z53 := Try.sizeOf81
  v53 := Try.zeroValue81
  t55 := Try.underlying79
  a55 := Try.isAgg79
  z55 := Try.sizeOf79
  v55 := Try.zeroValue79
  t66 := Try.underlying130
  a66 := Try.isAgg130
  z66 := Try.sizeOf130
  v66 := Try.zeroValue130
  t70 := Try.underlying134
  a70 := Try.isAgg134
  z70 := Try.sizeOf134
  v70 := Try.zeroValue134
  t76 := Try.underlying136
  a76 := Try.isAgg136
  z76 := Try.sizeOf136
  v76 := Try.zeroValue136
  t77 := Try.underlying137
  a77 := Try.isAgg137
  z77 := Try.sizeOf137
  v77 := Try.zeroValue137 }
end Go.Proofs
end

section
namespace Go.Proofs.Ytgkbafkmbokkaaa
open Go Go.AM
set_option maxRecDepth 100000
set_option linter.unusedSimpArgs false

/-! ### The order of words -/
def ltW (a b : List UInt8) : Prop := a.length < b.length ∨ (a.length = b.length ∧ bLt a b = true)
theorem bLt_cons (x y : UInt8) (a b : List UInt8) : bLt (x :: a) (y :: b) = true ↔ x.toNat < y.toNat ∨ (x.toNat = y.toNat ∧ bLt a b = true) := by
  have e : bLt (x :: a) (y :: b) = (match Nat.blt x.toNat y.toNat with | true => true | false => (match Nat.beq x.toNat y.toNat with | true => bLt a b | false => false)) := rfl
  rw [e]
  cases h1 : Nat.blt x.toNat y.toNat
  · have h2 : ¬ x.toNat < y.toNat := fun h => by rw [(Nat.blt_eq (x := x.toNat)).symm.mp h] at h1; cases h1
    cases h3 : Nat.beq x.toNat y.toNat
    · have : ¬ x.toNat = y.toNat := fun h => by rw [h] at h3; simp at h3
      simp [h2, this]
    · have := Nat.eq_of_beq_eq_true h3
      simp [h2, this]
  · have := (Nat.blt_eq (x := x.toNat)).mp h1
    simp [this]
theorem bLt_trans : ∀ {a b c : List UInt8}, bLt a b = true → bLt b c = true → bLt a c = true
  | a, [], c, h, _ => by cases a <;> cases h
  | [], _ :: _, [], _, h => by cases h
  | [], _ :: _, _ :: _, _, _ => rfl
  | x :: a, y :: b, [], _, h => by cases h
  | x :: a, y :: b, z :: c, h1, h2 => by
    rw [bLt_cons] at h1 h2 ⊢
    rcases h1 with h1 | ⟨h1, h3⟩
    · rcases h2 with h2 | ⟨h2, _⟩
      · exact .inl (by omega)
      · exact .inl (by omega)
    · rcases h2 with h2 | ⟨h2, h4⟩
      · exact .inl (by omega)
      · exact .inr ⟨by omega, bLt_trans h3 h4⟩
theorem bLt_irrefl : ∀ a : List UInt8, bLt a a = false
  | [] => rfl
  | x :: a => by
    rw [Bool.eq_false_iff]
    intro h
    rw [bLt_cons] at h
    rcases h with h | ⟨_, h⟩
    · omega
    · rw [bLt_irrefl a] at h; cases h
theorem ltW_iff (a b : List UInt8) : cmpW a b < 0 ↔ ltW a b := by
  unfold cmpW ltW
  by_cases h1 : a.length < b.length
  · rw [if_pos h1]; simp [h1]
  · by_cases h2 : b.length < a.length
    · rw [if_neg h1, if_pos h2]; simp [h1]; omega
    · rw [if_neg h1, if_neg h2]
      have h3 : a.length = b.length := by omega
      unfold cmpB
      cases bLt a b
      · cases bEq a b <;> simp [h1]
      · simp [h3]
theorem ltW_trans {a b c : List UInt8} (h1 : ltW a b) (h2 : ltW b c) : ltW a c := by
  rcases h1 with h1 | ⟨h1, h3⟩ <;> rcases h2 with h2 | ⟨h2, h4⟩
  · exact .inl (by omega)
  · exact .inl (by omega)
  · exact .inl (by omega)
  · exact .inr ⟨by omega, bLt_trans h3 h4⟩
theorem ltW_irrefl (a : List UInt8) : ¬ ltW a a := by
  rintro (h | ⟨_, h⟩)
  · omega
  · rw [bLt_irrefl] at h; cases h

theorem firstNZ_zero {l : List Int} (h : firstNZ l = 0) : ∀ x ∈ l, x = 0 := by
  intro x hx
  unfold firstNZ at h
  cases hf : l.find? (fun x => decide (x ≠ 0)) with
  | none => simpa using List.find?_eq_none.1 hf x hx
  | some y =>
    have h1 := List.find?_some hf
    rw [hf] at h
    simp only [decide_eq_true_eq] at h1
    exact absurd h h1

/-- What a valid code is. -/
structure Valid (q : Int) (ws : List (List UInt8)) : Prop where
  q2 : 2 ≤ q
  q16 : q ≤ 16
  pos : 0 < ws.length
  len : ws.length ≤ 64
  ne : ∀ i, i < ws.length → ws.getD i [] ≠ []
  short : ∀ i, i < ws.length → (ws.getD i []).length ≤ 32
  word : ∀ i, i < ws.length → wordCheck q (ws.getD i []) = 0
  lt : ∀ i j, i < j → j < ws.length → ltW (ws.getD i []) (ws.getD j [])

theorem valid_of {q : Int} {ws : List (List UInt8)} (h : codeCheck q ws = 0) : Valid q ws := by
  unfold codeCheck at h
  split at h
  · omega
  rename_i h1
  split at h
  · omega
  rename_i h2
  split at h
  · omega
  rename_i h3
  have h4 : ∀ i, i < ws.length → wordErr q ws i = 0 := fun i hi => firstNZ_zero h _ (List.mem_map.2 ⟨i, List.mem_range.2 hi, rfl⟩)
  have h5 : ∀ i, i < ws.length → ws.getD i [] ≠ [] ∧ ¬ 32 < (ws.getD i []).length ∧ wordCheck q (ws.getD i []) = 0 ∧ ¬ (0 < i ∧ 0 ≤ cmpW (ws.getD (i - 1) []) (ws.getD i [])) := fun i hi => by
    have := h4 i hi
    unfold wordErr at this
    simp only at this
    split at this
    · omega
    rename_i g1
    split at this
    · omega
    rename_i g2
    split at this
    · omega
    rename_i g3
    split at this
    · omega
    rename_i g4
    exact ⟨g1, g2, by omega, g4⟩
  have step : ∀ i, i + 1 < ws.length → ltW (ws.getD i []) (ws.getD (i + 1) []) := fun i hi => by
    have := (h5 (i + 1) hi).2.2.2
    rw [← ltW_iff]
    simp only [Nat.add_sub_cancel] at this
    omega
  refine ⟨by omega, by omega, by omega, by omega, fun i hi => (h5 i hi).1, fun i hi => by have := (h5 i hi).2.1; omega, fun i hi => (h5 i hi).2.2.1, ?_⟩
  intro i j hij hj
  obtain ⟨d, rfl⟩ : ∃ d, j = i + 1 + d := ⟨j - i - 1, by omega⟩
  clear hij
  induction d with
  | zero => exact step i hj
  | succ d ih => exact ltW_trans (ih (by omega)) (step (i + 1 + d) hj)

theorem distinct_of {q : Int} {ws : List (List UInt8)} (h : codeCheck q ws = 0) : ∀ i j, i < ws.length → j < ws.length → ws.getD i [] = ws.getD j [] → i = j := by
  intro i j hi hj e
  have v := (valid_of h).lt
  rcases Nat.lt_trichotomy i j with h1 | h1 | h1
  · exact absurd (e ▸ v i j h1 hj) (ltW_irrefl _)
  · exact h1
  · exact absurd (e ▸ v j i h1 hi) (ltW_irrefl _)

theorem getD_in {ws : List (List UInt8)} {i : Nat} (h : i < ws.length) : ws.getD i [] ∈ ws := by
  rw [List.getD_eq_getElem?_getD, List.getElem?_eq_getElem h, Option.getD_some]; exact List.getElem_mem h
theorem Valid.ne' {q : Int} {ws : List (List UInt8)} (hv : Valid q ws) : ∀ x ∈ ws, x ≠ [] := fun x hx => by
  obtain ⟨j, hj, rfl⟩ := List.getElem_of_mem hx
  have := hv.ne j hj
  rwa [List.getD_eq_getElem?_getD, List.getElem?_eq_getElem hj, Option.getD_some] at this

end Go.Proofs.Ytgkbafkmbokkaaa
end

section
namespace Go.Proofs.Ytgkbafkmbokkaaa
open Go Go.AM
set_option maxRecDepth 100000
set_option linter.unusedSimpArgs false

theorem cmpK_eq (a b : List UInt8) : cmpK a b = cmpW a b := by
  unfold cmpK cmpW
  by_cases h1 : a.length < b.length
  · rw [if_pos h1, if_pos (show (a.length : Int) < b.length by omega)]; rfl
  · by_cases h2 : b.length < a.length
    · rw [if_neg h1, if_pos h2, if_neg (show ¬ (a.length : Int) < b.length by omega), if_pos (show (b.length : Int) < a.length by omega)]; rfl
    · rw [if_neg h1, if_neg h2, if_neg (show ¬ (a.length : Int) < b.length by omega), if_neg (show ¬ (b.length : Int) < a.length by omega), if_pos rfl, cmpB_eq]

theorem bLt_total : ∀ {a b : List UInt8}, bLt a b = false → bLt b a = false → a = b
  | [], [], _, _ => rfl
  | [], _ :: _, h, _ => by cases h
  | _ :: _, [], _, h => by cases h
  | x :: a, y :: b, h1, h2 => by
    have n1 := mt (bLt_cons x y a b).2 (by rw [h1]; simp)
    have n2 := mt (bLt_cons y x b a).2 (by rw [h2]; simp)
    simp only [not_or, not_and, Bool.not_eq_true] at n1 n2
    have e : x.toNat = y.toNat := by omega
    rw [UInt8.toNat_inj.1 e, bLt_total (n1.2 e) (n2.2 e.symm)]
theorem ltW_total {a b : List UInt8} (h1 : ¬ ltW a b) (h2 : ¬ ltW b a) : a = b := by
  unfold ltW at h1 h2
  simp only [not_or, not_and, Bool.not_eq_true] at h1 h2
  have e : a.length = b.length := by omega
  exact bLt_total (h1.2 e) (h2.2 e.symm)

theorem ltOf_iff (a b : List UInt8) : ltOf cmpK a b = true ↔ ltW a b := by
  unfold ltOf
  rw [decide_eq_true_eq, cmpK_eq]; exact ltW_iff a b
theorem ltOf_false (a b : List UInt8) : ltOf cmpK a b = false ↔ ¬ ltW a b := by
  rw [← ltOf_iff]; simp

theorem swoW : Sort.SWO (ltOf cmpK) where
  irrefl x := (ltOf_false x x).2 (ltW_irrefl x)
  trans x y z h1 h2 := (ltOf_iff x z).2 (ltW_trans ((ltOf_iff x y).1 h1) ((ltOf_iff y z).1 h2))
  ntrans x y z h1 h2 := by
    rw [ltOf_false] at *
    intro h
    by_cases hyz : ltW z y
    · exact h1 (ltW_trans h hyz)
    · have := ltW_total h2 hyz
      subst this; exact h1 h

/-- A word as a value. -/
def encW (x : List UInt8) : Value := .string ⟨x.toArray⟩
def sortW (l : List (List UInt8)) : List (List UInt8) := l.mergeSort fun x y => !(ltOf cmpK) y x

end Go.Proofs.Ytgkbafkmbokkaaa
end

section
namespace Go.Proofs.Ytgkbafkmbokkaaa
open Go Go.AM Go.RowKit
set_option maxRecDepth 100000
set_option linter.unusedSimpArgs false

theorem flats_str (l : List (List UInt8)) : flats (l.map .str) = l.map .str := by
  induction l with
  | nil => rfl
  | cons x l ih =>
    have e : flats ((x :: l).map PV.str) = PV.str x :: flats (l.map .str) := rfl
    rw [e, ih]; rfl
theorem sortW_length (l : List (List UInt8)) : (sortW l).length = l.length := by unfold sortW; simp
theorem encW_of {I : Nat → Prop} {w : World} {x : List UInt8} {v : Value} (h : PR I w (.str x) v) : v = encW x := by
  cases h with | str s => rfl
theorem pr_encW {I : Nat → Prop} {w : World} (x : List UInt8) : PR I w (.str x) (encW x) := .mkStr (by simp)

/-- What a sort of a row of words by some function does to the world. -/
def SortsBy (g : FuncId) : Prop := ∀ (d : List (List UInt8)) (blk off cap : Nat) (w : World), Sort.Holds encW w blk off d.toArray → blk < w.heap.size → d.length < 4611686018427387904 →
    Calls Try.prog 82 #[.slice (some ⟨blk, off, none⟩) d.length cap, .func (.func g) #[] #[]] w fun e w' => e = .returned (.tuple #[]) ∧ ∃ n os, w' = sortWorld encW w blk off n (sortW d).toArray os

theorem c83_of {g : FuncId} (hs : SortsBy g) {h : List AObj} {b : Nat} (l : List (List UInt8)) (hb : h[b]? = some (.row 9 1 (l.map .str) .own)) (hsz : l.length ≤ 1000000) :
    AC Try.prog 82 [.own b l.length, .fn g []] h [] (fun v h' => v = .tup [] ∧ h' = h.set b (.row 9 1 ((sortW l).map .str) .own)) := by
  refine ⟨entersF_of Try.func82 (by kernel_rfl) rfl, fun X I μ ob w cargs R hlen hargs _ => ?_⟩
  obtain ⟨a0, f0, rfl⟩ : ∃ a f, cargs = [a, f] := by
    match cargs, hlen with
    | [a, f], _ => exact ⟨a, f, rfl⟩
  have g0 := hargs 0 (by simp)
  have g1 := hargs 1 (by simp)
  simp only [List.getD_cons_zero, List.getD_cons_succ] at g0 g1
  obtain ⟨a, c, rfl, hbn, hbm⟩ := g0.own_inv
  obtain ⟨cs, rfl, hcl, _⟩ := g1.fn_inv
  have hcs : cs = [] := by simpa using hcl.symm
  subst hcs
  obtain ⟨hall, hrow⟩ := R.objs _ _ hb
  rcases hrow with ⟨g, hg, cap, cur, fr, vs, e1, e2, e3, e4, e5, e6, e7, e8, e9, e10⟩ | ⟨hk, _⟩
  rotate_left
  · cases hk
  rw [hbm] at e1
  simp only [List.length_map] at e1 e5 e7 e8 e9 e10
  injection e1 with e1a _ e1c
  subst e1a e1c
  have hfr := e3 rfl
  subst hfr
  have hgl := (R.own b g hg).2.2
  have cell : ∀ j (hj : j < l.length), cur[j]? = some (encW l[j]) := fun j hj => by
    have h1 := e10 j (by omega)
    rw [flats_str, getD_map_lt _ _ _ _ hj] at h1
    have h2 := encW_of h1
    have h3 : cur.toList[j]? = some (vs.getD j undef) := by
      have : vs[j]? = some (vs.getD j undef) := by rw [List.getD_eq_getElem?_getD, List.getElem?_eq_getElem (by omega)]; rfl
      rw [← e8, List.getElem?_take_of_lt (by omega)] at this
      exact this.trans (by rw [e8])
    rw [Array.getElem?_toList, h2] at h3
    exact h3
  have hH : Sort.Holds encW w g 0 l.toArray := fun j hj => by
    have hj' : j < l.length := by simpa using hj
    refine ⟨?_, ?_⟩
    · unfold World.cell?
      simp only [Nat.zero_add, e2]
      rw [cell j hj', getElem!_pos l.toArray j hj]
      simp
    · unfold World.frozen?
      simp only [e2]
      simp
  have hc := hs l g 0 c w hH hgl (by omega)
  refine Calls.mono (P := Try.prog) hc ?_
  rintro e w' ⟨rfl, n, os, rfl⟩
  have hsl : (sortW l).toArray.size = l.length := by simp [sortW_length]
  -- the world that is left
  have hnew : (sortWorld encW w g 0 n (sortW l).toArray os).heap[g]? = some (.cells (Sort.putCells encW 0 (sortW l).toArray cur) 9 (0, 0)) := by
    unfold sortWorld
    rw [Sort.heap_grow_old _ _ (by simp [Sort.ahead]; exact hgl)]
    show (w.heap.modify g _)[g]? = _
    rw [Array.getElem?_modify, if_pos rfl, e2]; rfl
  have hold : ∀ k, k < w.heap.size → k ≠ g → (sortWorld encW w g 0 n (sortW l).toArray os).heap[k]? = w.heap[k]? := fun k hk hne => by
    unfold sortWorld
    rw [Sort.heap_grow_old _ _ (by simp [Sort.ahead]; exact hk)]
    show (w.heap.modify g _)[k]? = _
    rw [Array.getElem?_modify, if_neg (fun e => hne e.symm)]
  have hgrow : w.grownBy (sortWorld encW w g 0 n (sortW l).toArray os) (some g) := ⟨rfl, rfl, rfl, by simp [sortWorld, Sort.ahead], fun k hk hk2 => hold k hk (fun e => hk2 (by rw [e]))⟩
  have hput : ∀ j, j < l.length → (Sort.putCells encW 0 (sortW l).toArray cur)[j]? = some (encW ((sortW l).getD j [])) := fun j hj => by
    unfold Sort.putCells
    rw [Array.getElem?_mapIdx, cell j hj]
    simp only [Option.map_some]
    rw [if_pos ⟨Nat.zero_le _, by rw [hsl]; omega⟩, Nat.sub_zero, getElem!_pos (sortW l).toArray j (by rw [hsl]; exact hj), List.getD_eq_getElem?_getD, List.getElem?_eq_getElem (by rw [sortW_length]; exact hj)]
    simp
  have hps : (Sort.putCells encW 0 (sortW l).toArray cur).size = cur.size := by unfold Sort.putCells; rw [Array.size_mapIdx]
  have hpl : ((Sort.putCells encW 0 (sortW l).toArray cur).toList.take l.length).length = l.length := by
    have h1 : (Sort.putCells encW 0 (sortW l).toArray cur).toList.length = cur.size := by simpa using hps
    rw [List.length_take, h1]; omega
  have R2 := R.write (b0 := b) (g0 := g) (o := .row 9 1 ((sortW l).map .str) .own) hbn hg hgrow ⟨fun x hx => by
      obtain ⟨u, _, rfl⟩ := List.mem_map.1 hx; rfl, .inl ⟨g, hg, c, Sort.putCells encW 0 (sortW l).toArray cur, (0, 0), (Sort.putCells encW 0 (sortW l).toArray cur).toList.take l.length, by rw [hbm, List.length_map, sortW_length], hnew, fun _ => rfl, by simp,
        by rw [List.length_map, sortW_length]; exact e5, e6, by rw [hps]; exact e7, by rw [List.length_map, sortW_length, Nat.mul_one], by
          rw [List.length_map, sortW_length, hpl, Nat.mul_one], fun j hj => ?_⟩⟩
  · exact ⟨_, .tup [], _, I, μ, ob, rfl, R2, .tup [] [] rfl (by simp), fun _ h => h, fun _ _ _ => rfl, by simp, fun g hg => .inl hg, fun b g hb => .inl ⟨b, hb⟩, fun k hk hno => hold k hk (fun e => hno b (by rw [e]; exact hg)), rfl, rfl⟩
  · rw [List.length_map, sortW_length, Nat.mul_one] at hj
    rw [flats_str, getD_map_lt _ _ _ _ (by rw [sortW_length]; exact hj)]
    have : ((Sort.putCells encW 0 (sortW l).toArray cur).toList.take l.length).getD j undef = encW ((sortW l).getD j []) := by
      rw [List.getD_eq_getElem?_getD, List.getElem?_take_of_lt hj, Array.getElem?_toList, hput j hj]; rfl
    rw [this, List.getD_eq_getElem?_getD, List.getElem?_eq_getElem (by rw [sortW_length]; exact hj)]
    exact pr_encW _

/-- At no element: nothing turns, whosever the row is. -/
theorem c83n {g : FuncId} {h : List AObj} {b : Nat} : AC Try.prog 82 [.own b 0, .fn g []] h [] (fun v h' => v = .tup [] ∧ h' = h) := by
  refine ⟨entersF_of Try.func82 (by kernel_rfl) rfl, fun X I μ ob w cargs R hlen hargs _ => ?_⟩
  obtain ⟨a0, f0, rfl⟩ : ∃ a f, cargs = [a, f] := by
    match cargs, hlen with
    | [a, f], _ => exact ⟨a, f, rfl⟩
  have g0 := hargs 0 (by simp)
  simp only [List.getD_cons_zero] at g0
  obtain ⟨a, c, rfl, hbn, hbm⟩ := g0.own_inv
  have hc : Calls Try.prog 82 #[.slice a 0 c, f0] w fun e w' => e = .returned (.tuple #[]) ∧ w' = w := AnyF.slices_SortFunc_none (ρ := Try.sortS_ren) { Try.sortS with } a c f0 w
  refine Calls.mono (P := Try.prog) hc ?_
  rintro e w' ⟨rfl, rfl⟩
  exact ⟨_, .tup [], _, I, μ, ob, rfl, R, .tup [] [] rfl (by simp), fun _ h => h, fun _ _ _ => rfl, Nat.le_refl _, fun g hg => .inl hg, fun b g hb => .inl ⟨b, hb⟩, fun k hk hno => rfl, rfl, rfl⟩
end Go.Proofs.Ytgkbafkmbokkaaa
end

section
namespace Go.Proofs.Ytgkbafkmbokkaaa
open Go Go.AM
set_option maxRecDepth 100000
set_option linter.unusedSimpArgs false

/-! ### Sorted lists -/
theorem sortW_perm (l : List (List UInt8)) : (sortW l).Perm l := List.mergeSort_perm l _
theorem mem_sortW (l : List (List UInt8)) (x : List UInt8) : x ∈ sortW l ↔ x ∈ l := (sortW_perm l).mem_iff
theorem sortW_sorted (l : List (List UInt8)) : (sortW l).Pairwise fun a b => ¬ ltW b a := by
  have h := List.pairwise_mergeSort (le := fun x y => !(ltOf cmpK) y x) (fun a b c h1 h2 => by
    simp only [Bool.not_eq_true', ltOf_false] at *
    intro h
    by_cases hbc : ltW b c
    · exact h1 (by
        by_cases hab : ltW a b
        · exact absurd (ltW_trans hab (ltW_trans hbc h)) (ltW_irrefl a)
        · have := ltW_total hab h1
          subst this; exact absurd (ltW_trans hbc h) (ltW_irrefl _))
    · have := ltW_total hbc h2
      subst this; exact h1 h) (fun a b => by
    simp only [Bool.or_eq_true, Bool.not_eq_true', ltOf_false]
    by_cases hab : ltW b a
    · exact .inr (fun h => ltW_irrefl a (ltW_trans h hab))
    · exact .inl hab) l
  refine h.imp ?_
  intro a b hab
  simpa [ltOf_false] using hab
theorem sortW_nodup {l : List (List UInt8)} (h : l.Nodup) : (sortW l).Nodup := (sortW_perm l).nodup_iff.2 h
/-- Strictly ascending. -/
theorem sortW_strict {l : List (List UInt8)} (h : l.Nodup) : (sortW l).Pairwise ltW := by
  refine (sortW_sorted l).imp₂ ?_ (sortW_nodup h)
  intro a b h1 h2
  by_cases hab : ltW a b
  · exact hab
  · exact absurd (ltW_total hab h1) h2

theorem strict_unique : ∀ {l m : List (List UInt8)}, l.Pairwise ltW → m.Pairwise ltW → (∀ x, x ∈ l ↔ x ∈ m) → l = m
  | [], [], _, _, _ => rfl
  | [], b :: m, _, _, h => absurd ((h b).2 (by simp)) (by simp)
  | a :: l, [], _, _, h => absurd ((h a).1 (by simp)) (by simp)
  | a :: l, b :: m, hl, hm, h => by
    obtain ⟨ha, hl2⟩ := List.pairwise_cons.1 hl
    obtain ⟨hb, hm2⟩ := List.pairwise_cons.1 hm
    have e : a = b := by
      rcases List.mem_cons.1 ((h a).1 (by simp)) with e | e
      · exact e
      · rcases List.mem_cons.1 ((h b).2 (by simp)) with e2 | e2
        · exact e2.symm
        · exact absurd (ltW_trans (ha b e2) (hb a e)) (ltW_irrefl a)
    subst e
    refine congrArg (List.cons a) (strict_unique hl2 hm2 (fun x => ⟨fun hx => ?_, fun hx => ?_⟩))
    · rcases List.mem_cons.1 ((h x).1 (by simp [hx])) with e | e
      · subst e; exact absurd (ha x hx) (ltW_irrefl x)
      · exact e
    · rcases List.mem_cons.1 ((h x).2 (by simp [hx])) with e | e
      · subst e; exact absurd (hb x hx) (ltW_irrefl x)
      · exact e

end Go.Proofs.Ytgkbafkmbokkaaa
end

section
namespace Go.Proofs.Ytgkbafkmbokkaaa
open Go Go.AM
set_option maxRecDepth 100000
set_option linter.unusedSimpArgs false


end Go.Proofs.Ytgkbafkmbokkaaa
end

section
namespace Go.Proofs.Ytgkbafkmbokkaaa
open Go Go.AM
set_option maxRecDepth 100000
set_option linter.unusedSimpArgs false

/-- A word of which i letters at each end have changed places. -/
def rv (l : List UInt8) (i : Nat) : List UInt8 := (List.range l.length).map fun k => if k < i ∨ l.length - i ≤ k then l.getD (l.length - 1 - k) 0 else l.getD k 0
theorem rv_len (l : List UInt8) (i : Nat) : (rv l i).length = l.length := by simp [rv]
theorem rv_get {l : List UInt8} {i k : Nat} (hk : k < l.length) : (rv l i)[k]? = some (if k < i ∨ l.length - i ≤ k then l.getD (l.length - 1 - k) 0 else l.getD k 0) := by
  simp [rv, List.getElem?_map, List.getElem?_range hk]
theorem rv_zero (l : List UInt8) : rv l 0 = l := by
  apply List.ext_getElem?
  intro k
  by_cases hk : k < l.length
  · rw [rv_get hk, if_neg (by omega), List.getD_eq_getElem?_getD, List.getElem?_eq_getElem hk]; rfl
  · rw [List.getElem?_eq_none (by rw [rv_len]; omega), List.getElem?_eq_none (by omega)]
theorem rv_end {l : List UInt8} {i : Nat} (h1 : 2 * i ≤ l.length) (h2 : l.length ≤ 2 * i + 1) : rv l i = l.reverse := by
  apply List.ext_getElem?
  intro k
  by_cases hk : k < l.length
  · rw [rv_get hk, List.getElem?_reverse hk]
    have e : l.getD (l.length - 1 - k) 0 = l[l.length - 1 - k]'(by omega) := by rw [List.getD_eq_getElem?_getD, List.getElem?_eq_getElem (by omega)]; rfl
    by_cases hc : k < i ∨ l.length - i ≤ k
    · rw [if_pos hc, e, List.getElem?_eq_getElem (by omega)]
    · rw [if_neg hc]
      have : k = l.length - 1 - k := by omega
      rw [← this, List.getD_eq_getElem?_getD, List.getElem?_eq_getElem hk]; rfl
  · rw [List.getElem?_eq_none (by rw [rv_len]; omega), List.getElem?_eq_none (by simp; omega)]
theorem rv_step {l : List UInt8} {i j : Nat} (hj : i + j + 1 = l.length) (hlt : i < j) : ((rv l i).set i (l.getD j 0)).set j (l.getD i 0) = rv l (i + 1) := by
  apply List.ext_getElem?
  intro k
  by_cases hk : k < l.length
  · rw [List.getElem?_set, List.getElem?_set, rv_get hk, rv_get hk]
    simp only [List.length_set, rv_len]
    by_cases e1 : j = k
    · subst e1
      rw [if_pos rfl, if_pos hk, if_pos (by omega), show l.length - 1 - j = i by omega]
    · rw [if_neg e1]
      by_cases e2 : i = k
      · subst e2
        rw [if_pos rfl, if_pos hk, if_pos (by omega), show l.length - 1 - i = j by omega]
      · rw [if_neg e2]
        by_cases hc : k < i ∨ l.length - i ≤ k
        · rw [if_pos hc, if_pos (by omega)]
        · rw [if_neg hc, if_neg (by omega)]
  · rw [List.getElem?_eq_none (by simp [rv_len]; omega), List.getElem?_eq_none (by rw [rv_len]; omega)]

theorem c93 {h : List AObj} {b : Nat} (l : List UInt8) (hb : h[b]? = some (.row 5 1 (l.map u8V) .raw)) (hl : l.length ≤ 1000000) :
    AC Try.prog 67 [.own b l.length] h [] (fun v h' => v = .tup [] ∧ h' = h.set b (.row 5 1 (l.reverse.map u8V) .raw)) := by
  have hbl : b < h.length := (List.getElem?_eq_some_iff.1 hb).1
  refine AC.of_bodyE hΓ Try.func67 (by kernel_rfl) rfl (AWp.mono (Q := fun e st => AM.Ends e ∧ st.h = h.set b (.row 5 1 (l.reverse.map u8V) .raw)) ?_ ?_)
  rotate_left
  · rintro e ⟨tm, h'⟩ ⟨he, h2⟩
    simp only at h2
    subst h2
    refine ⟨he, _, Less.refl _, ?_⟩
    unfold DoneE
    simp +contextual -implicitDefEqProofs only [Try.results67, go_sem]
    exact ⟨h.length, Nat.le_refl _, .inl (by simp), List.take_of_length_le (by simp)⟩
  have gB : ∀ o : AObj, (h.set b o)[b]? = some o := fun o => by simp [hbl]
  have sB : ∀ o o' : AObj, (h.set b o).set b o' = h.set b o' := fun o o' => by simp
  refine AWp.of_awpD [] hΓ hmix (by kernel_rfl) ?_
  simp -implicitDefEqProofs only [Try.ntmps67, Nat.reduceAdd, Nat.reduceSub, go_sem]
  refine ⟨by simp only [InR]; omega, ?_⟩
  refine AWp.loopI (fun i : Nat => ⟨mkF 28 [(0, .own b l.length), (2, .p (.int .i64 i)), (3, .p (.int .i64 ((l.length : Int) - 1 - i)))], h.set b (.row 5 1 ((rv l i).map u8V) .raw)⟩)
    (fun i => 2 * i ≤ l.length) (fun i => l.length - i) 0 (by
      rw [rv_zero, show h.set b (.row 5 1 (l.map u8V) .raw) = h from by
        apply List.ext_getElem?
        intro k
        rw [List.getElem?_set]
        split
        · rename_i e; subst e
          first
            | exact hb.symm
            | (rw [if_pos hbl]; exact hb.symm)
        · rfl]
      simp [go_sem, weakH_self]) (by omega) ?_
  intro i hi
  refine AWp.of_awpD [(3, 13)] hΓ hmix (by kernel_rfl) ?_
  by_cases hlt : (i : Int) < (l.length : Int) - 1 - i
  · obtain ⟨j, hj⟩ : ∃ j : Nat, (l.length : Int) - 1 - i = j := ⟨(((l.length : Int) - 1 - i)).toNat, by omega⟩
    rw [hj] at hlt ⊢
    have hjl : j < l.length := by omega
    have hil : i < l.length := by omega
    have e1 : ((rv l i).map u8V).getD i default = .int .u8 (l.getD i 0).toNat := by
      rw [List.getD_eq_getElem?_getD, List.getElem?_map, rv_get hil, if_neg (by omega)]; rfl
    have e2 : ((rv l i).map u8V).getD j default = .int .u8 (l.getD j 0).toNat := by
      rw [List.getD_eq_getElem?_getD, List.getElem?_map, rv_get hjl, if_neg (by omega)]; rfl
    have e3 : (((rv l i).map u8V).set i (.int .u8 (l.getD j 0).toNat)).set j (.int .u8 (l.getD i 0).toNat) = (rv l (i + 1)).map u8V := by
      rw [← rv_step (j := j) (by omega) (by omega), List.map_set, List.map_set]; rfl
    simp -implicitDefEqProofs only [hlt, gB, sB, e1, e2, e3, Int.toNat_natCast, go_sem]
    have hr := rv_len l i
    refine ⟨hjl, by omega, hil, by omega, hil, ⟨by omega, rfl⟩, hjl, ⟨by simp; omega, rfl⟩, by simp only [InR]; omega, by simp only [InR]; omega, i + 1, ⟨⟨by omega, by omega⟩, weakH_self _⟩, by omega, by omega⟩
  · simp -implicitDefEqProofs only [hlt, go_sem]
    rw [rv_end hi (by omega)]

theorem t70 (w : List UInt8) (hw : w.length ≤ 1000000) : PFn Try.prog 58 [.str w] [.str w.reverse] := by
  refine PFn.of_body hΓ Try.func58 (by kernel_rfl) rfl (AWp.of_awpD [] hΓ hmix (by kernel_rfl) ?_)
  simp +contextual -implicitDefEqProofs only [Try.ntmps58, Try.results58, Nat.reduceAdd, Nat.reduceSub, go_sem]
  refine ⟨by omega, ?_⟩
  refine callK_ac (c93 w rfl hw) (by simp) ?_
  rintro v h' ⟨rfl, rfl⟩
  simp -implicitDefEqProofs only [killAll, List.foldl, go_sem]
  exact ⟨⟨_, rfl, rfl⟩, w.reverse, rfl, rfl⟩
end Go.Proofs.Ytgkbafkmbokkaaa
end

section
namespace Go.Proofs.Ytgkbafkmbokkaaa
open Go Go.AM
set_option maxRecDepth 100000
set_option linter.unusedSimpArgs false

theorem u35 (w : List UInt8) (hw : w.length ≤ 1000000) : PFn Try.prog 35 [.str w] [.str w.reverse] := by
  refine PFn.of_body hΓ Try.func35 (by kernel_rfl) rfl (AWp.of_awpD [] hΓ hmix (by kernel_rfl) ?_)
  simp +contextual -implicitDefEqProofs only [Try.ntmps35, Try.results35, Nat.reduceAdd, Nat.reduceSub, go_sem]
  refine ⟨by omega, ?_⟩
  refine callK_ac (c93 w rfl hw) (by simp) ?_
  rintro v h' ⟨rfl, rfl⟩
  simp -implicitDefEqProofs only [killAll, List.foldl, go_sem]
  exact ⟨⟨_, rfl, rfl⟩, w.reverse, rfl, rfl⟩

/-- The row at a step: what lies ahead of i, the new digits, the old ones behind them, zeros. -/
def mulR (o : List Nat) (i : Nat) (r : List Nat) (z : Nat) : List Nat := o.take i ++ r ++ o.drop (i + r.length) ++ List.replicate z 0
theorem mulR_get {o : List Nat} {i : Nat} {r : List Nat} {z : Nat} (h : i + r.length < o.length) : ((mulR o i r z).map u32V).getD (i + r.length) default = .int .u32 ((o.getD (i + r.length) 0 : Nat) : Int) := by
  have hl : (o.take i ++ r).length = i + r.length := by simp; omega
  unfold mulR
  rw [List.getD_eq_getElem?_getD, List.getElem?_map, List.append_assoc, List.getElem?_append_right (by omega), hl, Nat.sub_self, List.drop_eq_getElem_cons h, List.getD_eq_getElem?_getD, List.getElem?_eq_getElem h]; rfl
theorem mulR_set {o : List Nat} {i : Nat} {r : List Nat} {z v : Nat} (h : i + r.length < o.length) : ((mulR o i r z).map u32V).set (i + r.length) (u32V v) = (mulR o i (r ++ [v]) z).map u32V := by
  have hl : (o.take i ++ r).length = i + r.length := by simp; omega
  unfold mulR
  rw [← List.map_set, List.append_assoc (o.take i ++ r), List.set_append_right _ _ (by omega), hl, Nat.sub_self, List.drop_eq_getElem_cons h]
  simp [Nat.add_assoc]
theorem mulR_end {o : List Nat} {i : Nat} {r : List Nat} {z v : Nat} (h : i + r.length = o.length) : ((mulR o i r (z + 1)).map u32V).set (i + r.length) (u32V v) = ((o.take i ++ r ++ [v]) ++ List.replicate z 0).map u32V := by
  have hl : (o.take i ++ r).length = i + r.length := by simp; omega
  unfold mulR
  rw [h, List.drop_length, List.append_nil, ← List.map_set, ← h, List.set_append_right _ _ (by omega), hl, Nat.sub_self, List.replicate_succ]
  simp
theorem mulR_nil {o : List Nat} {i z : Nat} : mulR o i [] z = o ++ List.replicate z 0 := by unfold mulR; simp
theorem mulR_len {o : List Nat} {i : Nat} {r : List Nat} {z : Nat} (h : i + r.length ≤ o.length) : (mulR o i r z).length = o.length + z := by unfold mulR; simp; omega

theorem mul_bound {a b : Nat} (ha : a < B32) (hb : b < B32) : a * b ≤ 4294967295 * 4294967295 := Nat.mul_le_mul (by unfold B32 at ha; omega) (by unfold B32 at hb; omega)

set_option maxHeartbeats 1000000 in
theorem u68 (x y : List Nat) (hx : ∀ d ∈ x, d < B32) (hy : ∀ d ∈ y, d < B32) (hxl : x.length ≤ 500000) (hyl : y.length ≤ 500000) : PFn Try.prog 68 [natV x, natV y] [natV (digD B32 (valD B32 x * valD B32 y))] := by
  by_cases hx0 : x = []
  · have h1 : (x.length : Int) = 0 := by rw [hx0]; rfl
    rw [show valD B32 x * valD B32 y = 0 by rw [hx0]; exact Nat.zero_mul _, digD_zero]
    refine PFn.of_body hΓ Try.func68 (by kernel_rfl) rfl (AWp.of_awpD [] hΓ hmix (by kernel_rfl) ?_)
    simp -implicitDefEqProofs only [Try.ntmps68, Try.results68, Nat.reduceAdd, Nat.reduceSub, natV, List.length_map, h1, go_sem]
    try rfl
  by_cases hy0 : y = []
  · have h1 : ¬ (x.length : Int) = 0 := fun h => hx0 (List.length_eq_zero_iff.1 (by omega))
    have h2 : (y.length : Int) = 0 := by rw [hy0]; rfl
    rw [show valD B32 x * valD B32 y = 0 by rw [hy0]; exact Nat.mul_zero _, digD_zero]
    refine PFn.of_body hΓ Try.func68 (by kernel_rfl) rfl (AWp.of_awpD [] hΓ hmix (by kernel_rfl) ?_)
    simp -implicitDefEqProofs only [Try.ntmps68, Try.results68, Nat.reduceAdd, Nat.reduceSub, natV, List.length_map, h1, h2, go_sem]
    try rfl
  have hxp : 0 < x.length := List.length_pos_iff.2 hx0
  have hyp : 0 < y.length := List.length_pos_iff.2 hy0
  have h1 : ¬ (x.length : Int) = 0 := by omega
  have h2 : ¬ (y.length : Int) = 0 := by omega
  have eL : ((x.length : Int) + (y.length : Int)).toNat = x.length + y.length := by omega
  refine PFn.of_body hΓ Try.func68 (by kernel_rfl) rfl (AWp.seq (AWp.of_awpD [] hΓ hmix (by kernel_rfl) ?_))
  simp -implicitDefEqProofs only [Try.ntmps68, Try.results68, Nat.reduceAdd, Nat.reduceSub, natV, go_sem]
  refine AWp.seq (AWp.of_awpD [] hΓ hmix (by kernel_rfl) ?_)
  simp -implicitDefEqProofs only [List.length_map, h1, h2, go_sem]
  refine AWp.seq (AWp.of_awpD [] hΓ hmix (by kernel_rfl) ?_)
  simp -implicitDefEqProofs only [List.length_map, eL, go_sem]
  refine ⟨by simp only [InR]; omega, ⟨by omega, by omega, by omega⟩, ?_⟩
  refine AWp.seq (AWp.of_awpD [] hΓ hmix (by kernel_rfl) ?_)
  simp -implicitDefEqProofs only [List.length_map, go_sem]
  refine AWp.loopI (fun z : Nat × List Nat => ⟨mkF 76 [(0, .p (natV x)), (1, .p (natV y)), (5, .own 0 (x.length + y.length)), (26, .p (natV x)), (27, .p (.int .i64 x.length)), (28, .p (.int .i64 z.1))], [.row 81 1 ((z.2 ++ List.replicate (x.length - z.1) 0).map u32V) .own]⟩)
    (fun z => z.1 ≤ x.length ∧ z.2.length = z.1 + y.length ∧ (∀ d ∈ z.2, d < B32) ∧ valD B32 z.2 = valD B32 (x.take z.1) * valD B32 y) (fun z => x.length - z.1) (0, List.replicate y.length 0) (by
      simp [go_sem, natV, u32V, List.replicate_append_replicate, Nat.add_comm]) ⟨by simp, by simp, fun d hd => by rw [List.eq_of_mem_replicate hd]; decide, by simp [valD, valD_zeros]⟩ ?_
  rintro ⟨i, o⟩ ⟨hi, ho, hod, hval⟩
  simp only at hi ho hod hval
  refine AWp.of_awpD [] hΓ hmix (by kernel_rfl) ?_
  by_cases hlt : i < x.length
  · have hgx : (x.map u32V).getD i default = .int .u32 ((x.getD i 0 : Nat) : Int) := by
      rw [getD_map_lt _ _ _ _ hlt, List.getD_eq_getElem?_getD, List.getElem?_eq_getElem hlt]; rfl
    have dx : x.getD i 0 < B32 := by
      rw [List.getD_eq_getElem?_getD, List.getElem?_eq_getElem hlt, Option.getD_some]; exact hx _ (List.getElem_mem hlt)
    have tx := valD_take (l := x) B32 i
    generalize x.getD i 0 = a at *
    have hwa : IntKind.u64.wrap (a : Int) = a := InR.wrap (k := .u64) (by simp only [InR]; unfold B32 at dx; omega)
    simp -implicitDefEqProofs only [natV, List.length_map, hlt, hgx, go_sem]
    refine AWp.loopI (fun z : List Nat × Nat => ⟨mkF 76 [(0, .p (natV x)), (1, .p (natV y)), (5, .own 0 (x.length + y.length)), (6, .p (.int .i64 i)), (7, .p (.int .u32 a)), (8, .p (.int .u64 z.2)), (26, .p (natV x)), (27, .p (.int .i64 x.length)), (28, .p (.int .i64 i)), (33, .p (natV y)), (34, .p (.int .i64 y.length)), (35, .p (.int .i64 z.1.length))], [.row 81 1 ((mulR o i z.1 (x.length - i)).map u32V) .own]⟩)
      (fun z => z.1.length ≤ y.length ∧ (∀ d ∈ z.1, d < B32) ∧ z.2 < B32 ∧ valD B32 z.1 + z.2 * B32 ^ z.1.length = valD B32 ((o.drop i).take z.1.length) + a * valD B32 (y.take z.1.length)) (fun z => y.length - z.1.length) ([], 0) (by
        simp [go_sem, natV, mulR_nil]) ⟨by simp, by simp, by decide, by simp [valD]⟩ ?_
    rintro ⟨r, c⟩ ⟨hr, hrd, hc, hv⟩
    simp only at hr hrd hc hv
    refine AWp.of_awpD [] hΓ hmix (by kernel_rfl) ?_
    by_cases hlt2 : r.length < y.length
    · have hgy : (y.map u32V).getD r.length default = .int .u32 ((y.getD r.length 0 : Nat) : Int) := by
        rw [getD_map_lt _ _ _ _ hlt2, List.getD_eq_getElem?_getD, List.getElem?_eq_getElem hlt2]; rfl
      have dy : y.getD r.length 0 < B32 := by
        rw [List.getD_eq_getElem?_getD, List.getElem?_eq_getElem hlt2, Option.getD_some]; exact hy _ (List.getElem_mem hlt2)
      have hio : i + r.length < o.length := by omega
      have ty := valD_take (l := y) B32 r.length
      have to := valD_take (l := o.drop i) B32 r.length
      have hgo2 : (o.drop i).getD r.length 0 = o.getD (i + r.length) 0 := by
        rw [List.getD_eq_getElem?_getD, List.getElem?_drop, List.getD_eq_getElem?_getD]
      have hgo := mulR_get (z := x.length - i) hio
      have dO : o.getD (i + r.length) 0 < B32 := by
        rw [List.getD_eq_getElem?_getD, List.getElem?_eq_getElem hio, Option.getD_some]; exact hod _ (List.getElem_mem hio)
      rw [hgo2] at to
      generalize y.getD r.length 0 = b at *
      generalize hqv : o.getD (i + r.length) 0 = qv at *
      have hab := mul_bound dx dy
      obtain ⟨ab, habE⟩ : ∃ ab, ab = a * b := ⟨_, rfl⟩
      rw [← habE] at hab
      have habI : (a : Int) * (b : Int) = (ab : Int) := by rw [habE]; simp
      have hwb : IntKind.u64.wrap (b : Int) = b := InR.wrap (k := .u64) (by simp only [InR]; unfold B32 at dy; omega)
      have hwq : IntKind.u64.wrap (qv : Int) = qv := InR.wrap (k := .u64) (by simp only [InR]; unfold B32 at dO; omega)
      obtain ⟨s, hs⟩ : ∃ s, s = ab + qv + c := ⟨_, rfl⟩
      have hsI : (ab : Int) + (qv : Int) + (c : Int) = (s : Int) := by omega
      have hs32 : IntKind.u32.wrap (s : Int) = ((s % B32 : Nat) : Int) := wrap_u32 s
      have hsd : (s : Int) / 2 ^ Int.toNat 32 = ((s / B32 : Nat) : Int) := by
        have : (2 : Int) ^ Int.toNat 32 = ((B32 : Nat) : Int) := rfl
        rw [this, Int.natCast_ediv]
      have hsb : s < 4294967296 * 4294967296 := by unfold B32 at dO hc; omega
      have hset := mulR_set (z := x.length - i) (v := s % B32) hio
      have hlen := mulR_len (z := x.length - i) (Nat.le_of_lt hio)
      have eik : ((i : Int) + (r.length : Int)).toNat = i + r.length := by omega
      simp -implicitDefEqProofs only [natV, List.length_map, hlt2, hgy, hwa, hwb, habI, eik, hgo, hwq, hsI, hs32, hsd, hset, go_sem]
      have hrl : (r ++ [s % B32]).length = r.length + 1 := by simp
      have hvv : valD B32 (r ++ [s % B32]) + s / B32 * B32 ^ (r.length + 1) = valD B32 ((o.drop i).take (r.length + 1)) + a * valD B32 (y.take (r.length + 1)) := by
        rw [to, ty, valD_append, Nat.pow_succ]
        have e1 : valD B32 [s % B32] = s % B32 := by simp [valD]
        rw [e1]
        have e2 : s % B32 + B32 * (s / B32) = s := Nat.mod_add_div s B32
        generalize hP : B32 ^ r.length = P at *
        have e3 : P * (s % B32) + s / B32 * (P * B32) = P * s := by
          conv => rhs; rw [← e2, Nat.mul_add]
          rw [Nat.mul_comm (s / B32), Nat.mul_assoc]
        have e4 : P * s = ab * P + qv * P + c * P := by rw [hs, Nat.mul_comm, Nat.add_mul, Nat.add_mul]
        have e5 : a * (valD B32 (y.take r.length) + b * P) = a * valD B32 (y.take r.length) + ab * P := by rw [Nat.mul_add, habE, Nat.mul_assoc]
        omega
      have hset' : ((mulR o i r (x.length - i)).map u32V).set (i + r.length) (.int .u32 ((s % B32 : Nat) : Int)) = (mulR o i (r ++ [s % B32]) (x.length - i)).map u32V := hset
      have hcb : s / B32 < B32 := by unfold B32; omega
      refine ⟨by simp only [InR]; omega, by simp only [InR]; omega, ⟨by omega, by omega⟩, by omega, by simp only [InR]; unfold B32 at dO; omega, by simp only [InR]; omega, by simp only [InR]; omega, ⟨by omega, by omega⟩, ⟨by omega, by omega⟩, ⟨by omega, rfl⟩, by simp only [InR]; omega, (r ++ [s % B32], s / B32), ⟨⟨rfl, by simp⟩, .inl hset'.symm⟩, ⟨by simp only; omega, fun d hd => ?_, hcb, by simp only; rw [hrl]; exact hvv⟩, by simp only; omega⟩
      rcases List.mem_append.1 hd with hd | hd
      · exact hrd d hd
      · rw [List.mem_singleton] at hd; subst hd; exact Nat.mod_lt _ (by decide)
    · have hrn : r.length = y.length := by omega
      have hz : ¬ (y.length : Int) < y.length := by omega
      have hcw : IntKind.u32.wrap (c : Int) = (c : Int) := InR.wrap (k := .u32) (by unfold B32 at hc; simp only [InR]; omega)
      have hend := mulR_end (o := o) (i := i) (r := r) (z := x.length - (i + 1)) (v := c) (by omega)
      rw [show x.length - (i + 1) + 1 = x.length - i by omega, hrn] at hend
      have hend' : ((mulR o i r (x.length - i)).map u32V).set (i + y.length) (.int .u32 (c : Int)) = ((o.take i ++ r ++ [c]) ++ List.replicate (x.length - (i + 1)) 0).map u32V := hend
      have hlen := mulR_len (o := o) (i := i) (r := r) (z := x.length - i) (by omega)
      have eik : ((i : Int) + (y.length : Int)).toNat = i + y.length := by omega
      rw [hrn] at hv ⊢
      have hvt : (o.drop i).take y.length = o.drop i := List.take_of_length_le (by simp; omega)
      rw [hvt, List.take_of_length_le (Nat.le_refl _)] at hv
      have hvo := valD_split B32 i o
      have htl : (o.take i).length = i := by simp; omega
      rw [htl] at hvo
      have hvn : valD B32 (o.take i ++ r ++ [c]) = valD B32 (x.take (i + 1)) * valD B32 y := by
        rw [valD_append, valD_append, htl, tx]
        have e1 : valD B32 [c] = c := by simp [valD]
        have e2 : (o.take i ++ r).length = i + y.length := by simp [htl, hrn]
        rw [e1, e2, Nat.pow_add]
        generalize B32 ^ i = P at *
        generalize B32 ^ y.length = Q at *
        have e3 : P * (valD B32 r + c * Q) = P * (valD B32 (o.drop i) + a * valD B32 y) := by rw [hv]
        rw [Nat.mul_add, Nat.mul_add] at e3
        have e4 : P * Q * c = P * (c * Q) := by rw [Nat.mul_assoc, Nat.mul_comm Q]
        have e5 : (valD B32 (x.take i) + a * P) * valD B32 y = valD B32 (x.take i) * valD B32 y + P * (a * valD B32 y) := by
          rw [Nat.add_mul, Nat.mul_comm a P, Nat.mul_assoc]
        rw [e4, e5, ← hval]
        omega
      simp -implicitDefEqProofs only [natV, List.length_map, hz, hcw, eik, hend', go_sem]
      refine ⟨by simp only [InR]; omega, ⟨by omega, by omega⟩, ⟨by omega, rfl⟩, by simp only [InR]; omega, (i + 1, o.take i ++ r ++ [c]), ⟨rfl, .inl rfl⟩, ⟨hlt, by simp [htl, hrn]; omega, fun d hd => ?_, hvn⟩, by simp only; omega⟩
      rcases List.mem_append.1 hd with hd | hd
      · rcases List.mem_append.1 hd with hd | hd
        · exact hod d (List.mem_of_mem_take hd)
        · exact hrd d hd
      · rw [List.mem_singleton] at hd; subst hd; exact hc
  · simp -implicitDefEqProofs only [natV, List.length_map, hlt, go_sem]
    have hin : i = x.length := by omega
    have hrow : o ++ List.replicate (x.length - i) 0 = o := by rw [hin]; simp
    rw [hin, List.take_of_length_le (Nat.le_refl _)] at hval
    rw [hrow]
    refine AWp.freeze 0 rfl ?_
    refine AWp.of_awpD [] hΓ hmix (by kernel_rfl) ?_
    simp -implicitDefEqProofs only [Frozen, go_sem]
    have e91 := u91 o (by omega)
    rw [trimL_eq (B := B32) (by decide) hod, hval] at e91
    refine callK_fn e91 (.pures rfl) ?_
    simp -implicitDefEqProofs only [natV, go_sem]
end Go.Proofs.Ytgkbafkmbokkaaa
end

section
namespace Go.Proofs.Ytgkbafkmbokkaaa
open Go Go.AM
set_option maxRecDepth 100000
set_option linter.unusedSimpArgs false

/-- All readings of w as words of ws, f words at most. -/
def facsF (ws : List (List UInt8)) : Nat → List UInt8 → List (List (List UInt8))
  | 0, w => if w = [] then [[]] else []
  | f + 1, w => if w = [] then [[]] else ws.flatMap fun x => if x.isPrefixOf w then (facsF ws f (w.drop x.length)).map (x :: ·) else []
def facs (ws : List (List UInt8)) (w : List UInt8) : List (List (List UInt8)) := facsF ws w.length w
/-- How many. -/
def cnt (ws : List (List UInt8)) (w : List UInt8) : Nat := (facs ws w).length

theorem facsF_more {ws : List (List UInt8)} (hn : ∀ x ∈ ws, x ≠ []) : ∀ (f : Nat) (w : List UInt8), w.length ≤ f → facsF ws f w = facs ws w := by
  intro f
  induction f using Nat.strongRecOn with
  | _ f ih =>
    intro w hw
    cases w with
    | nil => cases f <;> simp [facs, facsF]
    | cons b w =>
      cases f with
      | zero => simp at hw
      | succ f =>
        have e1 : facs ws (b :: w) = facsF ws (w.length + 1) (b :: w) := rfl
        rw [e1]
        unfold facsF
        rw [if_neg (by simp), if_neg (by simp)]
        rw [List.flatMap_def, List.flatMap_def]
        congr 1
        apply List.map_congr_left
        intro x hx
        split
        · have hxl : 0 < x.length := List.length_pos_iff.2 (hn x hx)
          have hd : ((b :: w).drop x.length).length ≤ w.length := by simp; omega
          have hd2 : ((b :: w).drop x.length).length ≤ f := by simp at hw; omega
          rw [ih f (by omega) _ hd2]
          by_cases hwf : w.length < f + 1
          · rw [ih w.length hwf _ hd]
          · simp at hw; omega
        · rfl
theorem facs_step {ws : List (List UInt8)} (hn : ∀ x ∈ ws, x ≠ []) {w : List UInt8} (hw : w ≠ []) : facs ws w = ws.flatMap fun x => if x.isPrefixOf w then (facs ws (w.drop x.length)).map (x :: ·) else [] := by
  cases w with
  | nil => exact absurd rfl hw
  | cons b w =>
    have e1 : facs ws (b :: w) = facsF ws (w.length + 1) (b :: w) := rfl
    rw [e1]
    unfold facsF
    rw [if_neg (by simp), List.flatMap_def, List.flatMap_def]
    congr 1
    apply List.map_congr_left
    intro x hx
    have hxl : 0 < x.length := List.length_pos_iff.2 (hn x hx)
    split
    · rw [facsF_more hn _ _ (by simp; omega)]
    · rfl
/-- The first of ws, counted: readings that begin with one of them. -/
def cntL (ws vs : List (List UInt8)) (w : List UInt8) : Nat := (vs.map fun x => if x.isPrefixOf w then cnt ws (w.drop x.length) else 0).sum
theorem cnt_nil (ws : List (List UInt8)) : cnt ws [] = 1 := rfl
theorem cnt_step {ws : List (List UInt8)} (hn : ∀ x ∈ ws, x ≠ []) {w : List UInt8} (hw : w ≠ []) : cnt ws w = cntL ws ws w := by
  unfold cnt cntL
  rw [facs_step hn hw, List.length_flatMap]
  congr 1
  apply List.map_congr_left
  intro x _
  split
  · rw [List.length_map]; rfl
  · rfl
theorem cntL_snoc (ws vs : List (List UInt8)) (x w : List UInt8) : cntL ws (vs ++ [x]) w = cntL ws vs w + if x.isPrefixOf w then cnt ws (w.drop x.length) else 0 := by
  simp [cntL, List.sum_append]

theorem mem_facs {ws : List (List UInt8)} (hn : ∀ x ∈ ws, x ≠ []) {l : List (List UInt8)} : ∀ {w : List UInt8}, l ∈ facs ws w ↔ (∀ x ∈ l, x ∈ ws) ∧ l.flatten = w := by
  induction l with
  | nil =>
    intro w
    cases w with
    | nil => simp [facs, facsF]
    | cons b w =>
      rw [facs_step hn (by simp)]
      simp
  | cons y l ih =>
    intro w
    cases w with
    | nil =>
      constructor
      · intro h; simp [facs, facsF] at h
      · rintro ⟨h1, h2⟩
        have := hn y (h1 y (by simp))
        simp at h2
        exact absurd h2.1 this
    | cons b w =>
      rw [facs_step hn (by simp), List.mem_flatMap]
      constructor
      · rintro ⟨x, hx, h⟩
        split at h
        · rename_i hp
          obtain ⟨m, hm, e⟩ := List.mem_map.1 h
          injection e with e1 e2
          subst e1; subst e2
          obtain ⟨h1, h2⟩ := ih.1 hm
          refine ⟨fun z hz => ?_, ?_⟩
          · rcases List.mem_cons.1 hz with rfl | hz
            · exact hx
            · exact h1 z hz
          · obtain ⟨t, ht⟩ := List.isPrefixOf_iff_prefix.1 hp
            rw [List.flatten_cons, h2, ← ht, List.drop_left]
        · cases h
      · rintro ⟨h1, h2⟩
        refine ⟨y, h1 y (by simp), ?_⟩
        rw [List.flatten_cons] at h2
        have hp : y.isPrefixOf (b :: w) = true := List.isPrefixOf_iff_prefix.2 ⟨_, h2⟩
        rw [if_pos hp]
        refine List.mem_map.2 ⟨l, ih.2 ⟨fun z hz => h1 z (by simp [hz]), ?_⟩, rfl⟩
        rw [← h2, List.drop_left]

theorem nodup_map {α β : Type} {f : α → β} (hf : ∀ a b, f a = f b → a = b) : ∀ {l : List α}, l.Nodup → (l.map f).Nodup
  | [], _ => by simp
  | a :: l, h => by
    rw [List.nodup_cons] at h
    rw [List.map_cons, List.nodup_cons]
    refine ⟨fun hm => ?_, nodup_map hf h.2⟩
    obtain ⟨b, hb, e⟩ := List.mem_map.1 hm
    exact h.1 (hf _ _ e ▸ hb)
theorem nodup_append {α : Type} {l m : List α} (h1 : l.Nodup) (h2 : m.Nodup) (h3 : ∀ a ∈ l, a ∉ m) : (l ++ m).Nodup := by
  unfold List.Nodup at *
  rw [List.pairwise_append]
  exact ⟨h1, h2, fun a ha b hb e => h3 a ha (e ▸ hb)⟩
theorem facs_nodup {ws : List (List UInt8)} (hn : ∀ x ∈ ws, x ≠ []) (hd : ws.Nodup) : ∀ (n : Nat) (w : List UInt8), w.length ≤ n → (facs ws w).Nodup := by
  intro n
  induction n with
  | zero =>
    intro w hw
    have : w = [] := List.length_eq_zero_iff.1 (by omega)
    subst this; simp [facs, facsF]
  | succ n ih =>
    intro w hw
    cases w with
    | nil => simp [facs, facsF]
    | cons b w =>
      rw [facs_step hn (by simp)]
      have key : ∀ vs : List (List UInt8), (∀ x ∈ vs, x ∈ ws) → vs.Nodup → (vs.flatMap fun x => if x.isPrefixOf (b :: w) then (facs ws ((b :: w).drop x.length)).map (x :: ·) else []).Nodup := by
        intro vs
        induction vs with
        | nil => intro _ _; simp
        | cons v vs ihv =>
          intro hv hvd
          rw [List.nodup_cons] at hvd
          rw [List.flatMap_cons]
          refine nodup_append ?_ (ihv (fun x hx => hv x (by simp [hx])) hvd.2) ?_
          · split
            · refine nodup_map (fun a b e => by injection e) (ih _ ?_)
              have : 0 < v.length := List.length_pos_iff.2 (hn v (hv v (by simp)))
              simp at hw ⊢; omega
            · simp
          · intro a ha hm
            split at ha
            · obtain ⟨l, _, rfl⟩ := List.mem_map.1 ha
              obtain ⟨x, hx, h⟩ := List.mem_flatMap.1 hm
              split at h
              · obtain ⟨m, _, e⟩ := List.mem_map.1 h
                injection e with e1 e2
                exact hvd.1 (e1 ▸ hx)
              · cases h
            · cases ha
      exact key ws (fun x hx => hx) hd

/-- A list without repetitions whose members all lie in another one is not longer. -/
theorem nodup_len {α : Type} [DecidableEq α] : ∀ {l m : List α}, l.Nodup → (∀ a ∈ l, a ∈ m) → l.length ≤ m.length
  | [], _, _, _ => by simp
  | a :: l, m, h, hs => by
    rw [List.nodup_cons] at h
    have ha : a ∈ m := hs a (by simp)
    have h2 := nodup_len (l := l) (m := m.erase a) h.2 (fun b hb => by
      have hne : b ≠ a := fun e => h.1 (e ▸ hb)
      exact (List.mem_erase_of_ne hne).2 (hs b (by simp [hb])))
    have h3 := List.length_erase_of_mem ha
    have h4 : 0 < m.length := List.length_pos_of_mem ha
    simp; omega

/-! ### At most one reading -/
theorem one_of_all {α : Type} {l : List α} (hd : l.Nodup) (h : ∀ a ∈ l, ∀ b ∈ l, a = b) : l.length ≤ 1 := by
  match l, hd, h with
  | [], _, _ => simp
  | [_], _, _ => simp
  | a :: b :: l, hd, h =>
    have := h a (by simp) b (by simp)
    rw [List.nodup_cons] at hd
    exact absurd (by simp [this]) hd.1
/-- Words none of which begins with another one: one reading. -/
theorem pre_one {ws : List (List UInt8)} (hn : ∀ x ∈ ws, x ≠ []) (hp : ∀ x ∈ ws, ∀ y ∈ ws, x <+: y → x = y) : ∀ {l m : List (List UInt8)}, (∀ x ∈ l, x ∈ ws) → (∀ x ∈ m, x ∈ ws) → l.flatten = m.flatten → l = m
  | [], [], _, _, _ => rfl
  | [], y :: m, _, hm, e => by
    simp at e
    exact absurd e.1 (hn y (hm y (by simp)))
  | x :: l, [], hl, _, e => by
    simp at e
    exact absurd e.1 (hn x (hl x (by simp)))
  | x :: l, y :: m, hl, hm, e => by
    rw [List.flatten_cons, List.flatten_cons] at e
    have hx := hl x (by simp)
    have hy := hm y (by simp)
    have hxy : x = y := by
      rcases List.prefix_or_prefix_of_prefix (l₁ := x) (l₂ := y) (l₃ := x ++ l.flatten) ⟨_, rfl⟩ ⟨_, e.symm⟩ with h | h
      · exact hp x hx y hy h
      · exact (hp y hy x hx h).symm
    subst hxy
    rw [pre_one hn hp (fun z hz => hl z (by simp [hz])) (fun z hz => hm z (by simp [hz])) (List.append_cancel_left e)]

/-- All words reversed, in reversed order. -/
def turnL (l : List (List UInt8)) : List (List UInt8) := (l.map List.reverse).reverse
theorem turnL_flatten (l : List (List UInt8)) : (turnL l).flatten = l.flatten.reverse := by
  unfold turnL
  rw [List.reverse_flatten]
theorem turnL_turnL (l : List (List UInt8)) : turnL (turnL l) = l := by
  unfold turnL; rw [List.map_reverse, List.reverse_reverse, List.map_map]
  conv => rhs; rw [← List.map_id l]
  congr 1; funext x; simp
theorem turnL_mem {l : List (List UInt8)} {x : List UInt8} : x ∈ turnL l ↔ x.reverse ∈ l := by
  unfold turnL
  rw [List.mem_reverse, List.mem_map]
  constructor
  · rintro ⟨a, ha, rfl⟩; simpa using ha
  · intro h; exact ⟨_, h, by simp⟩
theorem suf_one {ws : List (List UInt8)} (hn : ∀ x ∈ ws, x ≠ []) (hp : ∀ x ∈ ws, ∀ y ∈ ws, x <:+ y → x = y) {l m : List (List UInt8)} (hl : ∀ x ∈ l, x ∈ ws) (hm : ∀ x ∈ m, x ∈ ws) (e : l.flatten = m.flatten) : l = m := by
  have h := pre_one (ws := ws.map List.reverse) (fun x hx => by
    obtain ⟨a, ha, rfl⟩ := List.mem_map.1 hx
    simpa using hn a ha) (fun x hx y hy h => by
    obtain ⟨a, ha, rfl⟩ := List.mem_map.1 hx
    obtain ⟨b, hb, rfl⟩ := List.mem_map.1 hy
    rw [hp a ha b hb (List.reverse_prefix.1 h)]) (l := turnL l) (m := turnL m)
    (fun x hx => List.mem_map.2 ⟨_, hl _ (turnL_mem.1 hx), by simp⟩) (fun x hx => List.mem_map.2 ⟨_, hm _ (turnL_mem.1 hx), by simp⟩) (by rw [turnL_flatten, turnL_flatten, e])
  have := congrArg turnL h
  rwa [turnL_turnL, turnL_turnL] at this
theorem cnt_one {ws : List (List UInt8)} (hn : ∀ x ∈ ws, x ≠ []) (hd : ws.Nodup) (hp : (∀ x ∈ ws, ∀ y ∈ ws, x <+: y → x = y) ∨ (∀ x ∈ ws, ∀ y ∈ ws, x <:+ y → x = y)) (w : List UInt8) : cnt ws w ≤ 1 := by
  refine one_of_all (facs_nodup hn hd _ w (Nat.le_refl _)) fun l hl m hm => ?_
  obtain ⟨h1, h2⟩ := (mem_facs hn).1 hl
  obtain ⟨h3, h4⟩ := (mem_facs hn).1 hm
  rcases hp with hp | hp
  · exact pre_one hn hp h1 h3 (h2.trans h4.symm)
  · exact suf_one hn hp h1 h3 (h2.trans h4.symm)

/-! ### Two words together, reversed words -/
theorem cntL_mono {ws vs : List (List UInt8)} (u v : List UInt8) (k : Nat) (h : ∀ x ∈ vs, x.isPrefixOf u → cnt ws (u.drop x.length) * k ≤ cnt ws (u.drop x.length ++ v)) : cntL ws vs u * k ≤ cntL ws vs (u ++ v) := by
  induction vs with
  | nil => simp [cntL]
  | cons x vs ih =>
    have e : ∀ w, cntL ws (x :: vs) w = (if x.isPrefixOf w then cnt ws (w.drop x.length) else 0) + cntL ws vs w := fun w => by simp [cntL]
    rw [e, e, Nat.add_mul]
    have h1 := ih (fun y hy => h y (by simp [hy]))
    by_cases hx : x.isPrefixOf u = true
    · have hx2 : x.isPrefixOf (u ++ v) = true := List.isPrefixOf_iff_prefix.2 ((List.isPrefixOf_iff_prefix.1 hx).trans (List.prefix_append u v))
      have hxl : x.length ≤ u.length := (List.isPrefixOf_iff_prefix.1 hx).length_le
      rw [if_pos hx, if_pos hx2, List.drop_append_of_le_length hxl]
      have := h x (by simp) hx
      omega
    · rw [if_neg hx]; simp; omega
theorem cnt_mul {ws : List (List UInt8)} (hn : ∀ x ∈ ws, x ≠ []) (v : List UInt8) : ∀ (n : Nat) (u : List UInt8), u.length ≤ n → cnt ws u * cnt ws v ≤ cnt ws (u ++ v)
  | 0, u, h => by
    have : u = [] := List.length_eq_zero_iff.1 (by omega)
    subst this; rw [cnt_nil]; simp
  | n + 1, u, h => by
    cases u with
    | nil => rw [cnt_nil]; simp
    | cons b u =>
      rw [cnt_step hn (by simp), cnt_step hn (w := b :: u ++ v) (by simp)]
      refine cntL_mono _ _ _ fun x hx hp => cnt_mul hn v n _ ?_
      have : 0 < x.length := List.length_pos_iff.2 (hn x hx)
      simp at h ⊢; omega
theorem cnt_turn_le {ws vs : List (List UInt8)} (hn : ∀ x ∈ ws, x ≠ []) (hm : ∀ x ∈ vs, x ≠ []) (hd : ws.Nodup) (hv : ∀ x, x ∈ ws → x.reverse ∈ vs) (w : List UInt8) : cnt ws w ≤ cnt vs w.reverse := by
  have h1 : ((facs ws w).map turnL).Nodup := nodup_map (fun a b e => by have := congrArg turnL e; rwa [turnL_turnL, turnL_turnL] at this) (facs_nodup hn hd _ w (Nat.le_refl _))
  have h2 := nodup_len (m := facs vs w.reverse) h1 (fun a ha => by
    obtain ⟨l, hl, rfl⟩ := List.mem_map.1 ha
    obtain ⟨h3, h4⟩ := (mem_facs hn).1 hl
    refine (mem_facs hm).2 ⟨fun x hx => ?_, by rw [turnL_flatten, h4]⟩
    have := hv _ (h3 _ (turnL_mem.1 hx))
    rwa [List.reverse_reverse] at this)
  rwa [List.length_map] at h2
theorem cnt_turn {ws vs : List (List UInt8)} (hn : ∀ x ∈ ws, x ≠ []) (hm : ∀ x ∈ vs, x ≠ []) (hd : ws.Nodup) (he : vs.Nodup) (hv : ∀ x, x ∈ vs ↔ x.reverse ∈ ws) (w : List UInt8) : cnt vs w.reverse = cnt ws w := by
  refine Nat.le_antisymm ?_ (cnt_turn_le hn hm hd (fun x hx => (hv _).2 (by rwa [List.reverse_reverse])) w)
  have := cnt_turn_le hm hn he (fun x hx => (hv x).1 hx) w.reverse
  rwa [List.reverse_reverse] at this
/-- How many readings there can be. -/
theorem cntL_le {ws vs : List (List UInt8)} {w : List UInt8} {m : Nat} (h : ∀ x ∈ vs, x.isPrefixOf w → cnt ws (w.drop x.length) ≤ m) : cntL ws vs w ≤ vs.length * m := by
  induction vs with
  | nil => simp [cntL]
  | cons x vs ih =>
    have e : cntL ws (x :: vs) w = (if x.isPrefixOf w then cnt ws (w.drop x.length) else 0) + cntL ws vs w := by simp [cntL]
    have h1 := ih fun y hy => h y (by simp [hy])
    rw [e, List.length_cons, Nat.add_mul]
    split
    · rename_i hx
      have := h x (by simp) hx
      omega
    · omega
theorem cnt_pow {ws : List (List UInt8)} (hn : ∀ x ∈ ws, x ≠ []) {m : Nat} (hm : ws.length ≤ m) (hp : 0 < m) : ∀ (n : Nat) (w : List UInt8), w.length ≤ n → cnt ws w ≤ m ^ n
  | 0, w, h => by
    have : w = [] := List.length_eq_zero_iff.1 (by omega)
    subst this; rw [cnt_nil]; simp
  | n + 1, w, h => by
    cases w with
    | nil => rw [cnt_nil]; exact Nat.pow_pos hp
    | cons b w =>
      rw [cnt_step hn (by simp), Nat.pow_succ, Nat.mul_comm]
      refine Nat.le_trans (cntL_le (m := m ^ n) fun x hx _ => cnt_pow hn hm hp n _ ?_) (Nat.mul_le_mul_right _ hm)
      have : 0 < x.length := List.length_pos_iff.2 (hn x hx)
      simp at h ⊢; omega
end Go.Proofs.Ytgkbafkmbokkaaa
end

section
namespace Go.Proofs.Ytgkbafkmbokkaaa
open Go Go.AM
set_option maxRecDepth 100000
set_option linter.unusedSimpArgs false

theorem cnt_cap {ws : List (List UInt8)} (hn : ∀ x ∈ ws, x ≠ []) (hws : ws.length ≤ 256) {w : List UInt8} (hw : w.length ≤ 40) : cnt ws w ≤ 256 ^ 40 := by
  refine Nat.le_trans (cnt_pow hn hws (by decide) w.length w (Nat.le_refl _)) (Nat.pow_le_pow_right (by decide) hw)
theorem cntL_cap {ws vs : List (List UInt8)} (hn : ∀ x ∈ ws, x ≠ []) (hws : ws.length ≤ 256) (hvs : vs.length ≤ 256) {w : List UInt8} (hw : w.length ≤ 40) : cntL ws vs w ≤ 256 ^ 41 := by
  refine Nat.le_trans (cntL_le (m := 256 ^ 40) fun x _ _ => cnt_cap hn hws (by simp; omega)) ?_
  rw [show (41 : Nat) = 40 + 1 from rfl, Nat.pow_succ, Nat.mul_comm]
  exact Nat.mul_le_mul_left _ hvs
theorem cap_41 {n : Nat} (h : n ≤ 256 ^ 41) : n < capN := Nat.lt_of_le_of_lt h (by unfold capN; exact Nat.pow_lt_pow_right (by decide) (by omega))
theorem cap_40 {n : Nat} (h : n ≤ 256 ^ 40) : n < capN := Nat.lt_of_le_of_lt h (by unfold capN; exact Nat.pow_lt_pow_right (by decide) (by omega))

/-- The row of counts: all offsets behind n, and the first k words at n. -/
def cntV (ws : List (List UInt8)) (w : List UInt8) (n k j : Nat) : Nat := if n < j then cnt ws (w.drop j) else if j = n then cntL ws (ws.take k) (w.drop n) else 0
def cntH (ws : List (List UInt8)) (w : List UInt8) (n k : Nat) : List PV := (List.range (w.length + 1)).map fun j => intN false (cntV ws w n k j)
/-- All counts. -/
def cntR (ws : List (List UInt8)) (w : List UInt8) (n : Nat) : List PV := (List.range (w.length + 1)).map fun j => intN false (if n ≤ j then cnt ws (w.drop j) else 0)
theorem cntH_len (ws : List (List UInt8)) (w : List UInt8) (n k : Nat) : (cntH ws w n k).length = w.length + 1 := by simp [cntH]
theorem cntR_len (ws : List (List UInt8)) (w : List UInt8) (n : Nat) : (cntR ws w n).length = w.length + 1 := by simp [cntR]
theorem cntH_get {ws : List (List UInt8)} {w : List UInt8} {n k j : Nat} (h : j ≤ w.length) : (cntH ws w n k)[j]? = some (intN false (cntV ws w n k j)) := by
  simp [cntH, List.getElem?_map, List.getElem?_range (show j < w.length + 1 by omega)]
theorem cntR_get {ws : List (List UInt8)} {w : List UInt8} {n j : Nat} (h : j ≤ w.length) : (cntR ws w n)[j]? = some (intN false (if n ≤ j then cnt ws (w.drop j) else 0)) := by
  simp [cntR, List.getElem?_map, List.getElem?_range (show j < w.length + 1 by omega)]
theorem cntR_H {ws : List (List UInt8)} {w : List UInt8} {n : Nat} : cntR ws w (n + 1) = cntH ws w n 0 := by
  unfold cntR cntH cntV
  apply List.map_congr_left
  intro j _
  congr 1
  by_cases h : n < j
  · rw [if_pos (show n + 1 ≤ j from h), if_pos h]
  · rw [if_neg (show ¬ n + 1 ≤ j from h), if_neg h]; split <;> rfl
theorem cntH_R {ws : List (List UInt8)} (hn : ∀ x ∈ ws, x ≠ []) {w : List UInt8} {n : Nat} (h : n < w.length) : cntH ws w n ws.length = cntR ws w n := by
  unfold cntR cntH cntV
  apply List.map_congr_left
  intro j _
  congr 1
  by_cases h1 : n < j
  · rw [if_pos h1, if_pos (by omega)]
  · rw [if_neg h1]
    by_cases h2 : j = n
    · subst h2
      rw [if_pos rfl, if_pos (Nat.le_refl _), List.take_length, cnt_step hn]
      intro e
      have := congrArg List.length e
      simp at this; omega
    · rw [if_neg h2, if_neg (by omega)]
theorem cntH_no {ws : List (List UInt8)} {w : List UInt8} {n k : Nat} (hk : k < ws.length) (h : ws[k].isPrefixOf (w.drop n) = false) : cntH ws w n (k + 1) = cntH ws w n k := by
  unfold cntH cntV
  apply List.map_congr_left
  intro j _
  congr 1
  by_cases h1 : n < j
  · rw [if_pos h1, if_pos h1]
  · rw [if_neg h1, if_neg h1]
    by_cases h2 : j = n
    · rw [if_pos h2, if_pos h2, List.take_succ_eq_append_getElem hk, cntL_snoc, h]; simp
    · rw [if_neg h2, if_neg h2]
theorem cntH_yes {ws : List (List UInt8)} {w : List UInt8} {n k : Nat} (hk : k < ws.length) (h : ws[k].isPrefixOf (w.drop n) = true) (hn : n ≤ w.length) :
    (cntH ws w n k).set n (intN false (cntL ws (ws.take k) (w.drop n) + cnt ws (w.drop (n + ws[k].length)))) = cntH ws w n (k + 1) := by
  apply List.ext_getElem?
  intro j
  by_cases hj : j ≤ w.length
  · rw [List.getElem?_set, cntH_get hj, cntH_get hj]
    by_cases h2 : n = j
    · subst h2
      rw [if_pos rfl, if_pos (by rw [cntH_len]; omega)]
      unfold cntV
      rw [if_neg (by omega), if_pos rfl, List.take_succ_eq_append_getElem hk, cntL_snoc, h, if_pos rfl, List.drop_drop]
    · rw [if_neg h2]
      unfold cntV
      by_cases h1 : n < j
      · rw [if_pos h1, if_pos h1]
      · rw [if_neg h1, if_neg h1, if_neg (by omega), if_neg (by omega)]
  · rw [List.getElem?_eq_none (by simp [cntH_len]; omega), List.getElem?_eq_none (by rw [cntH_len]; omega)]

theorem cntR_start (ws : List (List UInt8)) (w : List UInt8) : (List.replicate (w.length + 1) (intN false 0)).set w.length (intN false 1) = cntR ws w w.length := by
  apply List.ext_getElem?
  intro j
  by_cases hj : j ≤ w.length
  · rw [List.getElem?_set, cntR_get hj]
    by_cases h2 : w.length = j
    · subst h2
      rw [if_pos rfl, if_pos (by simp), if_pos (Nat.le_refl _), List.drop_length]; rfl
    · rw [if_neg h2, List.getElem?_replicate, if_pos (by omega), if_neg (by omega)]
  · rw [List.getElem?_eq_none (by simp; omega), List.getElem?_eq_none (by rw [cntR_len]; omega)]
theorem size_int (l : List Nat) : sizeOK (l.map (intN false)) 2 := fun x hx => by
  obtain ⟨b, _, rfl⟩ := List.mem_map.1 hx
  rfl
theorem cntH_size (ws : List (List UInt8)) (w : List UInt8) (n k : Nat) : sizeOK (cntH ws w n k) 2 := fun x hx => by
  obtain ⟨b, _, rfl⟩ := List.mem_map.1 hx
  rfl

theorem u64 (q : Int) (ws : List (List UInt8)) (w : List UInt8) (hn : ∀ x ∈ ws, x ≠ []) (hws : ws.length ≤ 256) (hw : w.length ≤ 40) :
    PFn Try.prog 64 [codeV q ws, .str w] [.sl (cntR ws w 0)] := by
  have eL : ((w.length : Int) + 1).toNat = w.length + 1 := by omega
  have e1 := u34 1 (by omega)
  refine PFn.of_body hΓ Try.func64 (by kernel_rfl) rfl (AWp.seq (AWp.of_awpD [] hΓ hmix (by kernel_rfl) ?_))
  simp -implicitDefEqProofs only [Try.ntmps64, Try.results64, Nat.reduceAdd, Nat.reduceSub, codeV, go_sem]
  refine AWp.seq (AWp.of_awpD [] hΓ hmix (by kernel_rfl) ?_)
  simp -implicitDefEqProofs only [eL, go_sem]
  refine ⟨by simp only [InR]; omega, ⟨by omega, by omega, by omega⟩, ?_⟩
  refine AWp.seq (AWp.of_awpD [] hΓ hmix (by kernel_rfl) ?_)
  simp -implicitDefEqProofs only [go_sem]
  refine callK_fn e1 (.pures rfl) ?_
  simp -implicitDefEqProofs only [intN_pos, go_sem]
  have hst := cntR_start ws w
  rw [List.replicate_succ] at hst
  simp only [intN_pos, magB_zero] at hst
  rw [hst]
  refine ⟨⟨by simp, rfl⟩, ?_⟩
  clear hst
  refine AWp.seq (AWp.of_awpD [] hΓ hmix (by kernel_rfl) ?_)
  simp -implicitDefEqProofs only [go_sem]
  refine ⟨by simp only [InR]; omega, ?_⟩
  refine AWp.loopI (fun n : Nat => ⟨mkF 54 [(1, .p (.str w)), (2, .ptr 0 0), (5, .own 1 (w.length + 1)), (6, .p (.int .i64 ((n : Int) - 1)))], [.box [.p (.int .i64 q), .p (.sl (ws.map .str))], .row 44 2 (cntR ws w n) .own]⟩)
    (fun n => n ≤ w.length) (fun n => n) w.length (by simp [go_sem]) (Nat.le_refl _) ?_
  intro n hnw
  refine AWp.of_awpD [(10, 15)] hΓ hmix (by kernel_rfl) ?_
  cases n with
  | zero =>
    have h1 : ¬ (0 : Int) ≤ ((0 : Nat) : Int) - 1 := by omega
    simp -implicitDefEqProofs only [h1, go_sem]
    refine AWp.freeze 1 rfl ?_
    refine AWp.of_awpD [] hΓ hmix (by kernel_rfl) ?_
    simp -implicitDefEqProofs only [Frozen, go_sem]
  | succ n =>
    have h1 : (0 : Int) ≤ ((n + 1 : Nat) : Int) - 1 := by omega
    have e2 : ((n + 1 : Nat) : Int) - 1 = n := by omega
    simp -implicitDefEqProofs only [h1, e2, List.length_map, go_sem]
    rw [cntR_H]
    refine AWp.loopI (fun k : Nat => ⟨mkF 54 [(1, .p (.str w)), (2, .ptr 0 0), (5, .own 1 (w.length + 1)), (6, .p (.int .i64 n)), (26, .p (.sl (ws.map .str))), (27, .p (.int .i64 ws.length)), (28, .p (.int .i64 k))], [.box [.p (.int .i64 q), .p (.sl (ws.map .str))], .row 44 2 (cntH ws w n k) .own]⟩)
      (fun k => k ≤ ws.length) (fun k => ws.length - k) 0 (by simp [go_sem]) (by omega) ?_
    intro k hk
    refine AWp.of_awpD [(10, 15)] hΓ hmix (by kernel_rfl) ?_
    by_cases hlt : k < ws.length
    · have hnn : n ≤ w.length := by omega
      simp -implicitDefEqProofs only [hlt, getD_map_lt, ↓reduceIte, go_sem]
      refine ⟨hnn, callK_fn (t69 (w.drop n) ws[k]) (.pures rfl) ?_⟩
      cases hp : ws[k].isPrefixOf (w.drop n)
      · simp -implicitDefEqProofs only [hlt, getD_map_lt, ↓reduceIte, go_sem]
        rw [← cntH_no hlt hp]
        exact ⟨by simp only [InR]; omega, k + 1, ⟨by omega, .inl rfl⟩, hlt, by omega⟩
      · have hpl := (List.isPrefixOf_iff_prefix.1 hp).length_le
        rw [List.length_drop] at hpl
        have hxp : 0 < ws[k].length := List.length_pos_iff.2 (hn _ (List.getElem_mem hlt))
        have hgn : (cntH ws w n k).getD n default = .agg [.bool false, .str (magB (cntL ws (ws.take k) (w.drop n)))] := by
          rw [List.getD_eq_getElem?_getD, cntH_get hnn, Option.getD_some]
          unfold cntV
          rw [if_neg (by omega), if_pos rfl, intN_pos]
        have hgm : (cntH ws w n k).getD (n + ws[k].length) default = .agg [.bool false, .str (magB (cnt ws (w.drop (n + ws[k].length))))] := by
          rw [List.getD_eq_getElem?_getD, cntH_get (by omega), Option.getD_some]
          unfold cntV
          rw [if_pos (by omega), intN_pos]
        have e3 : ((n : Int) + (ws[k].length : Int)).toNat = n + ws[k].length := by omega
        have e4 := u89 (cntL ws (ws.take k) (w.drop n)) (cnt ws (w.drop (n + ws[k].length))) (cap_41 (cntL_cap hn hws (by simp; omega) (by simp; omega))) (cap_40 (cnt_cap hn hws (by simp; omega)))
        have hy := cntH_yes hlt hp hnn
        simp -implicitDefEqProofs only [hlt, getD_map_lt, ↓reduceIte, cntH_len, e3, hgn, hgm, go_sem]
        refine ⟨by omega, by omega, by simp only [InR]; omega, ⟨by omega, by omega⟩, by omega, ?_⟩
        refine callVPK_fn e4 (.pures rfl) ?_
        simp -implicitDefEqProofs only [hlt, getD_map_lt, ↓reduceIte, cntH_len, e3, hy, go_sem]
        exact ⟨by omega, ⟨by omega, rfl, rfl⟩, by simp only [InR]; omega, k + 1, ⟨by omega, .inl rfl⟩, hlt, by omega⟩
    · have hkn : k = ws.length := by omega
      rw [hkn, cntH_R hn (by omega)]
      have hz : ¬ (ws.length : Int) < ws.length := by omega
      simp -implicitDefEqProofs only [hz, go_sem]
      exact ⟨by simp only [InR]; omega, n, ⟨rfl, .inl rfl⟩, by omega, by omega⟩

theorem u63 (q : Int) (ws : List (List UInt8)) (w : List UInt8) : PFn Try.prog 63 [codeV q ws, .str w] [.int .i64 (if codeCheck q ws = 0 then wordCheck q w else 1)] := by
  refine PFn.of_body hΓ Try.func63 (by kernel_rfl) rfl (AWp.of_awpD [] hΓ hmix (by kernel_rfl) ?_)
  simp +contextual -implicitDefEqProofs only [codeV, Try.ntmps63, Try.results63, Nat.reduceAdd, Nat.reduceSub, go_sem]
  refine callK_fn (t45 q ws) (.still rfl) ?_
  by_cases h : codeCheck q ws = 0
  · rw [h]
    simp -implicitDefEqProofs only [go_sem]
    refine callK_fn (t80 q w) (.pures rfl) ?_
    simp -implicitDefEqProofs only [go_sem]
  · simp -implicitDefEqProofs only [h, go_sem]

theorem u32 (q : Int) (ws : List (List UInt8)) (w : List UInt8) (hn : codeCheck q ws = 0 → ∀ x ∈ ws, x ≠ []) (hws : codeCheck q ws = 0 → ws.length ≤ 256) (hw : codeCheck q ws = 0 → wordCheck q w = 0 → w.length ≤ 40) :
    PFn Try.prog 32 [codeV q ws, .str w] (if codeCheck q ws = 0 then (if wordCheck q w = 0 then [intN false (cnt ws w), .int .i64 0] else [intN false 0, .int .i64 (wordCheck q w)]) else [intN false 0, .int .i64 1]) := by
  refine PFn.of_body hΓ Try.func32 (by kernel_rfl) rfl (AWp.of_awpD [] hΓ hmix (by kernel_rfl) ?_)
  simp +contextual -implicitDefEqProofs only [codeV, Try.ntmps32, Try.results32, Nat.reduceAdd, Nat.reduceSub, go_sem]
  refine callK_fn (u63 q ws w) (.still rfl) ?_
  by_cases h : codeCheck q ws = 0
  · by_cases h2 : wordCheck q w = 0
    · rw [h2]
      have e := u64 q ws w (hn h) (hws h) (hw h h2)
      simp -implicitDefEqProofs only [h, go_sem]
      refine callK_fn e (.still rfl) ?_
      have hg : (cntR ws w 0).getD (Int.toNat 0) default = .agg [.bool false, .str (magB (cnt ws w))] := by
        rw [show Int.toNat 0 = 0 from rfl, List.getD_eq_getElem?_getD, cntR_get (by omega), Option.getD_some, if_pos (Nat.le_refl _), List.drop_zero, intN_pos]
      simp -implicitDefEqProofs only [cntR_len, hg, intN_pos, go_sem]
      rw [if_pos h]
      exact ⟨by omega, rfl⟩
    · simp -implicitDefEqProofs only [h, h2, go_sem]
      rfl
  · have h10 : ¬ (1 : Int) = 0 := by decide
    simp -implicitDefEqProofs only [h, h10, go_sem]
    rfl
end Go.Proofs.Ytgkbafkmbokkaaa
end

section
namespace Go.Proofs.Ytgkbafkmbokkaaa
open Go Go.AM Go.RowKit
set_option maxRecDepth 100000
set_option linter.unusedSimpArgs false

theorem k81 (a b : ByteArray) (w : World) : Calls Try.prog 49 #[.string a, .string b] w fun e w' => e = .returned (.int .i64 (cmpK a.data.toList b.data.toList)) ∧ ∃ q os, w' = Sort.grow (w.drewN q) os := by
  have hc1 := k103
  have hc2 := k104
  have hc3 := k102
  go_enter Try.func49, Try.ntmps49
  go_wp2_with (first | (go_at_call 80; refine (hc1 _ _ _).mono ?_; rintro e w' ⟨rfl, rfl⟩) | (go_at_call 85; refine (hc2 _ _ _).mono ?_; rintro e w' ⟨rfl, rfl⟩) | (go_at_call 84; refine (hc3 _ _ _ _ _ (newCells _ _ _ _ _ rfl) (newCells _ _ _ _ _ rfl)).mono ?_; rintro e w' ⟨rfl, rfl⟩))
  all_goals go_ret
  all_goals have e1 : ∀ x : ByteArray, x.data.toList.length = x.size := fun x => by simp
  · refine ⟨congrArg (fun n => Ending.returned (Value.int .i64 n)) ?_, 0, #[_], by rw [Sort.alloc_eq_grow]; rfl⟩
    have hs : a.size = b.size := by
      rcases Nat.lt_trichotomy a.size b.size with g | g | g
      · rw [if_pos g] at h; cases h
      · exact g
      · rw [if_neg (by omega), if_pos g] at h; cases h
    unfold cmpK
    simp only [e1, hs]
    rw [if_pos (by simp)]
  · refine ⟨congrArg (fun n => Ending.returned (Value.int .i64 n)) ?_, 0, #[_], by rw [Sort.alloc_eq_grow]; rfl⟩
    unfold cmpK
    simp only [e1]
    rw [if_pos (show (a.size : Int) < b.size by omega)]; rfl
  · refine ⟨congrArg (fun n => Ending.returned (Value.int .i64 n)) ?_, 0, #[_], by rw [Sort.alloc_eq_grow]; rfl⟩
    unfold cmpK
    simp only [e1]
    rw [if_neg (show ¬ (a.size : Int) < b.size by omega), if_pos (show (b.size : Int) < a.size by omega)]; rfl
theorem sort_calls81 (d : List (List UInt8)) (blk off cap : Nat) (w : World) (hH : Sort.Holds encW w blk off d.toArray) (hblk : blk < w.heap.size) (hsz : d.length < 4611686018427387904) :
    Calls Try.prog 82 #[.slice (some ⟨blk, off, none⟩) d.length cap, .func (.func 49) #[] #[]] w fun e w' => e = .returned (.tuple #[]) ∧ ∃ n os, w' = sortWorld encW w blk off n (sortW d).toArray os := by
  have eg : ∀ args w, (callFunc 49 args).run Try.prog w = .ok (.enter 49 args) w := entersF_of Try.func49 (by kernel_rfl) rfl
  have hcmp : CmpLays1 Try.prog 49 #[] encW cmpK blk off d.toArray.size w := fun m os dk _ x y => k81 ⟨x.toArray⟩ ⟨y.toArray⟩ _
  have h := Any.slices_SortFunc_total Try.sortS encW (fun _ => rfl) cmpK swoW 49 #[] blk off cap d.toArray w eg hcmp hH hblk (by simpa using hsz) (fun x y h1 h2 => ltW_total ((ltOf_false x y).1 h1) ((ltOf_false y x).1 h2))
  exact h
theorem c83b {h : List AObj} {b : Nat} (l : List (List UInt8)) (hb : h[b]? = some (.row 9 1 (l.map .str) .own)) (hsz : l.length ≤ 1000000) :
    AC Try.prog 82 [.own b l.length, .fn 49 []] h [] (fun v h' => v = .tup [] ∧ h' = h.set b (.row 9 1 ((sortW l).map .str) .own)) := c83_of sort_calls81 l hb hsz
end Go.Proofs.Ytgkbafkmbokkaaa
end

