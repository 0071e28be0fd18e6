/-
  Texts of this claim, joined.
-/
import Derived.Shelf.SlSortCmp.NoneTotal
import Derived.Shelf.SlGeneric
import Derived.Ground.SlsfProg
import Derived.Test.YtpljmccnfmkmfaaProg
import Derived.Test.YtpljmccnfmkmfaaJ95ab7c36ce71
import Derived.Test.YtpljmccnfmkmfaaJ7622231d134b

set_option linter.unusedSimpArgs false
set_option maxRecDepth 100000
section
namespace Go.Proofs
open Go.Shelf
def Try.sortS_ren : Go.Shelf.Ren := ⟨fun | 6 => 46 | 15 => 68 | 14 => 67 | 28 => 86 | 29 => 87 | 20 => 78 | 21 => 79 | 22 => 80 | 23 => 81 | 24 => 82 | 25 => 83 | 26 => 84 | 27 => 85 | 46 => 90 | 47 => 91 | 48 => 92 | 49 => 93 | 50 => 94 | 57 => 95 | n => n, fun | 22 => 22 | 24 => 9 | 25 => 80 | 3 => 3 | 39 => 98 | 0 => 0 | 53 => 113 | 55 => 115 | 4 => 4 | 46 => 106 | 45 => 105 | 50 => 110 | 5 => 5 | 9 => 9 | 66 => 116 | 70 => 120 | 76 => 122 | 77 => 123 | n => n, fun | n => n⟩
theorem Try.sortS : Go.Proofs.SlLaysF.n6 Try.prog Try.sortS_ren := {
  mixed := by kernel_rfl
  f6 := ⟨Try.f46.name, by decide, Try.func46.trans (congrArg some (by kernel_rfl))⟩
  f14 := ⟨Try.f67.name, by decide, Try.func67.trans (congrArg some (by kernel_rfl))⟩
  f15 := Try.func68.trans (congrArg some (by kernel_rfl))
  f20 := ⟨Try.f78.name, by decide, Try.func78.trans (congrArg some (by kernel_rfl))⟩
  f21 := ⟨Try.f79.name, by decide, Try.func79.trans (congrArg some (by kernel_rfl))⟩
  f22 := ⟨Try.f80.name, by decide, Try.func80.trans (congrArg some (by kernel_rfl))⟩
  f23 := ⟨Try.f81.name, by decide, Try.func81.trans (congrArg some (by kernel_rfl))⟩
  f24 := ⟨Try.f82.name, by decide, Try.func82.trans (congrArg some (by kernel_rfl))⟩
  f25 := ⟨Try.f83.name, by decide, Try.func83.trans (congrArg some (by kernel_rfl))⟩
  f26 := ⟨Try.f84.name, by decide, Try.func84.trans (congrArg some (by kernel_rfl))⟩
  f27 := ⟨Try.f85.name, by decide, Try.func85.trans (congrArg some (by kernel_rfl))⟩
  f28 := Try.func86.trans (congrArg some (by kernel_rfl))
  f29 := Try.func87.trans (congrArg some (by kernel_rfl))
  f46 := ⟨Try.f90.name, by decide, Try.func90.trans (congrArg some (by kernel_rfl))⟩
  f47 := Try.func91.trans (congrArg some (by kernel_rfl))
  f48 := Try.func92.trans (congrArg some (by kernel_rfl))
  f49 := ⟨Try.f93.name, by decide, Try.func93.trans (congrArg some (by kernel_rfl))⟩
  f50 := ⟨Try.f94.name, by decide, Try.func94.trans (congrArg some (by kernel_rfl))⟩
  f57 := ⟨Try.f95.name, by decide, Try.func95.trans (congrArg some (by kernel_rfl))⟩
  t0 := Try.underlying0
  a0 := Try.isAgg0
  z0 := Try.sizeOf0
  v0 := Try.zeroValue0
  t3 := Try.underlying3
  a3 := Try.isAgg3
  z3 := Try.sizeOf3
  v3 := Try.zeroValue3
  t4 := Try.underlying4
  a4 := Try.isAgg4
  z4 := Try.sizeOf4
  v4 := Try.zeroValue4
  t5 := Try.underlying5
  a5 := Try.isAgg5
  z5 := Try.sizeOf5
  v5 := Try.zeroValue5
  t9 := Try.underlying9
  a9 := Try.isAgg9
  z9 := Try.sizeOf9
  v9 := Try.zeroValue9
  t22 := Try.underlying22
  a22 := Try.isAgg22
  z22 := Try.sizeOf22
  v22 := Try.zeroValue22
  a24 := Try.isAgg9
  z24 := Try.sizeOf9
  t25 := Try.underlying80
  a25 := Try.isAgg80
  z25 := Try.sizeOf80
  v25 := Try.zeroValue80
  t39 := Try.underlying98
  a39 := Try.isAgg98
  z39 := Try.sizeOf98
  v39 := Try.zeroValue98
  t45 := Try.underlying105
  a45 := Try.isAgg105
  z45 := Try.sizeOf105
  v45 := Try.zeroValue105
  t46 := Try.underlying106
  a46 := Try.isAgg106
  z46 := Try.sizeOf106
  v46 := Try.zeroValue106
  t50 := Try.underlying110
  a50 := Try.isAgg110
  z50 := Try.sizeOf110
  v50 := Try.zeroValue110
  t53 := Try.underlying113
  a53 := Try.isAgg113
  z53 := Try.sizeOf113
  v53 := Try.zeroValue113
  t55 := Try.underlying115
  a55 := Try.isAgg115
  z55 := Try.sizeOf115
  v55 := Try.zeroValue115
  t66 := Try.underlying116
  a66 := Try.isAgg116
  z66 := Try.sizeOf116
  v66 := Try.zeroValue116
  t70 := Try.underlying120
  a70 := Try.isAgg120
  z70 := Try.sizeOf120
  v70 := Try.zeroValue120
  t76 := Try.underlying122
  a76 := Try.isAgg122
  z76 := Try.sizeOf122
  v76 := Try.zeroValue122
  t77 := Try.underlying123
  a77 := Try.isAgg123
  z77 := Try.sizeOf123
  v77 := Try.zeroValue123 }
end Go.Proofs
end

section
namespace Go.Proofs.Ytpljmccnfmkmfaa
open Go Go.AM

/-! A map to bools, all true: a set of words, in the order of their coming. -/
def entT (k : List UInt8) : List UInt8 × PV := (k, .bool true)
def addK (ks : List (List UInt8)) (k : List UInt8) : List (List UInt8) := if k ∈ ks then ks else ks ++ [k]
def Ze (l : List (List UInt8)) : List (List UInt8) := l.foldl addK []
def setM (l : List (List UInt8)) : List (List UInt8 × PV) := (Ze l).map entT

theorem Z42 (k : List UInt8) : ∀ ks : List (List UInt8), (k ∉ ks → midx k (ks.map entT) = none) ∧ (k ∈ ks → ∃ j, midx k (ks.map entT) = some j ∧ ∃ h : j < ks.length, ks[j] = k)
  | [] => ⟨fun _ => rfl, fun h => by cases h⟩
  | a :: ks => by
    obtain ⟨h1, h2⟩ := Z42 k ks
    constructor
    · intro h
      simp only [List.mem_cons, not_or] at h; rw [List.map_cons]; unfold midx; rw [if_neg (show ¬ k = (entT a).1 from h.1)]; rw [h1 h.2]; rfl
    · intro h
      by_cases e : k = a
      · exact ⟨0, by simp [midx, entT, e], by simp, e.symm⟩
      · simp only [List.mem_cons, e, false_or] at h
        obtain ⟨j, h3, h4, h5⟩ := h2 h; refine ⟨j + 1, ?_, by simpa using h4, by simpa using h5⟩; rw [List.map_cons]; unfold midx; rw [if_neg (show ¬ k = (entT a).1 from e)]; rw [h3]; rfl
theorem Zgh (k : List UInt8) (ks : List (List UInt8)) : mset k (.bool true) (ks.map entT) = (addK ks k).map entT := by
  unfold mset addK; by_cases h : k ∈ ks
  · obtain ⟨j, h1, h2, h3⟩ := (Z42 k ks).2 h
    rw [h1, if_pos h]
    apply List.ext_getElem (by simp)
    intro i hi _; simp only [List.getElem_set, List.getElem_map]
    split
    · subst_vars; rfl
    · rfl
  · rw [(Z42 k ks).1 h, if_neg h]; simp [entT]
theorem Zgk (k : List UInt8) (ks : List (List UInt8)) : (mget k (ks.map entT)).getD (.bool false) = .bool (decide (k ∈ ks)) := by
  unfold mget; by_cases h : k ∈ ks
  · obtain ⟨j, h1, h2, h3⟩ := (Z42 k ks).2 h
    rw [h1, decide_eq_true h]; simp only [Option.map_some, Option.getD_some, List.getD_eq_getElem?_getD, List.getElem?_map, List.getElem?_eq_getElem h2, entT]
  · rw [(Z42 k ks).1 h, decide_eq_false h]; rfl
theorem Z3m (l : List (List UInt8)) (k : List UInt8) : Ze (l ++ [k]) = addK (Ze l) k := by unfold Ze; rw [List.foldl_append]; rfl
theorem Z8k (k : List UInt8) : ∀ (l acc : List (List UInt8)), k ∈ l.foldl addK acc ↔ k ∈ acc ∨ k ∈ l
  | [], acc => by simp
  | a :: l, acc => by
    rw [List.foldl_cons, Z8k k l]; unfold addK
    split
    · rename_i h
      simp only [List.mem_cons]; exact ⟨fun h' => h'.elim .inl (fun h => .inr (.inr h)), fun h' => h'.elim .inl (fun h' => h'.elim (fun e => .inl (e ▸ h)) .inr)⟩
    · simp only [List.mem_append, List.mem_cons, List.not_mem_nil, or_false, or_assoc]
theorem Z0s (l : List (List UInt8)) (k : List UInt8) : k ∈ Ze l ↔ k ∈ l := by unfold Ze; rw [Z8k]; simp
theorem Z60 : ∀ (l acc : List (List UInt8)), (l.foldl addK acc).length ≤ acc.length + l.length
  | [], acc => by simp
  | a :: l, acc => by
    rw [List.foldl_cons]; have h1 := Z60 l (addK acc a); have h2 : (addK acc a).length ≤ acc.length + 1 := by unfold addK; split <;> simp
    simp only [List.length_cons]; omega
theorem Zbz (l : List (List UInt8)) : (Ze l).length ≤ l.length := by have := Z60 l []; simpa [Ze] using this
theorem Z86 (l : List (List UInt8)) (k : List UInt8) : mset k (.bool true) (setM l) = setM (l ++ [k]) := by unfold setM; rw [Zgh, Z3m]
theorem Zak (l : List (List UInt8)) (k : List UInt8) : (mget k (setM l)).getD (.bool false) = .bool (decide (k ∈ l)) := by
  unfold setM; rw [Zgk]; simp only [Z0s]

theorem c52 {h : List AObj} (q : Int) (ws : List (List UInt8)) : AC Try.prog 37 [.agg [.p (.int .i64 q), .p (.sl (ws.map .str))]] h [] (fun v h' => v = .fn 58 [.ptr h.length 0] ∧ h' = h ++ [Z0 q ws]) := by
  refine AC.of_bodyE hΓ Try.func37 (by kernel_rfl) rfl (AWp.mono (Q := fun e st => AM.Ends e ∧ st.tmps.getD 2 .junk = .fn 58 [.ptr h.length 0] ∧ st.h = h ++ [Z0 q ws]) ?_ ?_)
  rotate_left
  · rintro e ⟨tm, h'⟩ ⟨he, h1, h2⟩
    simp only at h1 h2; subst h2; refine ⟨he, _, Less.refl _, ?_⟩; unfold Z32; simp +contextual -implicitDefEqProofs only [Try.results37, h1, go_sem]; exact ⟨h.length + 1, by omega, .inl (by simp), List.take_of_length_le (by simp)⟩
  refine Wd [] ?_; simp +contextual -implicitDefEqProofs only [Try.ntmps37, Nat.reduceAdd, Nat.reduceSub, Z0, go_sem]

theorem c53 {h : List AObj} (q : Int) (ws : List (List UInt8)) (r : List UInt8) : AC Try.prog 38 [.agg [.p (.int .i64 q), .p (.sl (ws.map .str))], .p (.str r)] h []
    (fun v h' => v = .fn 60 [.ptr h.length 0, .ptr (h.length + 1) 0] ∧ h' = h ++ [Z0 q ws, .box [.p (.str r)]]) := by
  refine AC.of_bodyE hΓ Try.func38 (by kernel_rfl) rfl (AWp.mono (Q := fun e st => AM.Ends e ∧ st.tmps.getD 4 .junk = .fn 60 [.ptr h.length 0, .ptr (h.length + 1) 0] ∧ st.h = h ++ [Z0 q ws, .box [.p (.str r)]]) ?_ ?_)
  rotate_left
  · rintro e ⟨tm, h'⟩ ⟨he, h1, h2⟩
    simp only at h1 h2; subst h2; refine ⟨he, _, Less.refl _, ?_⟩; unfold Z32; simp +contextual -implicitDefEqProofs only [Try.results38, h1, go_sem]; exact ⟨h.length + 2, by omega, .inl (by simp), List.take_of_length_le (by simp)⟩
  refine Wd [] ?_; simp +contextual -implicitDefEqProofs only [Try.ntmps38, Nat.reduceAdd, Nat.reduceSub, Z0, List.length_append, List.append_assoc, go_sem]

theorem Z4c : ∀ h : List AObj, weakH h (List.replicate h.length .dead)
  | [] => trivial
  | _ :: h => ⟨.inl rfl, Z4c h⟩

theorem Z40 : ∀ {l m : List Nat}, l.Nodup → l ⊆ m → l.length ≤ m.length
  | [], _, _, _ => Nat.zero_le _
  | a :: l, m, h, hs => by
    obtain ⟨h1, h2⟩ := List.nodup_cons.1 h; have ha : a ∈ m := hs (by simp); have := Z40 (m := m.erase a) h2 (fun x hx => (List.mem_erase_of_ne (fun e : x = a => h1 (e ▸ hx))).2 (hs (by simp [hx]))); rw [List.length_erase_of_mem ha] at this; have := List.length_pos_of_mem ha; simp only [List.length_cons]; omega

/-! ### The order of words -/
def ltW (a b : List UInt8) : Prop := a.length < b.length ∨ (a.length = b.length ∧ bLt a b = true)
theorem Z10 (x y : UInt8) (a b : List UInt8) : bLt (x :: a) (y :: b) = true ↔ x.toNat < y.toNat ∨ (x.toNat = y.toNat ∧ bLt a b = true) := by
  have e : bLt (x :: a) (y :: b) = (match Nat.blt x.toNat y.toNat with | true => true | false => (match Nat.beq x.toNat y.toNat with | true => bLt a b | false => false)) := rfl; rw [e]
  cases h1 : Nat.blt x.toNat y.toNat
  · have h2 : ¬ x.toNat < y.toNat := fun h => by rw [(Nat.blt_eq (x := x.toNat)).symm.mp h] at h1; cases h1
    cases h3 : Nat.beq x.toNat y.toNat
    · have : ¬ x.toNat = y.toNat := fun h => by rw [h] at h3; simp at h3
      simp [h2, this]
    · have := Nat.eq_of_beq_eq_true h3
      simp [h2, this]
  · have := (Nat.blt_eq (x := x.toNat)).mp h1
    simp [this]
theorem Z94 : ∀ {a b c : List UInt8}, bLt a b = true → bLt b c = true → bLt a c = true
  | a, [], c, h, _ => by cases a <;> cases h
  | [], _ :: _, [], _, h => by cases h
  | [], _ :: _, _ :: _, _, _ => rfl
  | x :: a, y :: b, [], _, h => by cases h
  | x :: a, y :: b, z :: c, h1, h2 => by
    rw [Z10] at h1 h2 ⊢; rcases h1 with h1 | ⟨h1, h3⟩
    · rcases h2 with h2 | ⟨h2, _⟩
      · exact .inl (by omega)
      · exact .inl (by omega)
    · rcases h2 with h2 | ⟨h2, h4⟩
      · exact .inl (by omega)
      · exact .inr ⟨by omega, Z94 h3 h4⟩
theorem Z3b : ∀ a : List UInt8, bLt a a = false
  | [] => rfl
  | x :: a => by
    rw [Bool.eq_false_iff]; intro h; rw [Z10] at h; rcases h with h | ⟨_, h⟩
    · omega
    · rw [Z3b a] at h; cases h
theorem Z4m (a b : List UInt8) : cmpW a b < 0 ↔ ltW a b := by
  unfold cmpW ltW; by_cases h1 : a.length < b.length
  · rw [if_pos h1]; simp [h1]
  · by_cases h2 : b.length < a.length
    · rw [if_neg h1, if_pos h2]; simp [h1]; omega
    · rw [if_neg h1, if_neg h2]
      have h3 : a.length = b.length := by omega
      unfold cmpB
      cases bLt a b
      · cases bEq a b <;> simp [h1]
      · simp [h3]
theorem Z0h {a b c : List UInt8} (h1 : ltW a b) (h2 : ltW b c) : ltW a c := by
  rcases h1 with h1 | ⟨h1, h3⟩ <;> rcases h2 with h2 | ⟨h2, h4⟩
  · exact .inl (by omega)
  · exact .inl (by omega)
  · exact .inl (by omega)
  · exact .inr ⟨by omega, Z94 h3 h4⟩
theorem Zv (a : List UInt8) : ¬ ltW a a := by
  rintro (h | ⟨_, h⟩)
  · omega
  · rw [Z3b] at h; cases h

theorem Z8u {l : List Int} (h : Z21 l = 0) : ∀ x ∈ l, x = 0 := by
  intro x hx; unfold Z21 at h
  cases hf : l.find? (fun x => decide (x ≠ 0)) with
  | none => simpa using List.find?_eq_none.1 hf x hx
  | some y =>
    have h1 := List.find?_some hf; rw [hf] at h; simp only [decide_eq_true_eq] at h1; exact absurd h h1

structure Valid (q : Int) (ws : List (List UInt8)) : Prop where
  q2 : 2 ≤ q
  q16 : q ≤ 16
  pos : 0 < ws.length
  len : ws.length ≤ 64
  ne : ∀ i, i < ws.length → ws.getD i [] ≠ []
  short : ∀ i, i < ws.length → (ws.getD i []).length ≤ 32
  word : ∀ i, i < ws.length → Zl q (ws.getD i []) = 0
  lt : ∀ i j, i < j → j < ws.length → ltW (ws.getD i []) (ws.getD j [])

theorem valid_of {q : Int} {ws : List (List UInt8)} (h : Z7 q ws = 0) : Valid q ws := by
  unfold Z7 at h
  split at h
  · omega
  rename_i h1
  split at h
  · omega
  rename_i h2
  split at h
  · omega
  rename_i h3
  have h4 : ∀ i, i < ws.length → Zh q ws i = 0 := fun i hi => Z8u h _ (List.mem_map.2 ⟨i, List.mem_range.2 hi, rfl⟩)
  have h5 : ∀ i, i < ws.length → ws.getD i [] ≠ [] ∧ ¬ 32 < (ws.getD i []).length ∧ Zl q (ws.getD i []) = 0 ∧ ¬ (0 < i ∧ 0 ≤ cmpW (ws.getD (i - 1) []) (ws.getD i [])) := fun i hi => by
    have := h4 i hi; unfold Zh at this; simp only at this
    split at this
    · omega
    rename_i g1
    split at this
    · omega
    rename_i g2
    split at this
    · omega
    rename_i g3
    split at this
    · omega
    rename_i g4
    exact ⟨g1, g2, by omega, g4⟩
  have step : ∀ i, i + 1 < ws.length → ltW (ws.getD i []) (ws.getD (i + 1) []) := fun i hi => by
    have := (h5 (i + 1) hi).2.2.2; rw [← Z4m]; simp only [Nat.add_sub_cancel] at this; omega
  refine ⟨by omega, by omega, by omega, by omega, fun i hi => (h5 i hi).1, fun i hi => by have := (h5 i hi).2.1; omega, fun i hi => (h5 i hi).2.2.1, ?_⟩; intro i j hij hj; obtain ⟨d, rfl⟩ : ∃ d, j = i + 1 + d := ⟨j - i - 1, by omega⟩; clear hij
  induction d with
  | zero => exact step i hj
  | succ d ih => exact Z0h (ih (by omega)) (step (i + 1 + d) hj)

theorem Z3k {ws : List (List UInt8)} (hd : ∀ i j, i < ws.length → j < ws.length → ws.getD i [] = ws.getD j [] → i = j) (l : List (List UInt8)) : (∀ p ∈ Z0w ws, p.2 ∈ l) ↔ ∀ u ∈ Z0f ws, u ∈ l := by
  have get : ∀ i, i < ws.length → ∀ (h : i < ws.length), ws.getD i [] = ws[i] := fun i hi h => by rw [List.getD_eq_getElem?_getD, List.getElem?_eq_getElem h, Option.getD_some]
  constructor
  · intro h u hu
    unfold Z0f Z0a Zk at hu; obtain ⟨i, hi, hu⟩ := List.mem_flatMap.1 hu; obtain ⟨k, hk, hu⟩ := List.mem_flatMap.1 hu; have hi := List.mem_range.1 hi; have hk := List.mem_range.1 hk; unfold Z1u at hu
    split at hu
    · rename_i hc
      simp only [List.mem_singleton] at hu; subst hu; refine h (ws.getD i [], _) ?_; unfold Z0w Z1v Z1c; refine List.mem_flatMap.2 ⟨k, List.mem_range.2 hk, List.mem_flatMap.2 ⟨ws.getD i [], ?_, ?_⟩⟩
      · rw [List.take_length, get i hi hi]; exact List.getElem_mem hi
      · unfold Z1f
        have hne : List.drop (ws.getD k []).length (ws.getD i []) ≠ [] := fun e => by
          refine hc.1 (hd i k hi hk ?_); have h1 := List.isPrefixOf_iff_prefix.1 hc.2; obtain ⟨t, ht⟩ := h1; have : t = [] := by rw [← ht] at e; simpa using e
          rw [this, List.append_nil] at ht; exact ht.symm
        rw [if_pos ⟨hc.2, hne⟩]; exact List.mem_singleton.2 rfl
    · cases hu
  · intro h p hp
    unfold Z0w Z1v Z1c at hp; obtain ⟨k, hk, hp⟩ := List.mem_flatMap.1 hp; obtain ⟨y, hy, hp⟩ := List.mem_flatMap.1 hp; have hk := List.mem_range.1 hk; rw [List.take_length] at hy; obtain ⟨i, hi, rfl⟩ := List.getElem_of_mem hy; unfold Z1f at hp
    split at hp
    · rename_i hc
      simp only [List.mem_singleton] at hp; subst hp; refine h _ ?_; unfold Z0f Z0a Zk; refine List.mem_flatMap.2 ⟨i, List.mem_range.2 hi, List.mem_flatMap.2 ⟨k, List.mem_range.2 hk, ?_⟩⟩; unfold Z1u; have hne : i ≠ k := fun e => hc.2 (by subst e; rw [get i hi hi]; simp)
      rw [get i hi hi, if_pos ⟨hne, hc.1⟩]; exact List.mem_singleton.2 rfl
    · cases hp

def Zx (q : Int) (ws done : List (List UInt8)) (rk : RK) (T : List AObj) : List AObj :=
  Z0 q ws :: .mp (setM done) :: .box [.map 1] :: .box [.own 6 (Ze done).length] :: .box [.fn 45 [.ptr 2 0, .ptr 3 0]] :: Z0 q ws :: .row 9 1 ((Ze done).map .str) rk :: T

theorem Z6y {l : List (List UInt8)} {k : List UInt8} (h : k ∈ l) : Ze (l ++ [k]) = Ze l := by
  rw [Z3m]; unfold addK; rw [if_pos ((Z0s l k).2 h)]
theorem Zby {l : List (List UInt8)} {k : List UInt8} (h : k ∉ l) : Ze (l ++ [k]) = Ze l ++ [k] := by
  rw [Z3m]; unfold addK; rw [if_neg (fun e => h ((Z0s l k).1 e))]

theorem c82 (q : Int) (ws done : List (List UInt8)) (rk : RK) (T : List AObj) (r : List UInt8) (hrk : rk ≠ .raw ∧ (done ≠ [] → rk = .own)) (hT : T.map (AObj.kill 6) = T) (hlen : (Ze done).length ≤ 1000000) :
    AC Try.prog 45 [.p (.str r), .ptr 2 0, .ptr 3 0] (Zx q ws done rk T) [6] (fun v h' => v = .tup [] ∧ ∃ rk', (rk' ≠ .raw ∧ (done ++ [r] ≠ [] → rk' = .own)) ∧ h' = Zx q ws (done ++ [r]) rk' T) := by
  refine AC.of_bodyE hΓ Try.func45 (by kernel_rfl) rfl (AWp.mono (Q := fun e st => AM.Ends e ∧ ∃ rk', (rk' ≠ .raw ∧ (done ++ [r] ≠ [] → rk' = .own)) ∧ st.h = Zx q ws (done ++ [r]) rk' T) ?_ ?_)
  rotate_left
  · rintro e st ⟨he, rk', h1, h2⟩
    refine ⟨he, st, Less.refl st, ?_⟩; have h3 : (Zx q ws done rk T).length = st.h.length := by rw [h2]; simp [Zx]
    refine ⟨st.h.length, by omega, .inl rfl, ?_⟩; rw [List.take_length]; exact ⟨rfl, rk', h1, h2⟩
  refine Wd [] ?_; unfold Zx; simp -implicitDefEqProofs only [Try.ntmps45, Nat.reduceAdd, Nat.reduceSub, Z0, Zak, go_sem]; by_cases hm : r ∈ done
  · simp -implicitDefEqProofs only [hm, go_sem]
    refine ⟨rk, ⟨hrk.1, fun _ => hrk.2 (fun e => by rw [e] at hm; cases hm)⟩, ?_⟩; have e1 : setM (done ++ [r]) = setM done := by unfold setM; rw [Z6y hm]
    rw [e1, Z6y hm]; simp
  · simp -implicitDefEqProofs only [hm, Z86, hT, go_sem]
    rw [Zby hm]; exact ⟨⟨by simp [Zb, PV.cells], by omega⟩, ⟨by simp [Zb, PV.cells], by simp [Z2u, PV.cells, PV.isAgg]⟩, ⟨hrk.1, .inr (by simp), by omega, by omega⟩, RK.own, ⟨by simp, fun _ => rfl⟩, by simp⟩

theorem Zkb (a b : List UInt8) : cmpK a b = cmpW a b := by
  unfold cmpK cmpW; by_cases h1 : a.length < b.length
  · rw [if_pos h1, if_pos (show (a.length : Int) < b.length by omega)]; rfl
  · by_cases h2 : b.length < a.length
    · rw [if_neg h1, if_pos h2, if_neg (show ¬ (a.length : Int) < b.length by omega), if_pos (show (b.length : Int) < a.length by omega)]; rfl
    · rw [if_neg h1, if_neg h2, if_neg (show ¬ (a.length : Int) < b.length by omega), if_neg (show ¬ (b.length : Int) < a.length by omega), if_pos rfl, Za8]

theorem Z95 : ∀ {a b : List UInt8}, bLt a b = false → bLt b a = false → a = b
  | [], [], _, _ => rfl
  | [], _ :: _, h, _ => by cases h
  | _ :: _, [], _, h => by cases h
  | x :: a, y :: b, h1, h2 => by
    have n1 := mt (Z10 x y a b).2 (by rw [h1]; simp); have n2 := mt (Z10 y x b a).2 (by rw [h2]; simp); simp only [not_or, not_and, Bool.not_eq_true] at n1 n2; have e : x.toNat = y.toNat := by omega
    rw [UInt8.toNat_inj.1 e, Z95 (n1.2 e) (n2.2 e.symm)]
theorem Z1d {a b : List UInt8} (h1 : ¬ ltW a b) (h2 : ¬ ltW b a) : a = b := by
  unfold ltW at h1 h2; simp only [not_or, not_and, Bool.not_eq_true] at h1 h2; have e : a.length = b.length := by omega
  exact Z95 (h1.2 e) (h2.2 e.symm)

theorem Z5b (a b : List UInt8) : ltOf cmpK a b = true ↔ ltW a b := by
  unfold ltOf; rw [decide_eq_true_eq, Zkb]; exact Z4m a b
theorem Z14 (a b : List UInt8) : ltOf cmpK a b = false ↔ ¬ ltW a b := by
  rw [← Z5b]; simp

theorem swoW : Sort.SWO (ltOf cmpK) where
  irrefl x := (Z14 x x).2 (Zv x)
  trans x y z h1 h2 := (Z5b x z).2 (Z0h ((Z5b x y).1 h1) ((Z5b y z).1 h2))
  ntrans x y z h1 h2 := by
    rw [Z14] at *; intro h; by_cases hyz : ltW z y
    · exact h1 (Z0h h hyz)
    · have := Z1d h2 hyz
      subst this; exact h1 h

def encW (x : List UInt8) : Value := .string ⟨x.toArray⟩
def Z0m (l : List (List UInt8)) : List (List UInt8) := l.mergeSort fun x y => !(ltOf cmpK) y x

theorem Zbm (d : List (List UInt8)) (blk off cap : Nat) (w : World) (hH : Sort.Holds encW w blk off d.toArray) (hblk : blk < w.heap.size) (hsz : d.length < 4611686018427387904) :
    Calls Try.prog 46 #[.slice (some ⟨blk, off, none⟩) d.length cap, .func (.func 47) #[] #[]] w fun e w' => e = .returned (.tuple #[]) ∧ ∃ n os, w' = sortWorld encW w blk off n (Z0m d).toArray os := by
  have eg : ∀ args w, (callFunc 47 args).run Try.prog w = .ok (.enter 47 args) w := Z1n Try.func47 (by kernel_rfl) rfl; have hcmp : CmpLays1 Try.prog 47 #[] encW cmpK blk off d.toArray.size w := fun m os dk _ x y => k84 ⟨x.toArray⟩ ⟨y.toArray⟩ _
  have h := Any.slices_SortFunc_total Try.sortS encW (fun _ => rfl) cmpK swoW 47 #[] blk off cap d.toArray w eg hcmp hH hblk (by simpa using hsz) (fun x y h1 h2 => Z1d ((Z14 x y).1 h1) ((Z14 y x).1 h2)); exact h
end Go.Proofs.Ytpljmccnfmkmfaa
end

section
namespace Go.Proofs.Ytpljmccnfmkmfaa
open Go Go.AM Go.RowKit

theorem Z8s (l : List (List UInt8)) : Z02 (l.map .str) = l.map .str := by
  induction l with
  | nil => rfl
  | cons x l ih =>
    have e : Z02 ((x :: l).map PV.str) = PV.str x :: Z02 (l.map .str) := rfl; rw [e, ih]; rfl
theorem Zt (l : List (List UInt8)) : (Z0m l).length = l.length := by unfold Z0m; simp
theorem Zk4 {I : Nat → Prop} {w : World} {x : List UInt8} {v : Value} (h : PR I w (.str x) v) : v = encW x := by
  cases h with | str s => rfl
theorem Zix {I : Nat → Prop} {w : World} (x : List UInt8) : PR I w (.str x) (encW x) := .mkStr (by simp)

def Zkw (g : FuncId) : Prop := ∀ (d : List (List UInt8)) (blk off cap : Nat) (w : World), Sort.Holds encW w blk off d.toArray → blk < w.heap.size → d.length < 4611686018427387904 →
    Calls Try.prog 46 #[.slice (some ⟨blk, off, none⟩) d.length cap, .func (.func g) #[] #[]] w fun e w' => e = .returned (.tuple #[]) ∧ ∃ n os, w' = sortWorld encW w blk off n (Z0m d).toArray os

theorem Zp6 {g : FuncId} (hs : Zkw g) {h : List AObj} {b : Nat} (l : List (List UInt8)) (hb : h[b]? = some (.row 9 1 (l.map .str) .own)) (hsz : l.length ≤ 1000000) :
    AC Try.prog 46 [.own b l.length, .fn g []] h [] (fun v h' => v = .tup [] ∧ h' = h.set b (.row 9 1 ((Z0m l).map .str) .own)) := by
  refine ⟨Z1n Try.func46 (by kernel_rfl) rfl, fun X I μ ob w cargs R hlen hargs _ => ?_⟩; obtain ⟨a0, f0, rfl⟩ : ∃ a f, cargs = [a, f] := by
    match cargs, hlen with
    | [a, f], _ => exact ⟨a, f, rfl⟩
  have g0 := hargs 0 (by simp); have g1 := hargs 1 (by simp); simp only [List.getD_cons_zero, List.getD_cons_succ] at g0 g1; obtain ⟨a, c, rfl, hbn, hbm⟩ := g0.own_inv; obtain ⟨cs, rfl, hcl, _⟩ := g1.fn_inv; have hcs : cs = [] := by simpa using hcl.symm
  subst hcs; obtain ⟨hall, hrow⟩ := R.objs _ _ hb; rcases hrow with ⟨g, hg, off, cap, cur, fr, vs, e1, e2, e3, e4, e5, e6, e7, e8, e9, e10⟩ | ⟨hk, _⟩
  rotate_left
  · cases hk
  rw [hbm] at e1; simp only [List.length_map] at e1 e5 e7 e8 e9 e10
  injection e1 with e1a _ e1c
  subst e1a e1c; have hfr := e3 rfl; subst hfr; have hgl := (R.own b g hg).2.2; have cell : ∀ j (hj : j < l.length), cur[off + j]? = some (encW l[j]) := fun j hj => by
    have h1 := e10 j (by omega); rw [Z8s, Z2 _ _ _ _ hj] at h1; have h2 := Zk4 h1; have h3 : cur.toList[off + j]? = some (vs.getD j undef) := by
      have : vs[j]? = some (vs.getD j undef) := by rw [List.getD_eq_getElem?_getD, List.getElem?_eq_getElem (by omega)]; rfl
      rw [← e8, List.getElem?_take_of_lt (by omega), List.getElem?_drop] at this; exact this.trans (by rw [e8])
    rw [Array.getElem?_toList, h2] at h3; exact h3
  have hH : Sort.Holds encW w g off l.toArray := fun j hj => by
    have hj' : j < l.length := by simpa using hj
    refine ⟨?_, ?_⟩
    · unfold World.cell?
      simp only [e2]; rw [cell j hj', getElem!_pos l.toArray j hj]; simp
    · unfold World.frozen?
      simp only [e2]; simp
  have hc := hs l g off c w hH hgl (by omega); refine Calls.mono (P := Try.prog) hc ?_; rintro e w' ⟨rfl, n, os, rfl⟩; have hsl : (Z0m l).toArray.size = l.length := by simp [Zt]
  -- the world that is left
  have hnew : (sortWorld encW w g off n (Z0m l).toArray os).heap[g]? = some (.cells (Sort.putCells encW off (Z0m l).toArray cur) 9 (0, 0)) := by
    unfold sortWorld; rw [Sort.heap_grow_old _ _ (by simp [Sort.ahead]; exact hgl)]; show (w.heap.modify g _)[g]? = _; rw [Array.getElem?_modify, if_pos rfl, e2]; rfl
  have hold : ∀ k, k < w.heap.size → k ≠ g → (sortWorld encW w g off n (Z0m l).toArray os).heap[k]? = w.heap[k]? := fun k hk hne => by
    unfold sortWorld; rw [Sort.heap_grow_old _ _ (by simp [Sort.ahead]; exact hk)]; show (w.heap.modify g _)[k]? = _; rw [Array.getElem?_modify, if_neg (fun e => hne e.symm)]
  have hgrow : w.grownBy (sortWorld encW w g off n (Z0m l).toArray os) (some g) := ⟨rfl, rfl, rfl, by simp [sortWorld, Sort.ahead], fun k hk hk2 => hold k hk (fun e => hk2 (by rw [e]))⟩; have hput : ∀ j, j < l.length → (Sort.putCells encW off (Z0m l).toArray cur)[off + j]? = some (encW ((Z0m l).getD j [])) := fun j hj => by
    unfold Sort.putCells; rw [Array.getElem?_mapIdx, cell j hj]; simp only [Option.map_some]; rw [if_pos ⟨Nat.le_add_right _ _, by rw [hsl]; omega⟩, Nat.add_sub_cancel_left, getElem!_pos (Z0m l).toArray j (by rw [hsl]; exact hj), List.getD_eq_getElem?_getD, List.getElem?_eq_getElem (by rw [Zt]; exact hj)]; simp
  have hps : (Sort.putCells encW off (Z0m l).toArray cur).size = cur.size := by unfold Sort.putCells; rw [Array.size_mapIdx]
  have hpl : (((Sort.putCells encW off (Z0m l).toArray cur).toList.drop off).take l.length).length = l.length := by
    have h1 : (Sort.putCells encW off (Z0m l).toArray cur).toList.length = cur.size := by simpa using hps
    rw [List.length_take, List.length_drop, h1]; omega
  have R2 := R.write (b0 := b) (g0 := g) (o := .row 9 1 ((Z0m l).map .str) .own) hbn hg hgrow ⟨fun x hx => by
      obtain ⟨u, _, rfl⟩ := List.mem_map.1 hx; rfl, .inl ⟨g, hg, off, c, Sort.putCells encW off (Z0m l).toArray cur, (0, 0), ((Sort.putCells encW off (Z0m l).toArray cur).toList.drop off).take l.length, by rw [hbm, List.length_map, Zt], hnew, fun _ => rfl, by simp,
        by rw [List.length_map, Zt]; exact e5, e6, by rw [hps]; exact e7, by rw [List.length_map, Zt, Nat.mul_one], by
          rw [List.length_map, Zt, hpl, Nat.mul_one], fun j hj => ?_⟩⟩
  · exact ⟨_, .tup [], _, I, μ, ob, rfl, R2, .tup [] [] rfl (by simp), fun _ h => h, fun _ _ _ => rfl, by simp, fun g hg => .inl hg, fun b g hb => .inl ⟨b, hb⟩, fun k hk hno => hold k hk (fun e => hno b (by rw [e]; exact hg)), rfl, rfl⟩
  · rw [List.length_map, Zt, Nat.mul_one] at hj
    rw [Z8s, Z2 _ _ _ _ (by rw [Zt]; exact hj)]; have : (((Sort.putCells encW off (Z0m l).toArray cur).toList.drop off).take l.length).getD j undef = encW ((Z0m l).getD j []) := by
      rw [List.getD_eq_getElem?_getD, List.getElem?_take_of_lt hj, List.getElem?_drop, Array.getElem?_toList, hput j hj]; rfl
    rw [this, List.getD_eq_getElem?_getD, List.getElem?_eq_getElem (by rw [Zt]; exact hj)]; exact Zix _

theorem c83 {h : List AObj} {b : Nat} (l : List (List UInt8)) (hb : h[b]? = some (.row 9 1 (l.map .str) .own)) (hsz : l.length ≤ 1000000) :
    AC Try.prog 46 [.own b l.length, .fn 47 []] h [] (fun v h' => v = .tup [] ∧ h' = h.set b (.row 9 1 ((Z0m l).map .str) .own)) := Zp6 Zbm l hb hsz

theorem c83n {g : FuncId} {h : List AObj} {b : Nat} : AC Try.prog 46 [.own b 0, .fn g []] h [] (fun v h' => v = .tup [] ∧ h' = h) := by
  refine ⟨Z1n Try.func46 (by kernel_rfl) rfl, fun X I μ ob w cargs R hlen hargs _ => ?_⟩; obtain ⟨a0, f0, rfl⟩ : ∃ a f, cargs = [a, f] := by
    match cargs, hlen with
    | [a, f], _ => exact ⟨a, f, rfl⟩
  have g0 := hargs 0 (by simp); simp only [List.getD_cons_zero] at g0; obtain ⟨a, c, rfl, hbn, hbm⟩ := g0.own_inv; have hc : Calls Try.prog 46 #[.slice a 0 c, f0] w fun e w' => e = .returned (.tuple #[]) ∧ w' = w := AnyF.slices_SortFunc_none (ρ := Try.sortS_ren) { Try.sortS with } a c f0 w
  refine Calls.mono (P := Try.prog) hc ?_; rintro e w' ⟨rfl, rfl⟩; exact ⟨_, .tup [], _, I, μ, ob, rfl, R, .tup [] [] rfl (by simp), fun _ h => h, fun _ _ _ => rfl, Nat.le_refl _, fun g hg => .inl hg, fun b g hb => .inl ⟨b, hb⟩, fun k hk hno => rfl, rfl, rfl⟩
end Go.Proofs.Ytpljmccnfmkmfaa
end

section
namespace Go.Proofs.Ytpljmccnfmkmfaa
open Go Go.AM

inductive Z1e (ws : List (List UInt8)) : List UInt8 → Prop
  | first (u : List UInt8) (h : u ∈ Z0f ws) : Z1e ws u
  | next (r u : List UInt8) (hr : Z1e ws r) (hne : r ≠ []) (h : u ∈ Z13 ws r) : Z1e ws u

theorem Zdu {ws : List (List UInt8)} {r u : List UInt8} : u ∈ Z13 ws r ↔ ∃ x ∈ ws, (x.isPrefixOf r = true ∧ u = r.drop x.length) ∨ (x.isPrefixOf r = false ∧ r.isPrefixOf x = true ∧ u = x.drop r.length) := by
  unfold Z13; rw [List.mem_flatMap]
  constructor
  · rintro ⟨x, hx, hu⟩
    refine ⟨x, hx, ?_⟩; unfold Z2v at hu
    split at hu
    · rename_i h; exact .inl ⟨h, by simpa using hu⟩
    · rename_i h
      split at hu
      · rename_i h2; exact .inr ⟨Bool.eq_false_iff.2 h, h2, by simpa using hu⟩
      · cases hu
  · rintro ⟨x, hx, h | h⟩
    · exact ⟨x, hx, by unfold Z2v; rw [if_pos h.1, h.2]; simp⟩
    · exact ⟨x, hx, by unfold Z2v; rw [if_neg (by simp [h.1]), if_pos h.2.1, h.2.2]; simp⟩
theorem Z4l {ws : List (List UInt8)} {u : List UInt8} : u ∈ Z0f ws ↔ ∃ i k, i < ws.length ∧ k < ws.length ∧ i ≠ k ∧ (ws.getD k []).isPrefixOf (ws.getD i []) = true ∧ u = (ws.getD i []).drop (ws.getD k []).length := by
  unfold Z0f Z0a Zk; simp only [List.mem_flatMap, List.mem_range]
  constructor
  · rintro ⟨i, hi, k, hk, hu⟩
    unfold Z1u at hu
    split at hu
    · rename_i h; exact ⟨i, k, hi, hk, h.1, h.2, by simpa using hu⟩
    · cases hu
  · rintro ⟨i, k, hi, hk, h1, h2, rfl⟩
    exact ⟨i, hi, k, hk, by unfold Z1u; rw [if_pos ⟨h1, h2⟩]; simp⟩

theorem Zu {ws : List (List UInt8)} {x : List UInt8} (h : Z1e ws x) : ∃ w ∈ ws, x <:+ w := by
  induction h with
  | first u h =>
    obtain ⟨i, k, hi, _, _, _, rfl⟩ := Z4l.1 h; refine ⟨ws.getD i [], ?_, List.drop_suffix _ _⟩; rw [List.getD_eq_getElem?_getD, List.getElem?_eq_getElem hi, Option.getD_some]; exact List.getElem_mem hi
  | next r u hr hne h ih =>
    obtain ⟨w, hw, hs⟩ := ih; obtain ⟨x, hx, ⟨_, rfl⟩ | ⟨_, _, rfl⟩⟩ := Zdu.1 h
    · exact ⟨w, hw, (List.drop_suffix _ _).trans hs⟩
    · exact ⟨x, hx, List.drop_suffix _ _⟩

def Zi4 (w : List UInt8) : List (List UInt8) := (List.range (w.length + 1)).map fun k => w.drop k
def sufs (ws : List (List UInt8)) : List (List UInt8) := ws.flatMap Zi4
theorem Z2h {ws : List (List UInt8)} {x : List UInt8} (h : ∃ w ∈ ws, x <:+ w) : x ∈ sufs ws := by
  obtain ⟨w, hw, t, ht⟩ := h; refine List.mem_flatMap.2 ⟨w, hw, List.mem_map.2 ⟨t.length, List.mem_range.2 (by rw [← ht]; simp; omega), by rw [← ht]; simp⟩⟩
theorem Z28 : ∀ {ws : List (List UInt8)} {n : Nat}, (∀ w ∈ ws, w.length ≤ n) → (sufs ws).length ≤ ws.length * (n + 1)
  | [], n, _ => by simp [sufs]
  | w :: ws, n, h => by
    have := Z28 (ws := ws) (fun w hw => h w (by simp [hw])); have h1 := h w (by simp); unfold sufs at this ⊢; simp only [List.flatMap_cons, List.length_append, List.length_cons, Zi4, List.length_map, List.length_range, Nat.succ_mul]; omega

/-! ### Sorted lists -/
theorem Z6n (l : List (List UInt8)) : (Z0m l).Perm l := List.mergeSort_perm l _
theorem Z8j (l : List (List UInt8)) (x : List UInt8) : x ∈ Z0m l ↔ x ∈ l := (Z6n l).mem_iff
theorem Z84 (l : List (List UInt8)) : (Z0m l).Pairwise fun a b => ¬ ltW b a := by
  have h := List.pairwise_mergeSort (le := fun x y => !(ltOf cmpK) y x) (fun a b c h1 h2 => by
    simp only [Bool.not_eq_true', Z14] at *; intro h; by_cases hbc : ltW b c
    · exact h1 (by
        by_cases hab : ltW a b
        · exact absurd (Z0h hab (Z0h hbc h)) (Zv a)
        · have := Z1d hab h1
          subst this; exact absurd (Z0h hbc h) (Zv _))
    · have := Z1d hbc h2
      subst this; exact h1 h) (fun a b => by
    simp only [Bool.or_eq_true, Bool.not_eq_true', Z14]; by_cases hab : ltW b a
    · exact .inr (fun h => Zv a (Z0h h hab))
    · exact .inl hab) l
  refine h.imp ?_; intro a b hab
  simpa [Z14] using hab
theorem Z9e {l : List (List UInt8)} (h : l.Nodup) : (Z0m l).Nodup := (Z6n l).nodup_iff.2 h
theorem Z4t {l : List (List UInt8)} (h : l.Nodup) : (Z0m l).Pairwise ltW := by
  refine (Z84 l).imp₂ ?_ (Z9e h); intro a b h1 h2; by_cases hab : ltW a b
  · exact hab
  · exact absurd (Z1d hab h1) h2

theorem Z29 : ∀ {l m : List (List UInt8)}, l.Pairwise ltW → m.Pairwise ltW → (∀ x, x ∈ l ↔ x ∈ m) → l = m
  | [], [], _, _, _ => rfl
  | [], b :: m, _, _, h => absurd ((h b).2 (by simp)) (by simp)
  | a :: l, [], _, _, h => absurd ((h a).1 (by simp)) (by simp)
  | a :: l, b :: m, hl, hm, h => by
    obtain ⟨ha, hl2⟩ := List.pairwise_cons.1 hl; obtain ⟨hb, hm2⟩ := List.pairwise_cons.1 hm; have e : a = b := by
      rcases List.mem_cons.1 ((h a).1 (by simp)) with e | e
      · exact e
      · rcases List.mem_cons.1 ((h b).2 (by simp)) with e2 | e2
        · exact e2.symm
        · exact absurd (Z0h (ha b e2) (hb a e)) (Zv a)
    subst e; refine congrArg (List.cons a) (Z29 hl2 hm2 (fun x => ⟨fun hx => ?_, fun hx => ?_⟩))
    · rcases List.mem_cons.1 ((h x).1 (by simp [hx])) with e | e
      · subst e; exact absurd (ha x hx) (Zv x)
      · exact e
    · rcases List.mem_cons.1 ((h x).2 (by simp [hx])) with e | e
      · subst e; exact absurd (hb x hx) (Zv x)
      · exact e

theorem Z65 : ∀ (l acc : List (List UInt8)), acc.Nodup → (l.foldl addK acc).Nodup
  | [], acc, h => h
  | a :: l, acc, h => by
    rw [List.foldl_cons]; refine Z65 l _ ?_; unfold addK
    split
    · exact h
    · rename_i hn
      exact List.nodup_append.2 ⟨h, by simp, fun x hx y hy e => by simp only [List.mem_singleton] at hy; subst hy; subst e; exact hn hx⟩
theorem Z2x (l : List (List UInt8)) : (Ze l).Nodup := Z65 l [] List.nodup_nil

open Classical in
/-- The dangling suffixes, in order. -/
noncomputable def residL (ws : List (List UInt8)) : List (List UInt8) := Z0m ((Ze (sufs ws)).filter fun x => decide (Z1e ws x))
theorem Z09 {ws : List (List UInt8)} {x : List UInt8} : x ∈ residL ws ↔ Z1e ws x := by
  unfold residL; rw [Z8j, List.mem_filter, Z0s]; simp only [decide_eq_true_eq]; exact ⟨fun h => h.2, fun h => ⟨Z2h (Zu h), h⟩⟩
theorem Z0v (ws : List (List UInt8)) : (residL ws).Pairwise ltW := Z4t ((Z2x _).filter _)
theorem Zcv {ws l : List (List UInt8)} (hn : l.Nodup) (h : ∀ x, x ∈ l ↔ Z1e ws x) : Z0m l = residL ws :=
  Z29 (Z4t hn) (Z0v ws) (fun x => by rw [Z8j, Z09]; exact h x)

theorem Zgr {ws : List (List UInt8)} {x y u : List UInt8} (hx : x ∈ ws) (hy : y ∈ ws) (hne : x ≠ y) (h : x = y ++ u) : u ∈ Z0f ws := by
  obtain ⟨i, hi, rfl⟩ := List.getElem_of_mem hx; obtain ⟨k, hk, rfl⟩ := List.getElem_of_mem hy; have get : ∀ i, (h : i < ws.length) → ws.getD i [] = ws[i] := fun i h => by rw [List.getD_eq_getElem?_getD, List.getElem?_eq_getElem h, Option.getD_some]
  refine Z4l.2 ⟨i, k, hi, hk, fun e => hne (by subst e; rfl), ?_, ?_⟩
  · rw [get i hi, get k hk, h, List.isPrefixOf_iff_prefix]; exact List.prefix_append _ _
  · rw [get i hi, get k hk, h, List.drop_left]


def Sp2 (ws : List (List UInt8)) (w r : List UInt8) : Prop := ∃ A B : List (List UInt8), (∀ x ∈ A, x ∈ ws) ∧ (∀ x ∈ B, x ∈ ws) ∧ A.flatten = w ∧ B.flatten ++ r = w ∧ A ≠ [] ∧ B ≠ [] ∧ A.head? ≠ B.head?
theorem Z35 {x y : List UInt8} (h : x.isPrefixOf y = true) : y = x ++ y.drop x.length := by
  obtain ⟨t, rfl⟩ := List.isPrefixOf_iff_prefix.1 h; rw [List.drop_left]
theorem Z43 {ws : List (List UInt8)} {y u : List UInt8} (h : (y, u) ∈ Z0w ws) : ∃ x ∈ ws, y ∈ ws ∧ y = x ++ u ∧ u ≠ [] := by
  unfold Z0w Z1v at h; obtain ⟨i, hi, h⟩ := List.mem_flatMap.1 h; unfold Z1c at h; obtain ⟨z, hz, h⟩ := List.mem_flatMap.1 h; unfold Z1f at h
  split at h
  · rename_i hc
    rw [List.mem_singleton] at h
    injection h with h1 h2
    subst h1 h2; have hi := List.mem_range.1 hi; refine ⟨ws.getD i [], ?_, List.mem_of_mem_take hz, Z35 hc.1, hc.2⟩; rw [List.getD_eq_getElem?_getD, List.getElem?_eq_getElem hi]; exact List.getElem_mem hi
  · cases h
theorem Zck {ws : List (List UInt8)} {y u : List UInt8} (h : (y, u) ∈ Z0w ws) : Sp2 ws y u := by
  obtain ⟨x, hx, hy, e, hu⟩ := Z43 h; refine ⟨[y], [x], fun z hz => by rw [List.mem_singleton.1 hz]; exact hy, fun z hz => by rw [List.mem_singleton.1 hz]; exact hx, by simp, by rw [e]; simp, by simp, by simp, fun he => ?_⟩; simp only [List.head?_cons, Option.some.injEq] at he; rw [he] at e; exact hu (List.append_right_eq_self.1 e.symm)
theorem Zfl {ws : List (List UInt8)} {w r u : List UInt8} {n : Nat} (hs : Sp2 ws w r) (h : (u, n) ∈ Zo ws r) : Sp2 ws (w ++ u.drop (u.length - n)) u := by
  obtain ⟨A, B, hA, hB, eA, eB, nA, nB, hh⟩ := hs; unfold Zo at h; obtain ⟨x, hx, h⟩ := List.mem_flatMap.1 h; unfold Z1k at h; have hBx : ∀ z ∈ B ++ [x], z ∈ ws := fun z hz => (List.mem_append.1 hz).elim (hB z) fun h => by rw [List.mem_singleton.1 h]; exact hx
  have hd : (B ++ [x]).head? = B.head? := by cases B with | nil => exact absurd rfl nB | cons b B => rfl
  split at h
  · rename_i hp
    rw [List.mem_singleton] at h
    injection h with h1 h2
    subst h1 h2; refine ⟨A, B ++ [x], hA, hBx, by simp [eA]; omega, ?_, nA, by simp, by rw [hd]; exact hh⟩; rw [Nat.sub_zero, List.drop_length, List.append_nil, ← eB, List.flatten_append]; have := Z35 hp; simp only [List.flatten_cons, List.flatten_nil, List.append_nil, List.append_assoc]; rw [← this]
  · split at h
    · rename_i hp
      rw [List.mem_singleton] at h
      injection h with h1 h2
      subst h1 h2; have e := Z35 hp; refine ⟨B ++ [x], A, hBx, hA, ?_, by rw [Nat.sub_self, List.drop_zero, eA], by simp, nA, by rw [hd]; exact fun e => hh e.symm⟩; rw [Nat.sub_self, List.drop_zero, ← eB, List.flatten_append]; simp only [List.flatten_cons, List.flatten_nil, List.append_nil, List.append_assoc]; rw [← e]
    · cases h

theorem Z6t (ws : List (List UInt8)) : ∀ n, (Z1v ws n).length ≤ n * ws.length
  | 0 => by simp [Z1v]
  | n + 1 => by
    have h1 : ∀ l : List (List UInt8), ∀ x, (l.flatMap (Z1f x)).length ≤ l.length := fun l x => by
      induction l with
      | nil => simp
      | cons y l ih =>
        have : (Z1f x y).length ≤ 1 := by unfold Z1f; split <;> simp
        simp only [List.flatMap_cons, List.length_append, List.length_cons]; omega
    have h2 := h1 (ws.take ws.length) (ws.getD n []); rw [List.take_length] at h2; have h3 := Z6t ws n; rw [Z2f, List.length_append, Nat.succ_mul]; unfold Z1c; rw [List.take_length]; omega

def RKok (done : List (List UInt8)) (rk : RK) : Prop := rk ≠ .raw ∧ (done ≠ [] → rk = .own)

theorem Z0y (q : Int) (ws done : List (List UInt8)) (rk : RK) (T : List AObj) : (Zx q ws done rk T).length = T.length + 7 := by simp [Zx]
theorem Z6z (q : Int) (ws done : List (List UInt8)) (rk : RK) (T : List AObj) (o : AObj) : Zx q ws done rk T ++ [o] = Zx q ws done rk (T ++ [o]) := by simp [Zx]

theorem add86 {E : Env} (hP : E.P = Try.prog) (hn : E.n0 = 0) {tm : List AV} {Q : Exit → St → Prop} {f : Operand} {ps : List Nat} {assign body : Code} (q : Int) (ws : List (List UInt8)) (hws : ws.length ≤ 64)
    (hf : ev tm f = .fn 58 [.ptr 5 0]) (htm : Z8 [6] tm = tm)
    (hround : ∀ done rk y r, RKok done rk → done.length ≤ 5000 → YC Try.prog 7 [.p (.str y), .p (.str r)] (Zx q ws done rk [.lp tm ps assign body .ready]) [6]
      (fun v h'' => v = .p (.bool true) ∧ ∃ rk', RKok (done ++ [r]) rk' ∧ h'' = Zx q ws (done ++ [r]) rk' [.lp tm ps assign body .ready]))
    (h1 : ∀ rk, RKok ((Z0w ws).map (·.2)) rk → Q .normal ⟨tm, Zx q ws ((Z0w ws).map (·.2)) rk [.dead]⟩) : AWp E none (.rangeFunc f ps.toArray assign body) Q ⟨tm, Zx q ws [] .lax []⟩ := by
  have hlen : (Z0w ws).length ≤ 4096 := by
    have h1 := Z6t ws ws.length; have h2 : ws.length * ws.length ≤ 64 * 64 := Nat.mul_le_mul hws hws; unfold Z0w; omega
  have hac : AC Try.prog 58 [.yld 7, .ptr 5 0] (Zx q ws [] .lax [.lp tm ps assign body .ready]) [6]
      (fun _ h' => (∃ rk, RKok ((Z0w ws).map (·.2)) rk ∧ h' = Zx q ws ((Z0w ws).map (·.2)) rk [.lp tm ps assign body .ready]) ∨ False) := by
    refine c86 (b := 7) (c := 5) (ks := [6]) (by simp) (by simp) q ws (by omega) (J := fun done h' => ∃ rk, RKok (done.map (·.2)) rk ∧ h' = Zx q ws (done.map (·.2)) rk [.lp tm ps assign body .ready]) (D := fun _ => False) ⟨.lax, ⟨by simp, fun h => absurd rfl h⟩, rfl⟩ ?_ ?_ ?_
    · rintro done h' ⟨rk, _, rfl⟩
      exact ⟨rfl, by rw [Z0y, Z0y]; exact Nat.le_refl _⟩
    · intro h' h; exact h.elim
    · rintro done y r h' ⟨l, hl⟩ ⟨rk, hrk, rfl⟩
      have hd : done.length ≤ 4096 := by
        have := congrArg List.length hl; simp only [List.length_append, List.length_cons] at this; omega
      have hy := hround (done.map (·.2)) rk y r hrk (by rw [List.length_map]; omega); intro X I μ ob w cargs R hl2 ha hk; obtain ⟨l', fn, tmps, a', b', e1, e2, e3⟩ := hy X I μ ob w cargs R hl2 ha hk; refine ⟨l', fn, tmps, a', b', e1, e2, ?_⟩; refine e3.mono ?_; rintro e w' ⟨cv, v, h', I', μ', ob', g1, g2, g3, g4, g5, g6, g7, g8, g9, k1, rk', k2, k3⟩; exact ⟨cv, v, h', I', μ', ob', g1, g2, g3, g4, g5, g6, g7, g8, g9, .inl ⟨k1, rk', by rw [List.map_append]; exact k2, by rw [List.map_append]; exact k3⟩⟩
  obtain ⟨P, Γ', n0, ks⟩ := E; simp only at hP hn; subst hP hn; refine AWp.rangeFunc (h := Zx q ws [] .lax []) (ks := [6]) hf (by rw [Z6z]; exact hac) (fun k _ => .inl (Nat.zero_le k)) (by rw [Z0y]; simp) ?_; rintro v h' (⟨rk, hrk, rfl⟩ | h)
  · have := h1 rk hrk
    unfold Z50; rw [htm]; exact this
  · exact h.elim

theorem Z4u : ∀ (l acc : List (List UInt8)), acc <+: l.foldl addK acc
  | [], acc => List.prefix_refl _
  | a :: l, acc => by
    rw [List.foldl_cons]; refine List.IsPrefix.trans ?_ (Z4u l _); unfold addK
    split
    · exact List.prefix_refl _
    · exact List.prefix_append _ _
theorem Z45 (done l : List (List UInt8)) : Ze done <+: Ze (done ++ l) := by unfold Ze; rw [List.foldl_append]; exact Z4u l _
theorem Z9u {done l : List (List UInt8)} {j : Nat} (hj : j < (Ze done).length) : (Ze (done ++ l)).getD j [] = (Ze done).getD j [] := by
  obtain ⟨t, ht⟩ := Z45 done l; rw [← ht]; simp only [List.getD_eq_getElem?_getD, List.getElem?_append_left hj]

theorem Z0c : ∀ {l m : List (List UInt8)}, l.Nodup → l ⊆ m → l.length ≤ m.length
  | [], _, _, _ => Nat.zero_le _
  | a :: l, m, h, hs => by
    obtain ⟨h1, h2⟩ := List.nodup_cons.1 h; have ha : a ∈ m := hs (by simp); have := Z0c (m := m.erase a) h2 (fun x hx => (List.mem_erase_of_ne (fun e : x = a => h1 (e ▸ hx))).2 (hs (by simp [hx]))); rw [List.length_erase_of_mem ha] at this; have := List.length_pos_of_mem ha; simp only [List.length_cons]; omega

structure Inv2 (ws : List (List UInt8)) (i : Nat) (done : List (List UInt8)) (rk : RK) : Prop where
  ok : RKok done rk
  sound : ∀ x ∈ done, Z1e ws x
  firsts : ∀ u ∈ Z0f ws, u ∈ done
  le : i ≤ (Ze done).length
  nexts : ∀ j, j < i → (Ze done).getD j [] ≠ [] → ∀ u ∈ Z13 ws ((Ze done).getD j []), u ∈ done

theorem Inv2.keys_len {ws : List (List UInt8)} {i : Nat} {done : List (List UInt8)} {rk : RK} (h : Inv2 ws i done rk) : (Ze done).length ≤ (sufs ws).length := by
  have h1 : Ze done ⊆ sufs ws := fun x hx => Z2h (Zu (h.sound x ((Z0s _ _).1 hx)))
  exact Z0c (Z2x done) h1

theorem Z31 {q : Int} {ws : List (List UInt8)} (hv : Valid q ws) : ∀ i j, i < ws.length → j < ws.length → ws.getD i [] = ws.getD j [] → i = j := by
  intro i j hi hj e; rcases Nat.lt_trichotomy i j with h1 | h1 | h1
  · exact absurd (e ▸ hv.lt i j h1 hj) (Zv _)
  · exact h1
  · exact absurd (e ▸ hv.lt j i h1 hi) (Zv _)

theorem Z59 (ws : List (List UInt8)) (r : List UInt8) : Z13 ws r = (Zo ws r).map (·.1) := by
  unfold Z13 Zo; rw [List.map_flatMap]
  congr 1; funext x
  unfold Z2v Z1k
  split
  · rfl
  · split <;> rfl

theorem Zbt (ws : List (List UInt8)) (r : List UInt8) : (Zo ws r).length ≤ ws.length := by
  induction ws with
  | nil => simp [Zo]
  | cons x ws ih =>
    have h : (Z1k r x).length ≤ 1 := by unfold Z1k; split; simp; split <;> simp
    unfold Zo at ih ⊢; simp only [List.flatMap_cons, List.length_append, List.length_cons]; omega

theorem add87 {E : Env} (hP : E.P = Try.prog) (hn : E.n0 = 0) {tm : List AV} {Q : Exit → St → Prop} {f : Operand} {ps : List Nat} {assign body : Code} (q : Int) (ws : List (List UInt8)) (hws : ws.length ≤ 64) (x : List UInt8) (done0 : List (List UInt8)) (rk0 : RK) (hrk0 : RKok done0 rk0) (T : List AObj) {c d : Nat}
    (hf : ev tm f = .fn 60 [.ptr (c + 7) 0, .ptr (d + 7) 0]) (hc : T[c]? = some (Z0 q ws)) (hd : T[d]? = some (.box [.p (.str x)])) (htm : Z8 [6] tm = tm) (hd0 : (Ze done0).length ≤ 100000)
    (hround : ∀ done rk u n, RKok done rk → (Ze done).length ≤ 1000000 → YC Try.prog (T.length + 7) [.p (.str u), .p (.int .i64 (n : Nat))] (Zx q ws done rk (T ++ [.lp tm ps assign body .ready])) [6]
      (fun v h'' => v = .p (.bool true) ∧ ∃ rk', RKok (done ++ [u]) rk' ∧ h'' = Zx q ws (done ++ [u]) rk' (T ++ [.lp tm ps assign body .ready])))
    (h1 : ∀ rk, RKok (done0 ++ (Zo ws x).map (·.1)) rk → Q .normal ⟨tm, Zx q ws (done0 ++ (Zo ws x).map (·.1)) rk (T ++ [.dead])⟩) : AWp E none (.rangeFunc f ps.toArray assign body) Q ⟨tm, Zx q ws done0 rk0 T⟩ := by
  have hcl : c < T.length := (List.getElem?_eq_some_iff.1 hc).1; have hdl : d < T.length := (List.getElem?_eq_some_iff.1 hd).1; have look : ∀ done rk o k v, T[k]? = some v → (Zx q ws done rk (T ++ [o]))[k + 7]? = some v := fun done rk o k v hk => by
    show (T ++ [o])[k]? = some v; rw [List.getElem?_append_left (List.getElem?_eq_some_iff.1 hk).1]; exact hk
  have grow : ∀ l : List (List UInt8), (Ze (done0 ++ l)).length ≤ (Ze done0).length + l.length := fun l => by
    unfold Ze; rw [List.foldl_append]; exact Z60 l _
  have hac : AC Try.prog 60 [.yld (T.length + 7), .ptr (c + 7) 0, .ptr (d + 7) 0] (Zx q ws done0 rk0 (T ++ [.lp tm ps assign body .ready])) [6]
      (fun _ h' => (∃ rk, RKok (done0 ++ (Zo ws x).map (·.1)) rk ∧ h' = Zx q ws (done0 ++ (Zo ws x).map (·.1)) rk (T ++ [.lp tm ps assign body .ready])) ∨ False) := by
    refine c87 (h := Zx q ws done0 rk0 (T ++ [.lp tm ps assign body .ready])) (b := T.length + 7) (c := c + 7) (d := d + 7) (ks := [6]) (by simp) (by simp) (by simp) q ws x (by omega) (J := fun done h' => ∃ rk, RKok (done0 ++ done.map (·.1)) rk ∧ h' = Zx q ws (done0 ++ done.map (·.1)) rk (T ++ [.lp tm ps assign body .ready])) (D := fun _ => False) ⟨rk0, by simpa using hrk0, by simp⟩ ?_ ?_ ?_
    · rintro done h' ⟨rk, _, rfl⟩
      exact ⟨look _ _ _ _ _ hc, look _ _ _ _ _ hd, by rw [Z0y, Z0y]; exact Nat.le_refl _⟩
    · intro h' h; exact h.elim
    · rintro done u n h' ⟨l, hl⟩ ⟨rk, hrk, rfl⟩
      have hdn : done.length ≤ 64 := by
        have := congrArg List.length hl; have h2 := Zbt ws x; simp only [List.length_append, List.length_cons] at this; omega
      have hg := grow (done.map (·.1)); rw [List.length_map] at hg; have hy := hround (done0 ++ done.map (·.1)) rk u n hrk (by omega); intro X I μ ob w cargs R hl2 ha hk; obtain ⟨l', fn, tmps, a', b', e1, e2, e3⟩ := hy X I μ ob w cargs R hl2 ha hk; refine ⟨l', fn, tmps, a', b', e1, e2, ?_⟩; refine e3.mono ?_; rintro e w' ⟨cv, v, h', I', μ', ob', g1, g2, g3, g4, g5, g6, g7, g8, g9, k1, rk', k2, k3⟩; exact ⟨cv, v, h', I', μ', ob', g1, g2, g3, g4, g5, g6, g7, g8, g9, .inl ⟨k1, rk', by rw [List.map_append, ← List.append_assoc]; exact k2, by rw [List.map_append, ← List.append_assoc]; exact k3⟩⟩
  obtain ⟨P, Γ', n0, ks⟩ := E; simp only at hP hn; subst hP hn; refine AWp.rangeFunc (h := Zx q ws done0 rk0 T) (ks := [6]) hf (by rw [Z6z, Z0y]; exact hac) (fun k _ => .inl (Nat.zero_le k)) (by rw [Z0y]; simp) ?_; rintro v h' (⟨rk, hrk, rfl⟩ | h)
  · have := h1 rk hrk
    unfold Z50; rw [htm, Z0y]; have e1 : (Zx q ws (done0 ++ (Zo ws x).map (·.1)) rk (T ++ [.lp tm ps assign body .ready]))[T.length + 7]? = some (.lp tm ps assign body .ready) := by
      show (T ++ [_])[T.length]? = _; simp
    rw [e1]; have e2 : (Zx q ws (done0 ++ (Zo ws x).map (·.1)) rk (T ++ [.lp tm ps assign body .ready])).set (T.length + 7) .dead = Zx q ws (done0 ++ (Zo ws x).map (·.1)) rk (T ++ [.dead]) := by
      simp [Zx]
    simp only [e2]; exact this
  · exact h.elim

theorem r46 (q : Int) (ws : List (List UInt8)) (hv : Valid q ws) : PRow Try.prog 23 [Z9 q ws] 9 1 ((residL ws).map .str) := by
  refine AC.of_bodyE hΓ Try.func23 (by kernel_rfl) rfl (AWp.mono (Q := fun e st => AM.Ends e ∧ ∃ b rk, st.tmps.getD 2 .junk = .own b (residL ws).length ∧ st.h[b]? = some (.row 9 1 ((residL ws).map .str) rk) ∧ rk ≠ .raw) ?_ ?_)
  rotate_left
  · rintro e ⟨tm, h'⟩ ⟨he, b, rk, h1, h2, h3⟩
    simp only at h1 h2; refine ⟨he, _, Less.refl _, ?_⟩; unfold Z32; simp -implicitDefEqProofs only [Try.results23, h1, go_sem]; refine ⟨_, by simp, .inl rfl, b, ?_⟩; rw [List.take_length]; exact ⟨rk, by simp, h2, h3⟩
  refine Wd [] ?_; simp -implicitDefEqProofs only [Try.ntmps23, Nat.reduceAdd, Nat.reduceSub, Z9, List.map_cons, List.map_nil, go_sem]; refine Zn (c52 q ws) (by simp) ?_; rintro v h' ⟨rfl, rfl⟩; simp -implicitDefEqProofs only [Z8, List.foldl, Z0, List.cons_append, List.nil_append, go_sem]; refine AWp.adoptBox (l := []) 3 9 1 rfl (by simp) ?_; simp -implicitDefEqProofs only [List.set_cons_zero, List.set_cons_succ, List.length_cons, List.length_nil, List.cons_append, List.nil_append, Nat.reduceAdd, go_sem]; refine add86 rfl rfl q ws hv.len rfl (by simp [Z8, AV.kill, AV.kill.killL]) ?_ ?_
  · intro done rk y r hrk hdl
    refine YC.of_body (Γ := Γ) rfl rfl (by simp) ?_; intro rr; refine Wd [] ?_; unfold Zx; simp +contextual -implicitDefEqProofs only [setP, List.cons_append, List.nil_append, go_sem]; unfold Z7c; refine ⟨rfl, ?_⟩; simp +contextual -implicitDefEqProofs only [List.length_cons, List.length_nil, List.cons_append, List.nil_append, Z0, go_sem]; refine Wd [] ?_; simp -implicitDefEqProofs only [go_sem]; have hkl := Zbz done; refine Zn (c82 q ws done rk _ r hrk (by simp [AObj.kill, AV.kill, AV.kill.killL]) (by omega)) (by simp) ?_; rintro v h' ⟨rfl, rk', hrk', rfl⟩; unfold Zx; simp -implicitDefEqProofs only [Z8, List.foldl, Z0, go_sem]; exact ⟨8, by simp, .inl rfl, rfl, rk', hrk', rfl⟩
  · intro rk hrk
    unfold Zx; simp -implicitDefEqProofs only [Z0, go_sem]
    refine AWp.loopI (fun p : Nat × List (List UInt8) × RK × Nat => ⟨mkF 44 [(1, .ptr 0 0), (3, .ptr 2 0), (4, .ptr 3 0), (5, .ptr 4 0), (8, .p (.int .i64 p.1))], Zx q ws p.2.1 p.2.2.1 (List.replicate p.2.2.2 .dead)⟩)
      (fun p => Inv2 ws p.1 p.2.1 p.2.2.1) (fun p => (sufs ws).length - p.1) (0, (Z0w ws).map (·.2), rk, 1) (by simp [go_sem, Zx, Z0]) ?_ ?_
    · have hd := Z31 hv
      have hf : ∀ u, u ∈ (Z0w ws).map (·.2) ↔ u ∈ Z0f ws := fun u => by
        constructor
        · intro hu
          obtain ⟨p, hp, rfl⟩ := List.mem_map.1 hu; exact (Z3k hd (Z0f ws)).2 (fun _ h => h) p hp
        · intro hu
          exact (Z3k hd ((Z0w ws).map (·.2))).1 (fun p hp => List.mem_map.2 ⟨p, hp, rfl⟩) u hu
      exact ⟨hrk, fun x hx => .first x ((hf x).1 hx), fun u hu => (hf u).2 hu, Nat.zero_le _, fun j hj => absurd hj (Nat.not_lt_zero j)⟩
    rintro ⟨i, done, rk, m⟩ hI; simp only at hI; generalize hTT : List.replicate m AObj.dead = T; by_cases hlt : i < (Ze done).length
    · have hdn : done ≠ [] := fun e => by subst e; simp [Ze] at hlt
      have hown := hI.ok.2 hdn; subst hown; refine Wd [(11, 5)] ?_; unfold Zx; simp -implicitDefEqProofs only [Z2, hlt, ↓reduceIte, Z0, go_sem]; have hkey : (Ze done).getD i [] = (Ze done)[i] := by rw [List.getD_eq_getElem?_getD, List.getElem?_eq_getElem hlt, Option.getD_some]
      have hk := hI.keys_len; have hsl := Z28 (ws := ws) (n := 32) (fun w hw => by
        obtain ⟨j, hj, rfl⟩ := List.getElem_of_mem hw; have := hv.short j hj
        rwa [List.getD_eq_getElem?_getD, List.getElem?_eq_getElem hj, Option.getD_some] at this)
      have hl3 : ws.length * (32 + 1) ≤ 64 * 33 := Nat.mul_le_mul_right _ hv.len; refine ⟨fun he => ⟨by simp only [InR]; omega, (i + 1, done, .own, m), ⟨by simp, rfl, rfl, .inl ⟨rfl, rfl⟩, by rw [← hTT]; exact Zf _⟩, ⟨hI.ok, hI.sound, hI.firsts, hlt, fun j hj hne => ?_⟩, by simp only; omega⟩, fun hne => ?_⟩
      · by_cases hji : j < i
        · exact hI.nexts j hji hne
        · have : j = i := by omega
          subst this; rw [hkey] at hne; exact absurd he hne
      · refine Zn (c53 q ws (Ze done)[i]) (by simp) ?_
        rintro v h' ⟨rfl, rfl⟩; simp -implicitDefEqProofs only [Z8, List.foldl, Z0, List.cons_append, List.nil_append, go_sem]; rw [show (#[36, 37] : Array Nat) = [36, 37].toArray from rfl]; generalize hT2 : T ++ [AObj.box [.p (.int .i64 q), .p (.sl (ws.map .str))], .box [.p (.str (Ze done)[i])]] = T2; have gl : ∀ done rk x, (Zx q ws done rk (T2 ++ [x]))[T2.length + 7]? = some x := fun done rk x => by
          show (T2 ++ [x])[T2.length]? = _; simp
        have gs : ∀ done rk x y, (Zx q ws done rk (T2 ++ [x])).set (T2.length + 7) y = Zx q ws done rk (T2 ++ [y]) := fun done rk x y => by simp [Zx]
        have f4 : ∀ done rk T, (Zx q ws done rk T)[4]? = some (.box [.fn 45 [.ptr 2 0, .ptr 3 0]]) := fun _ _ _ => rfl
        refine AWp.weak (st' := ⟨mkF 44 [(1, .ptr 0 0), (3, .ptr 2 0), (4, .ptr 3 0), (5, .ptr 4 0), (8, .p (.int .i64 i)), (35, .fn 60 [.ptr (T.length + 7) 0, .ptr (T.length + 1 + 7) 0])], Zx q ws done .own T2⟩) ?_ ?_
        · rw [← hT2]; simp [go_sem, Zx, Z0, Zf]
        refine add87 (c := T.length) (d := T.length + 1) rfl rfl q ws hv.len (Ze done)[i] done .own hI.ok T2 rfl (by rw [← hT2]; simp [Z0]) (by rw [← hT2]; simp) (by simp [go_sem, Z8, AV.kill, AV.kill.killL]) (by omega) ?_ ?_
        · intro done2 rk2 u n hrk2 hk2
          refine YC.of_body (Γ := Γ) (gl _ _ _) rfl (by simp) ?_; intro rr; refine Wd [] ?_; simp -implicitDefEqProofs only [setP, go_sem]; unfold Z7c; refine ⟨rfl, ?_⟩; simp only [gl, gs]; refine Wd [] ?_; simp -implicitDefEqProofs only [f4, go_sem]; refine Zn (c82 q ws done2 rk2 _ u hrk2 (by rw [← hT2, ← hTT]; simp [AObj.kill, AV.kill, AV.kill.killL]) (by omega)) (fun k hk => .inr hk) ?_; rintro v h' ⟨rfl, rk', hrk', rfl⟩; simp -implicitDefEqProofs only [Z8, List.foldl, go_sem]; unfold Z6i; simp only [gl, gs]; exact ⟨_, by simp [Z0y], .inl rfl, trivial, rk', hrk', List.take_length⟩
        · intro rk2 hrk2
          unfold Zx; simp -implicitDefEqProofs only [Z0, go_sem]; refine ⟨by simp only [InR]; omega, (i + 1, done ++ (Zo ws (Ze done)[i]).map (·.1), rk2, m + 3), ⟨by simp, rfl, rfl, .inl ⟨rfl, rfl⟩, ?_⟩, ?_, by simp only; omega⟩
          · have e3 : List.replicate (m + 3) AObj.dead = List.replicate (T2 ++ [AObj.dead]).length AObj.dead := by rw [← hT2, ← hTT]; simp
            simp only [e3]; exact Z4c _
          · have hN := Z59 ws (Ze done)[i]
            have hkr : Z1e ws (Ze done)[i] := hI.sound _ ((Z0s _ _).1 (List.getElem_mem hlt)); have hpre := (Z45 done ((Zo ws (Ze done)[i]).map (·.1))).length_le; refine ⟨hrk2, fun x hx => ?_, fun u hu => List.mem_append.2 (.inl (hI.firsts u hu)), by simp only; omega, fun j hj hne2 u hu => ?_⟩
            · rcases List.mem_append.1 hx with hx | hx
              · exact hI.sound x hx
              · exact .next _ x hkr hne (by rw [hN]; exact hx)
            · rw [Z9u (by omega)] at hne2 hu
              by_cases hji : j < i
              · exact List.mem_append.2 (.inl (hI.nexts j hji hne2 u hu))
              · have : j = i := by omega
                subst this; rw [hkey, hN] at hu; exact List.mem_append.2 (.inr hu)
    · refine Wd [(11, 5)] ?_
      unfold Zx; simp -implicitDefEqProofs only [Z2, hlt, ↓reduceIte, Z0, go_sem]; have hmem : ∀ x, x ∈ Ze done ↔ Z1e ws x := fun x => by
        rw [Z0s]; refine ⟨hI.sound x, fun h => ?_⟩
        induction h with
        | first u h => exact hI.firsts u h
        | next r u hr hne h ih =>
          obtain ⟨j, hj, rfl⟩ := List.getElem_of_mem ((Z0s done r).2 ih); have e : (Ze done).getD j [] = (Ze done)[j] := by rw [List.getD_eq_getElem?_getD, List.getElem?_eq_getElem hj, Option.getD_some]
          exact hI.nexts j (by have := hI.le; omega) (by rw [e]; exact hne) u (by rw [e]; exact h)
      have hres : Z0m (Ze done) = residL ws := Zcv (Z2x _) hmem; by_cases hdn : done = []
      · subst hdn
        refine Zn (c83n (b := 6)) (by simp) ?_; rintro v h' ⟨rfl, rfl⟩; simp -implicitDefEqProofs only [Z8, List.foldl, go_sem]; have e0 : Ze [] = [] := rfl; have es : Z0m [] = [] := by simp [Z0m]
        rw [← hres, e0, es]; exact ⟨6, rk, ⟨rfl, rfl⟩, rfl, hI.ok.1⟩
      · have hown := hI.ok.2 hdn
        subst hown; have hk := hI.keys_len; have hsl := Z28 (ws := ws) (n := 32) (fun w hw => by
          obtain ⟨j, hj, rfl⟩ := List.getElem_of_mem hw; have := hv.short j hj
          rwa [List.getD_eq_getElem?_getD, List.getElem?_eq_getElem hj, Option.getD_some] at this)
        have hl2 := hv.len; have hl3 : ws.length * (32 + 1) ≤ 64 * 33 := Nat.mul_le_mul_right _ hl2; refine Zn (c83 (b := 6) (Ze done) rfl (by omega)) (by simp) ?_; rintro v h' ⟨rfl, rfl⟩; simp -implicitDefEqProofs only [Z8, List.foldl, List.set_cons_succ, List.set_cons_zero, go_sem]; rw [hres]; exact ⟨6, .own, ⟨rfl, by rw [← hres, Zt]⟩, rfl, by simp⟩

inductive Pw (ws : List (List UInt8)) : List UInt8 → List UInt8 → Prop
  | first (y u : List UInt8) (h : (y, u) ∈ Z0w ws) : Pw ws y u
  | next (w r u : List UInt8) (n : Nat) (hp : Pw ws w r) (hne : r ≠ []) (h : (u, n) ∈ Zo ws r) : Pw ws (w ++ u.drop (u.length - n)) u
theorem Pw.sp {ws : List (List UInt8)} {w r : List UInt8} (h : Pw ws w r) : Sp2 ws w r := by
  induction h with
  | first y u h => exact Zck h
  | next w r u n _ _ h ih => exact Zfl ih h

def leW (a b : List UInt8) : Prop := ¬ ltW b a
theorem leW.refl (a : List UInt8) : leW a a := Zv a
theorem leW.trans {a b c : List UInt8} (h1 : leW a b) (h2 : leW b c) : leW a c := by
  intro h; by_cases hab : ltW a b
  · exact h2 (Z0h h hab)
  · have := Z1d hab h1
    subst this; exact h2 h
theorem leW.anti {a b : List UInt8} (h1 : leW a b) (h2 : leW b a) : a = b := Z1d h2 h1
theorem leW.of_lt {a b : List UInt8} (h : ltW a b) : leW a b := fun g => Zv _ (Z0h h g)
theorem leW.len {a b : List UInt8} (h : leW a b) : a.length ≤ b.length := by
  unfold leW ltW at h; omega
theorem Zf0 (s : List UInt8) : ∀ {a b : List UInt8}, a.length = b.length → (bLt (a ++ s) (b ++ s) = true ↔ bLt a b = true)
  | [], [], _ => by rw [List.nil_append, Z3b, Z3b]
  | x :: a, y :: b, h => by
    rw [List.cons_append, List.cons_append, Z10, Z10, Zf0 s (by simpa using h)]
theorem leW.app {a b : List UInt8} (h : leW a b) (s : List UInt8) : leW (a ++ s) (b ++ s) := by
  intro g; refine h ?_; unfold ltW at *; simp only [List.length_append] at g; rcases g with g | ⟨g1, g2⟩
  · exact .inl (by omega)
  · exact .inr ⟨by omega, (Zf0 s (by omega)).1 g2⟩
theorem leW.more (a s : List UInt8) : leW a (a ++ s) := by
  cases s with
  | nil => rw [List.append_nil]; exact leW.refl a
  | cons x s =>
    refine leW.of_lt (.inl ?_); simp

structure DS where
  K : List (List UInt8)
  f : List UInt8 → List UInt8
open Classical in
noncomputable def DS.add (s : DS) (r w : List UInt8) : DS := if w.length ≤ 4096 ∧ (r ∉ s.K ∨ ltW w (s.f r)) then ⟨addK s.K r, fun x => if x = r then w else s.f x⟩ else s
noncomputable def DS.adds (s : DS) (l : List (List UInt8 × List UInt8)) : DS := l.foldl (fun s p => s.add p.1 p.2) s
theorem Z5a {K : List (List UInt8)} {r x : List UInt8} : x ∈ addK K r ↔ x ∈ K ∨ x = r := by
  unfold addK
  split
  · exact ⟨.inl, fun h => h.elim id fun e => e ▸ ‹_›⟩
  · rw [List.mem_append, List.mem_singleton]
theorem Zca {K : List (List UInt8)} (r : List UInt8) (h : K.Nodup) : (addK K r).Nodup := by
  unfold addK
  split
  · exact h
  · rename_i hn
    exact List.nodup_append.2 ⟨h, by simp, fun x hx y hy e => by simp only [List.mem_singleton] at hy; subst hy; subst e; exact hn hx⟩
theorem DS.add_nodup (s : DS) (r w : List UInt8) (h : s.K.Nodup) : (s.add r w).K.Nodup := by
  unfold DS.add
  split
  · exact Zca r h
  · exact h
theorem DS.add_le (s : DS) (r w : List UInt8) {x : List UInt8} (h : x ∈ s.K) : x ∈ (s.add r w).K ∧ leW ((s.add r w).f x) (s.f x) := by
  unfold DS.add
  split
  · rename_i hc
    refine ⟨Z5a.2 (.inl h), ?_⟩; show leW (if x = r then w else s.f x) (s.f x)
    split
    · rename_i e
      subst e; exact leW.of_lt (hc.2.resolve_left fun g => g h)
    · exact leW.refl _
  · exact ⟨h, leW.refl _⟩
theorem DS.add_hit (s : DS) (r w : List UInt8) (h : w.length ≤ 4096) : r ∈ (s.add r w).K ∧ leW ((s.add r w).f r) w := by
  unfold DS.add
  split
  · refine ⟨Z5a.2 (.inr rfl), ?_⟩
    show leW (if r = r then w else s.f r) w; rw [if_pos rfl]; exact leW.refl _
  · rename_i hc
    have h1 : ¬ (r ∉ s.K ∨ ltW w (s.f r)) := fun g => hc ⟨h, g⟩
    exact ⟨Classical.byContradiction fun g => h1 (.inl g), fun g => h1 (.inr g)⟩
theorem DS.add_inv (s : DS) (r w : List UInt8) {x : List UInt8} (h : x ∈ (s.add r w).K) : (x ∈ s.K ∧ (s.add r w).f x = s.f x) ∨ (x = r ∧ w.length ≤ 4096 ∧ (s.add r w).f x = w) := by
  unfold DS.add at h ⊢
  split at h
  · rename_i hc
    rw [if_pos hc]; by_cases e : x = r
    · exact .inr ⟨e, hc.1, if_pos e⟩
    · exact .inl ⟨(Z5a.1 h).resolve_right e, if_neg e⟩
  · rename_i hc
    rw [if_neg hc]; exact .inl ⟨h, rfl⟩
theorem DS.add_nk (s : DS) (r w : List UInt8) (h : ∀ x, x ∉ s.K → s.f x = []) : ∀ x, x ∉ (s.add r w).K → (s.add r w).f x = [] := by
  intro x hx; unfold DS.add at hx ⊢
  split at hx
  · rename_i hc
    rw [if_pos hc]; have h1 : ¬ (x ∈ s.K ∨ x = r) := fun g => hx (Z5a.2 g)
    show (if x = r then w else s.f x) = []; rw [if_neg fun e => h1 (.inr e)]; exact h x fun g => h1 (.inl g)
  · rename_i hc
    rw [if_neg hc]; exact h x hx
theorem DS.adds_cons (s : DS) (r w : List UInt8) (l : List (List UInt8 × List UInt8)) : s.adds ((r, w) :: l) = (s.add r w).adds l := rfl
theorem DS.adds_snoc (s : DS) (r w : List UInt8) (l : List (List UInt8 × List UInt8)) : s.adds (l ++ [(r, w)]) = (s.adds l).add r w := by
  unfold DS.adds; rw [List.foldl_append]
  rfl
theorem DS.adds_nodup : ∀ (l : List (List UInt8 × List UInt8)) (s : DS), s.K.Nodup → (s.adds l).K.Nodup
  | [], _, h => h
  | (r, w) :: l, s, h => DS.adds_nodup l (s.add r w) (s.add_nodup r w h)
theorem DS.adds_nk : ∀ (l : List (List UInt8 × List UInt8)) (s : DS), (∀ x, x ∉ s.K → s.f x = []) → ∀ x, x ∉ (s.adds l).K → (s.adds l).f x = []
  | [], _, h => h
  | (r, w) :: l, s, h => DS.adds_nk l (s.add r w) (s.add_nk r w h)
theorem DS.adds_le : ∀ (l : List (List UInt8 × List UInt8)) (s : DS) {x : List UInt8}, x ∈ s.K → x ∈ (s.adds l).K ∧ leW ((s.adds l).f x) (s.f x)
  | [], _, _, h => ⟨h, leW.refl _⟩
  | (r, w) :: l, s, x, h => by
    obtain ⟨h1, h2⟩ := s.add_le r w h; obtain ⟨h3, h4⟩ := DS.adds_le l (s.add r w) h1; exact ⟨h3, h4.trans h2⟩
theorem DS.adds_hit : ∀ (l : List (List UInt8 × List UInt8)) (s : DS) {r w : List UInt8}, (r, w) ∈ l → w.length ≤ 4096 → r ∈ (s.adds l).K ∧ leW ((s.adds l).f r) w
  | (r', w') :: l, s, r, w, h, hl => by
    rw [DS.adds_cons]; rcases List.mem_cons.1 h with h | h
    · injection h with e1 e2
      subst e1 e2; obtain ⟨h1, h2⟩ := s.add_hit r w hl; obtain ⟨h3, h4⟩ := DS.adds_le l (s.add r w) h1; exact ⟨h3, h4.trans h2⟩
    · exact DS.adds_hit l _ h hl
theorem DS.adds_inv : ∀ (l : List (List UInt8 × List UInt8)) (s : DS) {x : List UInt8}, x ∈ (s.adds l).K → (x ∈ s.K ∧ (s.adds l).f x = s.f x) ∨ ∃ w, (x, w) ∈ l ∧ w.length ≤ 4096 ∧ (s.adds l).f x = w
  | [], _, _, h => .inl ⟨h, rfl⟩
  | (r, w) :: l, s, x, h => by
    rw [DS.adds_cons] at h ⊢; rcases DS.adds_inv l _ h with ⟨h1, h2⟩ | ⟨v, h1, h2, h3⟩
    · rcases s.add_inv r w h1 with ⟨h3, h4⟩ | ⟨rfl, h4, h5⟩
      · exact .inl ⟨h3, h2.trans h4⟩
      · exact .inr ⟨w, by simp, h4, h2.trans h5⟩
    · exact .inr ⟨v, by simp [h1], h2, h3⟩

def fstL (ws : List (List UInt8)) : List (List UInt8 × List UInt8) := (Z0w ws).map fun p => (p.2, p.1)
def nxtL (ws : List (List UInt8)) (r w : List UInt8) : List (List UInt8 × List UInt8) := (Zo ws r).map fun p => (p.1, w ++ p.1.drop (p.1.length - p.2))

structure Dk (ws D : List (List UInt8)) (s : DS) : Prop where
  nd : s.K.Nodup
  snd : ∀ x ∈ s.K, Pw ws (s.f x) x ∧ (s.f x).length ≤ 4096
  nk : ∀ x, x ∉ s.K → s.f x = []
  dk : ∀ d ∈ D, d ∈ s.K ∧ d ≠ []
  dn : D.Nodup
  fst : ∀ p ∈ fstL ws, p.2.length ≤ 4096 → p.1 ∈ s.K ∧ leW (s.f p.1) p.2
  nxt : ∀ d ∈ D, ∀ p ∈ nxtL ws d (s.f d), p.2.length ≤ 4096 → p.1 ∈ s.K ∧ leW (s.f p.1) p.2
  ord : ∀ d ∈ D, ∀ x ∈ s.K, x ∉ D → leW (s.f d) (s.f x)

noncomputable def ds0 : DS := ⟨[], fun _ => []⟩
theorem Dk.start (ws : List (List UInt8)) : Dk ws [] (ds0.adds (fstL ws)) where
  nd := DS.adds_nodup _ _ List.nodup_nil
  snd := fun x hx => by
    rcases DS.adds_inv _ _ hx with ⟨h, _⟩ | ⟨w, h1, h2, h3⟩
    · cases h
    · rw [h3]
      obtain ⟨p, hp, e⟩ := List.mem_map.1 h1
      injection e with e1 e2
      subst e1 e2; exact ⟨.first _ _ hp, h2⟩
  nk := DS.adds_nk _ _ fun _ _ => rfl
  dk := fun d hd => by cases hd
  dn := List.nodup_nil
  fst := fun p hp hl => DS.adds_hit _ _ hp hl
  nxt := fun d hd => by cases hd
  ord := fun d hd => by cases hd

theorem Dk.step {ws D : List (List UInt8)} {s : DS} (h : Dk ws D s) {r : List UInt8} (hr : r ∈ s.K) (hrD : r ∉ D) (hne : r ≠ []) (hmin : ∀ x ∈ s.K, x ∉ D → leW (s.f r) (s.f x)) :
    Dk ws (D ++ [r]) (s.adds (nxtL ws r (s.f r))) := by
  have hnew : ∀ {x w}, (x, w) ∈ nxtL ws r (s.f r) → Pw ws w x ∧ leW (s.f r) w := by
    intro x w hx; obtain ⟨p, hp, e⟩ := List.mem_map.1 hx
    injection e with e1 e2
    subst e1 e2; exact ⟨.next _ r _ _ (h.snd r hr).1 hne hp, leW.more _ _⟩
  have hmem : ∀ {d}, d ∈ D ++ [r] → d ∈ s.K ∧ d ≠ [] ∧ leW (s.f d) (s.f r) := by
    intro d hd; rcases List.mem_append.1 hd with hd | hd
    · exact ⟨(h.dk d hd).1, (h.dk d hd).2, h.ord d hd r hr hrD⟩
    · rw [List.mem_singleton.1 hd]; exact ⟨hr, hne, leW.refl _⟩
  have hsame : ∀ {d}, d ∈ D ++ [r] → (s.adds (nxtL ws r (s.f r))).f d = s.f d := by
    intro d hd; obtain ⟨h1, _, h3⟩ := hmem hd; obtain ⟨h4, h5⟩ := DS.adds_le (nxtL ws r (s.f r)) s h1; rcases DS.adds_inv _ _ h4 with ⟨_, h6⟩ | ⟨w, h6, _, h7⟩
    · exact h6
    · exact leW.anti h5 (by rw [h7]; exact h3.trans (hnew h6).2)
  refine ⟨DS.adds_nodup _ _ h.nd, ?_, DS.adds_nk _ _ h.nk, ?_, ?_, ?_, ?_, ?_⟩
  · intro x hx
    rcases DS.adds_inv _ _ hx with ⟨h1, h2⟩ | ⟨w, h1, h2, h3⟩
    · rw [h2]; exact h.snd x h1
    · rw [h3]; exact ⟨(hnew h1).1, h2⟩
  · intro d hd
    exact ⟨(DS.adds_le _ _ (hmem hd).1).1, (hmem hd).2.1⟩
  · exact List.nodup_append.2 ⟨h.dn, by simp, fun a ha b hb e => by rw [List.mem_singleton.1 hb] at e; subst e; exact hrD ha⟩
  · intro p hp hl
    obtain ⟨h1, h2⟩ := h.fst p hp hl; obtain ⟨h3, h4⟩ := DS.adds_le (nxtL ws r (s.f r)) s h1; exact ⟨h3, h4.trans h2⟩
  · intro d hd p hp hl
    rw [hsame hd] at hp; rcases List.mem_append.1 hd with hd | hd
    · obtain ⟨h1, h2⟩ := h.nxt d hd p hp hl
      obtain ⟨h3, h4⟩ := DS.adds_le (nxtL ws r (s.f r)) s h1; exact ⟨h3, h4.trans h2⟩
    · rw [List.mem_singleton.1 hd] at hp
      exact DS.adds_hit _ _ hp hl
  · intro d hd x hx hxD
    have hx1 : x ∉ D := fun g => hxD (List.mem_append.2 (.inl g))
    rw [hsame hd]; rcases DS.adds_inv _ _ hx with ⟨h1, h2⟩ | ⟨w, h1, _, h3⟩
    · rw [h2]
      rcases List.mem_append.1 hd with hd | hd
      · exact h.ord d hd x h1 hx1
      · rw [List.mem_singleton.1 hd]; exact hmin x h1 hx1
    · rw [h3]
      exact (hmem hd).2.2.trans (hnew h1).2

theorem Dk.cover {ws D : List (List UInt8)} {s : DS} (h : Dk ws D s) {w r : List UInt8} (hp : Pw ws w r) : w.length ≤ 4096 → (r ∈ D ∧ leW (s.f r) w) ∨ (r ∉ D ∧ ∃ x ∈ s.K, x ∉ D ∧ leW (s.f x) w) := by
  induction hp with
  | first y u hy =>
    intro hl; obtain ⟨h1, h2⟩ := h.fst (u, y) (List.mem_map.2 ⟨(y, u), hy, rfl⟩) hl; by_cases hu : u ∈ D
    · exact .inl ⟨hu, h2⟩
    · exact .inr ⟨hu, u, h1, hu, h2⟩
  | next w r u n hp hne hn ih =>
    intro hl; have hl2 : w.length ≤ 4096 := by rw [List.length_append] at hl; omega
    rcases ih hl2 with ⟨h1, h2⟩ | ⟨h1, x, h2, h3, h4⟩
    · have h5 := h2.app (u.drop (u.length - n))
      obtain ⟨h6, h7⟩ := h.nxt r h1 (u, s.f r ++ u.drop (u.length - n)) (List.mem_map.2 ⟨(u, n), hn, rfl⟩) (Nat.le_trans h5.len hl); by_cases hu : u ∈ D
      · exact .inl ⟨hu, h7.trans h5⟩
      · exact .inr ⟨hu, u, h6, hu, h7.trans h5⟩
    · have h5 : leW (s.f x) (w ++ u.drop (u.length - n)) := h4.trans (leW.more _ _)
      by_cases hu : u ∈ D
      · exact .inl ⟨hu, (h.ord u hu x h2 h3).trans h5⟩
      · exact .inr ⟨hu, x, h2, h3, h5⟩

def MinP (ws : List (List UInt8)) (w : List UInt8) : Prop := Pw ws w [] ∧ w.length ≤ 4096 ∧ ∀ v, Pw ws v [] → v.length ≤ 4096 → leW w v
def NoP (ws : List (List UInt8)) : Prop := ∀ v, Pw ws v [] → ¬ v.length ≤ 4096
theorem Dk.found {ws D : List (List UInt8)} {s : DS} (h : Dk ws D s) (hr : [] ∈ s.K) (hmin : ∀ x ∈ s.K, x ∉ D → leW (s.f []) (s.f x)) : MinP ws (s.f []) := by
  refine ⟨(h.snd _ hr).1, (h.snd _ hr).2, fun v hv hl => ?_⟩; rcases h.cover hv hl with ⟨h1, _⟩ | ⟨_, x, h2, h3, h4⟩
  · exact absurd rfl (h.dk _ h1).2
  · exact (hmin x h2 h3).trans h4
theorem Dk.none {ws D : List (List UInt8)} {s : DS} (h : Dk ws D s) (hall : ∀ x ∈ s.K, x ∈ D) : NoP ws ∧ s.f [] = [] := by
  refine ⟨fun v hv hl => ?_, h.nk _ fun g => absurd rfl (h.dk _ (hall _ g)).2⟩; rcases h.cover hv hl with ⟨h1, _⟩ | ⟨_, x, h2, h3, _⟩
  · exact absurd rfl (h.dk _ h1).2
  · exact h3 (hall x h2)
theorem MinP.uniq {ws : List (List UInt8)} {v w : List UInt8} (h1 : MinP ws v) (h2 : MinP ws w) : v = w := leW.anti (h1.2.2 _ h2.1 h2.2.1) (h2.2.2 _ h1.1 h1.2.1)

theorem Z8e {ws : List (List UInt8)} {y u : List UInt8} (h : (y, u) ∈ Z0w ws) : u ∈ Z0f ws := by
  obtain ⟨x, hx, hy, e, hu⟩ := Z43 h; refine Zgr hy hx (fun g => hu ?_) e; rw [g] at e; exact List.append_right_eq_self.1 e.symm
theorem Pw.reach {ws : List (List UInt8)} {w r : List UInt8} (h : Pw ws w r) : Z1e ws r := by
  induction h with
  | first y u h => exact .first u (Z8e h)
  | next w r u n _ hne h ih => exact .next r u ih hne (by rw [Z59]; exact List.mem_map.2 ⟨_, h, rfl⟩)
theorem Dk.keys {ws D : List (List UInt8)} {s : DS} (h : Dk ws D s) : s.K.length ≤ (sufs ws).length ∧ D.length ≤ s.K.length :=
  ⟨Z0c h.nd fun x hx => Z2h (Zu (h.snd x hx).1.reach), Z0c h.dn fun x hx => (h.dk x hx).1⟩

/-! ### There is a short one -/
inductive PwN (ws : List (List UInt8)) : Nat → List UInt8 → List UInt8 → Prop
  | first (y u : List UInt8) (h : (y, u) ∈ Z0w ws) : PwN ws 0 y u
  | next (k : Nat) (w r u : List UInt8) (n : Nat) (hp : PwN ws k w r) (hne : r ≠ []) (h : (u, n) ∈ Zo ws r) : PwN ws (k + 1) (w ++ u.drop (u.length - n)) u
theorem PwN.pw {ws : List (List UInt8)} {k : Nat} {w r : List UInt8} (h : PwN ws k w r) : Pw ws w r := by
  induction h with
  | first y u h => exact .first y u h
  | next k w r u n _ hne h ih => exact .next w r u n ih hne h
theorem PwN.len {ws : List (List UInt8)} {m : Nat} (hm : ∀ x ∈ ws, x.length ≤ m) {k : Nat} {w r : List UInt8} (h : PwN ws k w r) : w.length ≤ (k + 1) * m := by
  induction h with
  | first y u h =>
    obtain ⟨_, _, hy, _⟩ := Z43 h; have := hm y hy; omega
  | next k w r u n hp _ h ih =>
    have hs := (Pw.next w r u n hp.pw ‹_› h).reach; obtain ⟨x, hx, hsx⟩ := Zu hs; have h1 := hsx.length_le; have h2 := hm x hx; rw [List.length_append, List.length_drop, Nat.succ_mul (k + 1)]; omega
theorem Zcw {ws : List (List UInt8)} (hd : ∀ i j, i < ws.length → j < ws.length → ws.getD i [] = ws.getD j [] → i = j) {r : List UInt8} (h : Z1e ws r) : ∃ k w, PwN ws k w r := by
  induction h with
  | first u h =>
    have h1 := (Z3k hd ((Z0w ws).map (·.2))).1 (fun p hp => List.mem_map.2 ⟨p, hp, rfl⟩) u h; obtain ⟨p, hp, rfl⟩ := List.mem_map.1 h1; exact ⟨0, p.1, .first _ _ hp⟩
  | next r u _ hne h ih =>
    obtain ⟨k, w, hw⟩ := ih; rw [Z59] at h; obtain ⟨p, hp, rfl⟩ := List.mem_map.1 h; exact ⟨k + 1, _, .next k w r _ _ hw hne hp⟩
theorem Z8b {ws : List (List UInt8)} : ∀ (k : Nat) {w r : List UInt8}, PwN ws k w r → (∀ j v, PwN ws j v r → k ≤ j) → ∃ L : List (List UInt8), L.length = k + 1 ∧ L.Nodup ∧ ∀ x ∈ L, ∃ j v, j ≤ k ∧ PwN ws j v x
  | 0, w, r, h, _ => ⟨[r], rfl, by simp, fun x hx => ⟨0, w, Nat.le_refl _, by rw [List.mem_singleton.1 hx]; exact h⟩⟩
  | k + 1, _, r, h, hm => by
    cases h with
    | next _ w r' u n hp hne hn =>
      have hm' : ∀ j v, PwN ws j v r' → k ≤ j := fun j v hj => by
        have := hm _ _ (PwN.next j v r' r n hj hne hn); omega
      obtain ⟨L, h1, h2, h3⟩ := Z8b k hp hm'; refine ⟨r :: L, by simp [h1], List.nodup_cons.2 ⟨fun hr => ?_, h2⟩, fun x hx => ?_⟩
      · obtain ⟨j, v, hj, hv⟩ := h3 r hr
        have := hm j v hv; omega
      · rcases List.mem_cons.1 hx with rfl | hx
        · exact ⟨k + 1, _, Nat.le_refl _, .next k w r' _ n hp hne hn⟩
        · obtain ⟨j, v, hj, hv⟩ := h3 x hx
          exact ⟨j, v, by omega, hv⟩
theorem Z9i {ws : List (List UInt8)} (hd : ∀ i j, i < ws.length → j < ws.length → ws.getD i [] = ws.getD j [] → i = j) {m : Nat} (hm : ∀ x ∈ ws, x.length ≤ m) (hb : (ws.length * (m + 1)) * m ≤ 4096) {r : List UInt8} (h : Z1e ws r) : ∃ w, Pw ws w r ∧ w.length ≤ 4096 := by
  obtain ⟨k0, w0, h0⟩ := Zcw hd h; have hex : ∃ k, ∃ w, PwN ws k w r := ⟨k0, w0, h0⟩; clear h0 w0 k0; have key : ∀ k0, (∃ w, PwN ws k0 w r) → ∃ k, (∃ w, PwN ws k w r) ∧ ∀ j v, PwN ws j v r → k ≤ j := by
    intro k0
    induction k0 using Nat.strongRecOn with
    | _ k0 ih =>
      intro h; by_cases hj : ∃ j, j < k0 ∧ ∃ w, PwN ws j w r
      · obtain ⟨j, hj, hw⟩ := hj
        exact ih j hj hw
      · exact ⟨k0, h, fun j v hv => Nat.le_of_not_lt fun g => hj ⟨j, g, v, hv⟩⟩
  obtain ⟨k0, hk0⟩ := hex; obtain ⟨k, ⟨w, hw⟩, hmin⟩ := key k0 hk0; obtain ⟨L, h1, h2, h3⟩ := Z8b k hw hmin; have h4 : L.length ≤ (sufs ws).length := Z0c h2 fun x hx => by
    obtain ⟨j, v, _, hv⟩ := h3 x hx; exact Z2h (Zu hv.pw.reach)
  have h5 := Z28 hm; refine ⟨w, hw.pw, ?_⟩; have h6 := hw.len hm; have h7 : (k + 1) * m ≤ (ws.length * (m + 1)) * m := Nat.mul_le_mul_right _ (by omega); omega

theorem Zga {α : Type} {l : List α} (hd : l.Nodup) {i j : Nat} (hi : i < l.length) (hj : j < l.length) (h : l[i] = l[j]) : i = j := by
  rcases Nat.lt_trichotomy i j with g | g | g
  · exact absurd h (List.pairwise_iff_getElem.1 hd i j hi hj g)
  · exact g
  · exact absurd h.symm (List.pairwise_iff_getElem.1 hd j i hj hi g)
/-! Maps whose values follow from the keys. -/
def entF (f : List UInt8 → PV) (k : List UInt8) : List UInt8 × PV := (k, f k)
theorem Zdt (f : List UInt8 → PV) (k : List UInt8) : ∀ ks : List (List UInt8), (k ∉ ks → midx k (ks.map (entF f)) = none) ∧ (k ∈ ks → ∃ j, midx k (ks.map (entF f)) = some j ∧ ∃ h : j < ks.length, ks[j] = k)
  | [] => ⟨fun _ => rfl, fun h => by cases h⟩
  | a :: ks => by
    obtain ⟨h1, h2⟩ := Zdt f k ks
    constructor
    · intro h
      simp only [List.mem_cons, not_or] at h; rw [List.map_cons]; unfold midx; rw [if_neg (show ¬ k = (entF f a).1 from h.1)]; rw [h1 h.2]; rfl
    · intro h
      by_cases e : k = a
      · exact ⟨0, by simp [midx, entF, e], by simp, e.symm⟩
      · simp only [List.mem_cons, e, false_or] at h
        obtain ⟨j, h3, h4, h5⟩ := h2 h; refine ⟨j + 1, ?_, by simpa using h4, by simpa using h5⟩; rw [List.map_cons]; unfold midx; rw [if_neg (show ¬ k = (entF f a).1 from e)]; rw [h3]; rfl
theorem mgetF (f : List UInt8 → PV) (k : List UInt8) (ks : List (List UInt8)) : mget k (ks.map (entF f)) = if k ∈ ks then some (f k) else none := by
  unfold mget; by_cases h : k ∈ ks
  · obtain ⟨j, h1, h2, h3⟩ := (Zdt f k ks).2 h
    rw [h1, if_pos h]; simp only [Option.map_some, List.getD_eq_getElem?_getD, List.getElem?_map, List.getElem?_eq_getElem h2, Option.map_some, Option.getD_some, entF, h3]
  · rw [(Zdt f k ks).1 h, if_neg h]; rfl
theorem Zdr {f : List UInt8 → PV} {k : List UInt8} {ks : List (List UInt8)} {v : PV} (h : k ∉ ks) (hv : v = f k) : mset k v (ks.map (entF f)) = (ks ++ [k]).map (entF f) := by
  unfold mset; rw [(Zdt f k ks).1 h, hv]; simp [entF]
theorem Zdq {f g : List UInt8 → PV} {k : List UInt8} {ks : List (List UInt8)} (hd : ks.Nodup) (h : k ∈ ks) (hg : ∀ x ∈ ks, x ≠ k → g x = f x) : mset k (g k) (ks.map (entF f)) = ks.map (entF g) := by
  unfold mset; obtain ⟨j, h1, h2, h3⟩ := (Zdt f k ks).2 h; rw [h1]
  apply List.ext_getElem (by simp)
  intro i hi hi2; simp only [List.length_map] at hi2; simp only [List.getElem_set, List.getElem_map]; by_cases e : j = i
  · subst e; rw [if_pos rfl, h3]; rfl
  · rw [if_neg e]
    unfold entF; rw [hg _ (List.getElem_mem hi2) (fun e2 => e (Zga hd h2 hi2 (h3.trans e2.symm)))]

theorem o47 (a b : List UInt8) : PFn Try.prog 47 [.str a, .str b] [.int .i64 (cmpW a b)] := by
  refine PFn.of_body hΓ Try.func47 (by kernel_rfl) rfl (Wd [] ?_); simp +contextual -implicitDefEqProofs only [Try.ntmps47, Try.results47, Nat.reduceAdd, Nat.reduceSub, go_sem]; refine Z4 (t103 a.length b.length) (.pures rfl) ?_; simp +contextual -implicitDefEqProofs only [go_sem]; refine Z4 (t104 a b) (.pures rfl) ?_; simp +contextual -implicitDefEqProofs only [go_sem]; refine ⟨⟨by simp [Zb, PV.cells], by omega⟩, Z4 (t102 [cmpI a.length b.length, cmpB a b] (by simp)) (.still rfl) ?_⟩; simp +contextual -implicitDefEqProofs only [go_sem]
  congr 2
  unfold Z21 cmpI cmpW; by_cases h1 : a.length < b.length
  · simp [h1]
  · by_cases h2 : b.length < a.length
    · simp [h1, h2]
    · simp [h1, h2]
      by_cases h3 : cmpB a b = 0 <;> simp [h3]

def Z1s (s : DS) : List (List UInt8 × PV) := s.K.map (entF fun k => .str (s.f k))
theorem Z4a (s : DS) (r : List UInt8) : mget r (Z1s s) = if r ∈ s.K then some (.str (s.f r)) else none := mgetF _ _ _
theorem Z92 {s : DS} {r w : List UInt8} (hd : s.K.Nodup) (hc : w.length ≤ 4096 ∧ (r ∉ s.K ∨ ltW w (s.f r))) : mset r (.str w) (Z1s s) = Z1s (s.add r w) := by
  unfold DS.add; rw [if_pos hc]; unfold Z1s addK; by_cases h : r ∈ s.K
  · rw [if_pos h]
    have := Zdq (f := fun k => .str (s.f k)) (g := fun k => .str (if k = r then w else s.f k)) hd h (fun x _ hx => by simp [hx])
    simpa using this
  · rw [if_neg h]
    have e : s.K.map (entF fun k => .str (s.f k)) = s.K.map (entF fun k => .str (if k = r then w else s.f k)) := by
      refine List.map_congr_left fun x hx => ?_
      have : x ≠ r := fun e => h (e ▸ hx)
      simp only [entF, if_neg this]
    rw [e]; exact Zdr h (by simp)

def Zr (q : Int) (ws : List (List UInt8)) (s : DS) (D : List (List UInt8)) (T : List AObj) : List AObj :=
  Z0 q ws :: .mp (Z1s s) :: .box [.map 1] :: .mp (setM D) :: .box [.fn 51 [.ptr 2 0]] :: Z0 q ws :: T
theorem Z0z (q : Int) (ws : List (List UInt8)) (s : DS) (D : List (List UInt8)) (T : List AObj) : (Zr q ws s D T).length = T.length + 6 := by simp [Zr]
theorem Z70 (q : Int) (ws : List (List UInt8)) (s : DS) (D : List (List UInt8)) (T : List AObj) (o : AObj) : Zr q ws s D T ++ [o] = Zr q ws s D (T ++ [o]) := by simp [Zr]

theorem c51 (q : Int) (ws : List (List UInt8)) (s : DS) (D : List (List UInt8)) (T : List AObj) (r w : List UInt8) (hd : s.K.Nodup) :
    AC Try.prog 51 [.p (.str r), .p (.str w), .ptr 2 0] (Zr q ws s D T) [] (fun v h' => v = .tup [] ∧ h' = Zr q ws (s.add r w) D T) := by
  refine AC.of_bodyE hΓ Try.func51 (by kernel_rfl) rfl (AWp.mono (Q := fun e st => AM.Ends e ∧ st.h = Zr q ws (s.add r w) D T) ?_ ?_)
  rotate_left
  · rintro e st ⟨he, h2⟩
    refine ⟨he, st, Less.refl st, ?_⟩; have h3 : (Zr q ws s D T).length = st.h.length := by rw [h2]; simp [Zr]
    refine ⟨st.h.length, by omega, .inl rfl, ?_⟩; rw [List.take_length]; exact ⟨rfl, h2⟩
  have hg := Z4a s r; refine Wd [] ?_; unfold Zr; have keep : ¬ (w.length ≤ 4096 ∧ (r ∉ s.K ∨ ltW w (s.f r))) → s.add r w = s := fun h => if_neg h
  by_cases hl : w.length ≤ 4096
  rotate_left
  · have hl' : ¬ (w.length : Int) ≤ 4096 := by omega
    rw [keep fun h => hl h.1]; by_cases hr : r ∈ s.K
    · rw [if_pos hr] at hg
      simp -implicitDefEqProofs only [Try.ntmps51, Nat.reduceAdd, Nat.reduceSub, Z0, hg, Option.getD_none, Option.isSome_none, Option.getD_some, Option.isSome_some, hl', go_sem]
    · rw [if_neg hr] at hg
      simp -implicitDefEqProofs only [Try.ntmps51, Nat.reduceAdd, Nat.reduceSub, Z0, hg, Option.getD_none, Option.isSome_none, Option.getD_some, Option.isSome_some, hl', go_sem]
  have hl' : (w.length : Int) ≤ 4096 := by omega
  by_cases hr : r ∈ s.K
  rotate_left
  · rw [if_neg hr] at hg
    have hs := Z92 hd (r := r) (w := w) ⟨hl, .inl hr⟩; simp -implicitDefEqProofs only [Try.ntmps51, Nat.reduceAdd, Nat.reduceSub, Z0, hg, Option.getD_none, Option.isSome_none, Option.getD_some, Option.isSome_some, hl', hs, go_sem]
  rw [if_pos hr] at hg; simp -implicitDefEqProofs only [Try.ntmps51, Nat.reduceAdd, Nat.reduceSub, Z0, hg, Option.getD_none, Option.isSome_none, Option.getD_some, Option.isSome_some, hl', go_sem]; refine Z4 (o47 w (s.f r)) (.pures rfl) ?_; by_cases hlt : ltW w (s.f r)
  · have hc := (Z4m _ _).2 hlt
    have hs := Z92 hd (r := r) (w := w) ⟨hl, .inr hlt⟩; simp -implicitDefEqProofs only [hc, hs, go_sem]
  · have hc : ¬ cmpW w (s.f r) < 0 := fun h => hlt ((Z4m _ _).1 h)
    rw [keep fun h => h.2.elim (fun g => g hr) hlt]; simp -implicitDefEqProofs only [hc, go_sem]

theorem Zpp {E : Env} (hP : E.P = Try.prog) (hn : E.n0 = 0) {tm : List AV} {Q : Exit → St → Prop} {f : Operand} {ps : List Nat} {assign body : Code} (q : Int) (ws : List (List UInt8)) (hws : ws.length ≤ 64)
    (hf : ev tm f = .fn 58 [.ptr 5 0])
    (hround : ∀ s y r, s.K.Nodup → YC Try.prog 6 [.p (.str y), .p (.str r)] (Zr q ws s [] [.lp tm ps assign body .ready]) []
      (fun v h'' => v = .p (.bool true) ∧ h'' = Zr q ws (s.add r y) [] [.lp tm ps assign body .ready]))
    (h1 : Q .normal ⟨tm, Zr q ws (ds0.adds (fstL ws)) [] [.dead]⟩) : AWp E none (.rangeFunc f ps.toArray assign body) Q ⟨tm, Zr q ws ds0 [] []⟩ := by
  have hac : AC Try.prog 58 [.yld 6, .ptr 5 0] (Zr q ws ds0 [] [.lp tm ps assign body .ready]) []
      (fun _ h' => h' = Zr q ws (ds0.adds (fstL ws)) [] [.lp tm ps assign body .ready] ∨ False) := by
    refine c86 (b := 6) (c := 5) (ks := []) (by simp) (by simp) q ws (by omega) (J := fun done h' => h' = Zr q ws (ds0.adds (done.map fun p => (p.2, p.1))) [] [.lp tm ps assign body .ready]) (D := fun _ => False) rfl ?_ ?_ ?_
    · rintro done h' rfl
      exact ⟨rfl, by rw [Z0z, Z0z]; exact Nat.le_refl _⟩
    · intro h' h; exact h.elim
    · rintro done y r h' _ rfl
      have hy := hround (ds0.adds (done.map fun p => (p.2, p.1))) y r (DS.adds_nodup _ _ List.nodup_nil); intro X I μ ob w cargs R hl2 ha hk; obtain ⟨l', fn, tmps, a', b', e1, e2, e3⟩ := hy X I μ ob w cargs R hl2 ha hk; refine ⟨l', fn, tmps, a', b', e1, e2, ?_⟩; refine e3.mono ?_; rintro e w' ⟨cv, v, h', I', μ', ob', g1, g2, g3, g4, g5, g6, g7, g8, g9, k1, k3⟩; exact ⟨cv, v, h', I', μ', ob', g1, g2, g3, g4, g5, g6, g7, g8, g9, .inl ⟨k1, by rw [List.map_append, List.map_singleton, DS.adds_snoc]; exact k3⟩⟩
  obtain ⟨P, Γ', n0, ks⟩ := E; simp only at hP hn; subst hP hn; refine AWp.rangeFunc (h := Zr q ws ds0 [] []) (ks := []) hf (by rw [Z70]; exact hac) (fun k _ => .inl (Nat.zero_le k)) (by rw [Z0z]; simp) ?_; rintro v h' (rfl | h)
  · unfold Z50
    exact h1
  · exact h.elim

theorem Zgf {ws : List (List UInt8)} {r u : List UInt8} {n : Nat} (h : (u, n) ∈ Zo ws r) : n ≤ u.length := by
  unfold Zo at h; obtain ⟨x, _, h⟩ := List.mem_flatMap.1 h; unfold Z1k at h
  split at h
  · rw [List.mem_singleton] at h
    injection h with _ h2
    omega
  · split at h
    · rw [List.mem_singleton] at h
      injection h with h1 h2
      rw [h1, h2]; exact Nat.le_refl _
    · cases h

theorem Zpo {E : Env} (hP : E.P = Try.prog) (hn : E.n0 = 0) {tm : List AV} {Q : Exit → St → Prop} {f : Operand} {ps : List Nat} {assign body : Code} (q : Int) (ws : List (List UInt8)) (hws : ws.length ≤ 64) (x w : List UInt8) (s0 : DS) (hs0 : s0.K.Nodup) (D : List (List UInt8)) (T : List AObj) {c d : Nat}
    (hf : ev tm f = .fn 60 [.ptr (c + 6) 0, .ptr (d + 6) 0]) (hc : T[c]? = some (Z0 q ws)) (hd : T[d]? = some (.box [.p (.str x)]))
    (hround : ∀ (s : DS) u n, s.K.Nodup → (u, n) ∈ Zo ws x → YC Try.prog (T.length + 6) [.p (.str u), .p (.int .i64 (n : Nat))] (Zr q ws s D (T ++ [.lp tm ps assign body .ready])) []
      (fun v h'' => v = .p (.bool true) ∧ h'' = Zr q ws (s.add u (w ++ u.drop (u.length - n))) D (T ++ [.lp tm ps assign body .ready])))
    (h1 : Q .normal ⟨tm, Zr q ws (s0.adds (nxtL ws x w)) D (T ++ [.dead])⟩) : AWp E none (.rangeFunc f ps.toArray assign body) Q ⟨tm, Zr q ws s0 D T⟩ := by
  have look : ∀ s o k v, T[k]? = some v → (Zr q ws s D (T ++ [o]))[k + 6]? = some v := fun s o k v hk => by
    show (T ++ [o])[k]? = some v; rw [List.getElem?_append_left (List.getElem?_eq_some_iff.1 hk).1]; exact hk
  have hac : AC Try.prog 60 [.yld (T.length + 6), .ptr (c + 6) 0, .ptr (d + 6) 0] (Zr q ws s0 D (T ++ [.lp tm ps assign body .ready])) []
      (fun _ h' => h' = Zr q ws (s0.adds (nxtL ws x w)) D (T ++ [.lp tm ps assign body .ready]) ∨ False) := by
    refine c87 (h := Zr q ws s0 D (T ++ [.lp tm ps assign body .ready])) (b := T.length + 6) (c := c + 6) (d := d + 6) (ks := []) (by simp) (by simp) (by simp) q ws x (by omega)
      (J := fun done h' => h' = Zr q ws (s0.adds (done.map fun p => (p.1, w ++ p.1.drop (p.1.length - p.2)))) D (T ++ [.lp tm ps assign body .ready])) (D := fun _ => False) rfl ?_ ?_ ?_
    · rintro done h' rfl
      exact ⟨look _ _ _ _ hc, look _ _ _ _ hd, by rw [Z0z, Z0z]; exact Nat.le_refl _⟩
    · intro h' h; exact h.elim
    · rintro done u n h' ⟨l, hl⟩ rfl
      have hu : (u, n) ∈ Zo ws x := by rw [← hl]; simp
      have hy := hround (s0.adds (done.map fun p => (p.1, w ++ p.1.drop (p.1.length - p.2)))) u n (DS.adds_nodup _ _ hs0) hu; intro X I μ ob w' cargs R hl2 ha hk; obtain ⟨l', fn, tmps, a', b', e1, e2, e3⟩ := hy X I μ ob w' cargs R hl2 ha hk; refine ⟨l', fn, tmps, a', b', e1, e2, ?_⟩; refine e3.mono ?_; rintro e w' ⟨cv, v, h', I', μ', ob', g1, g2, g3, g4, g5, g6, g7, g8, g9, k1, k3⟩; exact ⟨cv, v, h', I', μ', ob', g1, g2, g3, g4, g5, g6, g7, g8, g9, .inl ⟨k1, by rw [List.map_append, List.map_singleton, DS.adds_snoc]; exact k3⟩⟩
  obtain ⟨P, Γ', n0, ks⟩ := E; simp only at hP hn; subst hP hn; refine AWp.rangeFunc (h := Zr q ws s0 D T) (ks := []) hf (by rw [Z70, Z0z]; exact hac) (fun k _ => .inl (Nat.zero_le k)) (by rw [Z0z]; simp) ?_; rintro v h' (rfl | h)
  · unfold Z50
    rw [Z0z]; have e1 : (Zr q ws (s0.adds (nxtL ws x w)) D (T ++ [.lp tm ps assign body .ready]))[T.length + 6]? = some (.lp tm ps assign body .ready) := by
      show (T ++ [_])[T.length]? = _; simp
    rw [show Z8 [] tm = tm from rfl, e1]; have e2 : (Zr q ws (s0.adds (nxtL ws x w)) D (T ++ [.lp tm ps assign body .ready])).set (T.length + 6) .dead = Zr q ws (s0.adds (nxtL ws x w)) D (T ++ [.dead]) := by
      simp [Zr]
    simp only [e2]; exact h1
  · exact h.elim

def OP (ws : List (List UInt8)) (o : Option (List UInt8)) : Prop := match o with
  | some w => MinP ws w
  | none => NoP ws
theorem OP.hit {ws : List (List UInt8)} {o : Option (List UInt8)} (h : OP ws o) {w : List UInt8} (hw : MinP ws w) : o = some w := by
  cases o with
  | none => exact absurd hw.2.1 (h w hw.1)
  | some v => rw [MinP.uniq (show MinP ws v from h) hw]
theorem OP.miss {ws : List (List UInt8)} {o : Option (List UInt8)} (h : OP ws o) (hn : NoP ws) : o = none := by
  cases o with
  | none => rfl
  | some v => exact absurd (show MinP ws v from h).2.1 (hn v (show MinP ws v from h).1)

structure Inn (s : DS) (D : List (List UInt8)) (seen : List Nat) (nx : List UInt8) (fd : Bool) : Prop where
  yes : fd = true → nx ∈ s.K ∧ nx ∉ D ∧ ∀ i ∈ seen, s.K.getD i [] ∉ D → leW (s.f nx) (s.f (s.K.getD i []))
  no : fd = false → nx = [] ∧ ∀ i ∈ seen, s.K.getD i [] ∈ D
theorem Zh4 (s : DS) {i : Nat} (h : i < (Z1s s).length) : (Z1s s).getD i default = (s.K.getD i [], .str (s.f (s.K.getD i []))) ∧ s.K.getD i [] ∈ s.K := by
  have hi : i < s.K.length := by simpa [Z1s] using h
  have e : s.K.getD i [] = s.K[i] := by rw [List.getD_eq_getElem?_getD, List.getElem?_eq_getElem hi, Option.getD_some]
  rw [e]; exact ⟨by unfold Z1s; rw [List.getD_eq_getElem?_getD, List.getElem?_map, List.getElem?_eq_getElem hi]; rfl, List.getElem_mem hi⟩

theorem r30 (q : Int) (ws : List (List UInt8)) (hv : Valid q ws) {o : Option (List UInt8)} (ho : OP ws o) : PFn Try.prog 30 [Z9 q ws] [.str (o.getD []), .bool o.isSome] := by
  · skip
    refine PFn.of_body hΓ Try.func30 (by kernel_rfl) rfl (Wd [] ?_); simp +contextual -implicitDefEqProofs only [Z9, Try.ntmps30, Try.results30, Nat.reduceAdd, Nat.reduceSub, go_sem]; refine Zn (c52 q ws) (by simp) ?_; rintro v h' ⟨rfl, rfl⟩; simp -implicitDefEqProofs only [Z8, List.foldl, Z0, List.cons_append, List.nil_append, go_sem]; refine Zpp rfl rfl q ws hv.len rfl ?_ ?_
    · intro s y r hd
      refine YC.of_body (Γ := Γ) rfl rfl (by simp) ?_; intro rr; refine Wd [] ?_; unfold Zr; simp +contextual -implicitDefEqProofs only [setP, List.cons_append, List.nil_append, go_sem]; unfold Z7c; refine ⟨rfl, ?_⟩; simp +contextual -implicitDefEqProofs only [List.length_cons, List.length_nil, List.cons_append, List.nil_append, Z0, go_sem]; refine Wd [] ?_; simp -implicitDefEqProofs only [go_sem]; refine Zn (c51 q ws s [] _ r y hd) (by simp) ?_; rintro v h' ⟨rfl, rfl⟩; unfold Zr; simp -implicitDefEqProofs only [Z8, List.foldl, Z0, go_sem]; exact ⟨7, by simp, .inl rfl, rfl, rfl⟩
    · unfold Zr
      simp -implicitDefEqProofs only [Z0, go_sem]
      refine AWp.loopI (fun p : List (List UInt8) × DS × Nat => ⟨mkF 82 [(1, .ptr 0 0), (4, .ptr 2 0), (5, .map 3), (6, .ptr 4 0)], Zr q ws p.2.1 p.1 (List.replicate p.2.2 .dead)⟩)
        (fun p => Dk ws p.1 p.2.1) (fun p => (sufs ws).length + 1 - p.1.length) ([], ds0.adds (fstL ws), 1) (by simp [go_sem, Zr, Z0]) (Dk.start ws) ?_
      rintro ⟨D, s, m⟩ hI; simp only at hI; generalize hTT : List.replicate m AObj.dead = T; refine Wd [] ?_; unfold Zr; simp -implicitDefEqProofs only [Z0, go_sem]; refine ⟨⟨_, _, rfl, rfl⟩, ?_⟩
      refine AWp.loopI (fun p : List Nat × List UInt8 × Bool => ⟨mkF 82 [(1, .ptr 0 0), (4, .ptr 2 0), (5, .map 3), (6, .ptr 4 0), (9, .p (.str p.2.1)), (10, .p (.bool p.2.2)), (28, .ptr (T.length + 6) 0)], Zr q ws s D (T ++ [.it 1 (Z1s s).length p.1 (Z1s s).length])⟩)
        (fun p => p.1.Nodup ∧ (∀ i ∈ p.1, i < (Z1s s).length) ∧ Inn s D p.1 p.2.1 p.2.2) (fun p => (Z1s s).length - p.1.length) ([], [], false) (by simp [go_sem, Zr, Z0, Zf]) ⟨List.nodup_nil, by simp, ⟨by simp, by simp⟩⟩ ?_
      rintro ⟨seen, nx, fd⟩ ⟨hnd, hlt, hin⟩; simp only at hnd hlt hin; refine Wd [] ?_; unfold Zr; have fl : ∀ x : AObj, (T ++ [x])[T.length]? = some x := fun x => by simp
      have ft : ∀ x y : AObj, (T ++ [x]).set T.length y = T ++ [y] := fun x y => by simp
      simp -implicitDefEqProofs only [nxtK, Z2, ↓reduceIte, Z0, fl, ft, go_sem]; refine ⟨fun hall => ?_, fun i hi hni => ?_⟩
      · have hseen : ∀ x ∈ s.K, ∃ i ∈ seen, s.K.getD i [] = x := fun x hx => by
          obtain ⟨i, hi, rfl⟩ := List.getElem_of_mem hx; have hi2 : i < (Z1s s).length := by simpa [Z1s] using hi
          exact ⟨i, hall i hi2 hi2, by rw [List.getD_eq_getElem?_getD, List.getElem?_eq_getElem hi, Option.getD_some]⟩
        cases fd
        · obtain ⟨rfl, hno⟩ := hin.no rfl
          have hN := hI.none fun x hx => by
            obtain ⟨i, hi, rfl⟩ := hseen x hx; exact hno i hi
          have ho := ho.miss hN.1; subst ho; have hk : [] ∉ s.K := fun h => by
            obtain ⟨i, hi, e⟩ := hseen [] h; exact (hI.dk [] (e ▸ hno i hi)).2 rfl
          have hg := Z4a s []; rw [if_neg hk] at hg; simp -implicitDefEqProofs only [hg, Option.getD_none, Option.isSome_none, Z0, go_sem]
        obtain ⟨h1, h2, h3⟩ := hin.yes rfl; have hmin : ∀ x ∈ s.K, x ∉ D → leW (s.f nx) (s.f x) := fun x hx hxD => by
          obtain ⟨i, hi, rfl⟩ := hseen x hx; exact h3 i hi hxD
        have hg := Z4a s nx; rw [if_pos h1] at hg; by_cases hne : nx = []
        · subst hne
          have ho := ho.hit (hI.found h1 hmin); subst ho; simp -implicitDefEqProofs only [hg, Option.getD_some, Option.isSome_some, Z0, go_sem]
        have fl2 : ∀ x y : AObj, (T ++ [x, y])[T.length + 1]? = some y := fun x y => by
          rw [List.getElem?_append_right (by omega)]; simp
        have ft2 : ∀ x y z : AObj, (T ++ [x, y]).set (T.length + 1) z = T ++ [x, z] := fun x y z => by
          rw [List.set_append_right _ _ (by omega)]; simp
        simp -implicitDefEqProofs only [hg, hne, Option.getD_some, Option.isSome_some, Z0, Z86, List.length_append, List.length_cons, List.length_nil, List.cons_append, List.nil_append, List.append_assoc, fl2, ft2, go_sem]; refine Zn (c53 q ws nx) (by simp) ?_; rintro v h' ⟨rfl, rfl⟩; simp -implicitDefEqProofs only [Z8, List.foldl, Z0, List.cons_append, List.nil_append, List.append_assoc, go_sem]; rw [show (#[69, 70] : Array Nat) = [69, 70].toArray from rfl]; generalize hT2 : T ++ [AObj.it 1 (Z1s s).length seen (Z1s s).length, .box [.p (.str (s.f nx))], .box [.p (.int .i64 q), .p (.sl (ws.map .str))], .box [.p (.str nx)]] = T2; have hS := hI.step h1 h2 hne hmin; have gl : ∀ s D x, (Zr q ws s D (T2 ++ [x]))[T2.length + 6]? = some x := fun s D x => by
          show (T2 ++ [x])[T2.length]? = _; simp
        have gs : ∀ s D x y, (Zr q ws s D (T2 ++ [x])).set (T2.length + 6) y = Zr q ws s D (T2 ++ [y]) := fun s D x y => by simp [Zr]
        have f4 : ∀ s D T, (Zr q ws s D T)[4]? = some (.box [.fn 51 [.ptr 2 0]]) := fun _ _ _ => rfl
        have f13 : ∀ s2 D x, (Zr q ws s2 D (T2 ++ [x]))[T.length + 1 + 6]? = some (.box [.p (.str (s.f nx))]) := fun s2 D x => by
          show (T2 ++ [x])[T.length + 1]? = _; rw [← hT2, List.append_assoc, List.getElem?_append_right (by omega)]; simp
        refine AWp.weak (st' := ⟨mkF 82 [(1, .ptr 0 0), (4, .ptr 2 0), (5, .map 3), (6, .ptr 4 0), (13, .ptr (T.length + 1 + 6) 0), (68, .fn 60 [.ptr (T.length + 2 + 6) 0, .ptr (T.length + 3 + 6) 0])], Zr q ws s (D ++ [nx]) T2⟩) ?_ ?_
        · rw [← hT2]; simp [go_sem, Zr, Z0, Zf]
        refine Zpo (c := T.length + 2) (d := T.length + 3) rfl rfl q ws hv.len nx (s.f nx) s hI.nd (D ++ [nx]) T2 rfl (by rw [← hT2]; simp [Z0]) (by rw [← hT2]; simp) ?_ ?_
        · intro s2 u n hd2 hun
          refine YC.of_body (Γ := Γ) (gl _ _ _) rfl (by simp) ?_; intro rr; refine Wd [] ?_; simp -implicitDefEqProofs only [setP, go_sem]; unfold Z7c; refine ⟨rfl, ?_⟩; simp only [gl, gs]; refine Wd [(21, 10)] ?_; have en : ((u.length : Int) - n).toNat = u.length - n := by omega
          simp -implicitDefEqProofs only [f4, f13, en, go_sem]; have hul : u.length ≤ 32 := by
            obtain ⟨x, hx, hs⟩ := Zu (Pw.next _ nx u n (hI.snd nx h1).1 hne hun).reach; obtain ⟨j, hj, rfl⟩ := List.getElem_of_mem hx; have h32 := hv.short j hj; rw [List.getD_eq_getElem?_getD, List.getElem?_eq_getElem hj, Option.getD_some] at h32; exact Nat.le_trans hs.length_le h32
          have hnu := Zgf hun; have hfl := (hI.snd nx h1).2; refine ⟨by simp only [InR]; omega, ⟨by omega, by omega⟩, by rw [List.length_drop]; omega, ?_⟩; refine Zn (c51 q ws s2 (D ++ [nx]) _ u _ hd2) (by simp) ?_; rintro v h' ⟨rfl, rfl⟩; simp -implicitDefEqProofs only [Z8, List.foldl, go_sem]; unfold Z6i; simp only [gl, gs]; exact ⟨_, by simp [Z0z], .inl rfl, trivial, List.take_length⟩
        · unfold Zr
          simp -implicitDefEqProofs only [Z0, go_sem]; refine ⟨(D ++ [nx], s.adds (nxtL ws nx (s.f nx)), m + 5), ⟨by simp, ?_⟩, hS, ?_⟩
          · have e3 : List.replicate (m + 5) AObj.dead = List.replicate (T2 ++ [AObj.dead]).length AObj.dead := by rw [← hT2, ← hTT]; simp
            simp only [e3]; exact ⟨trivial, Z4c _⟩
          · have := hS.keys
            have : D.length < (sufs ws).length + 1 := by
              rw [List.length_append, List.length_singleton] at this; omega
            simp only [List.length_append, List.length_singleton]; omega
      · obtain ⟨he, hk⟩ := Zh4 s hi
        have hlen : (seen ++ [i]).length ≤ (Z1s s).length := by
          have hsub : seen ++ [i] ⊆ List.range (Z1s s).length := fun j hj => by
            rcases List.mem_append.1 hj with hj | hj
            · exact List.mem_range.2 (hlt j hj)
            · simp only [List.mem_singleton] at hj; subst hj; exact List.mem_range.2 hi
          have hnd2 : (seen ++ [i]).Nodup := List.nodup_append.2 ⟨hnd, by simp, fun a ha b hb e => by simp only [List.mem_singleton] at hb; subst hb; subst e; exact hni ha⟩; have := Z40 hnd2 hsub
          simpa using this
        have hnd2 : (seen ++ [i]).Nodup := List.nodup_append.2 ⟨hnd, by simp, fun a ha b hb e => by simp only [List.mem_singleton] at hb; subst hb; subst e; exact hni ha⟩; have hlt2 : ∀ j ∈ seen ++ [i], j < (Z1s s).length := fun j hj => by
          rcases List.mem_append.1 hj with hj | hj
          · exact hlt j hj
          · simp only [List.mem_singleton] at hj; subst hj; exact hi
        have hms : (Z1s s).length - (seen ++ [i]).length < (Z1s s).length - seen.length := by
          rw [List.length_append, List.length_singleton] at hlen ⊢; omega
        generalize hkey : s.K.getD i [] = key at he hk; have hDk := Zak D key; by_cases hD : key ∈ D
        · simp -implicitDefEqProofs only [entK, fl, ft, hi, he, hDk, hD, ↓reduceIte, Z0, List.getLast?_concat, go_sem]
          refine ⟨(seen ++ [i], nx, fd), ⟨⟨rfl, rfl⟩, Zf _⟩, ⟨hnd2, hlt2, ⟨fun h => ?_, fun h => ?_⟩⟩, hms⟩
          · obtain ⟨a1, a2, a3⟩ := hin.yes h
            refine ⟨a1, a2, fun j hj hjD => ?_⟩; rcases List.mem_append.1 hj with hj | hj
            · exact a3 j hj hjD
            · rw [List.mem_singleton.1 hj, hkey] at hjD
              exact absurd hD hjD
          · obtain ⟨a1, a2⟩ := hin.no h
            refine ⟨a1, fun j hj => ?_⟩; rcases List.mem_append.1 hj with hj | hj
            · exact a2 j hj
            · rw [List.mem_singleton.1 hj, hkey]; exact hD
        cases fd
        · simp -implicitDefEqProofs only [entK, fl, ft, hi, he, hDk, hD, ↓reduceIte, Z0, List.getLast?_concat, go_sem]
          refine ⟨(seen ++ [i], key, true), ⟨⟨rfl, rfl⟩, Zf _⟩, ⟨hnd2, hlt2, ⟨fun _ => ⟨hk, hD, fun j hj hjD => ?_⟩, fun h => by cases h⟩⟩, hms⟩; rcases List.mem_append.1 hj with hj | hj
          · exact absurd ((hin.no rfl).2 j hj) hjD
          · rw [List.mem_singleton.1 hj, hkey]; exact leW.refl _
        have hn := (hin.yes rfl).1; have hg := Z4a s nx; rw [if_pos hn] at hg; simp -implicitDefEqProofs only [entK, fl, ft, hi, he, hDk, hD, hg, Option.getD_some, ↓reduceIte, Z0, List.getLast?_concat, go_sem]; refine Z4 (o47 (s.f key) (s.f nx)) (.pures rfl) ?_; by_cases hc : ltW (s.f key) (s.f nx)
        · have hc' := (Z4m _ _).2 hc
          simp -implicitDefEqProofs only [hc', go_sem]; refine ⟨(seen ++ [i], key, true), ⟨⟨rfl, rfl⟩, Zf _⟩, ⟨hnd2, hlt2, ⟨fun _ => ⟨hk, hD, fun j hj hjD => ?_⟩, fun h => by cases h⟩⟩, hms⟩; rcases List.mem_append.1 hj with hj | hj
          · exact (leW.of_lt hc).trans ((hin.yes rfl).2.2 j hj hjD)
          · rw [List.mem_singleton.1 hj, hkey]; exact leW.refl _
        · have hc' : ¬ cmpW (s.f key) (s.f nx) < 0 := fun h => hc ((Z4m _ _).1 h)
          simp -implicitDefEqProofs only [hc', go_sem]; refine ⟨(seen ++ [i], nx, true), ⟨⟨rfl, rfl⟩, Zf _⟩, ⟨hnd2, hlt2, ⟨fun _ => ⟨hn, (hin.yes rfl).2.1, fun j hj hjD => ?_⟩, fun h => by cases h⟩⟩, hms⟩; rcases List.mem_append.1 hj with hj | hj
          · exact (hin.yes rfl).2.2 j hj hjD
          · rw [List.mem_singleton.1 hj, hkey]; exact hc

theorem c49 {h : List AObj} {g : FuncId} {caps : List AV} {pr : List UInt8 → Bool} (ws : List (List UInt8)) (hl : ws.length ≤ 9223372036854775807)
    (hg : ∀ w ∈ ws, AC Try.prog g (.p (.str w) :: caps) h [] (fun v h' => v = .p (.bool (pr w)) ∧ h' = h)) :
    AC Try.prog 71 [.p (.sl (ws.map .str)), .fn g caps] h [] (fun v h' => (∃ i : Int, v = .p (.int .i64 i) ∧ decide (0 ≤ i) = ws.any pr) ∧ h' = h) := by
  refine AC.of_bodyE hΓ Try.func71 (by kernel_rfl) rfl (AWp.mono (Q := fun e st => AM.Ends e ∧ (∃ i : Int, st.tmps.getD 4 .junk = .p (.int .i64 i) ∧ decide (0 ≤ i) = ws.any pr) ∧ st.h = h) ?_ ?_)
  rotate_left
  · rintro e ⟨tm, h'⟩ ⟨he, ⟨i, h1, h3⟩, h2⟩
    simp only at h1 h2; subst h2; refine ⟨he, _, Less.refl _, ?_⟩; unfold Z32; simp +contextual -implicitDefEqProofs only [Try.results71, h1, go_sem]; exact ⟨_, Nat.le_refl _, .inl rfl, ⟨i, rfl, h3⟩, List.take_length⟩
  refine Wd [] ?_; simp +contextual -implicitDefEqProofs only [Try.ntmps71, Nat.reduceAdd, Nat.reduceSub, go_sem]
  refine AWp.loopI (fun k : Nat => ⟨mkF 19 [(0, .p (.sl (ws.map .str))), (1, .fn g caps), (7, .p (.int .i64 ws.length)), (8, .p (.int .i64 k))], h⟩)
    (fun k => k ≤ ws.length ∧ (ws.take k).any pr = false) (fun k => ws.length - k) 0 (by simp [go_sem, Zf]) (by simp) ?_
  rintro k ⟨hk, h0⟩; refine Wd [] ?_; simp +contextual -implicitDefEqProofs only [Z2, ↓reduceIte, go_sem]; refine ⟨fun hlt => ?_, fun hge => ⟨-1, rfl, by rw [List.take_of_length_le (by omega)] at h0; rw [h0]; rfl⟩⟩; refine Zn (hg ws[k] (List.getElem_mem hlt)) (by simp) ?_; rintro v h' ⟨rfl, rfl⟩
  cases hp : pr ws[k]
  · simp -implicitDefEqProofs only [Z8, List.foldl, go_sem]
    refine ⟨by simp only [InR]; omega, k + 1, by simp [Zf], ⟨hlt, ?_⟩, by omega⟩; rw [List.take_succ_eq_append_getElem hlt, List.any_append, h0]; simp [hp]
  · simp -implicitDefEqProofs only [Z8, List.foldl, go_sem]
    refine ⟨k, rfl, ?_⟩; rw [List.any_eq_true.2 ⟨_, List.getElem_mem hlt, hp⟩]; simp

theorem c17 {h : List AObj} {g : FuncId} {caps : List AV} {pr : List UInt8 → Bool} (ws : List (List UInt8)) (hl : ws.length ≤ 9223372036854775807)
    (hg : ∀ w ∈ ws, AC Try.prog g (.p (.str w) :: caps) h [] (fun v h' => v = .p (.bool (pr w)) ∧ h' = h)) :
    AC Try.prog 53 [.p (.sl (ws.map .str)), .fn g caps] h [] (fun v h' => v = .p (.bool (ws.any pr)) ∧ h' = h) := by
  refine AC.of_bodyE hΓ Try.func53 (by kernel_rfl) rfl (AWp.mono (Q := fun e st => AM.Ends e ∧ st.tmps.getD 4 .junk = .p (.bool (ws.any pr)) ∧ st.h = h) ?_ ?_)
  rotate_left
  · rintro e ⟨tm, h'⟩ ⟨he, h1, h2⟩
    simp only at h1 h2; subst h2; refine ⟨he, _, Less.refl _, ?_⟩; unfold Z32; simp +contextual -implicitDefEqProofs only [Try.results53, h1, go_sem]; exact ⟨_, Nat.le_refl _, .inl rfl, List.take_length⟩
  refine Wd [] ?_; simp +contextual -implicitDefEqProofs only [Try.ntmps53, Nat.reduceAdd, Nat.reduceSub, go_sem]; refine Zn (c49 ws hl hg) (by simp) ?_; rintro v h' ⟨⟨i, rfl, hi⟩, rfl⟩; simp -implicitDefEqProofs only [Z8, List.foldl, go_sem]; exact hi

def Z47 (ws : List (List UInt8)) : Bool := ws.any Z1h || ((decide (6 < ws.length) && decide (ws.length ≤ 64)) || decide (67 < ws.length))


def ixL (x : List UInt8) : List (List UInt8) → Nat → Int
  | [], _ => -1
  | a :: l, k => if a = x then k else ixL x l (k + 1)
theorem Zhv (x : List UInt8) : ∀ (l : List (List UInt8)) (n k : Nat) (hk : k < l.length), (∀ j (hj : j < k), l[j] ≠ x) → l[k] = x → ixL x l n = ((n + k : Nat) : Int)
  | [], n, k, hk, _, _ => absurd hk (Nat.not_lt_zero k)
  | a :: l, n, 0, _, _, h => by
    have : a = x := h; subst this; unfold ixL; simp
  | a :: l, n, k + 1, hk, h0, h => by
    have h1 : a ≠ x := h0 0 (by omega); unfold ixL; rw [if_neg h1]; refine (Zhv x l (n + 1) k (by simpa using hk) (fun j hj => h0 (j + 1) (by omega)) h).trans ?_
    congr 1; omega
theorem Zb1 (x : List UInt8) : ∀ (l : List (List UInt8)) (n : Nat), x ∉ l → ixL x l n = -1
  | [], _, _ => rfl
  | a :: l, n, h => by
    simp only [List.mem_cons, not_or] at h; unfold ixL; rw [if_neg (fun e => h.1 e.symm)]; exact Zb1 x l (n + 1) h.2
theorem Ze1 (x : List UInt8) : ∀ (l : List (List UInt8)) (n : Nat), decide (0 ≤ ixL x l n) = decide (x ∈ l)
  | [], _ => by simp [ixL]
  | a :: l, n => by
    unfold ixL; by_cases h : a = x
    · rw [if_pos h, decide_eq_true (by omega), decide_eq_true (by simp [h])]
    · rw [if_neg h, Ze1 x l (n + 1)]
      exact decide_eq_decide.2 ⟨fun h' => by simp [h'], fun h' => (List.mem_cons.1 h').resolve_left (fun e => h e.symm)⟩

theorem t48 (ws : List (List UInt8)) (x : List UInt8) (hl : ws.length ≤ 9223372036854775807) : PFn Try.prog 70 [.sl (ws.map .str), .str x] [.int .i64 (ixL x ws 0)] := by
  refine PFn.of_body hΓ Try.func70 (by kernel_rfl) rfl (Wd [] ?_); simp +contextual -implicitDefEqProofs only [Try.ntmps70, Try.results70, Nat.reduceAdd, Nat.reduceSub, go_sem]
  refine AWp.loopI (fun k : Nat => ⟨mkF 19 [(0, .p (.sl (ws.map .str))), (1, .p (.str x)), (7, .p (.int .i64 ws.length)), (8, .p (.int .i64 k))], []⟩)
    (fun k => k ≤ ws.length ∧ ∀ j (hj : j < ws.length), j < k → ws[j] ≠ x) (fun k => ws.length - k) 0 (by simp [go_sem]) (by simp) ?_
  rintro k ⟨hk, h0⟩; refine Wd [] ?_; simp +contextual -implicitDefEqProofs only [Z2, ↓reduceIte, go_sem]; refine ⟨fun hlt => ⟨fun he => ?_, fun hne => ⟨by simp only [InR]; omega, k + 1, by simp, ⟨hlt, fun j hj hjk => ?_⟩, by omega⟩⟩, fun hge => ?_⟩
  · rw [← he, Zhv x ws 0 k hlt (fun j hj => h0 j (by omega) hj) he.symm]; simp
  · by_cases hjk' : j < k
    · exact h0 j hj hjk'
    · have : j = k := by omega
      subst this; exact fun e => hne e.symm
  · refine (Zb1 x ws 0 (fun hm => ?_)).symm
    obtain ⟨j, hj, e⟩ := List.getElem_of_mem hm; exact h0 j hj (by omega) e

theorem t16 (ws : List (List UInt8)) (x : List UInt8) (hl : ws.length ≤ 9223372036854775807) : PFn Try.prog 50 [.sl (ws.map .str), .str x] [.bool (decide (x ∈ ws))] := by
  refine PFn.of_body hΓ Try.func50 (by kernel_rfl) rfl (Wd [] ?_); simp +contextual -implicitDefEqProofs only [Try.ntmps50, Try.results50, Nat.reduceAdd, Nat.reduceSub, go_sem]; refine Z4 (t48 ws x hl) (.pures rfl) ?_; simp -implicitDefEqProofs only [go_sem]; exact Ze1 x ws 0

theorem Z34 {q : Int} {ws : List (List UInt8)} (hv : Valid q ws) : (residL ws).length ≤ 2112 := by
  have h1 : residL ws ⊆ sufs ws := fun x hx => Z2h (Zu (Z09.1 hx))
  have h2 := Z0c ((Z0v ws).imp (fun h e => by subst e; exact Zv _ h)) h1; have h3 := Z28 (ws := ws) (n := 32) (fun w hw => by
    obtain ⟨j, hj, rfl⟩ := List.getElem_of_mem hw; have := hv.short j hj
    rwa [List.getD_eq_getElem?_getD, List.getElem?_eq_getElem hj, Option.getD_some] at this)
  have h4 : ws.length * (32 + 1) ≤ 64 * 33 := Nat.mul_le_mul_right _ hv.len; omega

theorem t47 (q : Int) (ws : List (List UInt8)) (hv : Valid q ws) : PFn Try.prog 29 [Z9 q ws] [.bool (!decide ([] ∈ residL ws))] := by
  have hr := Z34 hv; refine PFn.of_body hΓ Try.func29 (by kernel_rfl) rfl (Wd [] ?_); simp +contextual -implicitDefEqProofs only [Z9, Try.ntmps29, Try.results29, Nat.reduceAdd, Nat.reduceSub, go_sem]; refine Z4 (PFn.of_row (r46 q ws hv)) (.still rfl) ?_; simp -implicitDefEqProofs only [go_sem]; refine Z4 (t16 (residL ws) [] (by omega)) (.pures rfl) ?_; simp -implicitDefEqProofs only [go_sem]

theorem t15 (q : Int) (ws : List (List UInt8)) : PFn Try.prog 10 [Z9 q ws] [.bool (if Z7 q ws = 0 then !decide ([] ∈ residL ws) else false), .int .i64 (if Z7 q ws = 0 then 0 else 1)] := by
  refine PFn.of_body hΓ Try.func10 (by kernel_rfl) rfl (Wd [] ?_); simp +contextual -implicitDefEqProofs only [Z9, Try.ntmps10, Try.results10, Nat.reduceAdd, Nat.reduceSub, go_sem]; refine Z4 (t45 q ws) (.still rfl) ?_; by_cases h : Z7 q ws = 0
  · rw [h]
    simp -implicitDefEqProofs only [go_sem]; refine Z4 (t47 q ws (valid_of h)) (.still rfl) ?_; simp -implicitDefEqProofs only [go_sem]
  · simp -implicitDefEqProofs only [h, go_sem]

theorem t14 (q : Int) (ws : List (List UInt8)) : PFn Try.prog 8 [Z9 q ws] [.sl (if Z7 q ws = 0 then (residL ws).map .str else []), .int .i64 (if Z7 q ws = 0 then 0 else 1)] := by
  refine PFn.of_body hΓ Try.func8 (by kernel_rfl) rfl (Wd [] ?_); simp +contextual -implicitDefEqProofs only [Z9, Try.ntmps8, Try.results8, Nat.reduceAdd, Nat.reduceSub, go_sem]; refine Z4 (t45 q ws) (.still rfl) ?_; by_cases h : Z7 q ws = 0
  · rw [h]
    simp -implicitDefEqProofs only [go_sem]; refine Z4 (PFn.of_row (r46 q ws (valid_of h))) (.still rfl) ?_; simp -implicitDefEqProofs only [go_sem]
  · simp -implicitDefEqProofs only [h, go_sem]

end Go.Proofs.Ytpljmccnfmkmfaa
end

