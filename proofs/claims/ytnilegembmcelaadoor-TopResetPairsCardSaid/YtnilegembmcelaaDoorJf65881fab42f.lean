/-
  Texts of this claim, joined.
-/
import Derived.Shelf.SlSortCmp.NoneTotal
import Derived.Shelf.SlGeneric
import Derived.Ground.SlsfProg
import Derived.Test.YtnilegembmcelaaDoorProg
import Derived.Test.YtnilegembmcelaaDoorJd818405e9344
import Derived.Test.YtnilegembmcelaaDoorJ11d6ef8752a5
import Derived.Test.YtnilegembmcelaaDoorJ7b524ed00288

set_option linter.unusedSimpArgs false
set_option maxRecDepth 100000
section
namespace Go.Proofs
open Go.Shelf
def Tryd.sortS_ren : Go.Shelf.Ren := ⟨fun | 6 => 45 | 15 => 36 | 14 => 71 | 28 => 62 | 29 => 63 | 20 => 84 | 21 => 85 | 22 => 86 | 23 => 87 | 24 => 88 | 25 => 89 | 26 => 90 | 27 => 91 | 46 => 94 | 47 => 77 | 48 => 78 | 49 => 95 | 50 => 96 | 57 => 97 | n => n, fun | 22 => 22 | 24 => 9 | 25 => 79 | 3 => 3 | 39 => 73 | 0 => 0 | 53 => 97 | 55 => 99 | 4 => 4 | 46 => 90 | 45 => 89 | 50 => 82 | 5 => 5 | 9 => 9 | 66 => 104 | 70 => 108 | 76 => 117 | 77 => 118 | n => n, fun | n => n⟩
theorem Tryd.sortS : Go.Proofs.SlLaysF.n6 Tryd.prog Tryd.sortS_ren := {
  mixed := by kernel_rfl
  f6 := ⟨Tryd.f45.name, by decide, Tryd.func45.trans (congrArg some (by kernel_rfl))⟩
  f14 := ⟨Tryd.f71.name, by decide, Tryd.func71.trans (congrArg some (by kernel_rfl))⟩
  f15 := Tryd.func36.trans (congrArg some (by kernel_rfl))
  f20 := ⟨Tryd.f84.name, by decide, Tryd.func84.trans (congrArg some (by kernel_rfl))⟩
  f21 := ⟨Tryd.f85.name, by decide, Tryd.func85.trans (congrArg some (by kernel_rfl))⟩
  f22 := ⟨Tryd.f86.name, by decide, Tryd.func86.trans (congrArg some (by kernel_rfl))⟩
  f23 := ⟨Tryd.f87.name, by decide, Tryd.func87.trans (congrArg some (by kernel_rfl))⟩
  f24 := ⟨Tryd.f88.name, by decide, Tryd.func88.trans (congrArg some (by kernel_rfl))⟩
  f25 := ⟨Tryd.f89.name, by decide, Tryd.func89.trans (congrArg some (by kernel_rfl))⟩
  f26 := ⟨Tryd.f90.name, by decide, Tryd.func90.trans (congrArg some (by kernel_rfl))⟩
  f27 := ⟨Tryd.f91.name, by decide, Tryd.func91.trans (congrArg some (by kernel_rfl))⟩
  f28 := Tryd.func62.trans (congrArg some (by kernel_rfl))
  f29 := Tryd.func63.trans (congrArg some (by kernel_rfl))
  f46 := ⟨Tryd.f94.name, by decide, Tryd.func94.trans (congrArg some (by kernel_rfl))⟩
  f47 := Tryd.func77.trans (congrArg some (by kernel_rfl))
  f48 := Tryd.func78.trans (congrArg some (by kernel_rfl))
  f49 := ⟨Tryd.f95.name, by decide, Tryd.func95.trans (congrArg some (by kernel_rfl))⟩
  f50 := ⟨Tryd.f96.name, by decide, Tryd.func96.trans (congrArg some (by kernel_rfl))⟩
  f57 := ⟨Tryd.f97.name, by decide, Tryd.func97.trans (congrArg some (by kernel_rfl))⟩
  t0 := Tryd.underlying0
  a0 := Tryd.isAgg0
  z0 := Tryd.sizeOf0
  v0 := Tryd.zeroValue0
  t3 := Tryd.underlying3
  a3 := Tryd.isAgg3
  z3 := Tryd.sizeOf3
  v3 := Tryd.zeroValue3
  t4 := Tryd.underlying4
  a4 := Tryd.isAgg4
  z4 := Tryd.sizeOf4
  v4 := Tryd.zeroValue4
  t5 := Tryd.underlying5
  a5 := Tryd.isAgg5
  z5 := Tryd.sizeOf5
  v5 := Tryd.zeroValue5
  t9 := Tryd.underlying9
  a9 := Tryd.isAgg9
  z9 := Tryd.sizeOf9
  v9 := Tryd.zeroValue9
  t22 := Tryd.underlying22
  a22 := Tryd.isAgg22
  z22 := Tryd.sizeOf22
  v22 := Tryd.zeroValue22
  a24 := Tryd.isAgg9
  z24 := Tryd.sizeOf9
  t25 := Tryd.underlying79
  a25 := Tryd.isAgg79
  z25 := Tryd.sizeOf79
  v25 := Tryd.zeroValue79
  t39 := Tryd.underlying73
  a39 := Tryd.isAgg73
  z39 := Tryd.sizeOf73
  v39 := Tryd.zeroValue73
  t45 := Tryd.underlying89
  a45 := Tryd.isAgg89
  z45 := Tryd.sizeOf89
  v45 := Tryd.zeroValue89
  t46 := Tryd.underlying90
  a46 := Tryd.isAgg90
  z46 := Tryd.sizeOf90
  v46 := Tryd.zeroValue90
  t50 := Tryd.underlying82
  a50 := Tryd.isAgg82
  z50 := Tryd.sizeOf82
  v50 := Tryd.zeroValue82
  t53 := Tryd.underlying97
  a53 := Tryd.isAgg97
  z53 := Tryd.sizeOf97
  v53 := Tryd.zeroValue97
  t55 := Tryd.underlying99
  a55 := Tryd.isAgg99
  z55 := Tryd.sizeOf99
  v55 := Tryd.zeroValue99
  t66 := Tryd.underlying104
  a66 := Tryd.isAgg104
  z66 := Tryd.sizeOf104
  v66 := Tryd.zeroValue104
  t70 := Tryd.underlying108
  a70 := Tryd.isAgg108
  z70 := Tryd.sizeOf108
  v70 := Tryd.zeroValue108
  t76 := Tryd.underlying117
  a76 := Tryd.isAgg117
  z76 := Tryd.sizeOf117
  v76 := Tryd.zeroValue117
  t77 := Tryd.underlying118
  a77 := Tryd.isAgg118
  z77 := Tryd.sizeOf118
  v77 := Tryd.zeroValue118 }
end Go.Proofs
end

section
namespace Go.Proofs.YtnilegembmcelaaDoor
open Go Go.AM

/-! ### The order of words -/
def ltW (a b : List UInt8) : Prop := a.length < b.length ∨ (a.length = b.length ∧ bLt a b = true)
theorem Z3t (x y : UInt8) (a b : List UInt8) : bLt (x :: a) (y :: b) = true ↔ x.toNat < y.toNat ∨ (x.toNat = y.toNat ∧ bLt a b = true) := by
  have e : bLt (x :: a) (y :: b) = (match Nat.blt x.toNat y.toNat with | true => true | false => (match Nat.beq x.toNat y.toNat with | true => bLt a b | false => false)) := rfl; rw [e]
  cases h1 : Nat.blt x.toNat y.toNat
  · have h2 : ¬ x.toNat < y.toNat := fun h => by rw [(Nat.blt_eq (x := x.toNat)).symm.mp h] at h1; cases h1
    cases h3 : Nat.beq x.toNat y.toNat
    · have : ¬ x.toNat = y.toNat := fun h => by rw [h] at h3; simp at h3
      simp [h2, this]
    · have := Nat.eq_of_beq_eq_true h3
      simp [h2, this]
  · have := (Nat.blt_eq (x := x.toNat)).mp h1
    simp [this]
theorem Z6q : ∀ {a b c : List UInt8}, bLt a b = true → bLt b c = true → bLt a c = true
  | a, [], c, h, _ => by cases a <;> cases h
  | [], _ :: _, [], _, h => by cases h
  | [], _ :: _, _ :: _, _, _ => rfl
  | x :: a, y :: b, [], _, h => by cases h
  | x :: a, y :: b, z :: c, h1, h2 => by
    rw [Z3t] at h1 h2 ⊢; rcases h1 with h1 | ⟨h1, h3⟩
    · rcases h2 with h2 | ⟨h2, _⟩
      · exact .inl (by omega)
      · exact .inl (by omega)
    · rcases h2 with h2 | ⟨h2, h4⟩
      · exact .inl (by omega)
      · exact .inr ⟨by omega, Z6q h3 h4⟩
theorem Z51 : ∀ a : List UInt8, bLt a a = false
  | [] => rfl
  | x :: a => by
    rw [Bool.eq_false_iff]; intro h; rw [Z3t] at h; rcases h with h | ⟨_, h⟩
    · omega
    · rw [Z51 a] at h; cases h
theorem Z9w (a b : List UInt8) : cmpW a b < 0 ↔ ltW a b := by
  unfold cmpW ltW; by_cases h1 : a.length < b.length
  · rw [if_pos h1]; simp [h1]
  · by_cases h2 : b.length < a.length
    · rw [if_neg h1, if_pos h2]; simp [h1]; omega
    · rw [if_neg h1, if_neg h2]
      have h3 : a.length = b.length := by omega
      unfold cmpB
      cases bLt a b
      · cases bEq a b <;> simp [h1]
      · simp [h3]
theorem Z0j {a b c : List UInt8} (h1 : ltW a b) (h2 : ltW b c) : ltW a c := by
  rcases h1 with h1 | ⟨h1, h3⟩ <;> rcases h2 with h2 | ⟨h2, h4⟩
  · exact .inl (by omega)
  · exact .inl (by omega)
  · exact .inl (by omega)
  · exact .inr ⟨by omega, Z6q h3 h4⟩
theorem Z00 (a : List UInt8) : ¬ ltW a a := by
  rintro (h | ⟨_, h⟩)
  · omega
  · rw [Z51] at h; cases h

theorem Z6i {l : List Int} (h : Z16 l = 0) : ∀ x ∈ l, x = 0 := by
  intro x hx; unfold Z16 at h
  cases hf : l.find? (fun x => decide (x ≠ 0)) with
  | none => simpa using List.find?_eq_none.1 hf x hx
  | some y =>
    have h1 := List.find?_some hf; rw [hf] at h; simp only [decide_eq_true_eq] at h1; exact absurd h h1

structure Valid (q : Int) (ws : List (List UInt8)) : Prop where
  q2 : 2 ≤ q
  q16 : q ≤ 16
  pos : 0 < ws.length
  len : ws.length ≤ 64
  ne : ∀ i, i < ws.length → ws.getD i [] ≠ []
  short : ∀ i, i < ws.length → (ws.getD i []).length ≤ 32
  word : ∀ i, i < ws.length → Ze q (ws.getD i []) = 0
  lt : ∀ i j, i < j → j < ws.length → ltW (ws.getD i []) (ws.getD j [])

theorem Z3k {q : Int} {ws : List (List UInt8)} (h : Z4 q ws = 0) : Valid q ws := by
  unfold Z4 at h
  split at h
  · omega
  rename_i h1
  split at h
  · omega
  rename_i h2
  split at h
  · omega
  rename_i h3
  have h4 : ∀ i, i < ws.length → Zs q ws i = 0 := fun i hi => Z6i h _ (List.mem_map.2 ⟨i, List.mem_range.2 hi, rfl⟩)
  have h5 : ∀ i, i < ws.length → ws.getD i [] ≠ [] ∧ ¬ 32 < (ws.getD i []).length ∧ Ze q (ws.getD i []) = 0 ∧ ¬ (0 < i ∧ 0 ≤ cmpW (ws.getD (i - 1) []) (ws.getD i [])) := fun i hi => by
    have := h4 i hi; unfold Zs at this; simp only at this
    split at this
    · omega
    rename_i g1
    split at this
    · omega
    rename_i g2
    split at this
    · omega
    rename_i g3
    split at this
    · omega
    rename_i g4
    exact ⟨g1, g2, by omega, g4⟩
  have step : ∀ i, i + 1 < ws.length → ltW (ws.getD i []) (ws.getD (i + 1) []) := fun i hi => by
    have := (h5 (i + 1) hi).2.2.2; rw [← Z9w]; simp only [Nat.add_sub_cancel] at this; omega
  refine ⟨by omega, by omega, by omega, by omega, fun i hi => (h5 i hi).1, fun i hi => by have := (h5 i hi).2.1; omega, fun i hi => (h5 i hi).2.2.1, ?_⟩; intro i j hij hj; obtain ⟨d, rfl⟩ : ∃ d, j = i + 1 + d := ⟨j - i - 1, by omega⟩; clear hij
  induction d with
  | zero => exact step i hj
  | succ d ih => exact Z0j (ih (by omega)) (step (i + 1 + d) hj)


theorem Zel (a b : List UInt8) : cmpK a b = cmpW a b := by
  unfold cmpK cmpW; by_cases h1 : a.length < b.length
  · rw [if_pos h1, if_pos (show (a.length : Int) < b.length by omega)]; rfl
  · by_cases h2 : b.length < a.length
    · rw [if_neg h1, if_pos h2, if_neg (show ¬ (a.length : Int) < b.length by omega), if_pos (show (b.length : Int) < a.length by omega)]; rfl
    · rw [if_neg h1, if_neg h2, if_neg (show ¬ (a.length : Int) < b.length by omega), if_neg (show ¬ (b.length : Int) < a.length by omega), if_pos rfl, Z5g]

theorem Z6r : ∀ {a b : List UInt8}, bLt a b = false → bLt b a = false → a = b
  | [], [], _, _ => rfl
  | [], _ :: _, h, _ => by cases h
  | _ :: _, [], _, h => by cases h
  | x :: a, y :: b, h1, h2 => by
    have n1 := mt (Z3t x y a b).2 (by rw [h1]; simp); have n2 := mt (Z3t y x b a).2 (by rw [h2]; simp); simp only [not_or, not_and, Bool.not_eq_true] at n1 n2; have e : x.toNat = y.toNat := by omega
    rw [UInt8.toNat_inj.1 e, Z6r (n1.2 e) (n2.2 e.symm)]
theorem Z0r {a b : List UInt8} (h1 : ¬ ltW a b) (h2 : ¬ ltW b a) : a = b := by
  unfold ltW at h1 h2; simp only [not_or, not_and, Bool.not_eq_true] at h1 h2; have e : a.length = b.length := by omega
  exact Z6r (h1.2 e) (h2.2 e.symm)

theorem Z3m (a b : List UInt8) : ltOf cmpK a b = true ↔ ltW a b := by
  unfold ltOf; rw [decide_eq_true_eq, Zel]; exact Z9w a b
theorem Z0e (a b : List UInt8) : ltOf cmpK a b = false ↔ ¬ ltW a b := by
  rw [← Z3m]; simp

theorem swoW : Sort.SWO (ltOf cmpK) where
  irrefl x := (Z0e x x).2 (Z00 x)
  trans x y z h1 h2 := (Z3m x z).2 (Z0j ((Z3m x y).1 h1) ((Z3m y z).1 h2))
  ntrans x y z h1 h2 := by
    rw [Z0e] at *; intro h; by_cases hyz : ltW z y
    · exact h1 (Z0j h hyz)
    · have := Z0r h2 hyz
      subst this; exact h1 h

def encW (x : List UInt8) : Value := .string ⟨x.toArray⟩
def Z02 (l : List (List UInt8)) : List (List UInt8) := l.mergeSort fun x y => !(ltOf cmpK) y x

end Go.Proofs.YtnilegembmcelaaDoor
end

section
namespace Go.Proofs.YtnilegembmcelaaDoor
open Go Go.AM Go.RowKit

theorem Z6g (l : List (List UInt8)) : Zk (l.map .str) = l.map .str := by
  induction l with
  | nil => rfl
  | cons x l ih =>
    have e : Zk ((x :: l).map PV.str) = PV.str x :: Zk (l.map .str) := rfl; rw [e, ih]; rfl
theorem Zf (l : List (List UInt8)) : (Z02 l).length = l.length := by unfold Z02; simp
theorem Zef {I : Nat → Prop} {w : World} {x : List UInt8} {v : Value} (h : PR I w (.str x) v) : v = encW x := by
  cases h with | str s => rfl
theorem Zdj {I : Nat → Prop} {w : World} (x : List UInt8) : PR I w (.str x) (encW x) := .mkStr (by simp)

def Zex (g : FuncId) : Prop := ∀ (d : List (List UInt8)) (blk off cap : Nat) (w : World), Sort.Holds encW w blk off d.toArray → blk < w.heap.size → d.length < 4611686018427387904 →
    Calls Tryd.prog 45 #[.slice (some ⟨blk, off, none⟩) d.length cap, .func (.func g) #[] #[]] w fun e w' => e = .returned (.tuple #[]) ∧ ∃ n os, w' = sortWorld encW w blk off n (Z02 d).toArray os

theorem Zja {g : FuncId} (hs : Zex g) {h : List AObj} {b : Nat} (l : List (List UInt8)) (hb : h[b]? = some (.row 9 1 (l.map .str) .own)) (hsz : l.length ≤ 1000000) :
    AC Tryd.prog 45 [.own b l.length, .fn g []] h [] (fun v h' => v = .tup [] ∧ h' = h.set b (.row 9 1 ((Z02 l).map .str) .own)) := by
  refine ⟨Z06 Tryd.func45 (by kernel_rfl) rfl, fun X I μ ob w cargs R hlen hargs _ => ?_⟩; obtain ⟨a0, f0, rfl⟩ : ∃ a f, cargs = [a, f] := by
    match cargs, hlen with
    | [a, f], _ => exact ⟨a, f, rfl⟩
  have g0 := hargs 0 (by simp); have g1 := hargs 1 (by simp); simp only [List.getD_cons_zero, List.getD_cons_succ] at g0 g1; obtain ⟨a, c, rfl, hbn, hbm⟩ := g0.own_inv; obtain ⟨cs, rfl, hcl, _⟩ := g1.fn_inv; have hcs : cs = [] := by simpa using hcl.symm
  subst hcs; obtain ⟨hall, hrow⟩ := R.objs _ _ hb; rcases hrow with ⟨g, hg, off, cap, cur, fr, vs, e1, e2, e3, e4, e5, e6, e7, e8, e9, e10⟩ | ⟨hk, _⟩
  rotate_left
  · cases hk
  rw [hbm] at e1; simp only [List.length_map] at e1 e5 e7 e8 e9 e10
  injection e1 with e1a _ e1c
  subst e1a e1c; have hfr := e3 rfl; subst hfr; have hgl := (R.own b g hg).2.2; have cell : ∀ j (hj : j < l.length), cur[off + j]? = some (encW l[j]) := fun j hj => by
    have h1 := e10 j (by omega); rw [Z6g, Z3 _ _ _ _ hj] at h1; have h2 := Zef h1; have h3 : cur.toList[off + j]? = some (vs.getD j undef) := by
      have : vs[j]? = some (vs.getD j undef) := by rw [List.getD_eq_getElem?_getD, List.getElem?_eq_getElem (by omega)]; rfl
      rw [← e8, List.getElem?_take_of_lt (by omega), List.getElem?_drop] at this; exact this.trans (by rw [e8])
    rw [Array.getElem?_toList, h2] at h3; exact h3
  have hH : Sort.Holds encW w g off l.toArray := fun j hj => by
    have hj' : j < l.length := by simpa using hj
    refine ⟨?_, ?_⟩
    · unfold World.cell?
      simp only [e2]; rw [cell j hj', getElem!_pos l.toArray j hj]; simp
    · unfold World.frozen?
      simp only [e2]; simp
  have hc := hs l g off c w hH hgl (by omega); refine Calls.mono (P := Tryd.prog) hc ?_; rintro e w' ⟨rfl, n, os, rfl⟩; have hsl : (Z02 l).toArray.size = l.length := by simp [Zf]
  -- the world that is left
  have hnew : (sortWorld encW w g off n (Z02 l).toArray os).heap[g]? = some (.cells (Sort.putCells encW off (Z02 l).toArray cur) 9 (0, 0)) := by
    unfold sortWorld; rw [Sort.heap_grow_old _ _ (by simp [Sort.ahead]; exact hgl)]; show (w.heap.modify g _)[g]? = _; rw [Array.getElem?_modify, if_pos rfl, e2]; rfl
  have hold : ∀ k, k < w.heap.size → k ≠ g → (sortWorld encW w g off n (Z02 l).toArray os).heap[k]? = w.heap[k]? := fun k hk hne => by
    unfold sortWorld; rw [Sort.heap_grow_old _ _ (by simp [Sort.ahead]; exact hk)]; show (w.heap.modify g _)[k]? = _; rw [Array.getElem?_modify, if_neg (fun e => hne e.symm)]
  have hgrow : w.grownBy (sortWorld encW w g off n (Z02 l).toArray os) (some g) := ⟨rfl, rfl, rfl, by simp [sortWorld, Sort.ahead], fun k hk hk2 => hold k hk (fun e => hk2 (by rw [e]))⟩; have hput : ∀ j, j < l.length → (Sort.putCells encW off (Z02 l).toArray cur)[off + j]? = some (encW ((Z02 l).getD j [])) := fun j hj => by
    unfold Sort.putCells; rw [Array.getElem?_mapIdx, cell j hj]; simp only [Option.map_some]; rw [if_pos ⟨Nat.le_add_right _ _, by rw [hsl]; omega⟩, Nat.add_sub_cancel_left, getElem!_pos (Z02 l).toArray j (by rw [hsl]; exact hj), List.getD_eq_getElem?_getD, List.getElem?_eq_getElem (by rw [Zf]; exact hj)]; simp
  have hps : (Sort.putCells encW off (Z02 l).toArray cur).size = cur.size := by unfold Sort.putCells; rw [Array.size_mapIdx]
  have hpl : (((Sort.putCells encW off (Z02 l).toArray cur).toList.drop off).take l.length).length = l.length := by
    have h1 : (Sort.putCells encW off (Z02 l).toArray cur).toList.length = cur.size := by simpa using hps
    rw [List.length_take, List.length_drop, h1]; omega
  have R2 := R.write (b0 := b) (g0 := g) (o := .row 9 1 ((Z02 l).map .str) .own) hbn hg hgrow ⟨fun x hx => by
      obtain ⟨u, _, rfl⟩ := List.mem_map.1 hx; rfl, .inl ⟨g, hg, off, c, Sort.putCells encW off (Z02 l).toArray cur, (0, 0), ((Sort.putCells encW off (Z02 l).toArray cur).toList.drop off).take l.length, by rw [hbm, List.length_map, Zf], hnew, fun _ => rfl, by simp,
        by rw [List.length_map, Zf]; exact e5, e6, by rw [hps]; exact e7, by rw [List.length_map, Zf, Nat.mul_one], by
          rw [List.length_map, Zf, hpl, Nat.mul_one], fun j hj => ?_⟩⟩
  · exact ⟨_, .tup [], _, I, μ, ob, rfl, R2, .tup [] [] rfl (by simp), fun _ h => h, fun _ _ _ => rfl, by simp, fun g hg => .inl hg, fun b g hb => .inl ⟨b, hb⟩, fun k hk hno => hold k hk (fun e => hno b (by rw [e]; exact hg)), rfl, rfl⟩
  · rw [List.length_map, Zf, Nat.mul_one] at hj
    rw [Z6g, Z3 _ _ _ _ (by rw [Zf]; exact hj)]; have : (((Sort.putCells encW off (Z02 l).toArray cur).toList.drop off).take l.length).getD j undef = encW ((Z02 l).getD j []) := by
      rw [List.getD_eq_getElem?_getD, List.getElem?_take_of_lt hj, List.getElem?_drop, Array.getElem?_toList, hput j hj]; rfl
    rw [this, List.getD_eq_getElem?_getD, List.getElem?_eq_getElem (by rw [Zf]; exact hj)]; exact Zdj _


end Go.Proofs.YtnilegembmcelaaDoor
end

