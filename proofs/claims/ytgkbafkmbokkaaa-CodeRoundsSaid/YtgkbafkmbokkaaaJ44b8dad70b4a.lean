/-
  DERIVED: THE SHELF's CONTRACTS AT THIS DUMP, IN PLAIN WORDS (tools/lay-plain.mjs out of 'YtgkbafkmbokkaaaShelfG.lean', which tools/lay-shelf.mjs wrote): THE SAME DECLARATIONS UNDER THE SAME NAMES: 'import', 'namespace', 'open', 'def', 'theorem' AND NOTHING ELSE: no command of the shelf's: FOR A HAND-IN. Each laying: the table of numbers ('.._ren') and one theorem, a field a fact of the dump's own or the kernel's comparison; each contract: ONE APPLICATION.
  slices.Grow of the nil list, as a contract with the heap; slices.Concat of lists of words; slices.Reverse of a held list of words.
  slices.Concat of lists of words.
  slices.Reverse of a held list of words.
  The chapter's examples: what awake gives.
  The law CodeMakes.
  The reference's turned, Reverse, Digit; Compose of both.
  Compose of the program and of the reference.
  Compose of the program: the same as the reference's.
  The law CodeChecks.
  The law CodeChanges.
  The law CodePrefixes.
  Codes composed of prefix codes are prefix codes with as many words.
  Readings as lists of indices: what they spell, their order, which there are.
  code.readings: the recursive closure and its loop.
  code.readings and code.Factor.
  slices.Index and Contains of words.
-/
import Derived.Shelf.Spec.SlicesGrow
import Derived.Shelf.SlGeneric
import Derived.Ground.Names8Prog
import Derived.Test.YtgkbafkmbokkaaaProg
import Derived.Test.YtgkbafkmbokkaaaJ783dab9d7bdb
import Derived.Test.YtgkbafkmbokkaaaJc4caba2dd028
import Derived.Test.YtgkbafkmbokkaaaJ4754b2c93dca
import Derived.Test.YtgkbafkmbokkaaaJ16a1c712b009
import Derived.Test.YtgkbafkmbokkaaaJ5140b6250559

section
namespace Go.Proofs
open Go.Shelf
def Try.growS_ren : Go.Shelf.Ren := ⟨fun | 4 => 61 | n => n, fun | 22 => 22 | 25 => 9 | 3 => 3 | 4 => 4 | 9 => 9 | 20 => 20 | 0 => 0 | n => n, fun | n => n⟩
theorem Try.growS : Go.Proofs.Lays8.n4 Try.prog Try.growS_ren := {
  mixed := by kernel_rfl
  f4 := ⟨Try.f61.name, by decide, Try.func61.trans (congrArg some (by kernel_rfl))⟩
  t0 := Try.underlying0
  a0 := Try.isAgg0
  z0 := Try.sizeOf0
  v0 := Try.zeroValue0
  t3 := Try.underlying3
  a3 := Try.isAgg3
  z3 := Try.sizeOf3
  v3 := Try.zeroValue3
  t4 := Try.underlying4
  a4 := Try.isAgg4
  z4 := Try.sizeOf4
  v4 := Try.zeroValue4
  t9 := Try.underlying9
  a9 := Try.isAgg9
  z9 := Try.sizeOf9
  v9 := Try.zeroValue9
  t20 := Try.underlying20
  a20 := Try.isAgg20
  z20 := Try.sizeOf20
  v20 := Try.zeroValue20
  t22 := Try.underlying22
  a22 := Try.isAgg22
  z22 := Try.sizeOf22
  v22 := Try.zeroValue22 }
end Go.Proofs
end

section
namespace Go.Proofs.Ytgkbafkmbokkaaa
open Go Go.AM Go.RowKit
set_option maxRecDepth 100000
set_option linter.unusedSimpArgs false

theorem c61 {h : List AObj} (n : Nat) (hn : 0 < n) (hn2 : n ≤ 1000000) : AC Try.prog 61 [.full [], .p (.int .i64 n)] h [] (fun v h' => v = .own h.length 0 ∧ h' = h ++ [.row 9 1 [] .own]) := by
  refine ⟨entersF_of Try.func61 (by kernel_rfl) rfl, fun X I μ ob w cargs R hlen hargs _ => ?_⟩
  obtain ⟨a0, b0, rfl⟩ : ∃ a b, cargs = [a, b] := by
    match cargs, hlen with
    | [a, b], _ => exact ⟨a, b, rfl⟩
  have g0 := hargs 0 (by simp)
  have g1 := hargs 1 (by simp)
  simp only [List.getD_cons_zero, List.getD_cons_succ] at g0 g1
  obtain ⟨a, rfl⟩ : ∃ a, a0 = .slice a 0 0 := by
    cases g0 with
    | full l a hp => exact ⟨a, rfl⟩
  rw [g1.int_inv]
  obtain ⟨i0, hi0, hisz, hib, hz⟩ := (hΓ 9 _ rfl).info
  obtain ⟨zv, hz1, _, hsz⟩ := hz _ rfl
  simp only at hisz hib hsz
  have hc := Any8.slices_Grow_grow (ρ := Try.growS_ren) Try.growS i0 zv hi0 hz1 (by omega) a 0 0 n [] w (by omega) (by omega) (by rw [hib]; omega) (by omega) (by simp) (fun _ => rfl) (fun _ _ j v hj => by simp at hj)
  refine Calls.mono (P := Try.prog) hc ?_
  rintro e w' ⟨rfl, rfl⟩
  have hg := grown_drew_alloc w (.cells ((#[] : Array Value) ++ Builtin.zeroCells zv.cells (0 + n - 0) ++ Builtin.zeroCells zv.cells (grownCap w (0 + n) 0 9 - (0 + n))) 9)
  have hcg : 0 + n ≤ grownCap w (0 + n) 0 9 := grownCap_ge w _ _ _
  have hcm : grownCap w (0 + n) 0 9 ≤ maxLen := grownCap_le_maxLen w _ _ _ (by simp only [maxLen]; omega)
  have ez : zv.cells.size = 1 := hsz
  have hC : ∃ C : Array Value, C = (#[] : Array Value) ++ Builtin.zeroCells zv.cells (0 + n - 0) ++ Builtin.zeroCells zv.cells (grownCap w (0 + n) 0 9 - (0 + n)) ∧ C.size = grownCap w (0 + n) 0 9 := ⟨_, rfl, by
    simp only [Array.size_append, List.size_toArray, List.length_nil, size_zeroCells, ez]; omega⟩
  obtain ⟨C, eC, hCs⟩ := hC
  have ht : Try.growS_ren.t 25 = 9 := rfl
  rw [ht, ← eC]
  rw [← eC] at hg
  generalize grownCap w (0 + n) 0 9 = cap at hcg hcm hCs
  have hnew : (w.drew.alloc (.cells C 9)).heap[w.heap.size]? = some (.cells C 9) := heap_alloc_new w.drew _
  have R1 := R.name (v := .slice (some ⟨w.heap.size, 0, none⟩) 0 cap) (g := some w.heap.size) (o := .row 9 1 [] .own) hg (fun k e => by injection e with e; subst e; exact ⟨Nat.le_refl _, by simp⟩) (by
    refine ⟨fun x hx => (by cases hx), .inl ⟨w.heap.size, by simp, cap, C, (0, 0), [], by simp, hnew, fun _ => rfl, fun j hj => by simp, by simp, hcm, by rw [hCs]; simp, by simp, by simp, fun j hj => by simp at hj⟩⟩)
  exact ⟨_, .own h.length 0, _, I, _, _, rfl, R1, .own _ _ _ _ (by simp) (by simp), fun _ h => h, fun b hb _ => upd_other _ _ (by omega), by simp, fun g hg => .inl hg,
    fun k g2 hk => by
      by_cases e : k = h.length
      · subst e; rw [upd_same] at hk; injection hk with hk; subst hk; exact .inr (Nat.le_refl _)
      · rw [upd_other _ _ e] at hk; exact .inl ⟨k, hk⟩,
    fun k hk _ => Below.heap_alloc w.drew _ k hk, rfl, rfl⟩
end Go.Proofs.Ytgkbafkmbokkaaa
end

section
namespace Go.Proofs.Ytgkbafkmbokkaaa
open Go Go.AM
set_option maxRecDepth 100000
set_option linter.unusedSimpArgs false

def wsV (l : List (List UInt8)) : PV := .sl (l.map .str)
def wssV (wss : List (List (List UInt8))) : List PV := wss.map wsV

theorem c29 {h : List AObj} (hK : h.map (AObj.kill h.length) = h) (wss : List (List (List UInt8))) (hn : 0 < wss.flatten.length) (hn2 : wss.flatten.length ≤ 1000000) (hw : wss.length ≤ 1000000) :
    AC Try.prog 29 [.p (.sl (wssV wss))] h [] (fun v h' => v = .own h.length wss.flatten.length ∧ h' = h ++ [.row 9 1 (wss.flatten.map .str) .own]) := by
  refine AC.of_bodyE hΓ Try.func29 (by kernel_rfl) rfl (AWp.mono (Q := fun e st => AM.Ends e ∧ st.tmps.getD 2 .junk = .own h.length wss.flatten.length ∧ st.h = h ++ [.row 9 1 (wss.flatten.map .str) .own]) ?_ ?_)
  rotate_left
  · rintro e ⟨tm, h'⟩ ⟨he, h1, h2⟩
    simp only at h1 h2
    subst h2
    refine ⟨he, _, Less.refl _, ?_⟩
    unfold DoneE
    simp +contextual -implicitDefEqProofs only [Try.results29, h1, go_sem]
    exact ⟨h.length + 1, by omega, .inl (by simp), List.take_of_length_le (by simp)⟩
  have gL : ∀ o : AObj, (h ++ [o])[h.length]? = some o := fun o => by simp
  have sL : ∀ o o' : AObj, (h ++ [o]).set h.length o' = h ++ [o'] := fun o o' => by simp
  have hwl : (wssV wss).length = wss.length := by simp [wssV]
  have hget : ∀ k (hk : k < wss.length), (wssV wss).getD k default = .sl (wss[k].map .str) := fun k hk => by unfold wssV; rw [getD_map_lt _ _ _ _ hk]; rfl
  have hflat : ∀ k (hk : k < wss.length), (wss.take (k + 1)).flatten = (wss.take k).flatten ++ wss[k] := fun k hk => by rw [List.take_succ_eq_append_getElem hk, List.flatten_append]; simp
  have hle : ∀ k, (wss.take k).flatten.length ≤ wss.flatten.length := fun k => by
    conv => rhs; rw [← List.take_append_drop k wss, List.flatten_append, List.length_append]
    omega
  refine AWp.of_awpD [] hΓ hmix (by kernel_rfl) ?_
  simp -implicitDefEqProofs only [Try.ntmps29, Nat.reduceAdd, Nat.reduceSub, hwl, go_sem]
  refine AWp.loopI (fun k : Nat => ⟨mkF 36 [(0, .p (.sl (wssV wss))), (2, .full []), (3, .p (.int .i64 (wss.take k).flatten.length)), (9, .p (.sl (wssV wss))), (10, .p (.int .i64 wss.length)), (11, .p (.int .i64 k))], h⟩)
    (fun k => k ≤ wss.length) (fun k => wss.length - k) 0 (by simp [go_sem, weakH_self]) (by omega) ?_
  intro k hk
  refine AWp.of_awpD [] hΓ hmix (by kernel_rfl) ?_
  by_cases hlt : k < wss.length
  · have h5 := hle (k + 1)
    rw [hflat k hlt, List.length_append] at h5
    have h6 : ¬ ((wss.take k).flatten.length : Int) + (wss[k].length : Int) < 0 := by omega
    simp -implicitDefEqProofs only [hlt, hwl, hget k hlt, h6, ↓reduceIte, go_sem]
    exact ⟨by simp only [InR]; omega, by simp only [InR]; omega, k + 1, ⟨⟨by rw [hflat k hlt, List.length_append]; omega, by omega⟩, weakH_self _⟩, hlt, by omega⟩
  · simp -implicitDefEqProofs only [hlt, hwl, go_sem]
    have hfull : wss.take k = wss := List.take_of_length_le (by omega)
    rw [hfull]
    refine callK_ac (c61 (h := h) wss.flatten.length hn hn2) (by simp) ?_
    rintro v h' ⟨rfl, rfl⟩
    simp -implicitDefEqProofs only [killAll, List.foldl, hwl, go_sem]
    refine AWp.loopI (fun j : Nat => ⟨mkF 36 [(0, .p (.sl (wssV wss))), (6, .own h.length (wss.take j).flatten.length), (25, .p (.sl (wssV wss))), (26, .p (.int .i64 wss.length)), (27, .p (.int .i64 j))], h ++ [.row 9 1 ((wss.take j).flatten.map .str) .own]⟩)
      (fun j => j ≤ wss.length) (fun j => wss.length - j) 0 (by simp [go_sem, weakH_self]) (by omega) ?_
    intro j hj
    refine AWp.of_awpD [] hΓ hmix (by kernel_rfl) ?_
    by_cases hlt2 : j < wss.length
    · have h5 := hle (j + 1)
      rw [hflat j hlt2, List.length_append] at h5
      simp -implicitDefEqProofs only [hlt2, hwl, hget j hlt2, gL, sL, hK, List.map_append, ↓reduceIte, go_sem]
      refine ⟨⟨size_str _, one_str _⟩, ⟨by omega, by omega⟩, by simp only [InR]; omega, j + 1, ⟨⟨?_, by omega⟩, ?_⟩, hlt2, by omega⟩
      · rw [hflat j hlt2, List.length_append]
      · rw [hflat j hlt2, List.map_append]
        simp only [ite_self]
        exact weakH_self _
    · have hfull2 : wss.take j = wss := List.take_of_length_le (by omega)
      simp -implicitDefEqProofs only [hlt2, hwl, hfull2, go_sem]
end Go.Proofs.Ytgkbafkmbokkaaa
end

section
namespace Go.Proofs.Ytgkbafkmbokkaaa
open Go Go.AM
set_option maxRecDepth 100000
set_option linter.unusedSimpArgs false

/-- A list of which i words at each end have changed places. -/
def rvL (l : List (List UInt8)) (i : Nat) : List (List UInt8) := (List.range l.length).map fun k => if k < i ∨ l.length - i ≤ k then l.getD (l.length - 1 - k) [] else l.getD k []

theorem rvL_len (l : List (List UInt8)) (i : Nat) : (rvL l i).length = l.length := by simp [rvL]
theorem rvL_get {l : List (List UInt8)} {i k : Nat} (hk : k < l.length) : (rvL l i)[k]? = some (if k < i ∨ l.length - i ≤ k then l.getD (l.length - 1 - k) [] else l.getD k []) := by
  simp [rvL, List.getElem?_map, List.getElem?_range hk]
theorem rvL_zero (l : List (List UInt8)) : rvL l 0 = l := by
  apply List.ext_getElem?
  intro k
  by_cases hk : k < l.length
  · rw [rvL_get hk, if_neg (by omega), List.getD_eq_getElem?_getD, List.getElem?_eq_getElem hk]; rfl
  · rw [List.getElem?_eq_none (by rw [rvL_len]; omega), List.getElem?_eq_none (by omega)]
theorem rvL_end {l : List (List UInt8)} {i : Nat} (h1 : 2 * i ≤ l.length) (h2 : l.length ≤ 2 * i + 1) : rvL l i = l.reverse := by
  apply List.ext_getElem?
  intro k
  by_cases hk : k < l.length
  · rw [rvL_get hk, List.getElem?_reverse hk]
    have e : l.getD (l.length - 1 - k) [] = l[l.length - 1 - k]'(by omega) := by rw [List.getD_eq_getElem?_getD, List.getElem?_eq_getElem (by omega)]; rfl
    by_cases hc : k < i ∨ l.length - i ≤ k
    · rw [if_pos hc, e, List.getElem?_eq_getElem (by omega)]
    · rw [if_neg hc]
      have : k = l.length - 1 - k := by omega
      rw [← this, List.getD_eq_getElem?_getD, List.getElem?_eq_getElem hk]; rfl
  · rw [List.getElem?_eq_none (by rw [rvL_len]; omega), List.getElem?_eq_none (by simp; omega)]
theorem rvL_step {l : List (List UInt8)} {i j : Nat} (hj : i + j + 1 = l.length) (hlt : i < j) : ((rvL l i).set i (l.getD j [])).set j (l.getD i []) = rvL l (i + 1) := by
  apply List.ext_getElem?
  intro k
  by_cases hk : k < l.length
  · rw [List.getElem?_set, List.getElem?_set, rvL_get hk, rvL_get hk]
    simp only [List.length_set, rvL_len]
    by_cases e1 : j = k
    · subst e1
      rw [if_pos rfl, if_pos hk, if_pos (by omega), show l.length - 1 - j = i by omega]
    · rw [if_neg e1]
      by_cases e2 : i = k
      · subst e2
        rw [if_pos rfl, if_pos hk, if_pos (by omega), show l.length - 1 - i = j by omega]
      · rw [if_neg e2]
        by_cases hc : k < i ∨ l.length - i ≤ k
        · rw [if_pos hc, if_pos (by omega)]
        · rw [if_neg hc, if_neg (by omega)]
  · rw [List.getElem?_eq_none (by simp [rvL_len]; omega), List.getElem?_eq_none (by rw [rvL_len]; omega)]

theorem c30 {h : List AObj} {b : Nat} (l : List (List UInt8)) (hb : h[b]? = some (.row 9 1 (l.map PV.str) .own)) (hl : l.length ≤ 1000000) :
    AC Try.prog 30 [.own b l.length] h [] (fun v h' => v = .tup [] ∧ h' = h.set b (.row 9 1 (l.reverse.map PV.str) .own)) := by
  have hbl : b < h.length := (List.getElem?_eq_some_iff.1 hb).1
  refine AC.of_bodyE hΓ Try.func30 (by kernel_rfl) rfl (AWp.mono (Q := fun e st => AM.Ends e ∧ st.h = h.set b (.row 9 1 (l.reverse.map PV.str) .own)) ?_ ?_)
  rotate_left
  · rintro e ⟨tm, h'⟩ ⟨he, h2⟩
    simp only at h2
    subst h2
    refine ⟨he, _, Less.refl _, ?_⟩
    unfold DoneE
    simp +contextual -implicitDefEqProofs only [Try.results30, go_sem]
    exact ⟨h.length, Nat.le_refl _, .inl (by simp), List.take_of_length_le (by simp)⟩
  have gB : ∀ o : AObj, (h.set b o)[b]? = some o := fun o => by simp [hbl]
  have sB : ∀ o o' : AObj, (h.set b o).set b o' = h.set b o' := fun o o' => by simp
  refine AWp.of_awpD [] hΓ hmix (by kernel_rfl) ?_
  simp -implicitDefEqProofs only [Try.ntmps30, Nat.reduceAdd, Nat.reduceSub, go_sem]
  refine ⟨by simp only [InR]; omega, ?_⟩
  refine AWp.loopI (fun i : Nat => ⟨mkF 28 [(0, .own b l.length), (2, .p (.int .i64 i)), (3, .p (.int .i64 ((l.length : Int) - 1 - i)))], h.set b (.row 9 1 ((rvL l i).map PV.str) .own)⟩)
    (fun i => 2 * i ≤ l.length) (fun i => l.length - i) 0 (by
      rw [rvL_zero, show h.set b (.row 9 1 (l.map PV.str) .own) = h from by
        apply List.ext_getElem?
        intro k
        rw [List.getElem?_set]
        split
        · rename_i e; subst e
          first
            | exact hb.symm
            | (rw [if_pos hbl]; exact hb.symm)
        · rfl]
      simp [go_sem, weakH_self]) (by omega) ?_
  intro i hi
  refine AWp.of_awpD [(3, 13)] hΓ hmix (by kernel_rfl) ?_
  by_cases hlt : (i : Int) < (l.length : Int) - 1 - i
  · obtain ⟨j, hj⟩ : ∃ j : Nat, (l.length : Int) - 1 - i = j := ⟨(((l.length : Int) - 1 - i)).toNat, by omega⟩
    rw [hj] at hlt ⊢
    have hjl : j < l.length := by omega
    have hil : i < l.length := by omega
    have e1 : ((rvL l i).map PV.str).getD i default = .str (l.getD i []) := by
      rw [List.getD_eq_getElem?_getD, List.getElem?_map, rvL_get hil, if_neg (by omega)]; rfl
    have e2 : ((rvL l i).map PV.str).getD j default = .str (l.getD j []) := by
      rw [List.getD_eq_getElem?_getD, List.getElem?_map, rvL_get hjl, if_neg (by omega)]; rfl
    have e3 : (((rvL l i).map PV.str).set i (.str (l.getD j []))).set j (.str (l.getD i [])) = (rvL l (i + 1)).map PV.str := by
      rw [← rvL_step (j := j) (by omega) (by omega), List.map_set, List.map_set]
    simp -implicitDefEqProofs only [hlt, gB, sB, e1, e2, e3, Int.toNat_natCast, go_sem]
    have hr := rvL_len l i
    refine ⟨hjl, by omega, hil, by omega, hil, ⟨by omega, rfl⟩, hjl, ⟨by simp; omega, rfl⟩, by simp only [InR]; omega, by simp only [InR]; omega, i + 1, ⟨⟨by omega, by omega⟩, weakH_self _⟩, by omega, by omega⟩
  · simp -implicitDefEqProofs only [hlt, go_sem]
    rw [rvL_end hi (by omega)]

end Go.Proofs.Ytgkbafkmbokkaaa
end

section
namespace Go.Proofs.Ytgkbafkmbokkaaa
open Go Go.AM
set_option maxRecDepth 1000000
set_option linter.unusedSimpArgs false

def xS : PV := .agg [.int .i64 2, .sl [.str [49], .str [48, 48, 49], .str [49, 48, 48]]]
def dS : PV := .agg [.int .i64 2, .sl [.str [49], .str [48, 48]]]

theorem made_ex : made [[49, 48], [48], [48, 49], [48]] = [[48], [48, 49], [49, 48]] := made_of (by unfold ltW; decide) (fun x => by simp only [List.mem_cons, List.not_mem_nil, or_false]; exact ⟨fun h => by rcases h with h | h | h | h <;> simp [h], fun h => by rcases h with h | h | h <;> simp [h]⟩)
theorem made_ex2 : made [[49], [48, 48]] = [[49], [48, 48]] := made_of (by unfold ltW; decide) (fun x => Iff.rfl)

theorem make_ex : PFn Try.prog 13 [.int .i64 2, .sl [.str [49, 48], .str [48], .str [48, 49], .str [48]]] [cS, .int .i64 0] := by
  have h := t71 2 [[49, 48], [48], [48, 49], [48]] (by decide)
  have hc : codeCheck 2 [[48], [48, 49], [49, 48]] = 0 := by kernel_rfl
  rw [made_ex, hc, if_pos rfl] at h
  exact h
theorem make_ex2 : PFn Try.prog 13 [.int .i64 2, .sl [.str [49], .str [48, 48]]] [dS, .int .i64 0] := by
  have h := t71 2 [[49], [48, 48]] (by decide)
  have hc : codeCheck 2 [[49], [48, 48]] = 0 := by kernel_rfl
  rw [made_ex2, hc, if_pos rfl] at h
  exact h
theorem prefix_ex : PFn Try.prog 15 [cS] [.bool false, .int .i64 0] := by
  have h := t38 2 [[48], [48, 49], [49, 48]]
  have hc : codeCheck 2 [[48], [48, 49], [49, 48]] = 0 := by kernel_rfl
  have ha : aloneB (fun w x => x.isPrefixOf w) [[48], [48, 49], [49, 48]] = false := by kernel_rfl
  rw [hc, if_pos rfl, if_pos rfl, ha] at h
  exact h
theorem compose_ex : PFn Try.prog 26 [cS, dS] [xS, .int .i64 0] := PFn.of_runE (C := ⟨Try.prog, Γ, axT⟩) (fuel := 900) hEC (by kernel_rfl)
theorem equal_ex : PFn Try.prog 47 [.sl [.str [48], .str [48, 49], .str [49, 48]], .sl [.str [48], .str [48, 49], .str [49, 48]]] [.bool true] := PFn.of_runE (C := ⟨Try.prog, Γ, axT⟩) (fuel := 900) hEC (by kernel_rfl)
theorem equal_ex2 : PFn Try.prog 47 [.sl [.str [49], .str [48, 48, 49], .str [49, 48, 48]], .sl [.str [49], .str [48, 48, 49], .str [49, 48, 48]]] [.bool true] := PFn.of_runE (C := ⟨Try.prog, Γ, axT⟩) (fuel := 900) hEC (by kernel_rfl)
theorem same_ex : PFn Try.prog 42 [.sl [.sl [.int .i64 0, .int .i64 2], .sl [.int .i64 1, .int .i64 0]], .sl [.sl [.int .i64 0, .int .i64 2], .sl [.int .i64 1, .int .i64 0]]] [.bool true] := PFn.of_runE (C := ⟨Try.prog, Γ, axT⟩) (fuel := 900) hEC (by kernel_rfl)

theorem factor_ex : PFn Try.prog 39 [cS, .str [48, 49, 48]] [.sl [.sl [.int .i64 0, .int .i64 2], .sl [.int .i64 1, .int .i64 0]], .int .i64 0] := PFn.of_runE (C := ⟨Try.prog, Γ, axT⟩) (fuel := 900) hEC (by kernel_rfl)
theorem awake_ok : PFn Try.prog 12 [] [.bool true] := by
  refine PFn.of_body hΓ Try.func12 (by kernel_rfl) rfl (AWp.of_awpD [] hΓ hmix (by kernel_rfl) ?_)
  simp -implicitDefEqProofs only [Try.ntmps12, Try.results12, Nat.reduceAdd, Nat.reduceSub, go_sem]
  refine ⟨⟨by simp [sizeOK, PV.cells], by omega⟩, callK_fn make_ex (.pures rfl) ?_⟩
  simp -implicitDefEqProofs only [cS, go_sem]
  refine callK_fn prefix_ex (.still rfl) ?_
  simp -implicitDefEqProofs only [cS, go_sem]
  refine callK_fn factor_ex (.still rfl) ?_
  simp -implicitDefEqProofs only [cS, go_sem]
  refine ⟨⟨by simp [sizeOK, PV.cells], by omega⟩, callK_fn make_ex2 (.pures rfl) ?_⟩
  simp -implicitDefEqProofs only [dS, go_sem]
  refine callK_fn compose_ex (.still rfl) ?_
  simp -implicitDefEqProofs only [xS, ite_self, go_sem]
  refine ⟨⟨by simp [sizeOK, PV.cells], by omega⟩, callK_fn equal_ex (.pures rfl) ?_⟩
  simp -implicitDefEqProofs only [go_sem]
  refine ⟨⟨by simp [sizeOK, PV.cells], by omega⟩, ⟨by simp [sizeOK, PV.cells], by omega⟩, ⟨by simp [sizeOK, PV.cells], by omega⟩, callK_fn same_ex (.pures rfl) ?_⟩
  simp -implicitDefEqProofs only [go_sem]
  refine ⟨⟨by simp [sizeOK, PV.cells], by omega⟩, callK_fn equal_ex2 (.pures rfl) ?_⟩
  simp -implicitDefEqProofs only [go_sem]
end Go.Proofs.Ytgkbafkmbokkaaa
end

section
namespace Go.Proofs.Ytgkbafkmbokkaaa
open Go Go.AM
set_option maxRecDepth 100000
set_option linter.unusedSimpArgs false

def fineB (q : Int) (ws : List (List UInt8)) : Bool := !(greatC ws || ws.any greatW) && decide (codeCheck q ws = 0)
theorem u28 (q : Int) (ws : List (List UInt8)) (hl : ws.length ≤ 9223372036854775807) : PFn Try.prog 28 [codeV q ws] [.bool (fineB q ws)] := by
  refine PFn.of_body hΓ Try.func28 (by kernel_rfl) rfl (AWp.of_awpD [] hΓ hmix (by kernel_rfl) ?_)
  simp +contextual -implicitDefEqProofs only [codeV, Try.ntmps28, Try.results28, Nat.reduceAdd, Nat.reduceSub, go_sem]
  refine callK_fn (t11 q ws hl) (.still rfl) ?_
  unfold fineB
  cases hg : (greatC ws || ws.any greatW)
  · simp -implicitDefEqProofs only [go_sem]
    refine callK_fn (t44 q ws) (.still rfl) ?_
    by_cases hc : codeCheck q ws = 0
    · rw [hc]
      simp -implicitDefEqProofs only [go_sem]
    · simp -implicitDefEqProofs only [hc, go_sem]
  · simp -implicitDefEqProofs only [go_sem]
    rfl

theorem Valid.strict {q : Int} {ws : List (List UInt8)} (hv : Valid q ws) : ws.Pairwise ltW := List.pairwise_iff_getElem.2 fun i j hi hj hij => by
  have := hv.lt i j hij hj
  rwa [List.getD_eq_getElem?_getD, List.getElem?_eq_getElem hi, Option.getD_some, List.getD_eq_getElem?_getD, List.getElem?_eq_getElem hj, Option.getD_some] at this

theorem u5 (q : Int) (ws : List (List UInt8)) (n : Int) (hws : ws.length ≤ 9223372036854775807) (hn0 : 0 ≤ n) (hn1 : n ≤ 255) : PFn Try.prog 5 [codeV q ws, .int .u8 n] [.bool true] := by
  refine PFn.of_body hΓ Try.func5 (by kernel_rfl) rfl (AWp.seq (AWp.of_awpD [] hΓ hmix (by kernel_rfl) ?_))
  simp -implicitDefEqProofs only [Try.ntmps5, Try.results5, Nat.reduceAdd, Nat.reduceSub, codeV, go_sem]
  refine AWp.seq (AWp.of_awpD [] hΓ hmix (by kernel_rfl) ?_)
  simp -implicitDefEqProofs only [go_sem]
  refine callK_fn (u28 q ws hws) (.still rfl) ?_
  cases hf : fineB q ws
  · simp -implicitDefEqProofs only [go_sem]
    refine callK_fn awake_ok (.pures rfl) ?_
    simp -implicitDefEqProofs only [go_sem]
  simp only [fineB, Bool.and_eq_true, decide_eq_true_eq] at hf
  have h := hf.2
  have hv := valid_of h
  have hlen := hv.len
  have hpos := hv.pos
  simp -implicitDefEqProofs only [go_sem]
  have hwr : IntKind.i64.wrap n = n := InR.wrap (k := .i64) (by simp only [InR]; omega)
  obtain ⟨k, hk⟩ : ∃ k : Nat, n % (ws.length : Int) = k := ⟨(n % (ws.length : Int)).toNat, (Int.toNat_of_nonneg (Int.emod_nonneg _ (by omega))).symm⟩
  have hkl : k < ws.length := by have := Int.emod_lt_of_pos n (show (0 : Int) < ws.length by omega); omega
  refine AWp.seq (AWp.of_awpD [] hΓ hmix (by kernel_rfl) ?_)
  simp -implicitDefEqProofs only [hwr, go_sem]
  refine ⟨⟨by omega, by omega⟩, ?_⟩
  rw [hk]
  refine AWp.seq ?_
  refine AWp.planL (.q 0 (.q 1 (.q 2 (.q 3 (.q 4 (.q 5 (.q 6 (.q 7 (.q 8 (.q 9 (.q 10 (.e 11 (.q 12 .fin) .nil)))))))))))) hΓ hmix (by kernel_rfl) ?_
  simp -implicitDefEqProofs only [go_sem]
  refine ⟨size_str _, by omega, size_str _, by omega, ⟨by simp [sizeOK, PV.cells], by omega⟩, ?_⟩
  have hwss : [PV.sl (List.drop k (List.map PV.str ws)), PV.sl (List.map PV.str ws), PV.sl (List.take k (List.map PV.str ws))] = wssV [ws.drop k, ws, ws.take k] := by simp [wssV, wsV]
  rw [hwss]
  have hfl : [ws.drop k, ws, ws.take k].flatten = ws.drop k ++ (ws ++ ws.take k) := by simp
  have hfn : (ws.drop k ++ (ws ++ ws.take k)).length = 2 * ws.length := by simp; omega
  have hc := c29 (h := [codeB q ws]) rfl [ws.drop k, ws, ws.take k] (by rw [hfl]; omega) (by rw [hfl]; omega) (by simp)
  rw [hfl] at hc
  generalize hall : ws.drop k ++ (ws ++ ws.take k) = l at hc hfn
  refine callK_ac hc.full0 (by simp) ?_
  rintro v h' ⟨rfl, rfl⟩
  simp -implicitDefEqProofs only [killAll, List.foldl, go_sem]
  refine AWp.seq (AWp.of_awpD [] hΓ hmix (by kernel_rfl) ?_)
  simp -implicitDefEqProofs only [codeB, go_sem]
  refine callK_ac (c30 l rfl (by omega)) (by simp) ?_
  rintro v h' ⟨rfl, rfl⟩
  simp -implicitDefEqProofs only [killAll, List.foldl, codeB, go_sem]
  refine AWp.freeze 1 rfl ?_
  refine AWp.of_awpD [] hΓ hmix (by kernel_rfl) ?_
  simp -implicitDefEqProofs only [Frozen, codeB, go_sem]
  have hmem : ∀ x, x ∈ l.reverse ↔ x ∈ ws := fun x => by
    rw [List.mem_reverse, ← hall]
    simp only [List.mem_append]
    constructor
    · rintro (hx | hx | hx)
      · exact List.mem_of_mem_drop hx
      · exact hx
      · exact List.mem_of_mem_take hx
    · exact fun hx => .inr (.inl hx)
  have e13 := t71 q l.reverse (by rw [List.length_reverse]; omega)
  rw [made_of (Valid.strict hv) hmem, if_pos h, h] at e13
  refine callK_fn e13 (.pures rfl) ?_
  simp -implicitDefEqProofs only [codeV, go_sem]
  have e23 := u23 q q ws ws hws
  rw [decide_eq_true ⟨rfl, rfl⟩] at e23
  refine callK_fn e23 (.still rfl) ?_
  simp -implicitDefEqProofs only [go_sem]
  refine callK_fn (t45 q ws) (.still rfl) ?_
  rw [h]
  simp -implicitDefEqProofs only [go_sem]
  refine callK_fn awake_ok (.pures rfl) ?_
  simp -implicitDefEqProofs only [go_sem]
end Go.Proofs.Ytgkbafkmbokkaaa
end

section
namespace Go.Proofs.Ytgkbafkmbokkaaa
open Go Go.AM
set_option maxRecDepth 100000
set_option linter.unusedSimpArgs false

theorem u60 (b : UInt8) : PFn Try.prog 60 [.int .u8 b.toNat] [.int .i64 (ixB b L16 0)] := by
  refine PFn.of_body hΓ Try.func60 (by kernel_rfl) rfl (AWp.of_awpD [] hΓ hmix (by kernel_rfl) ?_)
  simp +contextual -implicitDefEqProofs only [Try.ntmps60, Try.results60, Nat.reduceAdd, Nat.reduceSub, go_sem]
  refine AWp.loopI (fun k : Nat => ⟨mkF 13 [(0, .p (.int .u8 b.toNat)), (2, .p (.int .i64 0)), (3, .p (.int .i64 k))], []⟩)
    (fun k => k ≤ 16 ∧ ∀ j (hj : j < 16), j < k → L16[j]'hj ≠ b) (fun k => 16 - k) 0 (by simp [go_sem]) (by simp) ?_
  rintro k ⟨hk, h0⟩
  refine AWp.of_awpD [] hΓ hmix (by kernel_rfl) ?_
  simp +contextual -implicitDefEqProofs only [getD_map_lt, ↓reduceIte, go_sem]
  refine ⟨fun hlt => ⟨by omega, fun he => ?_, fun hne => ⟨by simp only [InR]; omega, k + 1, by simp, ⟨by omega, ?_⟩, by omega⟩⟩, fun hge => ?_⟩
  · have hk' : k < L16.length := by simp [L16]; omega
    have e : L16[k] = b := by
      rw [← UInt8.toNat_inj, ← he]
      show _ = (L16.getD k 0).toNat
      rw [List.getD_eq_getElem?_getD, List.getElem?_eq_getElem hk', Option.getD_some]
    rw [ixB_at b L16 0 k hk' (fun j hj => h0 j (by omega) hj) e]; simp
  · intro j hj hjk e
    by_cases hjk' : j < k
    · exact h0 j hj hjk' e
    · have : j = k := by omega
      subst this
      apply hne
      rw [← e]
      show (L16.getD j 0).toNat = _
      rw [List.getD_eq_getElem?_getD, List.getElem?_eq_getElem (by simpa [L16] using hj), Option.getD_some]; rfl
  · exact (ixB_none b L16 0 (fun j hj => h0 j (by simpa [L16] using hj) (by simp [L16] at hj; omega))).symm

theorem u59 (w : List UInt8) (hw : w.length ≤ 1000000) : PFn Try.prog 59 [.str w] [.str w.reverse] := by
  refine PFn.of_body hΓ Try.func59 (by kernel_rfl) rfl (AWp.of_awpD [] hΓ hmix (by kernel_rfl) ?_)
  simp +contextual -implicitDefEqProofs only [Try.ntmps59, Try.results59, Nat.reduceAdd, Nat.reduceSub, go_sem]
  refine AWp.loopI (fun k : Nat => ⟨mkF 19 [(0, .p (.str w)), (3, .p (.str (w.take k).reverse)), (4, .p (.int .i64 k))], []⟩)
    (fun k => k ≤ w.length) (fun k => w.length - k) 0 (by simp [go_sem]) (by omega) ?_
  intro k hk
  refine AWp.of_awpD [] hΓ hmix (by kernel_rfl) ?_
  by_cases hlt : k < w.length
  · have e1 : ((k : Int) + 1).toNat - k = 1 := by omega
    simp -implicitDefEqProofs only [hlt, e1, go_sem]
    have e2 : List.take 1 (w.drop k) ++ (w.take k).reverse = (w.take (k + 1)).reverse := by
      rw [List.take_succ_eq_append_getElem hlt, List.reverse_append, List.drop_eq_getElem_cons hlt]; rfl
    exact ⟨by simp only [InR]; omega, ⟨by omega, by omega⟩, by simp; omega, by simp only [InR]; omega, k + 1, ⟨e2.symm, by omega⟩, hlt, by omega⟩
  · simp -implicitDefEqProofs only [hlt, go_sem]
    rw [List.take_of_length_le (by omega)]

theorem u25 (q : Int) (ws : List (List UInt8)) : PFn Try.prog 25 [codeV q ws] [if codeCheck q ws = 0 then (if codeCheck q (made (revs ws)) = 0 then codeV q (made (revs ws)) else codeV 0 []) else codeV 0 [], .int .i64 (if codeCheck q ws = 0 then codeCheck q (made (revs ws)) else 1)] := by
  refine PFn.of_body hΓ Try.func25 (by kernel_rfl) rfl (AWp.of_awpD [] hΓ hmix (by kernel_rfl) ?_)
  simp +contextual -implicitDefEqProofs only [codeV, Try.ntmps25, Try.results25, Nat.reduceAdd, Nat.reduceSub, go_sem]
  refine callK_fn (t44 q ws) (.still rfl) ?_
  by_cases h : codeCheck q ws = 0
  · have hv := valid_of h
    have hws := hv.len
    have hsh : ∀ i (hi : i < ws.length), ws[i].length ≤ 32 := fun i hi => by
      have := hv.short i hi
      rwa [List.getD_eq_getElem?_getD, List.getElem?_eq_getElem hi, Option.getD_some] at this
    rw [h]
    simp -implicitDefEqProofs only [go_sem]
    refine AWp.adopt (l := []) 4 9 1 (by rfl) (by simp) ?_
    simp -implicitDefEqProofs only [go_sem]
    refine AWp.loopI (fun k : Nat => ⟨mkF 32 [(1, .ptr 0 0), (2, .ptr 1 0), (3, .p (.int .i64 0)), (4, .own 2 k), (5, .p (.int .i64 k))], [codeB q ws, .box [.p (.int .i64 0), .full []], .row 9 1 ((revs (ws.take k)).map .str) .lax]⟩)
      (fun k => k ≤ ws.length) (fun k => ws.length - k) 0 (by simp [go_sem, codeB, revs]) (by simp) ?_
    intro k hk
    by_cases hlt : k < ws.length
    · refine AWp.of_awpD [] hΓ hmix (by kernel_rfl) ?_
      simp -implicitDefEqProofs only [hlt, getD_map_lt, ↓reduceIte, codeB, go_sem]
      refine callK_fn (u59 ws[k] (by have := hsh k hlt; omega)) (.pures rfl) ?_
      simp -implicitDefEqProofs only [go_sem]
      have hs : revs (ws.take (k + 1)) = revs (ws.take k) ++ [ws[k].reverse] := by
        unfold revs; rw [List.take_succ_eq_append_getElem hlt, List.map_append]; rfl
      exact ⟨⟨size_str [_], by omega⟩, ⟨size_str [_], one_str [_]⟩, ⟨.inl (by omega), by omega, by omega⟩, by simp only [InR]; omega, k + 1, by rw [hs]; simp, hlt, by omega⟩
    · refine AWp.freeze 2 rfl ?_
      rw [List.take_of_length_le (by omega)]
      refine AWp.of_awpD [] hΓ hmix (by kernel_rfl) ?_
      simp -implicitDefEqProofs only [hlt, codeB, Frozen, go_sem]
      have e71 := u14 q (revs ws) (by simp [revs]; omega)
      by_cases hc : codeCheck q (made (revs ws)) = 0
      · rw [if_pos hc, hc] at e71
        refine callK_fn e71 (.pures rfl) ?_
        simp -implicitDefEqProofs only [codeV, hc, go_sem]
      · rw [if_neg hc] at e71
        refine callK_fn e71 (.pures rfl) ?_
        simp -implicitDefEqProofs only [codeV, hc, go_sem]
  · simp -implicitDefEqProofs only [h, go_sem]
end Go.Proofs.Ytgkbafkmbokkaaa
end

section
namespace Go.Proofs.Ytgkbafkmbokkaaa
open Go Go.AM
set_option maxRecDepth 100000
set_option linter.unusedSimpArgs false

/-- A letter's number. -/
def digN (b : UInt8) : Nat := (ixB b L16 0).toNat
/-- A word whose letters are put for words. -/
def compW (ds : List (List UInt8)) (w : List UInt8) : List UInt8 := (w.map fun b => ds.getD (digN b) []).flatten
theorem compW_snoc (ds : List (List UInt8)) (w : List UInt8) (b : UInt8) : compW ds (w ++ [b]) = compW ds w ++ ds.getD (digN b) [] := by
  unfold compW; rw [List.map_append, List.flatten_append]; simp
theorem compW_take (ds : List (List UInt8)) (w : List UInt8) {k : Nat} (hk : k < w.length) : compW ds (w.take (k + 1)) = compW ds (w.take k) ++ ds.getD (digN w[k]) [] := by
  rw [List.take_succ_eq_append_getElem hk, compW_snoc]
theorem compW_len {ds : List (List UInt8)} (h : ∀ x ∈ ds, x.length ≤ 32) : ∀ w : List UInt8, (compW ds w).length ≤ 32 * w.length
  | [] => by simp [compW]
  | b :: w => by
    have ih := compW_len h w
    have e : compW ds (b :: w) = ds.getD (digN b) [] ++ compW ds w := rfl
    rw [e, List.length_append, List.length_cons]
    have h1 : (ds.getD (digN b) []).length ≤ 32 := by
      rw [List.getD_eq_getElem?_getD]
      cases hx : ds[digN b]? with
      | none => simp
      | some x => exact h x (List.mem_of_getElem? hx)
    omega

/-- The letters of a valid code's words are numbers below its size. -/
theorem letter_of {q : Int} {w : List UInt8} (h : wordCheck q w = 0) {k : Nat} (hk : k < w.length) : 0 ≤ ixB w[k] L16 0 ∧ ixB w[k] L16 0 < q := by
  unfold wordCheck at h
  split at h
  · omega
  · split at h
    · omega
    · split at h
      · rename_i ho
        unfold okW at ho
        rw [List.all_eq_true] at ho
        have := ho w[k] (List.getElem_mem hk)
        simpa [okB] using this
      · omega

def compL (cs ds : List (List UInt8)) : List (List UInt8) := cs.map (compW ds)
def compQ (p q : Int) (cs ds : List (List UInt8)) : PV := if codeCheck p cs = 0 ∧ codeCheck q ds = 0 ∧ (ds.length : Int) = p ∧ codeCheck q (made (compL cs ds)) = 0 then codeV q (made (compL cs ds)) else codeV 0 []
def compE (p q : Int) (cs ds : List (List UInt8)) : Int := if codeCheck p cs = 0 ∧ codeCheck q ds = 0 then (if (ds.length : Int) = p then codeCheck q (made (compL cs ds)) else 11) else 1

theorem u27 (p q : Int) (cs ds : List (List UInt8)) : PFn Try.prog 27 [codeV p cs, codeV q ds] [compQ p q cs ds, .int .i64 (compE p q cs ds)] := by
  refine PFn.of_body hΓ Try.func27 (by kernel_rfl) rfl (AWp.of_awpD [] hΓ hmix (by kernel_rfl) ?_)
  simp -implicitDefEqProofs only [Try.ntmps27, Try.results27, Nat.reduceAdd, Nat.reduceSub, codeV, go_sem]
  refine callK_fn (t44 p cs) (.still rfl) ?_
  by_cases h1 : codeCheck p cs = 0
  rotate_left
  · unfold compQ compE
    rw [if_neg (fun e => h1 e.1), if_neg (fun e => h1 e.1)]
    simp -implicitDefEqProofs only [h1, codeV, go_sem]
  rw [h1]
  simp -implicitDefEqProofs only [go_sem]
  refine callK_fn (t44 q ds) (.still rfl) ?_
  by_cases h2 : codeCheck q ds = 0
  rotate_left
  · unfold compQ compE
    rw [if_neg (fun e => h2 e.2.1), if_neg (fun e => h2 e.2)]
    simp -implicitDefEqProofs only [h2, codeV, go_sem]
  rw [h2]
  by_cases h3 : (ds.length : Int) = p
  rotate_left
  · unfold compQ compE
    rw [if_neg (fun e => h3 e.2.2.1), if_pos ⟨h1, h2⟩, if_neg h3]
    simp -implicitDefEqProofs only [h3, codeV, go_sem]
  have hv := valid_of h1
  have hd := valid_of h2
  have hcl := hv.len
  have hdl := hd.len
  simp -implicitDefEqProofs only [h3, go_sem]
  have hsh : ∀ i (hi : i < cs.length), cs[i].length ≤ 32 := fun i hi => by
    have := hv.short i hi
    rwa [List.getD_eq_getElem?_getD, List.getElem?_eq_getElem hi, Option.getD_some] at this
  have hwd : ∀ x ∈ ds, x.length ≤ 32 := fun x hx => (hd.words x hx).2.1
  refine AWp.adopt (l := []) 6 9 1 (by rfl) (by simp) ?_
  simp -implicitDefEqProofs only [go_sem]
  refine AWp.loopI (fun k : Nat => ⟨mkF 67 [(2, .ptr 0 0), (3, .ptr 1 0), (4, .ptr 2 0), (5, .p (.int .i64 0)), (6, .own 3 k), (7, .p (.int .i64 k))], [codeB p cs, codeB q ds, .box [.p (.int .i64 0), .full []], .row 9 1 ((compL (cs.take k) ds).map .str) .lax]⟩)
    (fun k => k ≤ cs.length) (fun k => cs.length - k) 0 (by simp [go_sem, codeB, compL]) (by simp) ?_
  intro k hk
  by_cases hlt : k < cs.length
  · refine AWp.of_awpD [] hΓ hmix (by kernel_rfl) ?_
    simp -implicitDefEqProofs only [hlt, codeB, go_sem]
    refine AWp.loopI (fun j : Nat => ⟨mkF 67 [(2, .ptr 0 0), (3, .ptr 1 0), (4, .ptr 2 0), (5, .p (.int .i64 0)), (6, .own 3 k), (7, .p (.int .i64 k)), (8, .p (.str (compW ds (cs[k].take j)))), (9, .p (.int .i64 j))], [codeB p cs, codeB q ds, .box [.p (.int .i64 0), .full []], .row 9 1 ((compL (cs.take k) ds).map .str) .lax]⟩)
      (fun j => j ≤ cs[k].length) (fun j => cs[k].length - j) 0 (by simp [go_sem, codeB, compW]) (by simp) ?_
    intro j hj
    refine AWp.of_awpD [(13, 15)] hΓ hmix (by kernel_rfl) ?_
    by_cases hlt2 : j < cs[k].length
    · have hb : cs[k].getD j 0 = cs[k][j] := by rw [List.getD_eq_getElem?_getD, List.getElem?_eq_getElem hlt2]; rfl
      have hlet := letter_of (hv.words _ (List.getElem_mem hlt)).2.2 hlt2
      have hdn : digN cs[k][j] < ds.length := by unfold digN; omega
      have hg : (ds.map PV.str).getD (ixB cs[k][j] L16 0).toNat default = .str (ds.getD (digN cs[k][j]) []) := by
        show (ds.map PV.str).getD (digN cs[k][j]) default = _
        rw [getD_map_lt _ _ _ _ hdn, List.getD_eq_getElem?_getD, List.getElem?_eq_getElem hdn]; rfl
      have hw1 := compW_len hwd (cs[k].take j)
      have hw2 : (ds.getD (digN cs[k][j]) []).length ≤ 32 := hwd _ (getD_in hdn)
      have hkl := hsh k hlt
      simp -implicitDefEqProofs only [hlt, hlt2, hb, getD_map_lt, ↓reduceIte, codeB, go_sem]
      refine callVPK_fn (u60 cs[k][j]) (.pures rfl) ?_
      simp -implicitDefEqProofs only [hlt, hlt2, hb, hg, getD_map_lt, ↓reduceIte, codeB, go_sem]
      rw [List.length_take] at hw1
      exact ⟨by omega, by omega, by simp only [InR]; omega, j + 1, ⟨compW_take ds cs[k] hlt2, by omega⟩, hlt2, by omega⟩
    · rw [show cs[k].take j = cs[k] from List.take_of_length_le (by omega)]
      simp -implicitDefEqProofs only [hlt, hlt2, getD_map_lt, ↓reduceIte, codeB, go_sem]
      have hs : compL (cs.take (k + 1)) ds = compL (cs.take k) ds ++ [compW ds cs[k]] := by
        unfold compL; rw [List.take_succ_eq_append_getElem hlt, List.map_append]; rfl
      exact ⟨⟨size_str [_], by omega⟩, ⟨size_str [_], one_str [_]⟩, ⟨.inl (by omega), by omega, by omega⟩, by simp only [InR]; omega, k + 1, by rw [hs]; simp, hlt, by omega⟩
  · refine AWp.freeze 3 rfl ?_
    rw [List.take_of_length_le (by omega)]
    refine AWp.of_awpD [] hΓ hmix (by kernel_rfl) ?_
    simp -implicitDefEqProofs only [hlt, codeB, Frozen, go_sem]
    have e14 := u14 q (compL cs ds) (by simp [compL]; omega)
    unfold compQ compE
    rw [if_pos (show codeCheck p cs = 0 ∧ codeCheck q ds = 0 from ⟨h1, h2⟩), if_pos h3]
    by_cases hc : codeCheck q (made (compL cs ds)) = 0
    · rw [if_pos hc, hc] at e14
      rw [if_pos ⟨h1, h2, h3, hc⟩, hc]
      refine callK_fn e14 (.pures rfl) ?_
      simp -implicitDefEqProofs only [codeV, go_sem]
    · rw [if_neg hc] at e14
      rw [if_neg (fun e => hc e.2.2.2)]
      refine callK_fn e14 (.pures rfl) ?_
      simp -implicitDefEqProofs only [codeV, go_sem]
end Go.Proofs.Ytgkbafkmbokkaaa
end

section
namespace Go.Proofs.Ytgkbafkmbokkaaa
open Go Go.AM
set_option maxRecDepth 100000
set_option linter.unusedSimpArgs false

theorem least_of {P : Nat → Prop} : ∀ n, (∃ k, k < n ∧ P k) → ∃ k, k < n ∧ P k ∧ ∀ j, j < k → ¬ P j
  | 0, ⟨k, hk, _⟩ => absurd hk (Nat.not_lt_zero k)
  | n + 1, ⟨k, hk, hp⟩ => by
    by_cases h : ∃ k, k < n ∧ P k
    · obtain ⟨j, h1, h2, h3⟩ := least_of n h
      exact ⟨j, by omega, h2, h3⟩
    · have : k = n := by
        apply Classical.byContradiction
        intro hne
        exact h ⟨k, by omega, hp⟩
      subst this
      exact ⟨k, hk, hp, fun j hj hpj => h ⟨j, hj, hpj⟩⟩

/-- Codes whose words are too long are refused for that. -/
theorem long_check {q : Int} {l : List (List UInt8)} (h2 : 2 ≤ q) (h16 : q ≤ 16) (hlen : l.length ≤ 64) (hw : ∀ x ∈ l, x ≠ [] ∧ wordCheck q x = 0) (hx : ∃ x ∈ l, 32 < x.length) : codeCheck q (made l) = 4 := by
  have hml := made_le l
  have hget : ∀ j, j < (made l).length → (made l).getD j [] ∈ l := fun j hj => mem_made.1 (getD_in hj)
  obtain ⟨k, hk, hp, hlow⟩ := least_of (P := fun k => 32 < ((made l).getD k []).length) (made l).length (by
    obtain ⟨x, h1, h2⟩ := hx
    obtain ⟨i, hi, e⟩ := List.getElem_of_mem (mem_made.2 h1)
    exact ⟨i, hi, by show 32 < ((made l).getD i []).length; rw [List.getD_eq_getElem?_getD, List.getElem?_eq_getElem hi, Option.getD_some, e]; exact h2⟩)
  have e4 : wordErr q (made l) k = 4 := by
    unfold wordErr
    simp only
    rw [if_neg (hw _ (hget k hk)).1, if_pos hp]
  rw [codeCheck_at (by omega) (by omega) hk (fun j hj => ?_) (by omega), e4]
  unfold wordErr
  simp only
  obtain ⟨h3, h5⟩ := hw _ (hget j (by omega))
  rw [if_neg h3, if_neg (hlow j hj), if_neg (by simpa using h5), if_neg]
  rintro ⟨hj0, hc⟩
  have h6 : ltW ((made l).getD (j - 1) []) ((made l).getD j []) := by
    have := List.pairwise_iff_getElem.1 (made_strict l) (j - 1) j (by omega) (by omega) (by omega)
    rwa [List.getD_eq_getElem?_getD, List.getElem?_eq_getElem (by omega), Option.getD_some, List.getD_eq_getElem?_getD, List.getElem?_eq_getElem (by omega), Option.getD_some]
  have := (ltW_iff _ _).2 h6
  omega

theorem okW_of {q : Int} {w : List UInt8} (h : wordCheck q w = 0) : okW q w = true := by
  unfold wordCheck at h
  split at h
  · omega
  · split at h
    · omega
    · split at h
      · assumption
      · omega
theorem comp_word {p q : Int} {cs ds : List (List UInt8)} (hv : Valid p cs) (hd : Valid q ds) (hl : (ds.length : Int) = p) {w : List UInt8} (hw : w ∈ cs) : compW ds w ≠ [] ∧ wordCheck q (compW ds w) = 0 := by
  obtain ⟨h1, h2, h3⟩ := hv.words w hw
  have hdig : ∀ b ∈ w, ds.getD (digN b) [] ∈ ds := fun b hb => by
    obtain ⟨i, hi, rfl⟩ := List.getElem_of_mem hb
    have := letter_of h3 hi
    exact getD_in (by unfold digN; omega)
  have hwd : ∀ x ∈ ds, x.length ≤ 32 := fun x hx => (hd.words x hx).2.1
  have hlen := compW_len hwd w
  constructor
  · intro e
    cases w with
    | nil => exact h1 rfl
    | cons b w =>
      have e2 : compW ds (b :: w) = ds.getD (digN b) [] ++ compW ds w := rfl
      rw [e2] at e
      exact (hd.words _ (hdig b (by simp))).1 (List.append_eq_nil_iff.1 e).1
  · have ho : okW q (compW ds w) = true := by
      unfold okW compW
      rw [List.all_eq_true]
      intro b hb
      obtain ⟨l, hl1, hl2⟩ := List.mem_flatten.1 hb
      obtain ⟨c, hc, rfl⟩ := List.mem_map.1 hl1
      have := okW_of (hd.words _ (hdig c hc)).2.2
      unfold okW at this
      rw [List.all_eq_true] at this
      exact this b hl2
    have hq2 := hd.q2
    have hq16 := hd.q16
    unfold wordCheck
    rw [if_neg (by omega), if_neg (by omega), if_pos ho]

set_option maxHeartbeats 1000000 in
theorem u26 (p q : Int) (cs ds : List (List UInt8)) : PFn Try.prog 26 [codeV p cs, codeV q ds] [compQ p q cs ds, .int .i64 (compE p q cs ds)] := by
  refine PFn.of_body hΓ Try.func26 (by kernel_rfl) rfl (AWp.of_awpD [] hΓ hmix (by kernel_rfl) ?_)
  simp -implicitDefEqProofs only [Try.ntmps26, Try.results26, Nat.reduceAdd, Nat.reduceSub, codeV, go_sem]
  refine callK_fn (t45 p cs) (.still rfl) ?_
  by_cases h1 : codeCheck p cs = 0
  rotate_left
  · unfold compQ compE
    rw [if_neg (fun e => h1 e.1), if_neg (fun e => h1 e.1)]
    simp -implicitDefEqProofs only [h1, codeV, go_sem]
  rw [h1]
  simp -implicitDefEqProofs only [go_sem]
  refine callK_fn (t45 q ds) (.still rfl) ?_
  by_cases h2 : codeCheck q ds = 0
  rotate_left
  · unfold compQ compE
    rw [if_neg (fun e => h2 e.2.1), if_neg (fun e => h2 e.2)]
    simp -implicitDefEqProofs only [h2, codeV, go_sem]
  rw [h2]
  by_cases h3 : (ds.length : Int) = p
  rotate_left
  · unfold compQ compE
    rw [if_neg (fun e => h3 e.2.2.1), if_pos ⟨h1, h2⟩, if_neg h3]
    simp -implicitDefEqProofs only [h3, codeV, go_sem]
  have hv := valid_of h1
  have hd := valid_of h2
  have hcl := hv.len
  have hdl := hd.len
  simp -implicitDefEqProofs only [h3, go_sem]
  have hsh : ∀ i (hi : i < cs.length), cs[i].length ≤ 32 := fun i hi => by
    have := hv.short i hi
    rwa [List.getD_eq_getElem?_getD, List.getElem?_eq_getElem hi, Option.getD_some] at this
  have hwd : ∀ x ∈ ds, x.length ≤ 32 := fun x hx => (hd.words x hx).2.1
  refine AWp.adopt (l := []) 6 9 1 (by rfl) (by simp) ?_
  simp -implicitDefEqProofs only [go_sem]
  refine AWp.loopI (fun k : Nat => ⟨mkF 68 [(2, .ptr 0 0), (3, .ptr 1 0), (4, .ptr 2 0), (5, .p (.int .i64 0)), (6, .own 3 k), (31, .p (.sl (cs.map .str))), (32, .p (.int .i64 cs.length)), (33, .p (.int .i64 k))], codeB p cs :: codeB q ds :: .box [.p (.int .i64 0), .full []] :: .row 9 1 ((compL (cs.take k) ds).map .str) .lax :: List.replicate k .dead⟩)
    (fun k => k ≤ cs.length ∧ ∀ x ∈ compL (cs.take k) ds, x.length ≤ 32) (fun k => cs.length - k) 0 (by simp [go_sem, codeB, compL]) (by simp [compL]) ?_
  rintro k ⟨hk, hlow⟩
  obtain ⟨D, hD⟩ : ∃ D : List AObj, D = List.replicate k .dead := ⟨_, rfl⟩
  have hDk : D.map (AObj.kill 3) = D := by rw [hD]; simp [AObj.kill]
  have gL : ∀ o : AObj, (D ++ [o])[D.length]? = some o := fun o => by simp
  by_cases hlt : k < cs.length
  · rw [← hD]
    refine AWp.of_awpD [(13, 9)] hΓ hmix (by kernel_rfl) ?_
    simp -implicitDefEqProofs only [hlt, getD_map_lt, ↓reduceIte, codeB, go_sem]
    have hkl := hsh k hlt
    refine ⟨by omega, ?_⟩
    refine AWp.loopI (fun j : Nat => ⟨mkF 68 [(2, .ptr 0 0), (3, .ptr 1 0), (4, .ptr 2 0), (5, .p (.int .i64 0)), (6, .own 3 k), (8, .p (.str cs[k])), (9, .p (.str (compW ds (cs[k].take j)))), (31, .p (.sl (cs.map .str))), (32, .p (.int .i64 cs.length)), (33, .p (.int .i64 k)), (38, .own (D.length + 1 + 1 + 1 + 1) cs[k].length), (39, .p (.int .i64 cs[k].length)), (40, .p (.int .i64 j))], codeB p cs :: codeB q ds :: .box [.p (.int .i64 0), .full []] :: .row 9 1 ((compL (cs.take k) ds).map .str) .lax :: (D ++ [AObj.row 5 1 (cs[k].map u8V) .raw])⟩)
      (fun j => j ≤ cs[k].length) (fun j => cs[k].length - j) 0 (by simp [go_sem, codeB, compW, weakH_self]) (by simp) ?_
    intro j hj
    refine AWp.of_awpD [(13, 9)] hΓ hmix (by kernel_rfl) ?_
    by_cases hlt2 : j < cs[k].length
    · have hu : (cs[k].map u8V).getD j default = .int .u8 cs[k][j].toNat := by rw [getD_map_lt _ _ _ _ hlt2]; rfl
      have hlet := letter_of (hv.words _ (List.getElem_mem hlt)).2.2 hlt2
      have hdn : digN cs[k][j] < ds.length := by unfold digN; omega
      have hg : (ds.map PV.str).getD (ixB cs[k][j] L16 0).toNat default = .str (ds.getD (digN cs[k][j]) []) := by
        show (ds.map PV.str).getD (digN cs[k][j]) default = _
        rw [getD_map_lt _ _ _ _ hdn, List.getD_eq_getElem?_getD, List.getElem?_eq_getElem hdn]; rfl
      have hw1 := compW_len hwd (cs[k].take j)
      have hw2 : (ds.getD (digN cs[k][j]) []).length ≤ 32 := hwd _ (getD_in hdn)
      have e101 := t101 L16 cs[k][j].toNat
      have eb : ((cs[k][j].toNat : Nat) : Int).toNat.toUInt8 = cs[k][j] := by simp
      rw [eb] at e101
      simp -implicitDefEqProofs only [hlt, hlt2, hu, gL, ↓reduceIte, codeB, go_sem]
      refine callVPK_fn e101 (.pures rfl) ?_
      simp -implicitDefEqProofs only [hlt, hlt2, hg, ↓reduceIte, codeB, go_sem]
      rw [List.length_take] at hw1
      refine ⟨by omega, by omega, by simp only [InR]; omega, j + 1, ⟨⟨compW_take ds cs[k] hlt2, by omega⟩, weakH_self _⟩, hlt2, by omega⟩
    · rw [show cs[k].take j = cs[k] from List.take_of_length_le (by omega)]
      by_cases hlong : (32 : Int) < (compW ds cs[k]).length
      · simp -implicitDefEqProofs only [hlt, hlt2, hlong, ↓reduceIte, codeB, go_sem]
        have h4 : codeCheck q (made (compL cs ds)) = 4 := long_check hd.q2 hd.q16 (by simp [compL]; omega) (fun x hx => by
          obtain ⟨w, hw, rfl⟩ := List.mem_map.1 hx
          exact comp_word hv hd h3 hw) ⟨compW ds cs[k], List.mem_map.2 ⟨_, List.getElem_mem hlt, rfl⟩, by omega⟩
        unfold compQ compE
        rw [if_neg (fun e => by have := e.2.2.2; omega), if_pos (show codeCheck p cs = 0 ∧ codeCheck q ds = 0 from ⟨h1, h2⟩), if_pos h3, h4]
        exact ⟨rfl, rfl⟩
      · simp -implicitDefEqProofs only [hlt, hlt2, hlong, ↓reduceIte, codeB, hDk, List.map_append, go_sem]
        have hs : compL (cs.take (k + 1)) ds = compL (cs.take k) ds ++ [compW ds cs[k]] := by
          unfold compL; rw [List.take_succ_eq_append_getElem hlt, List.map_append]; rfl
        refine ⟨⟨size_str [_], by omega⟩, ⟨size_str [_], one_str [_]⟩, ⟨.inl (by omega), by omega, by omega⟩, by simp only [InR]; omega, k + 1, ⟨⟨by omega, by omega⟩, ?_, ?_⟩, ⟨hlt, fun x hx => ?_⟩, by omega⟩
        · rw [hs]; simp
        · rw [hD, List.replicate_succ']
          exact weakH_snoc (.inl rfl) _
        · rw [hs] at hx
          rcases List.mem_append.1 hx with hx | hx
          · exact hlow x hx
          · rw [List.mem_singleton] at hx; subst hx; omega
  · refine AWp.freeze 3 rfl ?_
    rw [List.take_of_length_le (by omega)]
    refine AWp.of_awpD [] hΓ hmix (by kernel_rfl) ?_
    simp -implicitDefEqProofs only [hlt, codeB, Frozen, go_sem]
    have e13 := t71 q (compL cs ds) (by simp [compL]; omega)
    unfold compQ compE
    rw [if_pos (show codeCheck p cs = 0 ∧ codeCheck q ds = 0 from ⟨h1, h2⟩), if_pos h3]
    by_cases hc : codeCheck q (made (compL cs ds)) = 0
    · rw [if_pos hc, hc] at e13
      rw [if_pos ⟨h1, h2, h3, hc⟩, hc]
      refine callK_fn e13 (.pures rfl) ?_
      simp -implicitDefEqProofs only [codeV, go_sem]
    · rw [if_neg hc] at e13
      rw [if_neg (fun e => hc e.2.2.2)]
      refine callK_fn e13 (.pures rfl) ?_
      simp -implicitDefEqProofs only [codeV, go_sem]
end Go.Proofs.Ytgkbafkmbokkaaa
end

section
namespace Go.Proofs.Ytgkbafkmbokkaaa
open Go Go.AM
set_option maxRecDepth 100000
set_option linter.unusedSimpArgs false

theorem small_of {ws : List (List UInt8)} (h : (greatC ws || ws.any greatW) = false) : ws.length ≤ 65 := by
  simp only [Bool.or_eq_false_iff, greatC, Bool.and_eq_false_iff, decide_eq_false_iff_not] at h
  omega

theorem u3 (p q : Int) (ws l : List (List UInt8)) (hws : ws.length ≤ 9223372036854775807) (hl : l.length ≤ 9223372036854775807) : PFn Try.prog 3 [codeV p ws, .int .i64 q, .sl (l.map .str)] [.bool true] := by
  refine PFn.of_body hΓ Try.func3 (by kernel_rfl) rfl (AWp.of_awpD [(11, 54)] hΓ hmix (by kernel_rfl) ?_)
  simp -implicitDefEqProofs only [Try.ntmps3, Try.results3, Nat.reduceAdd, Nat.reduceSub, codeV, go_sem]
  refine callK_fn (t11 p ws hws) (.still rfl) ?_
  cases hg : (greatC ws || ws.any greatW)
  rotate_left
  · simp -implicitDefEqProofs only [go_sem]
    refine callK_fn awake_ok (.pures rfl) ?_
    simp -implicitDefEqProofs only [go_sem]
  simp -implicitDefEqProofs only [go_sem]
  refine callK_fn (t11 0 l hl) (.still rfl) ?_
  cases hg2 : (greatC l || l.any greatW)
  rotate_left
  · simp -implicitDefEqProofs only [go_sem]
    refine callK_fn awake_ok (.pures rfl) ?_
    simp -implicitDefEqProofs only [go_sem]
  simp -implicitDefEqProofs only [go_sem]
  have hl2 := small_of hg2
  have e13 := t71 q l (by omega)
  have e14 := u14 q l (by omega)
  obtain ⟨mq, mw, hm, hmw⟩ : ∃ mq mw, (if codeCheck q (made l) = 0 then codeV q (made l) else codeV 0 []) = codeV mq mw ∧ mw.length ≤ 9223372036854775807 := by
    by_cases hc : codeCheck q (made l) = 0
    · exact ⟨q, made l, if_pos hc, by have := made_le l; omega⟩
    · exact ⟨0, [], if_neg hc, by simp⟩
  rw [hm] at e13 e14
  generalize codeCheck q (made l) = ec at e13 e14
  have e15 := t38 p ws
  have e16 := u16 p ws
  generalize (if codeCheck p ws = 0 then aloneB (fun w x => x.isPrefixOf w) ws else false) = bp at e15 e16
  have e17 := u17 p ws
  have e18 := u18 p ws
  generalize (if codeCheck p ws = 0 then aloneB (fun w x => x.isSuffixOf w) ws else false) = bs at e17 e18
  have e19 := u19 p ws
  have e20 := u20 p ws
  generalize (if codeCheck p ws = 0 then ((ws.getD 0 []).length : Int) else 0) = n1 at e19 e20
  generalize (if codeCheck p ws = 0 then ((ws.getD (ws.length - 1) []).length : Int) else 0) = n2 at e19 e20
  generalize (if codeCheck p ws = 0 then (0 : Int) else 1) = er at e15 e16 e17 e18 e19 e20
  have e21 := t45 p ws
  have e22 := t44 p ws
  generalize codeCheck p ws = cc at e21 e22
  have e23 := u23 mq mq mw mw hmw
  rw [decide_eq_true ⟨rfl, rfl⟩] at e23
  refine callK_fn e13 (.pures rfl) ?_
  simp -implicitDefEqProofs only [codeV, go_sem]
  refine callK_fn e14 (.pures rfl) ?_
  simp -implicitDefEqProofs only [codeV, go_sem]
  refine callK_fn e15 (.still rfl) ?_
  simp -implicitDefEqProofs only [go_sem]
  refine callK_fn e16 (.still rfl) ?_
  simp -implicitDefEqProofs only [go_sem]
  refine callK_fn e17 (.still rfl) ?_
  simp -implicitDefEqProofs only [go_sem]
  refine callK_fn e18 (.still rfl) ?_
  simp -implicitDefEqProofs only [go_sem]
  refine callK_fn e19 (.still rfl) ?_
  simp -implicitDefEqProofs only [go_sem]
  refine callK_fn e20 (.still rfl) ?_
  simp -implicitDefEqProofs only [go_sem]
  refine callVPK_fn e21 (.still rfl) ?_
  simp -implicitDefEqProofs only [go_sem]
  refine callVPK_fn e22 (.still rfl) ?_
  simp -implicitDefEqProofs only [beq_self_eq_true, go_sem]
  refine callVPK_fn e23 (.still rfl) ?_
  simp -implicitDefEqProofs only [beq_self_eq_true, go_sem]
  refine callVPK_fn awake_ok (.pures rfl) ?_
  simp -implicitDefEqProofs only [go_sem]
end Go.Proofs.Ytgkbafkmbokkaaa
end

section
namespace Go.Proofs.Ytgkbafkmbokkaaa
open Go Go.AM
set_option maxRecDepth 100000
set_option linter.unusedSimpArgs false

theorem u4 (p q : Int) (cs ds : List (List UInt8)) (hcs : cs.length ≤ 9223372036854775807) (hds : ds.length ≤ 9223372036854775807) : PFn Try.prog 4 [codeV p cs, codeV q ds] [.bool true] := by
  refine PFn.of_body hΓ Try.func4 (by kernel_rfl) rfl (AWp.of_awpD [] hΓ hmix (by kernel_rfl) ?_)
  simp +contextual -implicitDefEqProofs only [codeV, Try.ntmps4, Try.results4, Nat.reduceAdd, Nat.reduceSub, go_sem]
  refine callK_fn (t11 p cs hcs) (.still rfl) ?_
  cases hg : (greatC cs || cs.any greatW)
  rotate_left
  · simp -implicitDefEqProofs only [go_sem]
    refine callK_fn awake_ok (.pures rfl) ?_
    simp -implicitDefEqProofs only [go_sem]
  simp -implicitDefEqProofs only [go_sem]
  refine callK_fn (t11 q ds hds) (.still rfl) ?_
  cases hg2 : (greatC ds || ds.any greatW)
  rotate_left
  · simp -implicitDefEqProofs only [go_sem]
    refine callK_fn awake_ok (.pures rfl) ?_
    simp -implicitDefEqProofs only [go_sem]
  simp -implicitDefEqProofs only [go_sem]
  have hl1 := small_of hg
  have hl2 := small_of hg2
  have e24 := t39 p cs
  have e25 := u25 p cs
  have e26 := u26 p q cs ds
  have e27 := u27 p q cs ds
  obtain ⟨rq, rw', hr, hrl⟩ : ∃ rq rw', (if codeCheck p cs = 0 then (if codeCheck p (made (revs cs)) = 0 then codeV p (made (revs cs)) else codeV 0 []) else codeV 0 []) = codeV rq rw' ∧ rw'.length ≤ 9223372036854775807 := by
    have h0 := made_le (revs cs)
    have h00 : (revs cs).length = cs.length := by simp [revs]
    by_cases h1 : codeCheck p cs = 0
    · by_cases h2 : codeCheck p (made (revs cs)) = 0
      · exact ⟨p, made (revs cs), by rw [if_pos h1, if_pos h2], by omega⟩
      · exact ⟨0, [], by rw [if_pos h1, if_neg h2], by simp⟩
    · exact ⟨0, [], by rw [if_neg h1], by simp⟩
  obtain ⟨xq, xw, hx, hxl⟩ : ∃ xq xw, compQ p q cs ds = codeV xq xw ∧ xw.length ≤ 9223372036854775807 := by
    have h0 := made_le (compL cs ds)
    have h00 : (compL cs ds).length = cs.length := by simp [compL]
    unfold compQ
    by_cases h1 : codeCheck p cs = 0 ∧ codeCheck q ds = 0 ∧ (ds.length : Int) = p ∧ codeCheck q (made (compL cs ds)) = 0
    · exact ⟨q, made (compL cs ds), by rw [if_pos h1], by omega⟩
    · exact ⟨0, [], by rw [if_neg h1], by simp⟩
  rw [hr] at e24 e25
  rw [hx] at e26 e27
  generalize (if codeCheck p cs = 0 then codeCheck p (made (revs cs)) else 1) = er at e24 e25
  generalize compE p q cs ds = ex at e26 e27
  have e23 := u23 rq rq rw' rw' hrl
  have e23x := u23 xq xq xw xw hxl
  rw [decide_eq_true ⟨rfl, rfl⟩] at e23 e23x
  refine callK_fn e24 (.still rfl) ?_
  simp -implicitDefEqProofs only [codeV, go_sem]
  refine callK_fn e25 (.still rfl) ?_
  simp -implicitDefEqProofs only [codeV, go_sem]
  refine callK_fn e26 (.still rfl) ?_
  simp -implicitDefEqProofs only [codeV, go_sem]
  refine callK_fn e27 (.still rfl) ?_
  simp -implicitDefEqProofs only [codeV, go_sem]
  refine callK_fn e23 (.still rfl) ?_
  simp -implicitDefEqProofs only [codeV, go_sem]
  refine callK_fn e23x (.still rfl) ?_
  simp -implicitDefEqProofs only [codeV, go_sem]
  refine callK_fn awake_ok (.pures rfl) ?_
  simp -implicitDefEqProofs only [go_sem]
end Go.Proofs.Ytgkbafkmbokkaaa
end

section
namespace Go.Proofs.Ytgkbafkmbokkaaa
open Go Go.AM
set_option maxRecDepth 100000
set_option linter.unusedSimpArgs false

theorem alone_iff {pr : List UInt8 → List UInt8 → Bool} {ws : List (List UInt8)} (hd : ws.Nodup) : aloneB pr ws = true ↔ ∀ x ∈ ws, ∀ y ∈ ws, pr x y = true → x = y := by
  have get : ∀ i (h : i < ws.length), ws.getD i [] = ws[i] := fun i h => by rw [List.getD_eq_getElem?_getD, List.getElem?_eq_getElem h, Option.getD_some]
  unfold aloneB aloneN aloneTo
  simp only [List.all_eq_true, List.mem_range, Bool.or_eq_true, decide_eq_true_eq, Bool.not_eq_true']
  constructor
  · intro h x hx y hy hp
    obtain ⟨i, hi, rfl⟩ := List.getElem_of_mem hx
    obtain ⟨k, hk, rfl⟩ := List.getElem_of_mem hy
    rcases h i hi k hk with e | e
    · subst e; rfl
    · rw [get i hi, get k hk, hp] at e; cases e
  · intro h i hi k hk
    by_cases e : i = k
    · exact .inl e
    · right
      rw [get i hi, get k hk]
      cases hp : pr ws[i] ws[k] with
      | false => rfl
      | true =>
        have := h _ (List.getElem_mem hi) _ (List.getElem_mem hk) hp
        have hp := List.pairwise_iff_getElem.1 (show ws.Pairwise (· ≠ ·) from hd)
        rcases Nat.lt_trichotomy i k with hik | hik | hik
        · exact absurd this (hp i k hi hk hik)
        · exact absurd hik e
        · exact absurd this.symm (hp k i hk hi hik)
theorem strict_nodup {ws : List (List UInt8)} (h : ws.Pairwise ltW) : ws.Nodup := List.Pairwise.imp (fun {a b} (hab : ltW a b) (e : a = b) => ltW_irrefl b (by rw [e] at hab; exact hab)) h
/-- A suffix code exactly if the reversed one is a prefix code. -/
theorem alone_rev {ws : List (List UInt8)} (hs : ws.Pairwise ltW) : aloneB (fun w x => x.isPrefixOf w) (made (revs ws)) = aloneB (fun w x => x.isSuffixOf w) ws := by
  have h1 := alone_iff (pr := fun w x => x.isPrefixOf w) (strict_nodup (made_strict (revs ws)))
  have h2 := alone_iff (pr := fun w x => x.isSuffixOf w) (strict_nodup hs)
  rw [Bool.eq_iff_iff, h1, h2]
  have hm : ∀ x, x ∈ made (revs ws) ↔ x.reverse ∈ ws := fun x => by
    rw [mem_made]
    unfold revs
    rw [List.mem_map]
    constructor
    · rintro ⟨a, ha, rfl⟩; simpa using ha
    · intro h; exact ⟨_, h, by simp⟩
  constructor
  · intro h x hx y hy hp
    have := h x.reverse ((hm _).2 (by simpa using hx)) y.reverse ((hm _).2 (by simpa using hy)) (List.isPrefixOf_iff_prefix.2 (List.reverse_prefix.2 (List.isSuffixOf_iff_suffix.1 hp)))
    simpa using congrArg List.reverse this
  · intro h x hx y hy hp
    have := h x.reverse ((hm _).1 hx) y.reverse ((hm _).1 hy) (List.isSuffixOf_iff_suffix.2 (List.reverse_suffix.2 (List.isPrefixOf_iff_prefix.1 hp)))
    simpa using congrArg List.reverse this
theorem alone_cnt {ws : List (List UInt8)} (hn : ∀ x ∈ ws, x ≠ []) (hs : ws.Pairwise ltW) (h : aloneB (fun w x => x.isPrefixOf w) ws = true ∨ aloneB (fun w x => x.isSuffixOf w) ws = true) (w : List UInt8) : cnt ws w ≤ 1 := by
  have hd := strict_nodup hs
  refine cnt_one hn hd ?_ w
  rcases h with h | h
  · left
    intro x hx y hy hp
    exact ((alone_iff hd).1 h y hy x hx (List.isPrefixOf_iff_prefix.2 hp)).symm
  · right
    intro x hx y hy hp
    exact ((alone_iff hd).1 h y hy x hx (List.isSuffixOf_iff_suffix.2 hp)).symm

set_option maxHeartbeats 4000000 in
theorem u6 (q : Int) (ws : List (List UInt8)) (w : List UInt8) (hws : ws.length ≤ 9223372036854775807) : PFn Try.prog 6 [codeV q ws, .str w] [.bool true] := by
  refine PFn.of_body hΓ Try.func6 (by kernel_rfl) rfl (AWp.of_awpD [(24, 16)] hΓ hmix (by kernel_rfl) ?_)
  simp +contextual -implicitDefEqProofs only [codeV, Try.ntmps6, Try.results6, Nat.reduceAdd, Nat.reduceSub, go_sem]
  refine callK_fn (u28 q ws hws) (.still rfl) ?_
  cases hf : fineB q ws
  · simp -implicitDefEqProofs only [go_sem]
    refine callK_fn awake_ok (.pures rfl) ?_
    simp -implicitDefEqProofs only [go_sem]
  simp only [fineB, Bool.and_eq_true, decide_eq_true_eq] at hf
  have h := hf.2
  have hv := valid_of h
  have hlen := hv.len
  have hpos := hv.pos
  by_cases hwl : (20 : Int) < w.length
  · simp -implicitDefEqProofs only [hwl, go_sem]
    refine callK_fn awake_ok (.pures rfl) ?_
    simp -implicitDefEqProofs only [go_sem]
  have hr := rev_valid hv
  have e38 := t38 q ws
  have e17 := u17 q ws
  have e39 := t39 q ws
  have e38r := t38 q (made (revs ws))
  rw [if_pos h, if_pos h] at e38 e17 e39
  rw [if_pos hr, hr] at e39
  rw [if_pos hr, if_pos hr, alone_rev hv.strict] at e38r
  simp -implicitDefEqProofs only [hwl, go_sem]
  refine callK_fn e38 (.still rfl) ?_
  simp -implicitDefEqProofs only [go_sem]
  refine callK_fn e17 (.still rfl) ?_
  simp -implicitDefEqProofs only [go_sem]
  refine callK_fn e39 (.still rfl) ?_
  simp -implicitDefEqProofs only [codeV, go_sem]
  refine callK_fn e38r (.still rfl) ?_
  simp -implicitDefEqProofs only [ite_self, bne_self_eq_false, go_sem]
  clear e38 e17 e39 e38r
  generalize hS : aloneB (fun w x => x.isSuffixOf w) ws = S
  generalize hP : aloneB (fun w x => x.isPrefixOf w) ws = P
  refine AWp.loopI (fun i : Nat => ⟨mkF 121 [(1, .p (.str w)), (2, .ptr 0 0), (5, .p (.bool P)), (7, .p (.bool S)), (13, .p (.bool (!aloneN (fun w x => x.isPrefixOf w) ws i))), (61, .p (.sl (ws.map .str))), (62, .p (.int .i64 ws.length)), (63, .p (.int .i64 i))], [codeB q ws, codeB q (made (revs ws))]⟩)
    (fun i => i ≤ ws.length) (fun i => ws.length - i) 0 (by simp [go_sem, codeB, aloneN]) (by omega) ?_
  intro i hi
  refine AWp.of_awpD [(24, 16)] hΓ hmix (by kernel_rfl) ?_
  by_cases hlt : i < ws.length
  · simp -implicitDefEqProofs only [hlt, getD_map_lt, ↓reduceIte, codeB, go_sem]
    have hwi : ws.getD i [] = ws[i] := by rw [List.getD_eq_getElem?_getD, List.getElem?_eq_getElem hlt, Option.getD_some]
    refine AWp.loopI (fun k : Nat => ⟨mkF 121 [(1, .p (.str w)), (2, .ptr 0 0), (5, .p (.bool P)), (7, .p (.bool S)), (13, .p (.bool (!(aloneN (fun w x => x.isPrefixOf w) ws i && aloneTo (fun w x => x.isPrefixOf w) ws i k)))), (14, .p (.int .i64 i)), (15, .p (.str ws[i])), (61, .p (.sl (ws.map .str))), (62, .p (.int .i64 ws.length)), (63, .p (.int .i64 i)), (69, .p (.sl (ws.map .str))), (70, .p (.int .i64 ws.length)), (71, .p (.int .i64 k))], [codeB q ws, codeB q (made (revs ws))]⟩)
      (fun k => k ≤ ws.length) (fun k => ws.length - k) 0 (by simp [go_sem, codeB, aloneTo]) (by omega) ?_
    intro k hk
    refine AWp.of_awpD [(24, 16)] hΓ hmix (by kernel_rfl) ?_
    by_cases hlt2 : k < ws.length
    · have hwk : ws.getD k [] = ws[k] := by rw [List.getD_eq_getElem?_getD, List.getElem?_eq_getElem hlt2, Option.getD_some]
      have hto := aloneTo_succ (fun w x => x.isPrefixOf w) ws i k
      rw [hwi, hwk] at hto
      cases hb : (aloneN (fun w x => x.isPrefixOf w) ws i && aloneTo (fun w x => x.isPrefixOf w) ws i k)
      · have hb' : (aloneN (fun w x => x.isPrefixOf w) ws i && aloneTo (fun w x => x.isPrefixOf w) ws i (k + 1)) = false := by
          rw [hto, ← Bool.and_assoc, hb]; rfl
        simp -implicitDefEqProofs only [hlt, hlt2, getD_map_lt, ↓reduceIte, codeB, Bool.not_false, go_sem]
        exact ⟨by simp only [InR]; omega, k + 1, ⟨by rw [hb']; rfl, by omega⟩, hlt2, by omega⟩
      · by_cases hik : (i : Int) = k
        · have hb' : (aloneN (fun w x => x.isPrefixOf w) ws i && aloneTo (fun w x => x.isPrefixOf w) ws i (k + 1)) = true := by
            rw [hto, ← Bool.and_assoc, hb, decide_eq_true (show i = k by omega)]; rfl
          simp -implicitDefEqProofs only [hlt, hlt2, getD_map_lt, ↓reduceIte, codeB, Bool.not_true, hik, go_sem]
          exact ⟨by simp only [InR]; omega, k + 1, ⟨by rw [hb']; rfl, by omega⟩, hlt2, by omega⟩
        · have hb' : (aloneN (fun w x => x.isPrefixOf w) ws i && aloneTo (fun w x => x.isPrefixOf w) ws i (k + 1)) = !ws[k].isPrefixOf ws[i] := by
            rw [hto, ← Bool.and_assoc, hb, decide_eq_false (show ¬ i = k by omega)]; simp
          simp -implicitDefEqProofs only [hlt, hlt2, getD_map_lt, ↓reduceIte, codeB, Bool.not_true, hik, go_sem]
          refine callK_fn (t69 ws[i] ws[k]) (.pures rfl) ?_
          simp -implicitDefEqProofs only [hlt, hlt2, getD_map_lt, ↓reduceIte, codeB, Bool.not_true, hik, go_sem]
          exact ⟨by simp only [InR]; omega, k + 1, ⟨by rw [hb', Bool.not_not], by omega⟩, hlt2, by omega⟩
    · have hkn : k = ws.length := by omega
      have hz : ¬ (ws.length : Int) < ws.length := by omega
      have := aloneN_succ (fun w x => x.isPrefixOf w) ws i
      rw [hkn, ← this]
      simp -implicitDefEqProofs only [hz, codeB, go_sem]
      exact ⟨by simp only [InR]; omega, i + 1, ⟨rfl, by omega⟩, hlt, by omega⟩
  · have hin : i = ws.length := by omega
    have hz : ¬ (ws.length : Int) < ws.length := by omega
    have hal : aloneN (fun w x => x.isPrefixOf w) ws ws.length = P := hP
    rw [hin, hal]
    have hpe : (P == !P) = false := by cases P <;> rfl
    simp -implicitDefEqProofs only [hz, codeB, hpe, go_sem]
    have e32 := u32 q ws w (fun _ x hx => (hv.words x hx).1) (fun _ => by omega) (fun _ _ => by omega)
    rw [if_pos h] at e32
    by_cases h2 : wordCheck q w = 0
    · rw [if_pos h2, intN_pos] at e32
      refine callK_fn e32 (.still rfl) ?_
      cases hPS : (P || S)
      · have hP0 : P = false := by cases P <;> simp_all
        have hS0 : S = false := by cases S <;> simp_all
        rw [hP0, hS0]
        simp -implicitDefEqProofs only [go_sem]
        refine callVPK_fn awake_ok (.pures rfl) ?_
        simp -implicitDefEqProofs only [go_sem]
      · have hone : cnt ws w ≤ 1 := alone_cnt (fun x hx => (hv.words x hx).1) hv.strict (by
          rw [hP, hS]
          cases P
          · right; simpa using hPS
          · left; rfl) w
        have e1 := u34 1 (by omega)
        have e33 := u33 (cnt ws w) 1 (cap_41 (Nat.le_trans hone (by decide))) (cap_41 (by decide))
        have hle : cmpN (cnt ws w) 1 ≤ 0 := by
          unfold cmpN
          split
          · decide
          · rw [if_pos (by omega)]; decide
        rw [intN_pos] at e1
        rw [intN_pos, intN_pos] at e33
        have hPS' : (!P && !S) = false := by cases P <;> cases S <;> simp_all
        cases P
        · have hS1 : S = true := by simpa using hPS
          rw [hS1]
          simp -implicitDefEqProofs only [go_sem]
          refine callVPK_fn e1 (.pures rfl) ?_
          simp -implicitDefEqProofs only [go_sem]
          refine callVPK_fn e33 (.still rfl) ?_
          simp -implicitDefEqProofs only [hle, go_sem]
          refine callVPK_fn awake_ok (.pures rfl) ?_
          simp -implicitDefEqProofs only [go_sem]
        · simp -implicitDefEqProofs only [go_sem]
          refine callVPK_fn e1 (.pures rfl) ?_
          simp -implicitDefEqProofs only [go_sem]
          refine callVPK_fn e33 (.still rfl) ?_
          simp -implicitDefEqProofs only [hle, go_sem]
          refine callVPK_fn awake_ok (.pures rfl) ?_
          simp -implicitDefEqProofs only [go_sem]
    · rw [if_neg h2, intN_pos] at e32
      refine callK_fn e32 (.still rfl) ?_
      simp -implicitDefEqProofs only [h2, magB_zero, go_sem]
      refine aggE_ok (v := .p (.bool true)) (by kernel_rfl) ?_
      simp -implicitDefEqProofs only [go_sem]
      refine callK_fn awake_ok (.pures rfl) ?_
      simp -implicitDefEqProofs only [go_sem]
end Go.Proofs.Ytgkbafkmbokkaaa
end

section
namespace Go.Proofs.Ytgkbafkmbokkaaa
open Go Go.AM
set_option maxRecDepth 100000
set_option linter.unusedSimpArgs false

theorem ixB_hit (c : UInt8) : ∀ (l : List UInt8) (n : Nat), 0 ≤ ixB c l n → ∃ k : Nat, ixB c l n = ((n + k : Nat) : Int) ∧ l.getD k 0 = c
  | [], n, h => by simp [ixB] at h
  | a :: l, n, h => by
    unfold ixB at h ⊢
    split at h
    · rename_i hb
      refine ⟨0, rfl, ?_⟩
      have := Nat.eq_of_beq_eq_true hb
      simp only [List.getD_cons_zero]
      exact UInt8.toNat_inj.1 this
    · obtain ⟨k, h1, h2⟩ := ixB_hit c l (n + 1) h
      exact ⟨k + 1, by rw [h1]; congr 1; omega, by simpa using h2⟩
theorem digN_inj {b c : UInt8} (hb : 0 ≤ ixB b L16 0) (hc : 0 ≤ ixB c L16 0) (h : digN b = digN c) : b = c := by
  obtain ⟨k, h1, h2⟩ := ixB_hit b L16 0 hb
  obtain ⟨m, h3, h4⟩ := ixB_hit c L16 0 hc
  unfold digN at h
  rw [h1, h3] at h
  have : k = m := by omega
  rw [← h2, ← h4, this]
def LetOK (p : Int) (w : List UInt8) : Prop := ∀ b ∈ w, 0 ≤ ixB b L16 0 ∧ ixB b L16 0 < p
theorem letOK_of {p : Int} {w : List UInt8} (h : wordCheck p w = 0) : LetOK p w := fun b hb => by
  obtain ⟨i, hi, rfl⟩ := List.getElem_of_mem hb
  exact letter_of h hi

theorem comp_prefix {p q : Int} {ds : List (List UInt8)} (hd : Valid q ds) (hl : (ds.length : Int) = p) (hpf : ∀ x ∈ ds, ∀ y ∈ ds, x <+: y → x = y) : ∀ (u v : List UInt8), LetOK p u → LetOK p v → compW ds u <+: compW ds v → u <+: v
  | [], v, _, _, _ => List.nil_prefix
  | b :: u, [], hu, _, h => by
    have hb := hu b (by simp)
    have e : compW ds (b :: u) = ds.getD (digN b) [] ++ compW ds u := rfl
    rw [e] at h
    have h0 := List.prefix_nil.1 h
    exact absurd (List.append_eq_nil_iff.1 h0).1 (hd.ne _ (by unfold digN; omega))
  | b :: u, c :: v, hu, hv, h => by
    have hb := hu b (by simp)
    have hc := hv c (by simp)
    have hbl : digN b < ds.length := by unfold digN; omega
    have hcl : digN c < ds.length := by unfold digN; omega
    have e1 : compW ds (b :: u) = ds.getD (digN b) [] ++ compW ds u := rfl
    have e2 : compW ds (c :: v) = ds.getD (digN c) [] ++ compW ds v := rfl
    rw [e1, e2] at h
    have hm1 : ds.getD (digN b) [] ∈ ds := getD_in hbl
    have hm2 : ds.getD (digN c) [] ∈ ds := getD_in hcl
    have he : ds.getD (digN b) [] = ds.getD (digN c) [] := by
      rcases List.prefix_or_prefix_of_prefix ((List.prefix_append _ _).trans h) (List.prefix_append (ds.getD (digN c) []) (compW ds v)) with h1 | h1
      · exact hpf _ hm1 _ hm2 h1
      · exact (hpf _ hm2 _ hm1 h1).symm
    have hbc : digN b = digN c := by
      rcases Nat.lt_trichotomy (digN b) (digN c) with h1 | h1 | h1
      · have := hd.lt _ _ h1 hcl; rw [he] at this; exact absurd this (ltW_irrefl _)
      · exact h1
      · have := hd.lt _ _ h1 hbl; rw [he] at this; exact absurd this (ltW_irrefl _)
    have := digN_inj hb.1 hc.1 hbc
    subst this
    have h2 := (List.prefix_append_right_inj _).1 h
    obtain ⟨t, ht⟩ := comp_prefix hd hl hpf u v (fun x hx => hu x (by simp [hx])) (fun x hx => hv x (by simp [hx])) h2
    exact ⟨t, by rw [← ht]; rfl⟩

theorem nodup_map_on {α β : Type} {f : α → β} : ∀ {l : List α}, (∀ a ∈ l, ∀ b ∈ l, f a = f b → a = b) → l.Nodup → (l.map f).Nodup
  | [], _, _ => by simp
  | a :: l, hf, h => by
    rw [List.nodup_cons] at h
    rw [List.map_cons, List.nodup_cons]
    refine ⟨fun hm => ?_, nodup_map_on (fun x hx y hy => hf x (by simp [hx]) y (by simp [hy])) h.2⟩
    obtain ⟨b, hb, e⟩ := List.mem_map.1 hm
    exact h.1 (hf b (by simp [hb]) a (by simp) e ▸ hb)

theorem comp_alone {p q : Int} {cs ds : List (List UInt8)} (hv : Valid p cs) (hd : Valid q ds) (hl : (ds.length : Int) = p) (h1 : aloneB (fun w x => x.isPrefixOf w) cs = true) (h2 : aloneB (fun w x => x.isPrefixOf w) ds = true) :
    aloneB (fun w x => x.isPrefixOf w) (made (compL cs ds)) = true ∧ (made (compL cs ds)).length = cs.length := by
  have hc := (alone_iff (strict_nodup hv.strict)).1 h1
  have hdd := (alone_iff (strict_nodup hd.strict)).1 h2
  have hpf : ∀ x ∈ ds, ∀ y ∈ ds, x <+: y → x = y := fun x hx y hy h => (hdd y hy x hx (List.isPrefixOf_iff_prefix.2 h)).symm
  have key : ∀ u ∈ cs, ∀ v ∈ cs, compW ds u <+: compW ds v → u = v := fun u hu v hv' h => by
    have := comp_prefix hd hl hpf u v (letOK_of (hv.words u hu).2.2) (letOK_of (hv.words v hv').2.2) h
    exact (hc v hv' u hu (List.isPrefixOf_iff_prefix.2 this)).symm
  constructor
  · refine (alone_iff (strict_nodup (made_strict _))).2 fun x hx y hy h => ?_
    obtain ⟨u, hu, rfl⟩ := List.mem_map.1 (mem_made.1 hx)
    obtain ⟨v, hv', rfl⟩ := List.mem_map.1 (mem_made.1 hy)
    rw [key v hv' u hu (List.isPrefixOf_iff_prefix.1 h)]
  · have hnd : (compL cs ds).Nodup := nodup_map_on (fun u hu v hv' e => key u hu v hv' (by rw [e]; exact List.prefix_rfl)) (strict_nodup hv.strict)
    have a1 := nodup_len (l := made (compL cs ds)) (m := compL cs ds) (strict_nodup (made_strict _)) (fun x hx => mem_made.1 hx)
    have a2 := nodup_len (l := compL cs ds) (m := made (compL cs ds)) hnd (fun x hx => mem_made.2 hx)
    have a3 : (compL cs ds).length = cs.length := by simp [compL]
    omega

/-! ### Encode's digits -/
theorem encL_comp (ds : List (List UInt8)) (w : List UInt8) : encL ds (w.map fun b => ixB b L16 0) = compW ds w := by
  unfold encL compW digN; rw [List.map_map]; rfl
theorem encIn_comp {p : Int} {ds : List (List UInt8)} (hl : (ds.length : Int) = p) {w : List UInt8} (h : LetOK p w) : encIn ds (w.map fun b => ixB b L16 0) = true := by
  unfold encIn
  rw [List.all_eq_true]
  intro k hk
  obtain ⟨b, hb, rfl⟩ := List.mem_map.1 hk
  have := h b hb
  simp; omega
end Go.Proofs.Ytgkbafkmbokkaaa
end

section
namespace Go.Proofs.Ytgkbafkmbokkaaa
open Go Go.AM
set_option maxRecDepth 100000
set_option linter.unusedSimpArgs false

def encN (ws : List (List UInt8)) (r : List Nat) : List UInt8 := (r.map fun k => ws.getD k []).flatten
theorem encN_L (ws : List (List UInt8)) (r : List Nat) : encL ws (r.map fun (k : Nat) => (k : Int)) = encN ws r := by
  unfold encL encN; rw [List.map_map]; rfl
theorem encN_cons (ws : List (List UInt8)) (k : Nat) (r : List Nat) : encN ws (k :: r) = ws.getD k [] ++ encN ws r := rfl
theorem encN_In {ws : List (List UInt8)} {r : List Nat} (h : ∀ k ∈ r, k < ws.length) : encIn ws (r.map fun (k : Nat) => (k : Int)) = true := by
  unfold encIn
  rw [List.all_eq_true]
  intro x hx
  obtain ⟨k, hk, rfl⟩ := List.mem_map.1 hx
  have := h k hk
  simp only [Bool.and_eq_true, decide_eq_true_eq]; omega
theorem mem_rdTo {ws : List (List UInt8)} {w : List UInt8} {n : Nat} {r : List Nat} : r ∈ rdTo ws w n ↔ ∃ k r', k < n ∧ r = k :: r' ∧ (ws.getD k []).isPrefixOf w = true ∧ r' ∈ rdI ws (w.drop (ws.getD k []).length) := by
  unfold rdTo
  rw [List.mem_flatMap]
  constructor
  · rintro ⟨k, hk, hr⟩
    unfold rdAt at hr
    split at hr
    · rename_i hp
      obtain ⟨r', h1, rfl⟩ := List.mem_map.1 hr
      exact ⟨k, r', List.mem_range.1 hk, rfl, hp, h1⟩
    · cases hr
  · rintro ⟨k, r', hk, rfl, hp, h1⟩
    refine ⟨k, List.mem_range.2 hk, ?_⟩
    unfold rdAt
    rw [if_pos hp]
    exact List.mem_map.2 ⟨r', h1, rfl⟩
theorem getD_ne {ws : List (List UInt8)} (hn : ∀ x ∈ ws, x ≠ []) {k : Nat} (hk : k < ws.length) : 0 < (ws.getD k []).length := by
  rw [List.getD_eq_getElem?_getD, List.getElem?_eq_getElem hk, Option.getD_some]
  exact List.length_pos_iff.2 (hn _ (List.getElem_mem hk))
/-- Which readings there are: the lists that spell the word. -/
theorem mem_rdI {ws : List (List UInt8)} (hn : ∀ x ∈ ws, x ≠ []) : ∀ (r : List Nat) (w : List UInt8), r ∈ rdI ws w ↔ (∀ k ∈ r, k < ws.length) ∧ encN ws r = w
  | [], w => by
    cases w with
    | nil => simp [rdI_nil, encN]
    | cons b w =>
      rw [rdI_step hn (by simp), mem_rdTo]
      simp [encN]
  | k :: r, w => by
    cases w with
    | nil =>
      rw [rdI_nil]
      constructor
      · intro h; simp at h
      · rintro ⟨h1, h2⟩
        have := getD_ne hn (h1 k (by simp))
        rw [encN_cons, List.append_eq_nil_iff] at h2
        rw [h2.1] at this; simp at this
    | cons b w =>
      rw [rdI_step hn (by simp), mem_rdTo, encN_cons]
      constructor
      · rintro ⟨k', r', hk, he, hp, hr⟩
        injection he with e1 e2
        subst e1 e2
        obtain ⟨h1, h2⟩ := (mem_rdI hn r _).1 hr
        refine ⟨fun x hx => (List.mem_cons.1 hx).elim (fun e => e ▸ hk) (h1 x), ?_⟩
        rw [h2]
        obtain ⟨t, ht⟩ := List.isPrefixOf_iff_prefix.1 hp
        rw [← ht, List.drop_left]
      · rintro ⟨h1, h2⟩
        refine ⟨k, r, h1 k (by simp), rfl, List.isPrefixOf_iff_prefix.2 ⟨_, h2⟩, (mem_rdI hn r _).2 ⟨fun x hx => h1 x (by simp [hx]), ?_⟩⟩
        rw [← h2, List.drop_left]

/-- slices.Compare of lists of indices. -/
def cmpLs : List Nat → List Nat → Int
  | [], [] => 0
  | [], _ :: _ => -1
  | _ :: _, [] => 1
  | a :: l, b :: m => if a < b then -1 else if b < a then 1 else cmpLs l m
theorem cmpLs_same (a : Nat) (l m : List Nat) : cmpLs (a :: l) (a :: m) = cmpLs l m := by
  show (if a < a then -1 else if a < a then 1 else cmpLs l m) = _
  rw [if_neg (Nat.lt_irrefl _), if_neg (Nat.lt_irrefl _)]
theorem cmpLs_lt {a b : Nat} (l m : List Nat) (h : a < b) : cmpLs (a :: l) (b :: m) = -1 := if_pos h
theorem cmpLs_gt {a b : Nat} (l m : List Nat) (h : b < a) : cmpLs (a :: l) (b :: m) = 1 := by
  show (if a < b then -1 else if b < a then 1 else cmpLs l m) = _
  rw [if_neg (by omega), if_pos h]
/-- They come in ascending order. -/
theorem rdTo_sorted {ws : List (List UInt8)} {w : List UInt8} (h : ∀ k, k < ws.length → (rdAt ws w k).Pairwise fun a b => cmpLs a b = -1) : ∀ n, n ≤ ws.length → (rdTo ws w n).Pairwise fun a b => cmpLs a b = -1
  | 0, _ => by simp [rdTo]
  | n + 1, hn => by
    rw [rdTo_succ, List.pairwise_append]
    refine ⟨rdTo_sorted h n (by omega), h n hn, fun a ha b hb => ?_⟩
    obtain ⟨k, r', hk, rfl, _⟩ := mem_rdTo.1 ha
    unfold rdAt at hb
    split at hb
    · obtain ⟨r, _, rfl⟩ := List.mem_map.1 hb
      exact cmpLs_lt _ _ hk
    · cases hb
theorem rdI_sorted {ws : List (List UInt8)} (hn : ∀ x ∈ ws, x ≠ []) : ∀ (n : Nat) (w : List UInt8), w.length ≤ n → (rdI ws w).Pairwise fun a b => cmpLs a b = -1
  | 0, w, h => by
    have : w = [] := List.length_eq_zero_iff.1 (by omega)
    subst this; simp [rdI_nil]
  | n + 1, w, h => by
    cases w with
    | nil => simp [rdI_nil]
    | cons b w =>
      rw [rdI_step hn (by simp)]
      refine rdTo_sorted (fun k hk => ?_) _ (Nat.le_refl _)
      have hl := getD_ne hn hk
      unfold rdAt
      split
      · rw [List.pairwise_map]
        have := rdI_sorted hn n ((b :: w).drop (ws.getD k []).length) (by rw [List.length_cons] at h; rw [List.length_drop, List.length_cons]; omega)
        exact this.imp (fun {a b} e => by rw [cmpLs_same]; exact e)
      · exact List.Pairwise.nil
theorem encN_len {ws : List (List UInt8)} {m : Nat} (h : ∀ x ∈ ws, x.length ≤ m) : ∀ r : List Nat, (encN ws r).length ≤ m * r.length
  | [] => by simp [encN]
  | k :: r => by
    have h1 := encN_len h r
    have h2 : (ws.getD k []).length ≤ m := by
      by_cases hk : k < ws.length
      · rw [List.getD_eq_getElem?_getD, List.getElem?_eq_getElem hk, Option.getD_some]; exact h _ (List.getElem_mem hk)
      · rw [List.getD_eq_getElem?_getD, List.getElem?_eq_none (by omega)]; simp
    rw [encN_cons, List.length_append, List.length_cons, Nat.mul_succ]; omega
theorem len_encN {ws : List (List UInt8)} (hn : ∀ x ∈ ws, x ≠ []) : ∀ r : List Nat, (∀ k ∈ r, k < ws.length) → r.length ≤ (encN ws r).length
  | [], _ => by simp
  | k :: r, h => by
    have h1 := len_encN hn r (fun x hx => h x (by simp [hx]))
    have h2 := getD_ne hn (h k (by simp))
    rw [encN_cons, List.length_append, List.length_cons]; omega
theorem encN_word {q : Int} {ws : List (List UInt8)} (hv : Valid q ws) {r : List Nat} (h : ∀ k ∈ r, k < ws.length) (hl : (encN ws r).length ≤ 65536) : wordCheck q (encN ws r) = 0 := by
  have ho : okW q (encN ws r) = true := by
    unfold okW encN
    rw [List.all_eq_true]
    intro b hb
    obtain ⟨l, hl1, hl2⟩ := List.mem_flatten.1 hb
    obtain ⟨c, hc, rfl⟩ := List.mem_map.1 hl1
    have hk := h c hc
    have hx : ws.getD c [] ∈ ws := by rw [List.getD_eq_getElem?_getD, List.getElem?_eq_getElem hk, Option.getD_some]; exact List.getElem_mem hk
    have := okW_of (hv.words _ hx).2.2
    unfold okW at this
    rw [List.all_eq_true] at this
    exact this b hl2
  have hq2 := hv.q2
  have hq16 := hv.q16
  unfold wordCheck
  rw [if_neg (by omega), if_neg (by omega), if_pos ho]
end Go.Proofs.Ytgkbafkmbokkaaa
end

section
namespace Go.Proofs.Ytgkbafkmbokkaaa
open Go Go.AM
set_option maxRecDepth 100000
set_option linter.unusedSimpArgs false

def ivN (k : Nat) : PV := .int .i64 (k : Int)
def slV (l : List Nat) : PV := .sl (l.map ivN)
theorem size_iv (l : List Nat) : sizeOK (l.map ivN) 1 := fun x hx => by
  obtain ⟨b, _, rfl⟩ := List.mem_map.1 hx
  rfl
theorem one_iv (l : List Nat) : oneOK (l.map ivN) := fun x hx c hc => by
  obtain ⟨b, _, rfl⟩ := List.mem_map.1 hx
  have : c = ivN b := by simpa [PV.cells, ivN] using hc
  subst this; rfl

/-- slices.Clone of a row of indices. -/
theorem c95 {h : List AObj} {b : Nat} {rk0 : RK} (l : List Nat) (hb : h[b]? = some (.row 3 1 (l.map ivN) rk0)) (hl : l.length ≤ 1000000) :
    AC Try.prog 95 [.own b l.length] h [] (fun v h' => (l = [] ∧ v = .full [] ∧ h' = h) ∨ (∃ rk, rk ≠ .raw ∧ v = .own h.length l.length ∧ h' = h ++ [.row 3 1 (l.map ivN) rk])) := by
  refine AC.of_bodyE hΓ Try.func95 (by kernel_rfl) rfl (AWp.mono (Q := fun e st => AM.Ends e ∧ ((l = [] ∧ st.tmps.getD 2 .junk = .full [] ∧ st.h = h) ∨ (∃ rk, rk ≠ .raw ∧ st.tmps.getD 2 .junk = .own h.length l.length ∧ st.h = h ++ [.row 3 1 (l.map ivN) rk]))) ?_ ?_)
  rotate_left
  · rintro e ⟨tm, h'⟩ ⟨he, ⟨hw, h1, h2⟩ | ⟨rk, hr, h1, h2⟩⟩
    · simp only at h1 h2
      subst h2
      refine ⟨he, _, Less.refl _, ?_⟩
      unfold DoneE
      simp +contextual -implicitDefEqProofs only [Try.results95, h1, go_sem]
      exact ⟨_, Nat.le_refl _, .inl rfl, .inl ⟨hw, List.take_length⟩⟩
    · simp only at h1 h2
      subst h2
      refine ⟨he, _, Less.refl _, ?_⟩
      unfold DoneE
      simp +contextual -implicitDefEqProofs only [Try.results95, h1, go_sem]
      exact ⟨h.length + 1, by omega, .inl (by simp), .inr ⟨rk, hr, List.take_of_length_le (by simp)⟩⟩
  refine AWp.of_awpD [] hΓ hmix (by kernel_rfl) ?_
  cases l with
  | nil =>
    simp -implicitDefEqProofs only [Try.ntmps95, Nat.reduceAdd, Nat.reduceSub, hb, go_sem]
    exact ⟨⟨by simp [sizeOK], by omega⟩, ⟨by simp [sizeOK], by simp [oneOK]⟩, ⟨by simp [sizeOK], by omega, by omega⟩, .inr ⟨.lax, by simp, rfl⟩⟩
  | cons x l =>
    simp -implicitDefEqProofs only [Try.ntmps95, Nat.reduceAdd, Nat.reduceSub, hb, go_sem]
    have h1 := size_iv (x :: l)
    have h2 := one_iv (x :: l)
    simp only [List.map_cons] at h1 h2
    simp only [List.length_cons] at hl
    exact ⟨⟨by simp [sizeOK], by omega⟩, ⟨h1, h2⟩, ⟨by simp [sizeOK], by omega, by omega⟩, .inr ⟨.own, by simp, rfl⟩⟩

theorem RepH.weak {X : Ctx} {I : Nat → Prop} {μ : Nat → Value} {ob : Nat → Option Nat} {h h' : List AObj} {w : World} (hw : weakH h h') (R : RepH X I μ ob h w) : RepH X I μ ob h' w := by
  obtain ⟨h1, h2⟩ := weakH_ok hw
  refine { below := R.below, base := R.base, imm := R.imm, ctx := R.ctx, frz := R.frz, inew := R.inew, may := R.may, names := by rw [h1]; exact R.names, own := R.own, sep := R.sep, past := fun b hb => R.past b (by rw [← h1]; exact hb), objs := fun b o ho => ?_ }
  rcases h2 b o ho with h | h | ⟨x, h, hx⟩
  · subst h; trivial
  · rw [h1]; exact R.objs b o h
  · rw [h1]
    have hO := R.objs b x h
    unfold laxer at hx
    split at hx
    · subst hx
      obtain ⟨q1, q2⟩ := hO
      refine ⟨q1, ?_⟩
      rcases q2 with q2 | ⟨q2, _⟩
      · exact .inl q2
      · cases q2
    · exact hx.elim
theorem AC.weakH {P : Program} {f : FuncId} {args : List AV} {h h' : List AObj} {ks : List Nat} {R : AV → List AObj → Prop} (hf : AC P f args h' ks R) (hw : weakH h h') : AC P f args h ks R := by
  obtain ⟨hl, _⟩ := weakH_ok hw
  exact ⟨hf.1, fun X I μ ob w cargs hR hlen harg hks => by rw [← hl] at harg ⊢; exact hf.2 X I μ ob w cargs (RepH.weak hw hR) hlen harg hks⟩
theorem YC.weakH {P : Program} {b : Nat} {args : List AV} {h h' : List AObj} {ks : List Nat} {R : AV → List AObj → Prop} (hf : YC P b args h' ks R) (hw : weakH h h') : YC P b args h ks R := by
  obtain ⟨hl, _⟩ := weakH_ok hw
  exact fun X I μ ob w cargs hR hlen harg hks => by rw [← hl] at harg ⊢; exact hf X I μ ob w cargs (RepH.weak hw hR) hlen harg hks

theorem eq44n (n : Nat) : aggE Γ .eql 44 (.agg [.p (.bool false), .p (.str (magB n))]) (.agg [.p (.bool false), .p (.str [])]) = some (.p (.bool (decide (n = 0)))) := by
  have : aggE Γ .eql 44 (.agg [.p (.bool false), .p (.str (magB n))]) (.agg [.p (.bool false), .p (.str [])]) = some (.p (.bool (false == false && (bEq (magB n) [] && true)))) := rfl
  rw [this, bEq_eq]
  by_cases h : n = 0
  · subst h; simp [magB_zero]
  · simp only [h, decide_false, Bool.and_true, beq_self_eq_true, Bool.true_and, show ¬ magB n = [] from fun e => h (magB_nil e)]

/-- A list that holds something has a row of its own. -/
def pk {α : Type} (path : List α) : RK := if path.isEmpty then .lax else .own
theorem pk_snoc {α : Type} (path : List α) (k : α) : pk (path ++ [k]) = .own := by simp [pk]
theorem pk_nil {α : Type} : pk ([] : List α) = .lax := rfl
theorem pk_raw {α : Type} (path : List α) : pk path ≠ .raw := by unfold pk; split <;> simp
theorem pk_lax {α : Type} (path : List α) (E : TypeId) (s : Nat) (xs : List PV) : AObj.row E s xs .own = .row E s xs (pk path) ∨ laxer (.row E s xs .own) (.row E s xs (pk path)) := by
  unfold pk; split
  · exact .inr rfl
  · exact .inl rfl

/-- Memory while readings are given out: outs are out already, path is the list so far; m dead things behind. -/
def rdC : List AV := [.ptr 4 0, .ptr 6 0, .ptr 8 0, .ptr 3 0, .ptr 7 0, .ptr 9 0]
def rdH (q : Int) (ws : List (List UInt8)) (w : List UInt8) (rec : AObj) (outs : List (List Nat)) (path : List Nat) (m : Nat) : List AObj :=
  codeB q ws :: .box [.own 2 outs.length] :: .row 53 1 (outs.map slV) (pk outs) :: codeB q ws :: .box [.p (.str w)] :: rec :: .box [.yld 5] :: .box [.p (.sl (cntR ws w 0))] :: .box [.own 10 path.length] :: .box [.fn 94 rdC] :: .row 3 1 (path.map ivN) (pk path) :: List.replicate m .dead

theorem callK_yc {E : Env} {tm : List AV} {h : List AObj} {KS : St → Prop} {d : Option Nat} {b : Nat} {args : List AV} {ks : List Nat} {R : AV → List AObj → Prop} (hf : YC E.P b args h ks R) (hks : ∀ k ∈ ks, E.n0 ≤ k ∨ k ∈ E.ks)
    (hk : ∀ v h', R v h' → KS ⟨putD (killAll ks tm) d v, h'⟩) : callK E ⟨tm, h⟩ d (.yld b) args KS := ⟨ks, R, hf, hks, hk⟩

theorem rdH_len (q : Int) (ws : List (List UInt8)) (w : List UInt8) (rec : AObj) (outs : List (List Nat)) (path : List Nat) (m : Nat) : (rdH q ws w rec outs path m).length = m + 11 := by simp [rdH]

theorem v94end {q : Int} {ws : List (List UInt8)} {w : List UInt8} {rec : AObj} (hn : ∀ x ∈ ws, x ≠ []) (hws : ws.length ≤ 256) (hw : w.length ≤ 40) (hrec : ∀ k, k = 2 ∨ k = 10 → rec.kill k = rec)
    (hround : ∀ (outs : List (List Nat)) (path : List Nat) (m : Nat) (rk : RK), outs.length ≤ 4095 → rk ≠ .raw → path.length ≤ 40 → YC Try.prog 5 [.own ((List.replicate m AObj.dead).length + 1 + 1 + 1 + 1 + 1 + 1 + 1 + 1 + 1 + 1 + 1) path.length] (rdH q ws w rec outs path m ++ [.row 3 1 (path.map ivN) rk]) [2, 10] (fun v h' => v = .p (.bool true) ∧ h' = rdH q ws w rec (outs ++ [path]) path (m + 1)))
    (hround0 : ∀ (outs : List (List Nat)) (m : Nat), outs.length ≤ 4095 → YC Try.prog 5 [.full []] (rdH q ws w rec outs [] m) [2, 10] (fun v h' => v = .p (.bool true) ∧ h' = rdH q ws w rec (outs ++ [[]]) [] m))
    (outs : List (List Nat)) (path : List Nat) (m : Nat) (hp : path.length ≤ 40) (ho : outs.length ≤ 4095) :
    AC Try.prog 94 (.p (.int .i64 w.length) :: rdC) (rdH q ws w rec outs path m) [2, 10] (fun v h' => ∃ m', m ≤ m' ∧ v = .p (.bool true) ∧ h' = rdH q ws w rec (outs ++ [path]) path m') := by
  refine AC.of_bodyE hΓ Try.func94 (by kernel_rfl) rfl (AWp.mono (Q := fun e st => AM.Ends e ∧ st.tmps.getD 8 .junk = .p (.bool true) ∧ ∃ m', m ≤ m' ∧ st.h = rdH q ws w rec (outs ++ [path]) path m') ?_ ?_)
  rotate_left
  · rintro e ⟨tm, h'⟩ ⟨he, h1, m', hm, h2⟩
    simp only at h1 h2
    subst h2
    refine ⟨he, _, Less.refl _, ?_⟩
    unfold DoneE
    simp +contextual -implicitDefEqProofs only [Try.results94, h1, go_sem]
    exact ⟨_, by rw [rdH_len, rdH_len]; omega, .inl rfl, m', hm, List.take_length⟩
  refine AWp.seq (AWp.of_awpD [(2, 1000)] hΓ hmix (by kernel_rfl) ?_)
  simp -implicitDefEqProofs only [Try.ntmps94, Nat.reduceAdd, Nat.reduceSub, rdC, rdH, go_sem]
  refine AWp.seq (AWp.of_awpD [(2, 1000)] hΓ hmix (by kernel_rfl) ?_)
  simp -implicitDefEqProofs only [go_sem]
  refine AWp.planL (.q 0 (.q 1 (.e 2 (.s 0 (.e 3 (.q 4 .fin) .nil)) .nil))) hΓ hmix (by kernel_rfl) ?_
  simp -implicitDefEqProofs only [go_sem]
  refine callK_ac (c95 (rk0 := pk path) path rfl (by omega)) (by simp) ?_
  rintro v h' (⟨rfl, rfl, rfl⟩ | ⟨rk, hrk, rfl, rfl⟩)
  · simp -implicitDefEqProofs only [killAll, List.foldl, go_sem]
    refine callK_yc (hround0 outs m ho) (fun k hk => .inr hk) ?_
    rintro v h' ⟨rfl, rfl⟩
    simp -implicitDefEqProofs only [killAll, List.foldl, go_sem]
    exact ⟨m, Nat.le_refl _, rfl⟩
  · simp -implicitDefEqProofs only [killAll, List.foldl, go_sem]
    refine callK_yc (hround outs path m rk ho hrk (by omega)) (fun k hk => .inr hk) ?_
    rintro v h' ⟨rfl, rfl⟩
    simp -implicitDefEqProofs only [killAll, List.foldl, go_sem]
    exact ⟨m + 1, by omega, rfl⟩

theorem rdTo_mono (ws : List (List UInt8)) (w : List UInt8) {k : Nat} : ∀ {n : Nat}, k < n → (rdTo ws w k).length + (rdAt ws w k).length ≤ (rdTo ws w n).length
  | n + 1, h => by
    rw [rdTo_succ, List.length_append]
    by_cases e : k = n
    · subst e; omega
    · have := rdTo_mono ws w (k := k) (n := n) (by omega); omega
theorem v94 {q : Int} {ws : List (List UInt8)} {w : List UInt8} {rec : AObj} (hn : ∀ x ∈ ws, x ≠ []) (hws : ws.length ≤ 256) (hw : w.length ≤ 40) (hrec : ∀ k, k = 2 ∨ k = 10 → rec.kill k = rec)
    (hround : ∀ (outs : List (List Nat)) (path : List Nat) (m : Nat) (rk : RK), outs.length ≤ 4095 → rk ≠ .raw → path.length ≤ 40 → YC Try.prog 5 [.own ((List.replicate m AObj.dead).length + 1 + 1 + 1 + 1 + 1 + 1 + 1 + 1 + 1 + 1 + 1) path.length] (rdH q ws w rec outs path m ++ [.row 3 1 (path.map ivN) rk]) [2, 10] (fun v h' => v = .p (.bool true) ∧ h' = rdH q ws w rec (outs ++ [path]) path (m + 1)))
    (hround0 : ∀ (outs : List (List Nat)) (m : Nat), outs.length ≤ 4095 → YC Try.prog 5 [.full []] (rdH q ws w rec outs [] m) [2, 10] (fun v h' => v = .p (.bool true) ∧ h' = rdH q ws w rec (outs ++ [[]]) [] m)) :
    ∀ (n a : Nat) (outs : List (List Nat)) (path : List Nat) (m : Nat), w.length - a ≤ n → a ≤ w.length → path.length + (w.length - a) ≤ 40 → outs.length + (rdI ws (w.drop a)).length ≤ 4096 →
    AC Try.prog 94 (.p (.int .i64 a) :: rdC) (rdH q ws w rec outs path m) [2, 10] (fun v h' => ∃ m', m ≤ m' ∧ v = .p (.bool true) ∧ h' = rdH q ws w rec (outs ++ (rdI ws (w.drop a)).map (path ++ ·)) path m') := by
  intro n
  induction n with
  | zero =>
    intro a outs path m hna ha hp ho
    have hae : a = w.length := by omega
    subst hae
    rw [List.drop_length, rdI_nil, List.length_singleton] at ho
    have := v94end hn hws hw hrec hround hround0 outs path m (by omega) (by omega)
    rw [List.drop_length, rdI_nil]
    simpa using this
  | succ n ih =>
    intro a outs path m hna ha hp ho
    by_cases hae : a = w.length
    · subst hae
      rw [List.drop_length, rdI_nil, List.length_singleton] at ho
      have := v94end hn hws hw hrec hround hround0 outs path m (by omega) (by omega)
      rw [List.drop_length, rdI_nil]
      simpa using this
    refine AC.of_bodyE hΓ Try.func94 (by kernel_rfl) rfl (AWp.mono (Q := fun e st => AM.Ends e ∧ st.tmps.getD 8 .junk = .p (.bool true) ∧ ∃ m', m ≤ m' ∧ st.h = rdH q ws w rec (outs ++ (rdI ws (w.drop a)).map (path ++ ·)) path m') ?_ ?_)
    rotate_left
    · rintro e ⟨tm, h'⟩ ⟨he, h1, m', hm, h2⟩
      simp only at h1 h2
      subst h2
      refine ⟨he, _, Less.refl _, ?_⟩
      unfold DoneE
      simp +contextual -implicitDefEqProofs only [Try.results94, h1, go_sem]
      exact ⟨_, by rw [rdH_len, rdH_len]; omega, .inl rfl, m', hm, List.take_length⟩
    have hai : ¬ (a : Int) = w.length := by omega
    refine AWp.seq (AWp.of_awpD [(2, 1000)] hΓ hmix (by kernel_rfl) ?_)
    simp -implicitDefEqProofs only [Try.ntmps94, Nat.reduceAdd, Nat.reduceSub, rdC, rdH, go_sem]
    refine AWp.seq (AWp.of_awpD [(2, 1000)] hΓ hmix (by kernel_rfl) ?_)
    simp -implicitDefEqProofs only [hai, go_sem]
    refine AWp.seq (AWp.of_awpD [] hΓ hmix (by kernel_rfl) ?_)
    simp -implicitDefEqProofs only [codeB, go_sem]
    refine AWp.loopI (fun p : Nat × Nat => ⟨mkF 63 [(0, .p (.int .i64 a)), (1, .ptr 4 0), (2, .ptr 6 0), (3, .ptr 8 0), (4, .ptr 3 0), (5, .ptr 7 0), (6, .ptr 9 0), (8, .p (.bool false)), (21, .p (.sl (ws.map .str))), (22, .p (.int .i64 ws.length)), (23, .p (.int .i64 p.1))], rdH q ws w rec (outs ++ (rdTo ws (w.drop a) p.1).map (path ++ ·)) path p.2⟩)
      (fun p => p.1 ≤ ws.length ∧ m ≤ p.2) (fun p => ws.length - p.1) (0, m) (by simp [go_sem, rdH, codeB, rdTo, rdC, weakH_refl]) ⟨by omega, Nat.le_refl _⟩ ?_
    rintro ⟨k, m1⟩ ⟨hk, hm1⟩
    simp only at hk hm1
    generalize hO : outs ++ (rdTo ws (w.drop a) k).map (path ++ ·) = O
    simp -implicitDefEqProofs only [rdH, codeB, hO, go_sem]
    by_cases hlt : k < ws.length
    · have hki : (k : Int) < ws.length := by omega
      have hx : ws[k] ∈ ws := List.getElem_mem hlt
      have hxn : 0 < ws[k].length := List.length_pos_iff.2 (hn _ hx)
      refine AWp.of_awpD [] hΓ hmix (by kernel_rfl) ?_
      simp -implicitDefEqProofs only [hlt, getD_map_lt, ↓reduceIte, go_sem]
      have hkr : InR IntKind.i64 ((k : Int) + 1) := by simp only [InR]; omega
      refine ⟨ha, callK_fn (t69 (w.drop a) ws[k]) (.pures rfl) ?_⟩
      by_cases hpre : ws[k].isPrefixOf (w.drop a) = true
      · have hle : a + ws[k].length ≤ w.length := by
          have := List.IsPrefix.length_le (List.isPrefixOf_iff_prefix.1 hpre)
          rw [List.length_drop] at this; omega
        have eN : ((a : Int) + ws[k].length).toNat = a + ws[k].length := by omega
        have eC : (cntR ws w 0).getD (a + ws[k].length) default = intN false (cnt ws (w.drop (a + ws[k].length))) := by
          rw [List.getD_eq_getElem?_getD, cntR_get hle, Option.getD_some, if_pos (Nat.zero_le _)]
        rw [intN_pos] at eC
        generalize hc : cnt ws (w.drop (a + ws[k].length)) = c at eC
        simp -implicitDefEqProofs only [hpre, eN, eC, cntR_len, go_sem]
        refine ⟨by simp only [InR]; omega, ⟨by omega, by omega⟩, ?_⟩
        refine aggE_ok (eq44n c) ?_
        by_cases hc0 : c = 0
        · simp -implicitDefEqProofs only [hc0, go_sem]
          refine ⟨hkr, (k + 1, m1), ⟨by simp, ?_⟩, ⟨hlt, hm1⟩, by simp only; omega⟩
          have : rdAt ws (w.drop a) k = [] := by
            unfold rdAt
            rw [List.getD_eq_getElem?_getD, List.getElem?_eq_getElem hlt, Option.getD_some, List.drop_drop, rdI_none hn (hc.trans hc0)]
            simp
          simp only [rdTo_succ, this, List.append_nil, hO]
          exact weakH_refl _
        · simp -implicitDefEqProofs only [hc0, go_sem]
          refine ⟨⟨size_iv [k], by omega⟩, ⟨size_iv [k], one_iv [k]⟩, ⟨pk_raw path, .inr (by simp), by omega, by omega⟩, by simp only [InR]; omega, ?_⟩
          have hOl : O.length + (rdI ws (w.drop (a + ws[k].length))).length ≤ 4096 := by
            have e1 : rdI ws (w.drop a) = rdTo ws (w.drop a) ws.length := rdI_step hn (fun e => by
              have := congrArg List.length e
              rw [List.length_drop, List.length_nil] at this; omega)
            have e2 := rdTo_mono ws (w.drop a) hlt
            have e3 : (rdAt ws (w.drop a) k).length = (rdI ws (w.drop (a + ws[k].length))).length := by
              unfold rdAt
              rw [List.getD_eq_getElem?_getD, List.getElem?_eq_getElem hlt, Option.getD_some, if_pos hpre, List.length_map, List.drop_drop]
            have e4 : O.length = outs.length + (rdTo ws (w.drop a) k).length := by rw [← hO, List.length_append, List.length_map]
            rw [e1] at ho
            omega
          have hcall := ih (a + ws[k].length) O (path ++ [k]) m1 (by omega) hle (by rw [List.length_append, List.length_singleton]; omega) hOl
          have hkr10 := hrec 10 (.inr rfl)
          unfold AObj.kill at hkr10
          rw [hkr10, show AV.kill.killL 10 rdC = rdC from rfl, show List.map (AObj.kill 10) (List.replicate m1 .dead) = List.replicate m1 .dead by rw [List.map_replicate]; rfl]
          refine callK_ac (AC.weakH (h' := rdH q ws w rec O (path ++ [k]) m1) (by simpa using hcall) ?_) (fun k hk => .inr hk) ?_
          · simp [rdH, codeB, weakH, laxer, weakH_refl, ivN, pk_snoc]
          rintro v h' ⟨m2, hm2, rfl, rfl⟩
          simp -implicitDefEqProofs only [killAll, List.foldl, rdH, codeB, pk_snoc, go_sem]
          rw [hkr10, show AV.kill.killL 10 rdC = rdC from rfl, show List.map (AObj.kill 10) (List.replicate m2 .dead) = List.replicate m2 .dead by rw [List.map_replicate]; rfl]
          have eL : ((path ++ [k]).length : Int) - 1 = path.length := by rw [List.length_append, List.length_singleton]; omega
          have eT : List.take path.length (List.map ivN (path ++ [k])) = List.map ivN path := by rw [List.map_append]; exact List.take_left' (by simp)
          have eO : outs ++ List.map (fun x => path ++ x) (rdTo ws (List.drop a w) (k + 1)) = O ++ List.map (fun x => path ++ k :: x) (rdI ws (List.drop (a + ws[k].length) w)) := by
            rw [rdTo_succ, List.map_append, ← List.append_assoc, hO]
            congr 1
            unfold rdAt
            rw [List.getD_eq_getElem?_getD, List.getElem?_eq_getElem hlt, Option.getD_some, if_pos hpre, List.map_map, List.drop_drop]
            rfl
          rw [eL]
          refine ⟨by simp only [InR]; omega, ⟨.inr (by simp), by omega, by rw [List.length_append, List.length_singleton]; omega⟩, hkr, (k + 1, m2), ⟨by simp, ?_⟩, ⟨hlt, by simp only; omega⟩, by simp only; omega⟩
          simp only [eO, Int.toNat_natCast, eT, or_true, true_and, weakH_refl, and_true]
          have hpp : pk path = .own ∨ pk path = .lax := by unfold pk; split <;> simp
          refine ⟨?_, ?_⟩
          · have : pk (O ++ List.map (fun x => path ++ k :: x) (rdI ws (List.drop (a + ws[k].length) w))) = .own ∨ pk (O ++ List.map (fun x => path ++ k :: x) (rdI ws (List.drop (a + ws[k].length) w))) = .lax := by unfold pk; split <;> simp
            simp [laxer]
          · cases rec <;> simp [hpp]
      · simp -implicitDefEqProofs only [hpre, go_sem]
        refine ⟨hkr, (k + 1, m1), ⟨by simp, ?_⟩, ⟨hlt, hm1⟩, by simp only; omega⟩
        have : rdAt ws (w.drop a) k = [] := by
          unfold rdAt
          rw [List.getD_eq_getElem?_getD, List.getElem?_eq_getElem hlt, Option.getD_some, if_neg hpre]
        simp only [rdTo_succ, this, List.append_nil, hO]
        exact weakH_refl _
    · refine AWp.of_awpD [] hΓ hmix (by kernel_rfl) ?_
      have he : k = ws.length := by omega
      simp -implicitDefEqProofs only [he, Nat.lt_irrefl, go_sem]
      refine AWp.of_awpD [] hΓ hmix (by kernel_rfl) ?_
      simp -implicitDefEqProofs only [go_sem]
      have eI : rdI ws (w.drop a) = rdTo ws (w.drop a) ws.length := rdI_step hn (fun e => by
        have := congrArg List.length e
        rw [List.length_drop, List.length_nil] at this; omega)
      subst he
      rw [eI, hO]
      exact ⟨m1, hm1, rfl, ⟨rfl, rfl⟩, rfl, rfl⟩
end Go.Proofs.Ytgkbafkmbokkaaa
end

section
namespace Go.Proofs.Ytgkbafkmbokkaaa
open Go Go.AM
set_option maxRecDepth 100000
set_option linter.unusedSimpArgs false

/-- Memory as the iterator finds it. -/
def rd6 (q : Int) (ws : List (List UInt8)) (w : List UInt8) (rec : AObj) (outs : List (List Nat)) : List AObj :=
  [codeB q ws, .box [.own 2 outs.length], .row 53 1 (outs.map slV) (pk outs), codeB q ws, .box [.p (.str w)], rec]

theorem v93 {q : Int} {ws : List (List UInt8)} {w : List UInt8} {rec : AObj} (hn : ∀ x ∈ ws, x ≠ []) (hws : ws.length ≤ 256) (hw : w.length ≤ 40) (hout : (rdI ws w).length ≤ 4096) (hrec : ∀ k, k = 2 ∨ k = 10 → rec.kill k = rec)
    (hround : ∀ (outs : List (List Nat)) (path : List Nat) (m : Nat) (rk : RK), outs.length ≤ 4095 → rk ≠ .raw → path.length ≤ 40 → YC Try.prog 5 [.own ((List.replicate m AObj.dead).length + 1 + 1 + 1 + 1 + 1 + 1 + 1 + 1 + 1 + 1 + 1) path.length] (rdH q ws w rec outs path m ++ [.row 3 1 (path.map ivN) rk]) [2, 10] (fun v h' => v = .p (.bool true) ∧ h' = rdH q ws w rec (outs ++ [path]) path (m + 1)))
    (hround0 : ∀ (outs : List (List Nat)) (m : Nat), outs.length ≤ 4095 → YC Try.prog 5 [.full []] (rdH q ws w rec outs [] m) [2, 10] (fun v h' => v = .p (.bool true) ∧ h' = rdH q ws w rec (outs ++ [[]]) [] m)) :
    AC Try.prog 93 [.yld 5, .ptr 3 0, .ptr 4 0] (rd6 q ws w rec []) [2] (fun _ h' => ∃ m', h' = rdH q ws w rec (rdI ws w) [] m') := by
  refine AC.of_bodyE hΓ Try.func93 (by kernel_rfl) rfl (AWp.mono (Q := fun e st => AM.Ends e ∧ ∃ m', st.h = rdH q ws w rec (rdI ws w) [] m') ?_ ?_)
  rotate_left
  · rintro e ⟨tm, h'⟩ ⟨he, m', h2⟩
    simp only at h2
    subst h2
    refine ⟨he, _, Less.refl _, ?_⟩
    unfold DoneE
    simp +contextual -implicitDefEqProofs only [Try.results93, go_sem]
    exact ⟨_, by rw [rdH_len]; simp [rd6], .inl rfl, m', List.take_length⟩
  refine AWp.seq (AWp.of_awpD [] hΓ hmix (by kernel_rfl) ?_)
  simp -implicitDefEqProofs only [Try.ntmps93, Nat.reduceAdd, Nat.reduceSub, rd6, codeB, go_sem]
  refine AWp.seq (AWp.of_awpD [] hΓ hmix (by kernel_rfl) ?_)
  simp -implicitDefEqProofs only [go_sem]
  refine callK_fn (u64 q ws w hn hws hw) (.still rfl) ?_
  simp -implicitDefEqProofs only [go_sem]
  refine AWp.seq (AWp.of_awpD [] hΓ hmix (by kernel_rfl) ?_)
  simp -implicitDefEqProofs only [go_sem]
  refine AWp.seq (AWp.of_awpD [] hΓ hmix (by kernel_rfl) ?_)
  simp -implicitDefEqProofs only [go_sem]
  refine AWp.adoptBox (l := []) 8 3 1 rfl (by simp) ?_
  simp -implicitDefEqProofs only [List.set_cons_zero, List.set_cons_succ, go_sem]
  refine AWp.seq (AWp.of_awpD [] hΓ hmix (by kernel_rfl) ?_)
  simp -implicitDefEqProofs only [go_sem]
  refine AWp.of_awpD [] hΓ hmix (by kernel_rfl) ?_
  simp -implicitDefEqProofs only [go_sem]
  have hcall := v94 hn hws hw hrec hround hround0 w.length 0 [] [] 0 (by omega) (by omega) (by simpa using hw) (by simpa using hout)
  refine callK_ac (ks := [2, 10]) (R := fun v h' => ∃ m', 0 ≤ m' ∧ v = .p (.bool true) ∧ h' = rdH q ws w rec ([] ++ (rdI ws (w.drop 0)).map ([] ++ ·)) [] m') hcall (by simp) ?_
  rintro v h' ⟨m', _, rfl, rfl⟩
  simp -implicitDefEqProofs only [killAll, List.foldl, List.drop_zero, List.nil_append, List.map_id', go_sem]
  exact ⟨m', rfl⟩

/-- The closure that gives the readings out. -/
theorem v72 {h : List AObj} (q : Int) (ws : List (List UInt8)) (w : List UInt8) :
    AC Try.prog 72 [.agg [.p (.int .i64 q), .p (.sl (ws.map .str))], .p (.str w)] h [] (fun v h' => v = .fn 93 [.ptr h.length 0, .ptr (h.length + 1) 0] ∧ h' = h ++ [codeB q ws, .box [.p (.str w)]]) := by
  refine AC.of_bodyE hΓ Try.func72 (by kernel_rfl) rfl (AWp.mono (Q := fun e st => AM.Ends e ∧ st.tmps.getD 4 .junk = .fn 93 [.ptr h.length 0, .ptr (h.length + 1) 0] ∧ st.h = h ++ [codeB q ws, .box [.p (.str w)]]) ?_ ?_)
  rotate_left
  · rintro e ⟨tm, h'⟩ ⟨he, h1, h2⟩
    simp only at h1 h2
    subst h2
    refine ⟨he, _, Less.refl _, ?_⟩
    unfold DoneE
    simp +contextual -implicitDefEqProofs only [Try.results72, h1, go_sem]
    exact ⟨_, by simp, .inl rfl, List.take_length⟩
  refine AWp.of_awpD [] hΓ hmix (by kernel_rfl) ?_
  simp -implicitDefEqProofs only [Try.ntmps72, Nat.reduceAdd, Nat.reduceSub, codeB, go_sem]
  refine ⟨by simp, by simp⟩

theorem size_slv (p : List Nat) : sizeOK [slV p] 1 := fun x hx => by
  obtain rfl := List.mem_singleton.1 hx; rfl
theorem one_slv (p : List Nat) : oneOK [slV p] := fun x hx c hc => by
  obtain rfl := List.mem_singleton.1 hx
  obtain rfl : c = slV p := by simpa [slV, PV.cells] using hc
  rfl
theorem rdH_thaw {q : Int} {ws : List (List UInt8)} {w : List UInt8} {rec o : AObj} {outs : List (List Nat)} {path : List Nat} {m nm : Nat} {xs : List PV} (hr : rec.thaw nm xs = rec) (hnm : nm = m + 11) :
    ((rdH q ws w rec outs path m ++ [o]).map (AObj.thaw nm xs)).set nm .dead = rdH q ws w rec outs path (m + 1) := by
  have h2 : ¬ 2 = nm := by omega
  have h10 : ¬ 10 = nm := by omega
  have e : (rdH q ws w rec outs path m).map (AObj.thaw nm xs) = rdH q ws w rec outs path m := by
    unfold rdH
    rw [List.map_cons, List.map_cons, List.map_cons, List.map_cons, List.map_cons, List.map_cons, hr]
    simp [codeB, AObj.thaw, AV.thaw, AV.thaw.thawL, rdC, h2, h10]
  rw [List.map_append, e, List.set_append_right _ _ (by rw [rdH_len]; omega), rdH_len, hnm, Nat.sub_self]
  simp only [List.map_cons, List.set_cons_zero, List.map_nil]
  unfold rdH
  rw [List.replicate_succ']
  rfl

def facE (q : Int) (ws : List (List UInt8)) (w : List UInt8) : Int := if codeCheck q ws = 0 then (if wordCheck q w = 0 then (if 4096 < cnt ws w then 4 else 0) else wordCheck q w) else 1
def facR (q : Int) (ws : List (List UInt8)) (w : List UInt8) : List (List Nat) := if codeCheck q ws = 0 ∧ wordCheck q w = 0 ∧ cnt ws w ≤ 4096 then rdI ws w else []

theorem u39 (q : Int) (ws : List (List UInt8)) (w : List UInt8) (hw : codeCheck q ws = 0 → wordCheck q w = 0 → w.length ≤ 40) :
    PFn Try.prog 39 [codeV q ws, .str w] [.sl ((facR q ws w).map slV), .int .i64 (facE q ws w)] := by
  have e1 := u63 q ws w
  by_cases h : codeCheck q ws = 0
  rotate_left
  · rw [if_neg h] at e1
    unfold facR facE
    rw [if_neg (fun e => h e.1), if_neg h]
    refine PFn.of_body hΓ Try.func39 (by kernel_rfl) rfl (AWp.of_awpD [(4, 8)] hΓ hmix (by kernel_rfl) ?_)
    simp +contextual -implicitDefEqProofs only [codeV, Try.ntmps39, Try.results39, Nat.reduceAdd, Nat.reduceSub, go_sem]
    refine callK_fn e1 (.still rfl) ?_
    have h10 : ¬ (1 : Int) = 0 := by decide
    simp -implicitDefEqProofs only [h10, go_sem]
  by_cases h2 : wordCheck q w = 0
  rotate_left
  · rw [if_pos h] at e1
    unfold facR facE
    rw [if_neg (fun e => h2 e.2.1), if_pos h, if_neg h2]
    refine PFn.of_body hΓ Try.func39 (by kernel_rfl) rfl (AWp.of_awpD [(4, 8)] hΓ hmix (by kernel_rfl) ?_)
    simp +contextual -implicitDefEqProofs only [codeV, Try.ntmps39, Try.results39, Nat.reduceAdd, Nat.reduceSub, go_sem]
    refine callK_fn e1 (.still rfl) ?_
    simp -implicitDefEqProofs only [h2, go_sem]
  have hv := valid_of h
  have hn : ∀ x ∈ ws, x ≠ [] := fun x hx => (hv.words x hx).1
  have hws : ws.length ≤ 256 := by have := hv.len; omega
  have hwl := hw h h2
  have e2 := u64 q ws w hn hws hwl
  have e3 := u34 4096 (by omega)
  have hc40 := cnt_cap hn hws hwl
  have e4 := u33 (cnt ws w) 4096 (cap_40 hc40) (cap_40 (show 4096 ≤ 256 ^ 40 from by decide))
  have hg : (cntR ws w 0).getD (Int.toNat 0) default = .agg [.bool false, .str (magB (cnt ws w))] := by
    rw [show Int.toNat 0 = 0 from rfl, List.getD_eq_getElem?_getD, cntR_get (by omega), Option.getD_some, if_pos (Nat.le_refl _), List.drop_zero, intN_pos]
  simp only [intN_pos] at e3 e4
  rw [if_pos h, h2] at e1
  by_cases h3 : 4096 < cnt ws w
  · rw [cmpN_gt h3] at e4
    unfold facR facE
    rw [if_neg (fun e => by omega), if_pos h, if_pos h2, if_pos h3]
    refine PFn.of_body hΓ Try.func39 (by kernel_rfl) rfl (AWp.of_awpD [(4, 8)] hΓ hmix (by kernel_rfl) ?_)
    simp +contextual -implicitDefEqProofs only [codeV, Try.ntmps39, Try.results39, Nat.reduceAdd, Nat.reduceSub, go_sem]
    refine callK_fn e1 (.still rfl) ?_
    simp -implicitDefEqProofs only [go_sem]
    refine callVPK_fn e2 (.still rfl) ?_
    simp -implicitDefEqProofs only [cntR_len, hg, go_sem]
    refine ⟨by omega, callVPK_fn e3 (.pures rfl) ?_⟩
    simp -implicitDefEqProofs only [go_sem]
    refine callVPK_fn e4 (.still rfl) ?_
    have h01 : (0 : Int) < 1 := by decide
    simp -implicitDefEqProofs only [h01, go_sem]
  have hcm : ¬ 0 < cmpN (cnt ws w) 4096 := by
    unfold cmpN
    split
    · decide
    · rw [if_pos (by omega)]; decide
  generalize cmpN (cnt ws w) 4096 = cm at e4 hcm
  unfold facR facE
  rw [if_pos ⟨h, h2, by omega⟩, if_pos h, if_pos h2, if_neg h3]
  refine PFn.of_body hΓ Try.func39 (by kernel_rfl) rfl (AWp.seq (AWp.of_awpD [] hΓ hmix (by kernel_rfl) ?_))
  simp -implicitDefEqProofs only [Try.ntmps39, Try.results39, Nat.reduceAdd, Nat.reduceSub, codeV, go_sem]
  refine AWp.seq (AWp.of_awpD [(4, 8)] hΓ hmix (by kernel_rfl) ?_)
  simp -implicitDefEqProofs only [go_sem]
  refine callK_fn e1 (.still rfl) ?_
  simp -implicitDefEqProofs only [go_sem]
  refine AWp.seq (AWp.of_awpD [(4, 8)] hΓ hmix (by kernel_rfl) ?_)
  simp -implicitDefEqProofs only [go_sem]
  refine callVPK_fn e2 (.still rfl) ?_
  simp -implicitDefEqProofs only [cntR_len, hg, go_sem]
  refine ⟨by omega, callVPK_fn e3 (.pures rfl) ?_⟩
  simp -implicitDefEqProofs only [go_sem]
  refine callVPK_fn e4 (.still rfl) ?_
  simp -implicitDefEqProofs only [hcm, go_sem]
  refine AWp.seq (AWp.of_awpD [] hΓ hmix (by kernel_rfl) ?_)
  simp -implicitDefEqProofs only [go_sem]
  refine AWp.adoptBox (l := []) 1 53 1 rfl (by simp) ?_
  simp -implicitDefEqProofs only [List.set_cons_zero, List.set_cons_succ, go_sem]
  refine AWp.seq (AWp.of_awpD [] hΓ hmix (by kernel_rfl) ?_)
  simp -implicitDefEqProofs only [go_sem]
  refine callK_ac (v72 q ws w) (by simp) ?_
  rintro v h' ⟨rfl, rfl⟩
  simp -implicitDefEqProofs only [killAll, List.foldl, codeB, go_sem]
  rw [show (#[26] : Array Nat) = [26].toArray from rfl]
  have hout : (rdI ws w).length ≤ 4096 := by rw [rdI_len hn w.length w (Nat.le_refl _)]; omega
  refine AWp.rangeFunc (ks := [2]) (R := fun _ h' => ∃ m', h' = rdH q ws w (.lp _ _ _ _ _) (rdI ws w) [] m') rfl (v93 hn hws hwl hout ?_ ?_ ?_) (by simp) (by simp) ?_
  · rintro k (rfl | rfl) <;> rfl
  · intro outs path m rk ho hrk hp
    refine YC.of_body (Γ := Γ) rfl rfl (by simp) ?_
    intro rr
    generalize hnm : (List.replicate m AObj.dead).length + 1 + 1 + 1 + 1 + 1 + 1 + 1 + 1 + 1 + 1 + 1 = nm
    have hnm2 : nm = m + 11 := by rw [← hnm, List.length_replicate]
    refine AWp.freeze nm (E := 3) (s := 1) (xs := path.map ivN) (k := rk) (by
      show (rdH _ _ _ _ _ _ _ ++ [_])[nm]? = _
      rw [List.getElem?_append_right (by rw [rdH_len]; omega), rdH_len, hnm2, Nat.sub_self]; rfl) ?_
    unfold Frozen
    simp only
    rw [rdH_thaw (by simp [AObj.thaw, AV.thaw, AV.thaw.thawL]) hnm2]
    refine AWp.of_awpD [] hΓ hmix (by kernel_rfl) ?_
    simp -implicitDefEqProofs only [setP, AV.thaw, AV.thaw.thawL, List.map_cons, List.map_nil, rdH, go_sem]
    unfold BeginE
    refine ⟨rfl, ?_⟩
    simp -implicitDefEqProofs only [codeB, go_sem]
    refine AWp.of_awpD [] hΓ hmix (by kernel_rfl) ?_
    simp -implicitDefEqProofs only [go_sem]
    refine ⟨⟨size_slv path, by omega⟩, ⟨size_slv path, one_slv path⟩, ⟨pk_raw outs, .inr (by simp), by omega, by omega⟩, ?_⟩
    unfold RoundE
    simp -implicitDefEqProofs only [killAll, List.foldl, AObj.kill, AV.kill, AV.kill.killL, go_sem]
    rw [show AV.kill.killL 2 rdC = rdC from rfl, show List.map (AObj.kill 2) (List.replicate m .dead) = List.replicate m .dead by rw [List.map_replicate]; rfl]
    refine ⟨_, ?_, .inl rfl, ?_⟩
    rotate_left
    · rw [List.take_length]
      simp [codeB, pk_snoc, slV]
    · simp
  · intro outs m ho
    refine YC.of_body (Γ := Γ) rfl rfl (by simp) ?_
    intro rr
    refine AWp.of_awpD [] hΓ hmix (by kernel_rfl) ?_
    simp -implicitDefEqProofs only [setP, rdH, go_sem]
    unfold BeginE
    refine ⟨rfl, ?_⟩
    simp -implicitDefEqProofs only [codeB, go_sem]
    refine AWp.of_awpD [] hΓ hmix (by kernel_rfl) ?_
    simp -implicitDefEqProofs only [go_sem]
    refine ⟨⟨size_slv [], by omega⟩, ⟨size_slv [], one_slv []⟩, ⟨pk_raw outs, .inr (by simp), by omega, by omega⟩, ?_⟩
    unfold RoundE
    simp -implicitDefEqProofs only [killAll, List.foldl, AObj.kill, AV.kill, AV.kill.killL, go_sem]
    rw [show AV.kill.killL 2 rdC = rdC from rfl, show List.map (AObj.kill 2) (List.replicate m .dead) = List.replicate m .dead by rw [List.map_replicate]; rfl]
    refine ⟨_, ?_, .inl rfl, ?_⟩
    rotate_left
    · rw [List.take_length]
      simp [codeB, pk_snoc, slV]
    · simp
  · rintro v h' ⟨m', rfl⟩
    unfold RangeK
    simp -implicitDefEqProofs only [killAll, List.foldl, rdH, codeB, go_sem]
    refine AWp.freeze 2 rfl ?_
    refine AWp.of_awpD [] hΓ hmix (by kernel_rfl) ?_
    simp -implicitDefEqProofs only [Frozen, go_sem]
end Go.Proofs.Ytgkbafkmbokkaaa
end

section
namespace Go.Proofs.Ytgkbafkmbokkaaa
open Go Go.AM
set_option maxRecDepth 100000
set_option linter.unusedSimpArgs false

/-- Where a word is first, or -1. -/
def ixL (x : List UInt8) : List (List UInt8) → Nat → Int
  | [], _ => -1
  | a :: l, k => if a = x then k else ixL x l (k + 1)
theorem ixL_at (x : List UInt8) : ∀ (l : List (List UInt8)) (n k : Nat) (hk : k < l.length), (∀ j (hj : j < k), l[j] ≠ x) → l[k] = x → ixL x l n = ((n + k : Nat) : Int)
  | [], n, k, hk, _, _ => absurd hk (Nat.not_lt_zero k)
  | a :: l, n, 0, _, _, h => by
    have : a = x := h
    subst this; unfold ixL; simp
  | a :: l, n, k + 1, hk, h0, h => by
    have h1 : a ≠ x := h0 0 (by omega)
    unfold ixL
    rw [if_neg h1]
    refine (ixL_at x l (n + 1) k (by simpa using hk) (fun j hj => h0 (j + 1) (by omega)) h).trans ?_
    congr 1; omega
theorem ixL_none (x : List UInt8) : ∀ (l : List (List UInt8)) (n : Nat), x ∉ l → ixL x l n = -1
  | [], _, _ => rfl
  | a :: l, n, h => by
    simp only [List.mem_cons, not_or] at h
    unfold ixL
    rw [if_neg (fun e => h.1 e.symm)]
    exact ixL_none x l (n + 1) h.2
theorem ixL_mem (x : List UInt8) : ∀ (l : List (List UInt8)) (n : Nat), decide (0 ≤ ixL x l n) = decide (x ∈ l)
  | [], _ => by simp [ixL]
  | a :: l, n => by
    unfold ixL
    by_cases h : a = x
    · rw [if_pos h, decide_eq_true (by omega), decide_eq_true (by simp [h])]
    · rw [if_neg h, ixL_mem x l (n + 1)]
      exact decide_eq_decide.2 ⟨fun h' => by simp [h'], fun h' => (List.mem_cons.1 h').resolve_left (fun e => h e.symm)⟩

theorem t48 (ws : List (List UInt8)) (x : List UInt8) (hl : ws.length ≤ 9223372036854775807) : PFn Try.prog 79 [.sl (ws.map .str), .str x] [.int .i64 (ixL x ws 0)] := by
  refine PFn.of_body hΓ Try.func79 (by kernel_rfl) rfl (AWp.of_awpD [] hΓ hmix (by kernel_rfl) ?_)
  simp +contextual -implicitDefEqProofs only [Try.ntmps79, Try.results79, Nat.reduceAdd, Nat.reduceSub, go_sem]
  refine AWp.loopI (fun k : Nat => ⟨mkF 19 [(0, .p (.sl (ws.map .str))), (1, .p (.str x)), (7, .p (.int .i64 ws.length)), (8, .p (.int .i64 k))], []⟩)
    (fun k => k ≤ ws.length ∧ ∀ j (hj : j < ws.length), j < k → ws[j] ≠ x) (fun k => ws.length - k) 0 (by simp [go_sem]) (by simp) ?_
  rintro k ⟨hk, h0⟩
  refine AWp.of_awpD [] hΓ hmix (by kernel_rfl) ?_
  simp +contextual -implicitDefEqProofs only [getD_map_lt, ↓reduceIte, go_sem]
  refine ⟨fun hlt => ⟨fun he => ?_, fun hne => ⟨by simp only [InR]; omega, k + 1, by simp, ⟨hlt, fun j hj hjk => ?_⟩, by omega⟩⟩, fun hge => ?_⟩
  · rw [← he, ixL_at x ws 0 k hlt (fun j hj => h0 j (by omega) hj) he.symm]; simp
  · by_cases hjk' : j < k
    · exact h0 j hj hjk'
    · have : j = k := by omega
      subst this; exact fun e => hne e.symm
  · refine (ixL_none x ws 0 (fun hm => ?_)).symm
    obtain ⟨j, hj, e⟩ := List.getElem_of_mem hm
    exact h0 j hj (by omega) e

theorem t16 (ws : List (List UInt8)) (x : List UInt8) (hl : ws.length ≤ 9223372036854775807) : PFn Try.prog 44 [.sl (ws.map .str), .str x] [.bool (decide (x ∈ ws))] := by
  refine PFn.of_body hΓ Try.func44 (by kernel_rfl) rfl (AWp.of_awpD [] hΓ hmix (by kernel_rfl) ?_)
  simp +contextual -implicitDefEqProofs only [Try.ntmps44, Try.results44, Nat.reduceAdd, Nat.reduceSub, go_sem]
  refine callK_fn (t48 ws x hl) (.pures rfl) ?_
  simp -implicitDefEqProofs only [go_sem]
  exact ixL_mem x ws 0

end Go.Proofs.Ytgkbafkmbokkaaa
end

