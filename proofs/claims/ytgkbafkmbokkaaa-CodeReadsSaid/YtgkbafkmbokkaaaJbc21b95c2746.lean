/-
  DERIVED: THE SHELF's CONTRACTS AT THIS DUMP, IN PLAIN WORDS (tools/lay-plain.mjs out of 'YtgkbafkmbokkaaaShelfG.lean', which tools/lay-shelf.mjs wrote): THE SAME DECLARATIONS UNDER THE SAME NAMES: 'import', 'namespace', 'open', 'def', 'theorem' AND NOTHING ELSE: no command of the shelf's: FOR A HAND-IN. Each laying: the table of numbers ('.._ren') and one theorem, a field a fact of the dump's own or the kernel's comparison; each contract: ONE APPLICATION.
  slices.Grow of the nil list, as a contract with the heap; slices.Concat of lists of words; slices.Reverse of a held list of words.
  slices.Concat of lists of words.
  slices.Reverse of a held list of words.
  The chapter's examples: what awake gives.
  The law CodeMakes.
  code.readings: the recursive closure and its loop.
  SameLists at equal lists; the reference's check and readings.
-/
import Derived.Shelf.Spec.SlicesGrow
import Derived.Shelf.SlGeneric
import Derived.Ground.Names8Prog
import Derived.Test.YtgkbafkmbokkaaaProg
import Derived.Test.YtgkbafkmbokkaaaJacf0c6be7c94
import Derived.Test.YtgkbafkmbokkaaaJ43ee06514102
import Derived.Test.YtgkbafkmbokkaaaJ16a1c712b009

section
namespace Go.Proofs
open Go.Shelf
def Try.growS_ren : Go.Shelf.Ren := ⟨fun | 4 => 61 | n => n, fun | 22 => 22 | 25 => 9 | 3 => 3 | 4 => 4 | 9 => 9 | 20 => 20 | 0 => 0 | n => n, fun | n => n⟩
theorem Try.growS : Go.Proofs.Lays8.n4 Try.prog Try.growS_ren := {
  mixed := by kernel_rfl
  f4 := ⟨Try.f61.name, by decide, Try.func61.trans (congrArg some (by kernel_rfl))⟩
  t0 := Try.underlying0
  a0 := Try.isAgg0
  z0 := Try.sizeOf0
  v0 := Try.zeroValue0
  t3 := Try.underlying3
  a3 := Try.isAgg3
  z3 := Try.sizeOf3
  v3 := Try.zeroValue3
  t4 := Try.underlying4
  a4 := Try.isAgg4
  z4 := Try.sizeOf4
  v4 := Try.zeroValue4
  t9 := Try.underlying9
  a9 := Try.isAgg9
  z9 := Try.sizeOf9
  v9 := Try.zeroValue9
  t20 := Try.underlying20
  a20 := Try.isAgg20
  z20 := Try.sizeOf20
  v20 := Try.zeroValue20
  t22 := Try.underlying22
  a22 := Try.isAgg22
  z22 := Try.sizeOf22
  v22 := Try.zeroValue22 }
end Go.Proofs
end

section
namespace Go.Proofs.Ytgkbafkmbokkaaa
open Go Go.AM Go.RowKit
set_option maxRecDepth 100000
set_option linter.unusedSimpArgs false

theorem c61 {h : List AObj} (n : Nat) (hn : 0 < n) (hn2 : n ≤ 1000000) : AC Try.prog 61 [.full [], .p (.int .i64 n)] h [] (fun v h' => v = .own h.length 0 ∧ h' = h ++ [.row 9 1 [] .own]) := by
  refine ⟨entersF_of Try.func61 (by kernel_rfl) rfl, fun X I μ ob w cargs R hlen hargs _ => ?_⟩
  obtain ⟨a0, b0, rfl⟩ : ∃ a b, cargs = [a, b] := by
    match cargs, hlen with
    | [a, b], _ => exact ⟨a, b, rfl⟩
  have g0 := hargs 0 (by simp)
  have g1 := hargs 1 (by simp)
  simp only [List.getD_cons_zero, List.getD_cons_succ] at g0 g1
  obtain ⟨a, rfl⟩ : ∃ a, a0 = .slice a 0 0 := by
    cases g0 with
    | full l a hp => exact ⟨a, rfl⟩
  rw [g1.int_inv]
  obtain ⟨i0, hi0, hisz, hib, hz⟩ := (hΓ 9 _ rfl).info
  obtain ⟨zv, hz1, _, hsz⟩ := hz _ rfl
  simp only at hisz hib hsz
  have hc := Any8.slices_Grow_grow (ρ := Try.growS_ren) Try.growS i0 zv hi0 hz1 (by omega) a 0 0 n [] w (by omega) (by omega) (by rw [hib]; omega) (by omega) (by simp) (fun _ => rfl) (fun _ _ j v hj => by simp at hj)
  refine Calls.mono (P := Try.prog) hc ?_
  rintro e w' ⟨rfl, rfl⟩
  have hg := grown_drew_alloc w (.cells ((#[] : Array Value) ++ Builtin.zeroCells zv.cells (0 + n - 0) ++ Builtin.zeroCells zv.cells (grownCap w (0 + n) 0 9 - (0 + n))) 9)
  have hcg : 0 + n ≤ grownCap w (0 + n) 0 9 := grownCap_ge w _ _ _
  have hcm : grownCap w (0 + n) 0 9 ≤ maxLen := grownCap_le_maxLen w _ _ _ (by simp only [maxLen]; omega)
  have ez : zv.cells.size = 1 := hsz
  have hC : ∃ C : Array Value, C = (#[] : Array Value) ++ Builtin.zeroCells zv.cells (0 + n - 0) ++ Builtin.zeroCells zv.cells (grownCap w (0 + n) 0 9 - (0 + n)) ∧ C.size = grownCap w (0 + n) 0 9 := ⟨_, rfl, by
    simp only [Array.size_append, List.size_toArray, List.length_nil, size_zeroCells, ez]; omega⟩
  obtain ⟨C, eC, hCs⟩ := hC
  have ht : Try.growS_ren.t 25 = 9 := rfl
  rw [ht, ← eC]
  rw [← eC] at hg
  generalize grownCap w (0 + n) 0 9 = cap at hcg hcm hCs
  have hnew : (w.drew.alloc (.cells C 9)).heap[w.heap.size]? = some (.cells C 9) := heap_alloc_new w.drew _
  have R1 := R.name (v := .slice (some ⟨w.heap.size, 0, none⟩) 0 cap) (g := some w.heap.size) (o := .row 9 1 [] .own) hg (fun k e => by injection e with e; subst e; exact ⟨Nat.le_refl _, by simp⟩) (by
    refine ⟨fun x hx => (by cases hx), .inl ⟨w.heap.size, by simp, cap, C, (0, 0), [], by simp, hnew, fun _ => rfl, fun j hj => by simp, by simp, hcm, by rw [hCs]; simp, by simp, by simp, fun j hj => by simp at hj⟩⟩)
  exact ⟨_, .own h.length 0, _, I, _, _, rfl, R1, .own _ _ _ _ (by simp) (by simp), fun _ h => h, fun b hb _ => upd_other _ _ (by omega), by simp, fun g hg => .inl hg,
    fun k g2 hk => by
      by_cases e : k = h.length
      · subst e; rw [upd_same] at hk; injection hk with hk; subst hk; exact .inr (Nat.le_refl _)
      · rw [upd_other _ _ e] at hk; exact .inl ⟨k, hk⟩,
    fun k hk _ => Below.heap_alloc w.drew _ k hk, rfl, rfl⟩
end Go.Proofs.Ytgkbafkmbokkaaa
end

section
namespace Go.Proofs.Ytgkbafkmbokkaaa
open Go Go.AM
set_option maxRecDepth 100000
set_option linter.unusedSimpArgs false

def wsV (l : List (List UInt8)) : PV := .sl (l.map .str)
def wssV (wss : List (List (List UInt8))) : List PV := wss.map wsV

theorem c29 {h : List AObj} (hK : h.map (AObj.kill h.length) = h) (wss : List (List (List UInt8))) (hn : 0 < wss.flatten.length) (hn2 : wss.flatten.length ≤ 1000000) (hw : wss.length ≤ 1000000) :
    AC Try.prog 29 [.p (.sl (wssV wss))] h [] (fun v h' => v = .own h.length wss.flatten.length ∧ h' = h ++ [.row 9 1 (wss.flatten.map .str) .own]) := by
  refine AC.of_bodyE hΓ Try.func29 (by kernel_rfl) rfl (AWp.mono (Q := fun e st => AM.Ends e ∧ st.tmps.getD 2 .junk = .own h.length wss.flatten.length ∧ st.h = h ++ [.row 9 1 (wss.flatten.map .str) .own]) ?_ ?_)
  rotate_left
  · rintro e ⟨tm, h'⟩ ⟨he, h1, h2⟩
    simp only at h1 h2
    subst h2
    refine ⟨he, _, Less.refl _, ?_⟩
    unfold DoneE
    simp +contextual -implicitDefEqProofs only [Try.results29, h1, go_sem]
    exact ⟨h.length + 1, by omega, .inl (by simp), List.take_of_length_le (by simp)⟩
  have gL : ∀ o : AObj, (h ++ [o])[h.length]? = some o := fun o => by simp
  have sL : ∀ o o' : AObj, (h ++ [o]).set h.length o' = h ++ [o'] := fun o o' => by simp
  have hwl : (wssV wss).length = wss.length := by simp [wssV]
  have hget : ∀ k (hk : k < wss.length), (wssV wss).getD k default = .sl (wss[k].map .str) := fun k hk => by unfold wssV; rw [getD_map_lt _ _ _ _ hk]; rfl
  have hflat : ∀ k (hk : k < wss.length), (wss.take (k + 1)).flatten = (wss.take k).flatten ++ wss[k] := fun k hk => by rw [List.take_succ_eq_append_getElem hk, List.flatten_append]; simp
  have hle : ∀ k, (wss.take k).flatten.length ≤ wss.flatten.length := fun k => by
    conv => rhs; rw [← List.take_append_drop k wss, List.flatten_append, List.length_append]
    omega
  refine AWp.of_awpD [] hΓ hmix (by kernel_rfl) ?_
  simp -implicitDefEqProofs only [Try.ntmps29, Nat.reduceAdd, Nat.reduceSub, hwl, go_sem]
  refine AWp.loopI (fun k : Nat => ⟨mkF 36 [(0, .p (.sl (wssV wss))), (2, .full []), (3, .p (.int .i64 (wss.take k).flatten.length)), (9, .p (.sl (wssV wss))), (10, .p (.int .i64 wss.length)), (11, .p (.int .i64 k))], h⟩)
    (fun k => k ≤ wss.length) (fun k => wss.length - k) 0 (by simp [go_sem, weakH_self]) (by omega) ?_
  intro k hk
  refine AWp.of_awpD [] hΓ hmix (by kernel_rfl) ?_
  by_cases hlt : k < wss.length
  · have h5 := hle (k + 1)
    rw [hflat k hlt, List.length_append] at h5
    have h6 : ¬ ((wss.take k).flatten.length : Int) + (wss[k].length : Int) < 0 := by omega
    simp -implicitDefEqProofs only [hlt, hwl, hget k hlt, h6, ↓reduceIte, go_sem]
    exact ⟨by simp only [InR]; omega, by simp only [InR]; omega, k + 1, ⟨⟨by rw [hflat k hlt, List.length_append]; omega, by omega⟩, weakH_self _⟩, hlt, by omega⟩
  · simp -implicitDefEqProofs only [hlt, hwl, go_sem]
    have hfull : wss.take k = wss := List.take_of_length_le (by omega)
    rw [hfull]
    refine callK_ac (c61 (h := h) wss.flatten.length hn hn2) (by simp) ?_
    rintro v h' ⟨rfl, rfl⟩
    simp -implicitDefEqProofs only [killAll, List.foldl, hwl, go_sem]
    refine AWp.loopI (fun j : Nat => ⟨mkF 36 [(0, .p (.sl (wssV wss))), (6, .own h.length (wss.take j).flatten.length), (25, .p (.sl (wssV wss))), (26, .p (.int .i64 wss.length)), (27, .p (.int .i64 j))], h ++ [.row 9 1 ((wss.take j).flatten.map .str) .own]⟩)
      (fun j => j ≤ wss.length) (fun j => wss.length - j) 0 (by simp [go_sem, weakH_self]) (by omega) ?_
    intro j hj
    refine AWp.of_awpD [] hΓ hmix (by kernel_rfl) ?_
    by_cases hlt2 : j < wss.length
    · have h5 := hle (j + 1)
      rw [hflat j hlt2, List.length_append] at h5
      simp -implicitDefEqProofs only [hlt2, hwl, hget j hlt2, gL, sL, hK, List.map_append, ↓reduceIte, go_sem]
      refine ⟨⟨size_str _, one_str _⟩, ⟨by omega, by omega⟩, by simp only [InR]; omega, j + 1, ⟨⟨?_, by omega⟩, ?_⟩, hlt2, by omega⟩
      · rw [hflat j hlt2, List.length_append]
      · rw [hflat j hlt2, List.map_append]
        simp only [ite_self]
        exact weakH_self _
    · have hfull2 : wss.take j = wss := List.take_of_length_le (by omega)
      simp -implicitDefEqProofs only [hlt2, hwl, hfull2, go_sem]
end Go.Proofs.Ytgkbafkmbokkaaa
end

section
namespace Go.Proofs.Ytgkbafkmbokkaaa
open Go Go.AM
set_option maxRecDepth 100000
set_option linter.unusedSimpArgs false

/-- A list of which i words at each end have changed places. -/
def rvL (l : List (List UInt8)) (i : Nat) : List (List UInt8) := (List.range l.length).map fun k => if k < i ∨ l.length - i ≤ k then l.getD (l.length - 1 - k) [] else l.getD k []

theorem rvL_len (l : List (List UInt8)) (i : Nat) : (rvL l i).length = l.length := by simp [rvL]
theorem rvL_get {l : List (List UInt8)} {i k : Nat} (hk : k < l.length) : (rvL l i)[k]? = some (if k < i ∨ l.length - i ≤ k then l.getD (l.length - 1 - k) [] else l.getD k []) := by
  simp [rvL, List.getElem?_map, List.getElem?_range hk]
theorem rvL_zero (l : List (List UInt8)) : rvL l 0 = l := by
  apply List.ext_getElem?
  intro k
  by_cases hk : k < l.length
  · rw [rvL_get hk, if_neg (by omega), List.getD_eq_getElem?_getD, List.getElem?_eq_getElem hk]; rfl
  · rw [List.getElem?_eq_none (by rw [rvL_len]; omega), List.getElem?_eq_none (by omega)]
theorem rvL_end {l : List (List UInt8)} {i : Nat} (h1 : 2 * i ≤ l.length) (h2 : l.length ≤ 2 * i + 1) : rvL l i = l.reverse := by
  apply List.ext_getElem?
  intro k
  by_cases hk : k < l.length
  · rw [rvL_get hk, List.getElem?_reverse hk]
    have e : l.getD (l.length - 1 - k) [] = l[l.length - 1 - k]'(by omega) := by rw [List.getD_eq_getElem?_getD, List.getElem?_eq_getElem (by omega)]; rfl
    by_cases hc : k < i ∨ l.length - i ≤ k
    · rw [if_pos hc, e, List.getElem?_eq_getElem (by omega)]
    · rw [if_neg hc]
      have : k = l.length - 1 - k := by omega
      rw [← this, List.getD_eq_getElem?_getD, List.getElem?_eq_getElem hk]; rfl
  · rw [List.getElem?_eq_none (by rw [rvL_len]; omega), List.getElem?_eq_none (by simp; omega)]
theorem rvL_step {l : List (List UInt8)} {i j : Nat} (hj : i + j + 1 = l.length) (hlt : i < j) : ((rvL l i).set i (l.getD j [])).set j (l.getD i []) = rvL l (i + 1) := by
  apply List.ext_getElem?
  intro k
  by_cases hk : k < l.length
  · rw [List.getElem?_set, List.getElem?_set, rvL_get hk, rvL_get hk]
    simp only [List.length_set, rvL_len]
    by_cases e1 : j = k
    · subst e1
      rw [if_pos rfl, if_pos hk, if_pos (by omega), show l.length - 1 - j = i by omega]
    · rw [if_neg e1]
      by_cases e2 : i = k
      · subst e2
        rw [if_pos rfl, if_pos hk, if_pos (by omega), show l.length - 1 - i = j by omega]
      · rw [if_neg e2]
        by_cases hc : k < i ∨ l.length - i ≤ k
        · rw [if_pos hc, if_pos (by omega)]
        · rw [if_neg hc, if_neg (by omega)]
  · rw [List.getElem?_eq_none (by simp [rvL_len]; omega), List.getElem?_eq_none (by rw [rvL_len]; omega)]

theorem c30 {h : List AObj} {b : Nat} (l : List (List UInt8)) (hb : h[b]? = some (.row 9 1 (l.map PV.str) .own)) (hl : l.length ≤ 1000000) :
    AC Try.prog 30 [.own b l.length] h [] (fun v h' => v = .tup [] ∧ h' = h.set b (.row 9 1 (l.reverse.map PV.str) .own)) := by
  have hbl : b < h.length := (List.getElem?_eq_some_iff.1 hb).1
  refine AC.of_bodyE hΓ Try.func30 (by kernel_rfl) rfl (AWp.mono (Q := fun e st => AM.Ends e ∧ st.h = h.set b (.row 9 1 (l.reverse.map PV.str) .own)) ?_ ?_)
  rotate_left
  · rintro e ⟨tm, h'⟩ ⟨he, h2⟩
    simp only at h2
    subst h2
    refine ⟨he, _, Less.refl _, ?_⟩
    unfold DoneE
    simp +contextual -implicitDefEqProofs only [Try.results30, go_sem]
    exact ⟨h.length, Nat.le_refl _, .inl (by simp), List.take_of_length_le (by simp)⟩
  have gB : ∀ o : AObj, (h.set b o)[b]? = some o := fun o => by simp [hbl]
  have sB : ∀ o o' : AObj, (h.set b o).set b o' = h.set b o' := fun o o' => by simp
  refine AWp.of_awpD [] hΓ hmix (by kernel_rfl) ?_
  simp -implicitDefEqProofs only [Try.ntmps30, Nat.reduceAdd, Nat.reduceSub, go_sem]
  refine ⟨by simp only [InR]; omega, ?_⟩
  refine AWp.loopI (fun i : Nat => ⟨mkF 28 [(0, .own b l.length), (2, .p (.int .i64 i)), (3, .p (.int .i64 ((l.length : Int) - 1 - i)))], h.set b (.row 9 1 ((rvL l i).map PV.str) .own)⟩)
    (fun i => 2 * i ≤ l.length) (fun i => l.length - i) 0 (by
      rw [rvL_zero, show h.set b (.row 9 1 (l.map PV.str) .own) = h from by
        apply List.ext_getElem?
        intro k
        rw [List.getElem?_set]
        split
        · rename_i e; subst e
          first
            | exact hb.symm
            | (rw [if_pos hbl]; exact hb.symm)
        · rfl]
      simp [go_sem, weakH_self]) (by omega) ?_
  intro i hi
  refine AWp.of_awpD [(3, 13)] hΓ hmix (by kernel_rfl) ?_
  by_cases hlt : (i : Int) < (l.length : Int) - 1 - i
  · obtain ⟨j, hj⟩ : ∃ j : Nat, (l.length : Int) - 1 - i = j := ⟨(((l.length : Int) - 1 - i)).toNat, by omega⟩
    rw [hj] at hlt ⊢
    have hjl : j < l.length := by omega
    have hil : i < l.length := by omega
    have e1 : ((rvL l i).map PV.str).getD i default = .str (l.getD i []) := by
      rw [List.getD_eq_getElem?_getD, List.getElem?_map, rvL_get hil, if_neg (by omega)]; rfl
    have e2 : ((rvL l i).map PV.str).getD j default = .str (l.getD j []) := by
      rw [List.getD_eq_getElem?_getD, List.getElem?_map, rvL_get hjl, if_neg (by omega)]; rfl
    have e3 : (((rvL l i).map PV.str).set i (.str (l.getD j []))).set j (.str (l.getD i [])) = (rvL l (i + 1)).map PV.str := by
      rw [← rvL_step (j := j) (by omega) (by omega), List.map_set, List.map_set]
    simp -implicitDefEqProofs only [hlt, gB, sB, e1, e2, e3, Int.toNat_natCast, go_sem]
    have hr := rvL_len l i
    refine ⟨hjl, by omega, hil, by omega, hil, ⟨by omega, rfl⟩, hjl, ⟨by simp; omega, rfl⟩, by simp only [InR]; omega, by simp only [InR]; omega, i + 1, ⟨⟨by omega, by omega⟩, weakH_self _⟩, by omega, by omega⟩
  · simp -implicitDefEqProofs only [hlt, go_sem]
    rw [rvL_end hi (by omega)]

end Go.Proofs.Ytgkbafkmbokkaaa
end

section
namespace Go.Proofs.Ytgkbafkmbokkaaa
open Go Go.AM
set_option maxRecDepth 1000000
set_option linter.unusedSimpArgs false

def xS : PV := .agg [.int .i64 2, .sl [.str [49], .str [48, 48, 49], .str [49, 48, 48]]]
def dS : PV := .agg [.int .i64 2, .sl [.str [49], .str [48, 48]]]

theorem made_ex : made [[49, 48], [48], [48, 49], [48]] = [[48], [48, 49], [49, 48]] := made_of (by unfold ltW; decide) (fun x => by simp only [List.mem_cons, List.not_mem_nil, or_false]; exact ⟨fun h => by rcases h with h | h | h | h <;> simp [h], fun h => by rcases h with h | h | h <;> simp [h]⟩)
theorem made_ex2 : made [[49], [48, 48]] = [[49], [48, 48]] := made_of (by unfold ltW; decide) (fun x => Iff.rfl)

theorem make_ex : PFn Try.prog 13 [.int .i64 2, .sl [.str [49, 48], .str [48], .str [48, 49], .str [48]]] [cS, .int .i64 0] := by
  have h := t71 2 [[49, 48], [48], [48, 49], [48]] (by decide)
  have hc : codeCheck 2 [[48], [48, 49], [49, 48]] = 0 := by kernel_rfl
  rw [made_ex, hc, if_pos rfl] at h
  exact h
theorem make_ex2 : PFn Try.prog 13 [.int .i64 2, .sl [.str [49], .str [48, 48]]] [dS, .int .i64 0] := by
  have h := t71 2 [[49], [48, 48]] (by decide)
  have hc : codeCheck 2 [[49], [48, 48]] = 0 := by kernel_rfl
  rw [made_ex2, hc, if_pos rfl] at h
  exact h
theorem prefix_ex : PFn Try.prog 15 [cS] [.bool false, .int .i64 0] := by
  have h := t38 2 [[48], [48, 49], [49, 48]]
  have hc : codeCheck 2 [[48], [48, 49], [49, 48]] = 0 := by kernel_rfl
  have ha : aloneB (fun w x => x.isPrefixOf w) [[48], [48, 49], [49, 48]] = false := by kernel_rfl
  rw [hc, if_pos rfl, if_pos rfl, ha] at h
  exact h
theorem compose_ex : PFn Try.prog 26 [cS, dS] [xS, .int .i64 0] := PFn.of_runE (C := ⟨Try.prog, Γ, axT⟩) (fuel := 900) hEC (by kernel_rfl)
theorem equal_ex : PFn Try.prog 47 [.sl [.str [48], .str [48, 49], .str [49, 48]], .sl [.str [48], .str [48, 49], .str [49, 48]]] [.bool true] := PFn.of_runE (C := ⟨Try.prog, Γ, axT⟩) (fuel := 900) hEC (by kernel_rfl)
theorem equal_ex2 : PFn Try.prog 47 [.sl [.str [49], .str [48, 48, 49], .str [49, 48, 48]], .sl [.str [49], .str [48, 48, 49], .str [49, 48, 48]]] [.bool true] := PFn.of_runE (C := ⟨Try.prog, Γ, axT⟩) (fuel := 900) hEC (by kernel_rfl)
theorem same_ex : PFn Try.prog 42 [.sl [.sl [.int .i64 0, .int .i64 2], .sl [.int .i64 1, .int .i64 0]], .sl [.sl [.int .i64 0, .int .i64 2], .sl [.int .i64 1, .int .i64 0]]] [.bool true] := PFn.of_runE (C := ⟨Try.prog, Γ, axT⟩) (fuel := 900) hEC (by kernel_rfl)

theorem factor_ex : PFn Try.prog 39 [cS, .str [48, 49, 48]] [.sl [.sl [.int .i64 0, .int .i64 2], .sl [.int .i64 1, .int .i64 0]], .int .i64 0] := PFn.of_runE (C := ⟨Try.prog, Γ, axT⟩) (fuel := 900) hEC (by kernel_rfl)
theorem awake_ok : PFn Try.prog 12 [] [.bool true] := by
  refine PFn.of_body hΓ Try.func12 (by kernel_rfl) rfl (AWp.of_awpD [] hΓ hmix (by kernel_rfl) ?_)
  simp -implicitDefEqProofs only [Try.ntmps12, Try.results12, Nat.reduceAdd, Nat.reduceSub, go_sem]
  refine ⟨⟨by simp [sizeOK, PV.cells], by omega⟩, callK_fn make_ex (.pures rfl) ?_⟩
  simp -implicitDefEqProofs only [cS, go_sem]
  refine callK_fn prefix_ex (.still rfl) ?_
  simp -implicitDefEqProofs only [cS, go_sem]
  refine callK_fn factor_ex (.still rfl) ?_
  simp -implicitDefEqProofs only [cS, go_sem]
  refine ⟨⟨by simp [sizeOK, PV.cells], by omega⟩, callK_fn make_ex2 (.pures rfl) ?_⟩
  simp -implicitDefEqProofs only [dS, go_sem]
  refine callK_fn compose_ex (.still rfl) ?_
  simp -implicitDefEqProofs only [xS, ite_self, go_sem]
  refine ⟨⟨by simp [sizeOK, PV.cells], by omega⟩, callK_fn equal_ex (.pures rfl) ?_⟩
  simp -implicitDefEqProofs only [go_sem]
  refine ⟨⟨by simp [sizeOK, PV.cells], by omega⟩, ⟨by simp [sizeOK, PV.cells], by omega⟩, ⟨by simp [sizeOK, PV.cells], by omega⟩, callK_fn same_ex (.pures rfl) ?_⟩
  simp -implicitDefEqProofs only [go_sem]
  refine ⟨⟨by simp [sizeOK, PV.cells], by omega⟩, callK_fn equal_ex2 (.pures rfl) ?_⟩
  simp -implicitDefEqProofs only [go_sem]
end Go.Proofs.Ytgkbafkmbokkaaa
end

section
namespace Go.Proofs.Ytgkbafkmbokkaaa
open Go Go.AM
set_option maxRecDepth 100000
set_option linter.unusedSimpArgs false

def fineB (q : Int) (ws : List (List UInt8)) : Bool := !(greatC ws || ws.any greatW) && decide (codeCheck q ws = 0)
theorem u28 (q : Int) (ws : List (List UInt8)) (hl : ws.length ≤ 9223372036854775807) : PFn Try.prog 28 [codeV q ws] [.bool (fineB q ws)] := by
  refine PFn.of_body hΓ Try.func28 (by kernel_rfl) rfl (AWp.of_awpD [] hΓ hmix (by kernel_rfl) ?_)
  simp +contextual -implicitDefEqProofs only [codeV, Try.ntmps28, Try.results28, Nat.reduceAdd, Nat.reduceSub, go_sem]
  refine callK_fn (t11 q ws hl) (.still rfl) ?_
  unfold fineB
  cases hg : (greatC ws || ws.any greatW)
  · simp -implicitDefEqProofs only [go_sem]
    refine callK_fn (t44 q ws) (.still rfl) ?_
    by_cases hc : codeCheck q ws = 0
    · rw [hc]
      simp -implicitDefEqProofs only [go_sem]
    · simp -implicitDefEqProofs only [hc, go_sem]
  · simp -implicitDefEqProofs only [go_sem]
    rfl

theorem Valid.strict {q : Int} {ws : List (List UInt8)} (hv : Valid q ws) : ws.Pairwise ltW := List.pairwise_iff_getElem.2 fun i j hi hj hij => by
  have := hv.lt i j hij hj
  rwa [List.getD_eq_getElem?_getD, List.getElem?_eq_getElem hi, Option.getD_some, List.getD_eq_getElem?_getD, List.getElem?_eq_getElem hj, Option.getD_some] at this

theorem u5 (q : Int) (ws : List (List UInt8)) (n : Int) (hws : ws.length ≤ 9223372036854775807) (hn0 : 0 ≤ n) (hn1 : n ≤ 255) : PFn Try.prog 5 [codeV q ws, .int .u8 n] [.bool true] := by
  refine PFn.of_body hΓ Try.func5 (by kernel_rfl) rfl (AWp.seq (AWp.of_awpD [] hΓ hmix (by kernel_rfl) ?_))
  simp -implicitDefEqProofs only [Try.ntmps5, Try.results5, Nat.reduceAdd, Nat.reduceSub, codeV, go_sem]
  refine AWp.seq (AWp.of_awpD [] hΓ hmix (by kernel_rfl) ?_)
  simp -implicitDefEqProofs only [go_sem]
  refine callK_fn (u28 q ws hws) (.still rfl) ?_
  cases hf : fineB q ws
  · simp -implicitDefEqProofs only [go_sem]
    refine callK_fn awake_ok (.pures rfl) ?_
    simp -implicitDefEqProofs only [go_sem]
  simp only [fineB, Bool.and_eq_true, decide_eq_true_eq] at hf
  have h := hf.2
  have hv := valid_of h
  have hlen := hv.len
  have hpos := hv.pos
  simp -implicitDefEqProofs only [go_sem]
  have hwr : IntKind.i64.wrap n = n := InR.wrap (k := .i64) (by simp only [InR]; omega)
  obtain ⟨k, hk⟩ : ∃ k : Nat, n % (ws.length : Int) = k := ⟨(n % (ws.length : Int)).toNat, (Int.toNat_of_nonneg (Int.emod_nonneg _ (by omega))).symm⟩
  have hkl : k < ws.length := by have := Int.emod_lt_of_pos n (show (0 : Int) < ws.length by omega); omega
  refine AWp.seq (AWp.of_awpD [] hΓ hmix (by kernel_rfl) ?_)
  simp -implicitDefEqProofs only [hwr, go_sem]
  refine ⟨⟨by omega, by omega⟩, ?_⟩
  rw [hk]
  refine AWp.seq ?_
  refine AWp.planL (.q 0 (.q 1 (.q 2 (.q 3 (.q 4 (.q 5 (.q 6 (.q 7 (.q 8 (.q 9 (.q 10 (.e 11 (.q 12 .fin) .nil)))))))))))) hΓ hmix (by kernel_rfl) ?_
  simp -implicitDefEqProofs only [go_sem]
  refine ⟨size_str _, by omega, size_str _, by omega, ⟨by simp [sizeOK, PV.cells], by omega⟩, ?_⟩
  have hwss : [PV.sl (List.drop k (List.map PV.str ws)), PV.sl (List.map PV.str ws), PV.sl (List.take k (List.map PV.str ws))] = wssV [ws.drop k, ws, ws.take k] := by simp [wssV, wsV]
  rw [hwss]
  have hfl : [ws.drop k, ws, ws.take k].flatten = ws.drop k ++ (ws ++ ws.take k) := by simp
  have hfn : (ws.drop k ++ (ws ++ ws.take k)).length = 2 * ws.length := by simp; omega
  have hc := c29 (h := [codeB q ws]) rfl [ws.drop k, ws, ws.take k] (by rw [hfl]; omega) (by rw [hfl]; omega) (by simp)
  rw [hfl] at hc
  generalize hall : ws.drop k ++ (ws ++ ws.take k) = l at hc hfn
  refine callK_ac hc.full0 (by simp) ?_
  rintro v h' ⟨rfl, rfl⟩
  simp -implicitDefEqProofs only [killAll, List.foldl, go_sem]
  refine AWp.seq (AWp.of_awpD [] hΓ hmix (by kernel_rfl) ?_)
  simp -implicitDefEqProofs only [codeB, go_sem]
  refine callK_ac (c30 l rfl (by omega)) (by simp) ?_
  rintro v h' ⟨rfl, rfl⟩
  simp -implicitDefEqProofs only [killAll, List.foldl, codeB, go_sem]
  refine AWp.freeze 1 rfl ?_
  refine AWp.of_awpD [] hΓ hmix (by kernel_rfl) ?_
  simp -implicitDefEqProofs only [Frozen, codeB, go_sem]
  have hmem : ∀ x, x ∈ l.reverse ↔ x ∈ ws := fun x => by
    rw [List.mem_reverse, ← hall]
    simp only [List.mem_append]
    constructor
    · rintro (hx | hx | hx)
      · exact List.mem_of_mem_drop hx
      · exact hx
      · exact List.mem_of_mem_take hx
    · exact fun hx => .inr (.inl hx)
  have e13 := t71 q l.reverse (by rw [List.length_reverse]; omega)
  rw [made_of (Valid.strict hv) hmem, if_pos h, h] at e13
  refine callK_fn e13 (.pures rfl) ?_
  simp -implicitDefEqProofs only [codeV, go_sem]
  have e23 := u23 q q ws ws hws
  rw [decide_eq_true ⟨rfl, rfl⟩] at e23
  refine callK_fn e23 (.still rfl) ?_
  simp -implicitDefEqProofs only [go_sem]
  refine callK_fn (t45 q ws) (.still rfl) ?_
  rw [h]
  simp -implicitDefEqProofs only [go_sem]
  refine callK_fn awake_ok (.pures rfl) ?_
  simp -implicitDefEqProofs only [go_sem]
end Go.Proofs.Ytgkbafkmbokkaaa
end

section
namespace Go.Proofs.Ytgkbafkmbokkaaa
open Go Go.AM
set_option maxRecDepth 100000
set_option linter.unusedSimpArgs false

def ivN (k : Nat) : PV := .int .i64 (k : Int)
def slV (l : List Nat) : PV := .sl (l.map ivN)
theorem size_iv (l : List Nat) : sizeOK (l.map ivN) 1 := fun x hx => by
  obtain ⟨b, _, rfl⟩ := List.mem_map.1 hx
  rfl
theorem one_iv (l : List Nat) : oneOK (l.map ivN) := fun x hx c hc => by
  obtain ⟨b, _, rfl⟩ := List.mem_map.1 hx
  have : c = ivN b := by simpa [PV.cells, ivN] using hc
  subst this; rfl

/-- slices.Clone of a row of indices. -/
theorem c95 {h : List AObj} {b : Nat} {rk0 : RK} (l : List Nat) (hb : h[b]? = some (.row 3 1 (l.map ivN) rk0)) (hl : l.length ≤ 1000000) :
    AC Try.prog 95 [.own b l.length] h [] (fun v h' => (l = [] ∧ v = .full [] ∧ h' = h) ∨ (∃ rk, rk ≠ .raw ∧ v = .own h.length l.length ∧ h' = h ++ [.row 3 1 (l.map ivN) rk])) := by
  refine AC.of_bodyE hΓ Try.func95 (by kernel_rfl) rfl (AWp.mono (Q := fun e st => AM.Ends e ∧ ((l = [] ∧ st.tmps.getD 2 .junk = .full [] ∧ st.h = h) ∨ (∃ rk, rk ≠ .raw ∧ st.tmps.getD 2 .junk = .own h.length l.length ∧ st.h = h ++ [.row 3 1 (l.map ivN) rk]))) ?_ ?_)
  rotate_left
  · rintro e ⟨tm, h'⟩ ⟨he, ⟨hw, h1, h2⟩ | ⟨rk, hr, h1, h2⟩⟩
    · simp only at h1 h2
      subst h2
      refine ⟨he, _, Less.refl _, ?_⟩
      unfold DoneE
      simp +contextual -implicitDefEqProofs only [Try.results95, h1, go_sem]
      exact ⟨_, Nat.le_refl _, .inl rfl, .inl ⟨hw, List.take_length⟩⟩
    · simp only at h1 h2
      subst h2
      refine ⟨he, _, Less.refl _, ?_⟩
      unfold DoneE
      simp +contextual -implicitDefEqProofs only [Try.results95, h1, go_sem]
      exact ⟨h.length + 1, by omega, .inl (by simp), .inr ⟨rk, hr, List.take_of_length_le (by simp)⟩⟩
  refine AWp.of_awpD [] hΓ hmix (by kernel_rfl) ?_
  cases l with
  | nil =>
    simp -implicitDefEqProofs only [Try.ntmps95, Nat.reduceAdd, Nat.reduceSub, hb, go_sem]
    exact ⟨⟨by simp [sizeOK], by omega⟩, ⟨by simp [sizeOK], by simp [oneOK]⟩, ⟨by simp [sizeOK], by omega, by omega⟩, .inr ⟨.lax, by simp, rfl⟩⟩
  | cons x l =>
    simp -implicitDefEqProofs only [Try.ntmps95, Nat.reduceAdd, Nat.reduceSub, hb, go_sem]
    have h1 := size_iv (x :: l)
    have h2 := one_iv (x :: l)
    simp only [List.map_cons] at h1 h2
    simp only [List.length_cons] at hl
    exact ⟨⟨by simp [sizeOK], by omega⟩, ⟨h1, h2⟩, ⟨by simp [sizeOK], by omega, by omega⟩, .inr ⟨.own, by simp, rfl⟩⟩

theorem RepH.weak {X : Ctx} {I : Nat → Prop} {μ : Nat → Value} {ob : Nat → Option Nat} {h h' : List AObj} {w : World} (hw : weakH h h') (R : RepH X I μ ob h w) : RepH X I μ ob h' w := by
  obtain ⟨h1, h2⟩ := weakH_ok hw
  refine { below := R.below, base := R.base, imm := R.imm, ctx := R.ctx, frz := R.frz, inew := R.inew, may := R.may, names := by rw [h1]; exact R.names, own := R.own, sep := R.sep, past := fun b hb => R.past b (by rw [← h1]; exact hb), objs := fun b o ho => ?_ }
  rcases h2 b o ho with h | h | ⟨x, h, hx⟩
  · subst h; trivial
  · rw [h1]; exact R.objs b o h
  · rw [h1]
    have hO := R.objs b x h
    unfold laxer at hx
    split at hx
    · subst hx
      obtain ⟨q1, q2⟩ := hO
      refine ⟨q1, ?_⟩
      rcases q2 with q2 | ⟨q2, _⟩
      · exact .inl q2
      · cases q2
    · exact hx.elim
theorem AC.weakH {P : Program} {f : FuncId} {args : List AV} {h h' : List AObj} {ks : List Nat} {R : AV → List AObj → Prop} (hf : AC P f args h' ks R) (hw : weakH h h') : AC P f args h ks R := by
  obtain ⟨hl, _⟩ := weakH_ok hw
  exact ⟨hf.1, fun X I μ ob w cargs hR hlen harg hks => by rw [← hl] at harg ⊢; exact hf.2 X I μ ob w cargs (RepH.weak hw hR) hlen harg hks⟩
theorem YC.weakH {P : Program} {b : Nat} {args : List AV} {h h' : List AObj} {ks : List Nat} {R : AV → List AObj → Prop} (hf : YC P b args h' ks R) (hw : weakH h h') : YC P b args h ks R := by
  obtain ⟨hl, _⟩ := weakH_ok hw
  exact fun X I μ ob w cargs hR hlen harg hks => by rw [← hl] at harg ⊢; exact hf X I μ ob w cargs (RepH.weak hw hR) hlen harg hks

theorem eq44n (n : Nat) : aggE Γ .eql 44 (.agg [.p (.bool false), .p (.str (magB n))]) (.agg [.p (.bool false), .p (.str [])]) = some (.p (.bool (decide (n = 0)))) := by
  have : aggE Γ .eql 44 (.agg [.p (.bool false), .p (.str (magB n))]) (.agg [.p (.bool false), .p (.str [])]) = some (.p (.bool (false == false && (bEq (magB n) [] && true)))) := rfl
  rw [this, bEq_eq]
  by_cases h : n = 0
  · subst h; simp [magB_zero]
  · simp only [h, decide_false, Bool.and_true, beq_self_eq_true, Bool.true_and, show ¬ magB n = [] from fun e => h (magB_nil e)]

/-- A list that holds something has a row of its own. -/
def pk {α : Type} (path : List α) : RK := if path.isEmpty then .lax else .own
theorem pk_snoc {α : Type} (path : List α) (k : α) : pk (path ++ [k]) = .own := by simp [pk]
theorem pk_nil {α : Type} : pk ([] : List α) = .lax := rfl
theorem pk_raw {α : Type} (path : List α) : pk path ≠ .raw := by unfold pk; split <;> simp
theorem pk_lax {α : Type} (path : List α) (E : TypeId) (s : Nat) (xs : List PV) : AObj.row E s xs .own = .row E s xs (pk path) ∨ laxer (.row E s xs .own) (.row E s xs (pk path)) := by
  unfold pk; split
  · exact .inr rfl
  · exact .inl rfl

/-- Memory while readings are given out: outs are out already, path is the list so far; m dead things behind. -/
def rdC : List AV := [.ptr 4 0, .ptr 6 0, .ptr 8 0, .ptr 3 0, .ptr 7 0, .ptr 9 0]
def rdH (q : Int) (ws : List (List UInt8)) (w : List UInt8) (rec : AObj) (outs : List (List Nat)) (path : List Nat) (m : Nat) : List AObj :=
  codeB q ws :: .box [.own 2 outs.length] :: .row 53 1 (outs.map slV) (pk outs) :: codeB q ws :: .box [.p (.str w)] :: rec :: .box [.yld 5] :: .box [.p (.sl (cntR ws w 0))] :: .box [.own 10 path.length] :: .box [.fn 94 rdC] :: .row 3 1 (path.map ivN) (pk path) :: List.replicate m .dead

theorem callK_yc {E : Env} {tm : List AV} {h : List AObj} {KS : St → Prop} {d : Option Nat} {b : Nat} {args : List AV} {ks : List Nat} {R : AV → List AObj → Prop} (hf : YC E.P b args h ks R) (hks : ∀ k ∈ ks, E.n0 ≤ k ∨ k ∈ E.ks)
    (hk : ∀ v h', R v h' → KS ⟨putD (killAll ks tm) d v, h'⟩) : callK E ⟨tm, h⟩ d (.yld b) args KS := ⟨ks, R, hf, hks, hk⟩

theorem rdH_len (q : Int) (ws : List (List UInt8)) (w : List UInt8) (rec : AObj) (outs : List (List Nat)) (path : List Nat) (m : Nat) : (rdH q ws w rec outs path m).length = m + 11 := by simp [rdH]

theorem v94end {q : Int} {ws : List (List UInt8)} {w : List UInt8} {rec : AObj} (hn : ∀ x ∈ ws, x ≠ []) (hws : ws.length ≤ 256) (hw : w.length ≤ 40) (hrec : ∀ k, k = 2 ∨ k = 10 → rec.kill k = rec)
    (hround : ∀ (outs : List (List Nat)) (path : List Nat) (m : Nat) (rk : RK), outs.length ≤ 4095 → rk ≠ .raw → path.length ≤ 40 → YC Try.prog 5 [.own ((List.replicate m AObj.dead).length + 1 + 1 + 1 + 1 + 1 + 1 + 1 + 1 + 1 + 1 + 1) path.length] (rdH q ws w rec outs path m ++ [.row 3 1 (path.map ivN) rk]) [2, 10] (fun v h' => v = .p (.bool true) ∧ h' = rdH q ws w rec (outs ++ [path]) path (m + 1)))
    (hround0 : ∀ (outs : List (List Nat)) (m : Nat), outs.length ≤ 4095 → YC Try.prog 5 [.full []] (rdH q ws w rec outs [] m) [2, 10] (fun v h' => v = .p (.bool true) ∧ h' = rdH q ws w rec (outs ++ [[]]) [] m))
    (outs : List (List Nat)) (path : List Nat) (m : Nat) (hp : path.length ≤ 40) (ho : outs.length ≤ 4095) :
    AC Try.prog 94 (.p (.int .i64 w.length) :: rdC) (rdH q ws w rec outs path m) [2, 10] (fun v h' => ∃ m', m ≤ m' ∧ v = .p (.bool true) ∧ h' = rdH q ws w rec (outs ++ [path]) path m') := by
  refine AC.of_bodyE hΓ Try.func94 (by kernel_rfl) rfl (AWp.mono (Q := fun e st => AM.Ends e ∧ st.tmps.getD 8 .junk = .p (.bool true) ∧ ∃ m', m ≤ m' ∧ st.h = rdH q ws w rec (outs ++ [path]) path m') ?_ ?_)
  rotate_left
  · rintro e ⟨tm, h'⟩ ⟨he, h1, m', hm, h2⟩
    simp only at h1 h2
    subst h2
    refine ⟨he, _, Less.refl _, ?_⟩
    unfold DoneE
    simp +contextual -implicitDefEqProofs only [Try.results94, h1, go_sem]
    exact ⟨_, by rw [rdH_len, rdH_len]; omega, .inl rfl, m', hm, List.take_length⟩
  refine AWp.seq (AWp.of_awpD [(2, 1000)] hΓ hmix (by kernel_rfl) ?_)
  simp -implicitDefEqProofs only [Try.ntmps94, Nat.reduceAdd, Nat.reduceSub, rdC, rdH, go_sem]
  refine AWp.seq (AWp.of_awpD [(2, 1000)] hΓ hmix (by kernel_rfl) ?_)
  simp -implicitDefEqProofs only [go_sem]
  refine AWp.planL (.q 0 (.q 1 (.e 2 (.s 0 (.e 3 (.q 4 .fin) .nil)) .nil))) hΓ hmix (by kernel_rfl) ?_
  simp -implicitDefEqProofs only [go_sem]
  refine callK_ac (c95 (rk0 := pk path) path rfl (by omega)) (by simp) ?_
  rintro v h' (⟨rfl, rfl, rfl⟩ | ⟨rk, hrk, rfl, rfl⟩)
  · simp -implicitDefEqProofs only [killAll, List.foldl, go_sem]
    refine callK_yc (hround0 outs m ho) (fun k hk => .inr hk) ?_
    rintro v h' ⟨rfl, rfl⟩
    simp -implicitDefEqProofs only [killAll, List.foldl, go_sem]
    exact ⟨m, Nat.le_refl _, rfl⟩
  · simp -implicitDefEqProofs only [killAll, List.foldl, go_sem]
    refine callK_yc (hround outs path m rk ho hrk (by omega)) (fun k hk => .inr hk) ?_
    rintro v h' ⟨rfl, rfl⟩
    simp -implicitDefEqProofs only [killAll, List.foldl, go_sem]
    exact ⟨m + 1, by omega, rfl⟩

theorem rdTo_mono (ws : List (List UInt8)) (w : List UInt8) {k : Nat} : ∀ {n : Nat}, k < n → (rdTo ws w k).length + (rdAt ws w k).length ≤ (rdTo ws w n).length
  | n + 1, h => by
    rw [rdTo_succ, List.length_append]
    by_cases e : k = n
    · subst e; omega
    · have := rdTo_mono ws w (k := k) (n := n) (by omega); omega
theorem v94 {q : Int} {ws : List (List UInt8)} {w : List UInt8} {rec : AObj} (hn : ∀ x ∈ ws, x ≠ []) (hws : ws.length ≤ 256) (hw : w.length ≤ 40) (hrec : ∀ k, k = 2 ∨ k = 10 → rec.kill k = rec)
    (hround : ∀ (outs : List (List Nat)) (path : List Nat) (m : Nat) (rk : RK), outs.length ≤ 4095 → rk ≠ .raw → path.length ≤ 40 → YC Try.prog 5 [.own ((List.replicate m AObj.dead).length + 1 + 1 + 1 + 1 + 1 + 1 + 1 + 1 + 1 + 1 + 1) path.length] (rdH q ws w rec outs path m ++ [.row 3 1 (path.map ivN) rk]) [2, 10] (fun v h' => v = .p (.bool true) ∧ h' = rdH q ws w rec (outs ++ [path]) path (m + 1)))
    (hround0 : ∀ (outs : List (List Nat)) (m : Nat), outs.length ≤ 4095 → YC Try.prog 5 [.full []] (rdH q ws w rec outs [] m) [2, 10] (fun v h' => v = .p (.bool true) ∧ h' = rdH q ws w rec (outs ++ [[]]) [] m)) :
    ∀ (n a : Nat) (outs : List (List Nat)) (path : List Nat) (m : Nat), w.length - a ≤ n → a ≤ w.length → path.length + (w.length - a) ≤ 40 → outs.length + (rdI ws (w.drop a)).length ≤ 4096 →
    AC Try.prog 94 (.p (.int .i64 a) :: rdC) (rdH q ws w rec outs path m) [2, 10] (fun v h' => ∃ m', m ≤ m' ∧ v = .p (.bool true) ∧ h' = rdH q ws w rec (outs ++ (rdI ws (w.drop a)).map (path ++ ·)) path m') := by
  intro n
  induction n with
  | zero =>
    intro a outs path m hna ha hp ho
    have hae : a = w.length := by omega
    subst hae
    rw [List.drop_length, rdI_nil, List.length_singleton] at ho
    have := v94end hn hws hw hrec hround hround0 outs path m (by omega) (by omega)
    rw [List.drop_length, rdI_nil]
    simpa using this
  | succ n ih =>
    intro a outs path m hna ha hp ho
    by_cases hae : a = w.length
    · subst hae
      rw [List.drop_length, rdI_nil, List.length_singleton] at ho
      have := v94end hn hws hw hrec hround hround0 outs path m (by omega) (by omega)
      rw [List.drop_length, rdI_nil]
      simpa using this
    refine AC.of_bodyE hΓ Try.func94 (by kernel_rfl) rfl (AWp.mono (Q := fun e st => AM.Ends e ∧ st.tmps.getD 8 .junk = .p (.bool true) ∧ ∃ m', m ≤ m' ∧ st.h = rdH q ws w rec (outs ++ (rdI ws (w.drop a)).map (path ++ ·)) path m') ?_ ?_)
    rotate_left
    · rintro e ⟨tm, h'⟩ ⟨he, h1, m', hm, h2⟩
      simp only at h1 h2
      subst h2
      refine ⟨he, _, Less.refl _, ?_⟩
      unfold DoneE
      simp +contextual -implicitDefEqProofs only [Try.results94, h1, go_sem]
      exact ⟨_, by rw [rdH_len, rdH_len]; omega, .inl rfl, m', hm, List.take_length⟩
    have hai : ¬ (a : Int) = w.length := by omega
    refine AWp.seq (AWp.of_awpD [(2, 1000)] hΓ hmix (by kernel_rfl) ?_)
    simp -implicitDefEqProofs only [Try.ntmps94, Nat.reduceAdd, Nat.reduceSub, rdC, rdH, go_sem]
    refine AWp.seq (AWp.of_awpD [(2, 1000)] hΓ hmix (by kernel_rfl) ?_)
    simp -implicitDefEqProofs only [hai, go_sem]
    refine AWp.seq (AWp.of_awpD [] hΓ hmix (by kernel_rfl) ?_)
    simp -implicitDefEqProofs only [codeB, go_sem]
    refine AWp.loopI (fun p : Nat × Nat => ⟨mkF 63 [(0, .p (.int .i64 a)), (1, .ptr 4 0), (2, .ptr 6 0), (3, .ptr 8 0), (4, .ptr 3 0), (5, .ptr 7 0), (6, .ptr 9 0), (8, .p (.bool false)), (21, .p (.sl (ws.map .str))), (22, .p (.int .i64 ws.length)), (23, .p (.int .i64 p.1))], rdH q ws w rec (outs ++ (rdTo ws (w.drop a) p.1).map (path ++ ·)) path p.2⟩)
      (fun p => p.1 ≤ ws.length ∧ m ≤ p.2) (fun p => ws.length - p.1) (0, m) (by simp [go_sem, rdH, codeB, rdTo, rdC, weakH_refl]) ⟨by omega, Nat.le_refl _⟩ ?_
    rintro ⟨k, m1⟩ ⟨hk, hm1⟩
    simp only at hk hm1
    generalize hO : outs ++ (rdTo ws (w.drop a) k).map (path ++ ·) = O
    simp -implicitDefEqProofs only [rdH, codeB, hO, go_sem]
    by_cases hlt : k < ws.length
    · have hki : (k : Int) < ws.length := by omega
      have hx : ws[k] ∈ ws := List.getElem_mem hlt
      have hxn : 0 < ws[k].length := List.length_pos_iff.2 (hn _ hx)
      refine AWp.of_awpD [] hΓ hmix (by kernel_rfl) ?_
      simp -implicitDefEqProofs only [hlt, getD_map_lt, ↓reduceIte, go_sem]
      have hkr : InR IntKind.i64 ((k : Int) + 1) := by simp only [InR]; omega
      refine ⟨ha, callK_fn (t69 (w.drop a) ws[k]) (.pures rfl) ?_⟩
      by_cases hpre : ws[k].isPrefixOf (w.drop a) = true
      · have hle : a + ws[k].length ≤ w.length := by
          have := List.IsPrefix.length_le (List.isPrefixOf_iff_prefix.1 hpre)
          rw [List.length_drop] at this; omega
        have eN : ((a : Int) + ws[k].length).toNat = a + ws[k].length := by omega
        have eC : (cntR ws w 0).getD (a + ws[k].length) default = intN false (cnt ws (w.drop (a + ws[k].length))) := by
          rw [List.getD_eq_getElem?_getD, cntR_get hle, Option.getD_some, if_pos (Nat.zero_le _)]
        rw [intN_pos] at eC
        generalize hc : cnt ws (w.drop (a + ws[k].length)) = c at eC
        simp -implicitDefEqProofs only [hpre, eN, eC, cntR_len, go_sem]
        refine ⟨by simp only [InR]; omega, ⟨by omega, by omega⟩, ?_⟩
        refine aggE_ok (eq44n c) ?_
        by_cases hc0 : c = 0
        · simp -implicitDefEqProofs only [hc0, go_sem]
          refine ⟨hkr, (k + 1, m1), ⟨by simp, ?_⟩, ⟨hlt, hm1⟩, by simp only; omega⟩
          have : rdAt ws (w.drop a) k = [] := by
            unfold rdAt
            rw [List.getD_eq_getElem?_getD, List.getElem?_eq_getElem hlt, Option.getD_some, List.drop_drop, rdI_none hn (hc.trans hc0)]
            simp
          simp only [rdTo_succ, this, List.append_nil, hO]
          exact weakH_refl _
        · simp -implicitDefEqProofs only [hc0, go_sem]
          refine ⟨⟨size_iv [k], by omega⟩, ⟨size_iv [k], one_iv [k]⟩, ⟨pk_raw path, .inr (by simp), by omega, by omega⟩, by simp only [InR]; omega, ?_⟩
          have hOl : O.length + (rdI ws (w.drop (a + ws[k].length))).length ≤ 4096 := by
            have e1 : rdI ws (w.drop a) = rdTo ws (w.drop a) ws.length := rdI_step hn (fun e => by
              have := congrArg List.length e
              rw [List.length_drop, List.length_nil] at this; omega)
            have e2 := rdTo_mono ws (w.drop a) hlt
            have e3 : (rdAt ws (w.drop a) k).length = (rdI ws (w.drop (a + ws[k].length))).length := by
              unfold rdAt
              rw [List.getD_eq_getElem?_getD, List.getElem?_eq_getElem hlt, Option.getD_some, if_pos hpre, List.length_map, List.drop_drop]
            have e4 : O.length = outs.length + (rdTo ws (w.drop a) k).length := by rw [← hO, List.length_append, List.length_map]
            rw [e1] at ho
            omega
          have hcall := ih (a + ws[k].length) O (path ++ [k]) m1 (by omega) hle (by rw [List.length_append, List.length_singleton]; omega) hOl
          have hkr10 := hrec 10 (.inr rfl)
          unfold AObj.kill at hkr10
          rw [hkr10, show AV.kill.killL 10 rdC = rdC from rfl, show List.map (AObj.kill 10) (List.replicate m1 .dead) = List.replicate m1 .dead by rw [List.map_replicate]; rfl]
          refine callK_ac (AC.weakH (h' := rdH q ws w rec O (path ++ [k]) m1) (by simpa using hcall) ?_) (fun k hk => .inr hk) ?_
          · simp [rdH, codeB, weakH, laxer, weakH_refl, ivN, pk_snoc]
          rintro v h' ⟨m2, hm2, rfl, rfl⟩
          simp -implicitDefEqProofs only [killAll, List.foldl, rdH, codeB, pk_snoc, go_sem]
          rw [hkr10, show AV.kill.killL 10 rdC = rdC from rfl, show List.map (AObj.kill 10) (List.replicate m2 .dead) = List.replicate m2 .dead by rw [List.map_replicate]; rfl]
          have eL : ((path ++ [k]).length : Int) - 1 = path.length := by rw [List.length_append, List.length_singleton]; omega
          have eT : List.take path.length (List.map ivN (path ++ [k])) = List.map ivN path := by rw [List.map_append]; exact List.take_left' (by simp)
          have eO : outs ++ List.map (fun x => path ++ x) (rdTo ws (List.drop a w) (k + 1)) = O ++ List.map (fun x => path ++ k :: x) (rdI ws (List.drop (a + ws[k].length) w)) := by
            rw [rdTo_succ, List.map_append, ← List.append_assoc, hO]
            congr 1
            unfold rdAt
            rw [List.getD_eq_getElem?_getD, List.getElem?_eq_getElem hlt, Option.getD_some, if_pos hpre, List.map_map, List.drop_drop]
            rfl
          rw [eL]
          refine ⟨by simp only [InR]; omega, ⟨.inr (by simp), by omega, by rw [List.length_append, List.length_singleton]; omega⟩, hkr, (k + 1, m2), ⟨by simp, ?_⟩, ⟨hlt, by simp only; omega⟩, by simp only; omega⟩
          simp only [eO, Int.toNat_natCast, eT, or_true, true_and, weakH_refl, and_true]
          have hpp : pk path = .own ∨ pk path = .lax := by unfold pk; split <;> simp
          refine ⟨?_, ?_⟩
          · have : pk (O ++ List.map (fun x => path ++ k :: x) (rdI ws (List.drop (a + ws[k].length) w))) = .own ∨ pk (O ++ List.map (fun x => path ++ k :: x) (rdI ws (List.drop (a + ws[k].length) w))) = .lax := by unfold pk; split <;> simp
            simp [laxer]
          · cases rec <;> simp [hpp]
      · simp -implicitDefEqProofs only [hpre, go_sem]
        refine ⟨hkr, (k + 1, m1), ⟨by simp, ?_⟩, ⟨hlt, hm1⟩, by simp only; omega⟩
        have : rdAt ws (w.drop a) k = [] := by
          unfold rdAt
          rw [List.getD_eq_getElem?_getD, List.getElem?_eq_getElem hlt, Option.getD_some, if_neg hpre]
        simp only [rdTo_succ, this, List.append_nil, hO]
        exact weakH_refl _
    · refine AWp.of_awpD [] hΓ hmix (by kernel_rfl) ?_
      have he : k = ws.length := by omega
      simp -implicitDefEqProofs only [he, Nat.lt_irrefl, go_sem]
      refine AWp.of_awpD [] hΓ hmix (by kernel_rfl) ?_
      simp -implicitDefEqProofs only [go_sem]
      have eI : rdI ws (w.drop a) = rdTo ws (w.drop a) ws.length := rdI_step hn (fun e => by
        have := congrArg List.length e
        rw [List.length_drop, List.length_nil] at this; omega)
      subst he
      rw [eI, hO]
      exact ⟨m1, hm1, rfl, ⟨rfl, rfl⟩, rfl, rfl⟩
end Go.Proofs.Ytgkbafkmbokkaaa
end

section
namespace Go.Proofs.Ytgkbafkmbokkaaa
open Go Go.AM Go.RowKit
set_option maxRecDepth 100000
set_option linter.unusedSimpArgs false

theorem u42 (a : List (List Nat)) (ha : a.length ≤ 1000000) (hs : ∀ x ∈ a, x.length ≤ 1000000) : PFn Try.prog 42 [.sl (a.map slV), .sl (a.map slV)] [.bool true] := by
  refine PFn.of_body hΓ Try.func42 (by kernel_rfl) rfl (AWp.seq (AWp.of_awpD [] hΓ hmix (by kernel_rfl) ?_))
  simp -implicitDefEqProofs only [Try.ntmps42, Try.results42, Nat.reduceAdd, Nat.reduceSub, go_sem]
  refine AWp.of_awpD [] hΓ hmix (by kernel_rfl) ?_
  simp -implicitDefEqProofs only [go_sem]
  refine AWp.loopI (fun i : Nat => ⟨mkF 53 [(0, .p (.sl (a.map slV))), (1, .p (.sl (a.map slV))), (5, .p (.int .i64 i))], []⟩)
    (fun i => i ≤ a.length) (fun i => a.length - i) 0 (by simp [go_sem]) (by simp) ?_
  intro i hi
  simp -implicitDefEqProofs only [go_sem]
  refine AWp.of_awpD [(6, 11), (11, 15)] hΓ hmix (by kernel_rfl) ?_
  by_cases hlt : i < a.length
  · have hsx := hs _ (List.getElem_mem hlt)
    simp -implicitDefEqProofs only [List.length_map, hlt, getD_map_lt, ↓reduceIte, slV, go_sem]
    refine AWp.loopI (fun k : Nat => ⟨mkF 53 [(0, .p (.sl (a.map slV))), (1, .p (.sl (a.map slV))), (5, .p (.int .i64 i)), (6, .p (.int .i64 k))], []⟩)
      (fun k => k ≤ a[i].length) (fun k => a[i].length - k) 0 (by simp [go_sem, slV]) (by simp) ?_
    intro k hk
    simp -implicitDefEqProofs only [go_sem]
    refine AWp.of_awpD [(6, 11), (11, 15)] hΓ hmix (by kernel_rfl) ?_
    by_cases hk2 : k < a[i].length
    · simp -implicitDefEqProofs only [List.length_map, hlt, hk2, getD_map_lt, ↓reduceIte, slV, ivN, go_sem]
      exact ⟨by simp only [InR]; omega, k + 1, by simp, hk2, by omega⟩
    · have hz : ¬ (k : Int) < a[i].length := by omega
      simp -implicitDefEqProofs only [List.length_map, hlt, hk2, hz, getD_map_lt, ↓reduceIte, slV, ivN, go_sem]
      exact ⟨by simp only [InR]; omega, i + 1, by simp, hlt, by omega⟩
  · have hz : ¬ (i : Int) < a.length := by omega
    simp -implicitDefEqProofs only [List.length_map, hz, go_sem]

theorem u73 (q : Int) (ws : List (List UInt8)) (w : List UInt8) : PFn Try.prog 73 [codeV q ws, .str w] [.int .i64 (if codeCheck q ws = 0 then wordCheck q w else 1)] := by
  refine PFn.of_body hΓ Try.func73 (by kernel_rfl) rfl (AWp.of_awpD [] hΓ hmix (by kernel_rfl) ?_)
  simp +contextual -implicitDefEqProofs only [codeV, Try.ntmps73, Try.results73, Nat.reduceAdd, Nat.reduceSub, go_sem]
  refine callK_fn (t44 q ws) (.still rfl) ?_
  by_cases h : codeCheck q ws = 0
  · rw [h]
    simp -implicitDefEqProofs only [go_sem]
    refine callK_fn (t78 q w) (.pures rfl) ?_
    simp -implicitDefEqProofs only [go_sem]
  · simp -implicitDefEqProofs only [h, go_sem]
end Go.Proofs.Ytgkbafkmbokkaaa
end

