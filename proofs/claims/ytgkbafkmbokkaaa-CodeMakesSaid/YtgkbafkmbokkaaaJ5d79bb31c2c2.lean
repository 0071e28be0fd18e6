/-
  DERIVED: THE SHELF's CONTRACTS AT THIS DUMP, IN PLAIN WORDS (tools/lay-plain.mjs out of 'YtgkbafkmbokkaaaShelfG.lean', which tools/lay-shelf.mjs wrote): THE SAME DECLARATIONS UNDER THE SAME NAMES: 'import', 'namespace', 'open', 'def', 'theorem' AND NOTHING ELSE: no command of the shelf's: FOR A HAND-IN. Each laying: the table of numbers ('.._ren') and one theorem, a field a fact of the dump's own or the kernel's comparison; each contract: ONE APPLICATION.
  slices.Grow of the nil list, as a contract with the heap; slices.Concat of lists of words; slices.Reverse of a held list of words.
  slices.Concat of lists of words.
  slices.Reverse of a held list of words.
  The chapter's examples: what awake gives.
  The law CodeMakes.
  What a parameter that fits a shape is: codes, ambiguities, lists of words and numbers.
-/
import Derived.Shelf.Spec.SlicesGrow
import Derived.Shelf.SlGeneric
import Derived.Ground.Names8Prog
import Derived.Test.YtgkbafkmbokkaaaProg
import Derived.Test.YtgkbafkmbokkaaaJ05530274b4f7
import Derived.Test.YtgkbafkmbokkaaaJ35f6c61cd545
import Derived.Test.YtgkbafkmbokkaaaJ6994d9b2a855

section
namespace Go.Proofs
open Go.Shelf
def Try.growS_ren : Go.Shelf.Ren := ⟨fun | 4 => 61 | n => n, fun | 22 => 22 | 25 => 9 | 3 => 3 | 4 => 4 | 9 => 9 | 20 => 20 | 0 => 0 | n => n, fun | n => n⟩
theorem Try.growS : Go.Proofs.Lays8.n4 Try.prog Try.growS_ren := {
  mixed := by kernel_rfl
  f4 := ⟨Try.f61.name, by decide, Try.func61.trans (congrArg some (by kernel_rfl))⟩
  t0 := Try.underlying0
  a0 := Try.isAgg0
  z0 := Try.sizeOf0
  v0 := Try.zeroValue0
  t3 := Try.underlying3
  a3 := Try.isAgg3
  z3 := Try.sizeOf3
  v3 := Try.zeroValue3
  t4 := Try.underlying4
  a4 := Try.isAgg4
  z4 := Try.sizeOf4
  v4 := Try.zeroValue4
  t9 := Try.underlying9
  a9 := Try.isAgg9
  z9 := Try.sizeOf9
  v9 := Try.zeroValue9
  t20 := Try.underlying20
  a20 := Try.isAgg20
  z20 := Try.sizeOf20
  v20 := Try.zeroValue20
  t22 := Try.underlying22
  a22 := Try.isAgg22
  z22 := Try.sizeOf22
  v22 := Try.zeroValue22 }
end Go.Proofs
end

section
namespace Go.Proofs.Ytgkbafkmbokkaaa
open Go Go.AM Go.RowKit
set_option maxRecDepth 100000
set_option linter.unusedSimpArgs false

theorem c61 {h : List AObj} (n : Nat) (hn : 0 < n) (hn2 : n ≤ 1000000) : AC Try.prog 61 [.full [], .p (.int .i64 n)] h [] (fun v h' => v = .own h.length 0 ∧ h' = h ++ [.row 9 1 [] .own]) := by
  refine ⟨entersF_of Try.func61 (by kernel_rfl) rfl, fun X I μ ob w cargs R hlen hargs _ => ?_⟩
  obtain ⟨a0, b0, rfl⟩ : ∃ a b, cargs = [a, b] := by
    match cargs, hlen with
    | [a, b], _ => exact ⟨a, b, rfl⟩
  have g0 := hargs 0 (by simp)
  have g1 := hargs 1 (by simp)
  simp only [List.getD_cons_zero, List.getD_cons_succ] at g0 g1
  obtain ⟨a, rfl⟩ : ∃ a, a0 = .slice a 0 0 := by
    cases g0 with
    | full l a hp => exact ⟨a, rfl⟩
  rw [g1.int_inv]
  obtain ⟨i0, hi0, hisz, hib, hz⟩ := (hΓ 9 _ rfl).info
  obtain ⟨zv, hz1, _, hsz⟩ := hz _ rfl
  simp only at hisz hib hsz
  have hc := Any8.slices_Grow_grow (ρ := Try.growS_ren) Try.growS i0 zv hi0 hz1 (by omega) a 0 0 n [] w (by omega) (by omega) (by rw [hib]; omega) (by omega) (by simp) (fun _ => rfl) (fun _ _ j v hj => by simp at hj)
  refine Calls.mono (P := Try.prog) hc ?_
  rintro e w' ⟨rfl, rfl⟩
  have hg := grown_drew_alloc w (.cells ((#[] : Array Value) ++ Builtin.zeroCells zv.cells (0 + n - 0) ++ Builtin.zeroCells zv.cells (grownCap w (0 + n) 0 9 - (0 + n))) 9)
  have hcg : 0 + n ≤ grownCap w (0 + n) 0 9 := grownCap_ge w _ _ _
  have hcm : grownCap w (0 + n) 0 9 ≤ maxLen := grownCap_le_maxLen w _ _ _ (by simp only [maxLen]; omega)
  have ez : zv.cells.size = 1 := hsz
  have hC : ∃ C : Array Value, C = (#[] : Array Value) ++ Builtin.zeroCells zv.cells (0 + n - 0) ++ Builtin.zeroCells zv.cells (grownCap w (0 + n) 0 9 - (0 + n)) ∧ C.size = grownCap w (0 + n) 0 9 := ⟨_, rfl, by
    simp only [Array.size_append, List.size_toArray, List.length_nil, size_zeroCells, ez]; omega⟩
  obtain ⟨C, eC, hCs⟩ := hC
  have ht : Try.growS_ren.t 25 = 9 := rfl
  rw [ht, ← eC]
  rw [← eC] at hg
  generalize grownCap w (0 + n) 0 9 = cap at hcg hcm hCs
  have hnew : (w.drew.alloc (.cells C 9)).heap[w.heap.size]? = some (.cells C 9) := heap_alloc_new w.drew _
  have R1 := R.name (v := .slice (some ⟨w.heap.size, 0, none⟩) 0 cap) (g := some w.heap.size) (o := .row 9 1 [] .own) hg (fun k e => by injection e with e; subst e; exact ⟨Nat.le_refl _, by simp⟩) (by
    refine ⟨fun x hx => (by cases hx), .inl ⟨w.heap.size, by simp, cap, C, (0, 0), [], by simp, hnew, fun _ => rfl, fun j hj => by simp, by simp, hcm, by rw [hCs]; simp, by simp, by simp, fun j hj => by simp at hj⟩⟩)
  exact ⟨_, .own h.length 0, _, I, _, _, rfl, R1, .own _ _ _ _ (by simp) (by simp), fun _ h => h, fun b hb _ => upd_other _ _ (by omega), by simp, fun g hg => .inl hg,
    fun k g2 hk => by
      by_cases e : k = h.length
      · subst e; rw [upd_same] at hk; injection hk with hk; subst hk; exact .inr (Nat.le_refl _)
      · rw [upd_other _ _ e] at hk; exact .inl ⟨k, hk⟩,
    fun k hk _ => Below.heap_alloc w.drew _ k hk, rfl, rfl⟩
end Go.Proofs.Ytgkbafkmbokkaaa
end

section
namespace Go.Proofs.Ytgkbafkmbokkaaa
open Go Go.AM
set_option maxRecDepth 100000
set_option linter.unusedSimpArgs false

def wsV (l : List (List UInt8)) : PV := .sl (l.map .str)
def wssV (wss : List (List (List UInt8))) : List PV := wss.map wsV

theorem c29 {h : List AObj} (hK : h.map (AObj.kill h.length) = h) (wss : List (List (List UInt8))) (hn : 0 < wss.flatten.length) (hn2 : wss.flatten.length ≤ 1000000) (hw : wss.length ≤ 1000000) :
    AC Try.prog 29 [.p (.sl (wssV wss))] h [] (fun v h' => v = .own h.length wss.flatten.length ∧ h' = h ++ [.row 9 1 (wss.flatten.map .str) .own]) := by
  refine AC.of_bodyE hΓ Try.func29 (by kernel_rfl) rfl (AWp.mono (Q := fun e st => AM.Ends e ∧ st.tmps.getD 2 .junk = .own h.length wss.flatten.length ∧ st.h = h ++ [.row 9 1 (wss.flatten.map .str) .own]) ?_ ?_)
  rotate_left
  · rintro e ⟨tm, h'⟩ ⟨he, h1, h2⟩
    simp only at h1 h2
    subst h2
    refine ⟨he, _, Less.refl _, ?_⟩
    unfold DoneE
    simp +contextual -implicitDefEqProofs only [Try.results29, h1, go_sem]
    exact ⟨h.length + 1, by omega, .inl (by simp), List.take_of_length_le (by simp)⟩
  have gL : ∀ o : AObj, (h ++ [o])[h.length]? = some o := fun o => by simp
  have sL : ∀ o o' : AObj, (h ++ [o]).set h.length o' = h ++ [o'] := fun o o' => by simp
  have hwl : (wssV wss).length = wss.length := by simp [wssV]
  have hget : ∀ k (hk : k < wss.length), (wssV wss).getD k default = .sl (wss[k].map .str) := fun k hk => by unfold wssV; rw [getD_map_lt _ _ _ _ hk]; rfl
  have hflat : ∀ k (hk : k < wss.length), (wss.take (k + 1)).flatten = (wss.take k).flatten ++ wss[k] := fun k hk => by rw [List.take_succ_eq_append_getElem hk, List.flatten_append]; simp
  have hle : ∀ k, (wss.take k).flatten.length ≤ wss.flatten.length := fun k => by
    conv => rhs; rw [← List.take_append_drop k wss, List.flatten_append, List.length_append]
    omega
  refine AWp.of_awpD [] hΓ hmix (by kernel_rfl) ?_
  simp -implicitDefEqProofs only [Try.ntmps29, Nat.reduceAdd, Nat.reduceSub, hwl, go_sem]
  refine AWp.loopI (fun k : Nat => ⟨mkF 36 [(0, .p (.sl (wssV wss))), (2, .full []), (3, .p (.int .i64 (wss.take k).flatten.length)), (9, .p (.sl (wssV wss))), (10, .p (.int .i64 wss.length)), (11, .p (.int .i64 k))], h⟩)
    (fun k => k ≤ wss.length) (fun k => wss.length - k) 0 (by simp [go_sem, weakH_self]) (by omega) ?_
  intro k hk
  refine AWp.of_awpD [] hΓ hmix (by kernel_rfl) ?_
  by_cases hlt : k < wss.length
  · have h5 := hle (k + 1)
    rw [hflat k hlt, List.length_append] at h5
    have h6 : ¬ ((wss.take k).flatten.length : Int) + (wss[k].length : Int) < 0 := by omega
    simp -implicitDefEqProofs only [hlt, hwl, hget k hlt, h6, ↓reduceIte, go_sem]
    exact ⟨by simp only [InR]; omega, by simp only [InR]; omega, k + 1, ⟨⟨by rw [hflat k hlt, List.length_append]; omega, by omega⟩, weakH_self _⟩, hlt, by omega⟩
  · simp -implicitDefEqProofs only [hlt, hwl, go_sem]
    have hfull : wss.take k = wss := List.take_of_length_le (by omega)
    rw [hfull]
    refine callK_ac (c61 (h := h) wss.flatten.length hn hn2) (by simp) ?_
    rintro v h' ⟨rfl, rfl⟩
    simp -implicitDefEqProofs only [killAll, List.foldl, hwl, go_sem]
    refine AWp.loopI (fun j : Nat => ⟨mkF 36 [(0, .p (.sl (wssV wss))), (6, .own h.length (wss.take j).flatten.length), (25, .p (.sl (wssV wss))), (26, .p (.int .i64 wss.length)), (27, .p (.int .i64 j))], h ++ [.row 9 1 ((wss.take j).flatten.map .str) .own]⟩)
      (fun j => j ≤ wss.length) (fun j => wss.length - j) 0 (by simp [go_sem, weakH_self]) (by omega) ?_
    intro j hj
    refine AWp.of_awpD [] hΓ hmix (by kernel_rfl) ?_
    by_cases hlt2 : j < wss.length
    · have h5 := hle (j + 1)
      rw [hflat j hlt2, List.length_append] at h5
      simp -implicitDefEqProofs only [hlt2, hwl, hget j hlt2, gL, sL, hK, List.map_append, ↓reduceIte, go_sem]
      refine ⟨⟨size_str _, one_str _⟩, ⟨by omega, by omega⟩, by simp only [InR]; omega, j + 1, ⟨⟨?_, by omega⟩, ?_⟩, hlt2, by omega⟩
      · rw [hflat j hlt2, List.length_append]
      · rw [hflat j hlt2, List.map_append]
        simp only [ite_self]
        exact weakH_self _
    · have hfull2 : wss.take j = wss := List.take_of_length_le (by omega)
      simp -implicitDefEqProofs only [hlt2, hwl, hfull2, go_sem]
end Go.Proofs.Ytgkbafkmbokkaaa
end

section
namespace Go.Proofs.Ytgkbafkmbokkaaa
open Go Go.AM
set_option maxRecDepth 100000
set_option linter.unusedSimpArgs false

/-- A list of which i words at each end have changed places. -/
def rvL (l : List (List UInt8)) (i : Nat) : List (List UInt8) := (List.range l.length).map fun k => if k < i ∨ l.length - i ≤ k then l.getD (l.length - 1 - k) [] else l.getD k []

theorem rvL_len (l : List (List UInt8)) (i : Nat) : (rvL l i).length = l.length := by simp [rvL]
theorem rvL_get {l : List (List UInt8)} {i k : Nat} (hk : k < l.length) : (rvL l i)[k]? = some (if k < i ∨ l.length - i ≤ k then l.getD (l.length - 1 - k) [] else l.getD k []) := by
  simp [rvL, List.getElem?_map, List.getElem?_range hk]
theorem rvL_zero (l : List (List UInt8)) : rvL l 0 = l := by
  apply List.ext_getElem?
  intro k
  by_cases hk : k < l.length
  · rw [rvL_get hk, if_neg (by omega), List.getD_eq_getElem?_getD, List.getElem?_eq_getElem hk]; rfl
  · rw [List.getElem?_eq_none (by rw [rvL_len]; omega), List.getElem?_eq_none (by omega)]
theorem rvL_end {l : List (List UInt8)} {i : Nat} (h1 : 2 * i ≤ l.length) (h2 : l.length ≤ 2 * i + 1) : rvL l i = l.reverse := by
  apply List.ext_getElem?
  intro k
  by_cases hk : k < l.length
  · rw [rvL_get hk, List.getElem?_reverse hk]
    have e : l.getD (l.length - 1 - k) [] = l[l.length - 1 - k]'(by omega) := by rw [List.getD_eq_getElem?_getD, List.getElem?_eq_getElem (by omega)]; rfl
    by_cases hc : k < i ∨ l.length - i ≤ k
    · rw [if_pos hc, e, List.getElem?_eq_getElem (by omega)]
    · rw [if_neg hc]
      have : k = l.length - 1 - k := by omega
      rw [← this, List.getD_eq_getElem?_getD, List.getElem?_eq_getElem hk]; rfl
  · rw [List.getElem?_eq_none (by rw [rvL_len]; omega), List.getElem?_eq_none (by simp; omega)]
theorem rvL_step {l : List (List UInt8)} {i j : Nat} (hj : i + j + 1 = l.length) (hlt : i < j) : ((rvL l i).set i (l.getD j [])).set j (l.getD i []) = rvL l (i + 1) := by
  apply List.ext_getElem?
  intro k
  by_cases hk : k < l.length
  · rw [List.getElem?_set, List.getElem?_set, rvL_get hk, rvL_get hk]
    simp only [List.length_set, rvL_len]
    by_cases e1 : j = k
    · subst e1
      rw [if_pos rfl, if_pos hk, if_pos (by omega), show l.length - 1 - j = i by omega]
    · rw [if_neg e1]
      by_cases e2 : i = k
      · subst e2
        rw [if_pos rfl, if_pos hk, if_pos (by omega), show l.length - 1 - i = j by omega]
      · rw [if_neg e2]
        by_cases hc : k < i ∨ l.length - i ≤ k
        · rw [if_pos hc, if_pos (by omega)]
        · rw [if_neg hc, if_neg (by omega)]
  · rw [List.getElem?_eq_none (by simp [rvL_len]; omega), List.getElem?_eq_none (by rw [rvL_len]; omega)]

theorem c30 {h : List AObj} {b : Nat} (l : List (List UInt8)) (hb : h[b]? = some (.row 9 1 (l.map PV.str) .own)) (hl : l.length ≤ 1000000) :
    AC Try.prog 30 [.own b l.length] h [] (fun v h' => v = .tup [] ∧ h' = h.set b (.row 9 1 (l.reverse.map PV.str) .own)) := by
  have hbl : b < h.length := (List.getElem?_eq_some_iff.1 hb).1
  refine AC.of_bodyE hΓ Try.func30 (by kernel_rfl) rfl (AWp.mono (Q := fun e st => AM.Ends e ∧ st.h = h.set b (.row 9 1 (l.reverse.map PV.str) .own)) ?_ ?_)
  rotate_left
  · rintro e ⟨tm, h'⟩ ⟨he, h2⟩
    simp only at h2
    subst h2
    refine ⟨he, _, Less.refl _, ?_⟩
    unfold DoneE
    simp +contextual -implicitDefEqProofs only [Try.results30, go_sem]
    exact ⟨h.length, Nat.le_refl _, .inl (by simp), List.take_of_length_le (by simp)⟩
  have gB : ∀ o : AObj, (h.set b o)[b]? = some o := fun o => by simp [hbl]
  have sB : ∀ o o' : AObj, (h.set b o).set b o' = h.set b o' := fun o o' => by simp
  refine AWp.of_awpD [] hΓ hmix (by kernel_rfl) ?_
  simp -implicitDefEqProofs only [Try.ntmps30, Nat.reduceAdd, Nat.reduceSub, go_sem]
  refine ⟨by simp only [InR]; omega, ?_⟩
  refine AWp.loopI (fun i : Nat => ⟨mkF 28 [(0, .own b l.length), (2, .p (.int .i64 i)), (3, .p (.int .i64 ((l.length : Int) - 1 - i)))], h.set b (.row 9 1 ((rvL l i).map PV.str) .own)⟩)
    (fun i => 2 * i ≤ l.length) (fun i => l.length - i) 0 (by
      rw [rvL_zero, show h.set b (.row 9 1 (l.map PV.str) .own) = h from by
        apply List.ext_getElem?
        intro k
        rw [List.getElem?_set]
        split
        · rename_i e; subst e
          first
            | exact hb.symm
            | (rw [if_pos hbl]; exact hb.symm)
        · rfl]
      simp [go_sem, weakH_self]) (by omega) ?_
  intro i hi
  refine AWp.of_awpD [(3, 13)] hΓ hmix (by kernel_rfl) ?_
  by_cases hlt : (i : Int) < (l.length : Int) - 1 - i
  · obtain ⟨j, hj⟩ : ∃ j : Nat, (l.length : Int) - 1 - i = j := ⟨(((l.length : Int) - 1 - i)).toNat, by omega⟩
    rw [hj] at hlt ⊢
    have hjl : j < l.length := by omega
    have hil : i < l.length := by omega
    have e1 : ((rvL l i).map PV.str).getD i default = .str (l.getD i []) := by
      rw [List.getD_eq_getElem?_getD, List.getElem?_map, rvL_get hil, if_neg (by omega)]; rfl
    have e2 : ((rvL l i).map PV.str).getD j default = .str (l.getD j []) := by
      rw [List.getD_eq_getElem?_getD, List.getElem?_map, rvL_get hjl, if_neg (by omega)]; rfl
    have e3 : (((rvL l i).map PV.str).set i (.str (l.getD j []))).set j (.str (l.getD i [])) = (rvL l (i + 1)).map PV.str := by
      rw [← rvL_step (j := j) (by omega) (by omega), List.map_set, List.map_set]
    simp -implicitDefEqProofs only [hlt, gB, sB, e1, e2, e3, Int.toNat_natCast, go_sem]
    have hr := rvL_len l i
    refine ⟨hjl, by omega, hil, by omega, hil, ⟨by omega, rfl⟩, hjl, ⟨by simp; omega, rfl⟩, by simp only [InR]; omega, by simp only [InR]; omega, i + 1, ⟨⟨by omega, by omega⟩, weakH_self _⟩, by omega, by omega⟩
  · simp -implicitDefEqProofs only [hlt, go_sem]
    rw [rvL_end hi (by omega)]

end Go.Proofs.Ytgkbafkmbokkaaa
end

section
namespace Go.Proofs.Ytgkbafkmbokkaaa
open Go Go.AM
set_option maxRecDepth 1000000
set_option linter.unusedSimpArgs false

def xS : PV := .agg [.int .i64 2, .sl [.str [49], .str [48, 48, 49], .str [49, 48, 48]]]
def dS : PV := .agg [.int .i64 2, .sl [.str [49], .str [48, 48]]]

theorem made_ex : made [[49, 48], [48], [48, 49], [48]] = [[48], [48, 49], [49, 48]] := made_of (by unfold ltW; decide) (fun x => by simp only [List.mem_cons, List.not_mem_nil, or_false]; exact ⟨fun h => by rcases h with h | h | h | h <;> simp [h], fun h => by rcases h with h | h | h <;> simp [h]⟩)
theorem made_ex2 : made [[49], [48, 48]] = [[49], [48, 48]] := made_of (by unfold ltW; decide) (fun x => Iff.rfl)

theorem make_ex : PFn Try.prog 13 [.int .i64 2, .sl [.str [49, 48], .str [48], .str [48, 49], .str [48]]] [cS, .int .i64 0] := by
  have h := t71 2 [[49, 48], [48], [48, 49], [48]] (by decide)
  have hc : codeCheck 2 [[48], [48, 49], [49, 48]] = 0 := by kernel_rfl
  rw [made_ex, hc, if_pos rfl] at h
  exact h
theorem make_ex2 : PFn Try.prog 13 [.int .i64 2, .sl [.str [49], .str [48, 48]]] [dS, .int .i64 0] := by
  have h := t71 2 [[49], [48, 48]] (by decide)
  have hc : codeCheck 2 [[49], [48, 48]] = 0 := by kernel_rfl
  rw [made_ex2, hc, if_pos rfl] at h
  exact h
theorem prefix_ex : PFn Try.prog 15 [cS] [.bool false, .int .i64 0] := by
  have h := t38 2 [[48], [48, 49], [49, 48]]
  have hc : codeCheck 2 [[48], [48, 49], [49, 48]] = 0 := by kernel_rfl
  have ha : aloneB (fun w x => x.isPrefixOf w) [[48], [48, 49], [49, 48]] = false := by kernel_rfl
  rw [hc, if_pos rfl, if_pos rfl, ha] at h
  exact h
theorem compose_ex : PFn Try.prog 26 [cS, dS] [xS, .int .i64 0] := PFn.of_runE (C := ⟨Try.prog, Γ, axT⟩) (fuel := 900) hEC (by kernel_rfl)
theorem equal_ex : PFn Try.prog 47 [.sl [.str [48], .str [48, 49], .str [49, 48]], .sl [.str [48], .str [48, 49], .str [49, 48]]] [.bool true] := PFn.of_runE (C := ⟨Try.prog, Γ, axT⟩) (fuel := 900) hEC (by kernel_rfl)
theorem equal_ex2 : PFn Try.prog 47 [.sl [.str [49], .str [48, 48, 49], .str [49, 48, 48]], .sl [.str [49], .str [48, 48, 49], .str [49, 48, 48]]] [.bool true] := PFn.of_runE (C := ⟨Try.prog, Γ, axT⟩) (fuel := 900) hEC (by kernel_rfl)
theorem same_ex : PFn Try.prog 42 [.sl [.sl [.int .i64 0, .int .i64 2], .sl [.int .i64 1, .int .i64 0]], .sl [.sl [.int .i64 0, .int .i64 2], .sl [.int .i64 1, .int .i64 0]]] [.bool true] := PFn.of_runE (C := ⟨Try.prog, Γ, axT⟩) (fuel := 900) hEC (by kernel_rfl)

theorem factor_ex : PFn Try.prog 39 [cS, .str [48, 49, 48]] [.sl [.sl [.int .i64 0, .int .i64 2], .sl [.int .i64 1, .int .i64 0]], .int .i64 0] := PFn.of_runE (C := ⟨Try.prog, Γ, axT⟩) (fuel := 900) hEC (by kernel_rfl)
theorem awake_ok : PFn Try.prog 12 [] [.bool true] := by
  refine PFn.of_body hΓ Try.func12 (by kernel_rfl) rfl (AWp.of_awpD [] hΓ hmix (by kernel_rfl) ?_)
  simp -implicitDefEqProofs only [Try.ntmps12, Try.results12, Nat.reduceAdd, Nat.reduceSub, go_sem]
  refine ⟨⟨by simp [sizeOK, PV.cells], by omega⟩, callK_fn make_ex (.pures rfl) ?_⟩
  simp -implicitDefEqProofs only [cS, go_sem]
  refine callK_fn prefix_ex (.still rfl) ?_
  simp -implicitDefEqProofs only [cS, go_sem]
  refine callK_fn factor_ex (.still rfl) ?_
  simp -implicitDefEqProofs only [cS, go_sem]
  refine ⟨⟨by simp [sizeOK, PV.cells], by omega⟩, callK_fn make_ex2 (.pures rfl) ?_⟩
  simp -implicitDefEqProofs only [dS, go_sem]
  refine callK_fn compose_ex (.still rfl) ?_
  simp -implicitDefEqProofs only [xS, ite_self, go_sem]
  refine ⟨⟨by simp [sizeOK, PV.cells], by omega⟩, callK_fn equal_ex (.pures rfl) ?_⟩
  simp -implicitDefEqProofs only [go_sem]
  refine ⟨⟨by simp [sizeOK, PV.cells], by omega⟩, ⟨by simp [sizeOK, PV.cells], by omega⟩, ⟨by simp [sizeOK, PV.cells], by omega⟩, callK_fn same_ex (.pures rfl) ?_⟩
  simp -implicitDefEqProofs only [go_sem]
  refine ⟨⟨by simp [sizeOK, PV.cells], by omega⟩, callK_fn equal_ex2 (.pures rfl) ?_⟩
  simp -implicitDefEqProofs only [go_sem]
end Go.Proofs.Ytgkbafkmbokkaaa
end

section
namespace Go.Proofs.Ytgkbafkmbokkaaa
open Go Go.AM
set_option maxRecDepth 100000
set_option linter.unusedSimpArgs false

def fineB (q : Int) (ws : List (List UInt8)) : Bool := !(greatC ws || ws.any greatW) && decide (codeCheck q ws = 0)
theorem u28 (q : Int) (ws : List (List UInt8)) (hl : ws.length ≤ 9223372036854775807) : PFn Try.prog 28 [codeV q ws] [.bool (fineB q ws)] := by
  refine PFn.of_body hΓ Try.func28 (by kernel_rfl) rfl (AWp.of_awpD [] hΓ hmix (by kernel_rfl) ?_)
  simp +contextual -implicitDefEqProofs only [codeV, Try.ntmps28, Try.results28, Nat.reduceAdd, Nat.reduceSub, go_sem]
  refine callK_fn (t11 q ws hl) (.still rfl) ?_
  unfold fineB
  cases hg : (greatC ws || ws.any greatW)
  · simp -implicitDefEqProofs only [go_sem]
    refine callK_fn (t44 q ws) (.still rfl) ?_
    by_cases hc : codeCheck q ws = 0
    · rw [hc]
      simp -implicitDefEqProofs only [go_sem]
    · simp -implicitDefEqProofs only [hc, go_sem]
  · simp -implicitDefEqProofs only [go_sem]
    rfl

theorem Valid.strict {q : Int} {ws : List (List UInt8)} (hv : Valid q ws) : ws.Pairwise ltW := List.pairwise_iff_getElem.2 fun i j hi hj hij => by
  have := hv.lt i j hij hj
  rwa [List.getD_eq_getElem?_getD, List.getElem?_eq_getElem hi, Option.getD_some, List.getD_eq_getElem?_getD, List.getElem?_eq_getElem hj, Option.getD_some] at this

theorem u5 (q : Int) (ws : List (List UInt8)) (n : Int) (hws : ws.length ≤ 9223372036854775807) (hn0 : 0 ≤ n) (hn1 : n ≤ 255) : PFn Try.prog 5 [codeV q ws, .int .u8 n] [.bool true] := by
  refine PFn.of_body hΓ Try.func5 (by kernel_rfl) rfl (AWp.seq (AWp.of_awpD [] hΓ hmix (by kernel_rfl) ?_))
  simp -implicitDefEqProofs only [Try.ntmps5, Try.results5, Nat.reduceAdd, Nat.reduceSub, codeV, go_sem]
  refine AWp.seq (AWp.of_awpD [] hΓ hmix (by kernel_rfl) ?_)
  simp -implicitDefEqProofs only [go_sem]
  refine callK_fn (u28 q ws hws) (.still rfl) ?_
  cases hf : fineB q ws
  · simp -implicitDefEqProofs only [go_sem]
    refine callK_fn awake_ok (.pures rfl) ?_
    simp -implicitDefEqProofs only [go_sem]
  simp only [fineB, Bool.and_eq_true, decide_eq_true_eq] at hf
  have h := hf.2
  have hv := valid_of h
  have hlen := hv.len
  have hpos := hv.pos
  simp -implicitDefEqProofs only [go_sem]
  have hwr : IntKind.i64.wrap n = n := InR.wrap (k := .i64) (by simp only [InR]; omega)
  obtain ⟨k, hk⟩ : ∃ k : Nat, n % (ws.length : Int) = k := ⟨(n % (ws.length : Int)).toNat, (Int.toNat_of_nonneg (Int.emod_nonneg _ (by omega))).symm⟩
  have hkl : k < ws.length := by have := Int.emod_lt_of_pos n (show (0 : Int) < ws.length by omega); omega
  refine AWp.seq (AWp.of_awpD [] hΓ hmix (by kernel_rfl) ?_)
  simp -implicitDefEqProofs only [hwr, go_sem]
  refine ⟨⟨by omega, by omega⟩, ?_⟩
  rw [hk]
  refine AWp.seq ?_
  refine AWp.planL (.q 0 (.q 1 (.q 2 (.q 3 (.q 4 (.q 5 (.q 6 (.q 7 (.q 8 (.q 9 (.q 10 (.e 11 (.q 12 .fin) .nil)))))))))))) hΓ hmix (by kernel_rfl) ?_
  simp -implicitDefEqProofs only [go_sem]
  refine ⟨size_str _, by omega, size_str _, by omega, ⟨by simp [sizeOK, PV.cells], by omega⟩, ?_⟩
  have hwss : [PV.sl (List.drop k (List.map PV.str ws)), PV.sl (List.map PV.str ws), PV.sl (List.take k (List.map PV.str ws))] = wssV [ws.drop k, ws, ws.take k] := by simp [wssV, wsV]
  rw [hwss]
  have hfl : [ws.drop k, ws, ws.take k].flatten = ws.drop k ++ (ws ++ ws.take k) := by simp
  have hfn : (ws.drop k ++ (ws ++ ws.take k)).length = 2 * ws.length := by simp; omega
  have hc := c29 (h := [codeB q ws]) rfl [ws.drop k, ws, ws.take k] (by rw [hfl]; omega) (by rw [hfl]; omega) (by simp)
  rw [hfl] at hc
  generalize hall : ws.drop k ++ (ws ++ ws.take k) = l at hc hfn
  refine callK_ac hc.full0 (by simp) ?_
  rintro v h' ⟨rfl, rfl⟩
  simp -implicitDefEqProofs only [killAll, List.foldl, go_sem]
  refine AWp.seq (AWp.of_awpD [] hΓ hmix (by kernel_rfl) ?_)
  simp -implicitDefEqProofs only [codeB, go_sem]
  refine callK_ac (c30 l rfl (by omega)) (by simp) ?_
  rintro v h' ⟨rfl, rfl⟩
  simp -implicitDefEqProofs only [killAll, List.foldl, codeB, go_sem]
  refine AWp.freeze 1 rfl ?_
  refine AWp.of_awpD [] hΓ hmix (by kernel_rfl) ?_
  simp -implicitDefEqProofs only [Frozen, codeB, go_sem]
  have hmem : ∀ x, x ∈ l.reverse ↔ x ∈ ws := fun x => by
    rw [List.mem_reverse, ← hall]
    simp only [List.mem_append]
    constructor
    · rintro (hx | hx | hx)
      · exact List.mem_of_mem_drop hx
      · exact hx
      · exact List.mem_of_mem_take hx
    · exact fun hx => .inr (.inl hx)
  have e13 := t71 q l.reverse (by rw [List.length_reverse]; omega)
  rw [made_of (Valid.strict hv) hmem, if_pos h, h] at e13
  refine callK_fn e13 (.pures rfl) ?_
  simp -implicitDefEqProofs only [codeV, go_sem]
  have e23 := u23 q q ws ws hws
  rw [decide_eq_true ⟨rfl, rfl⟩] at e23
  refine callK_fn e23 (.still rfl) ?_
  simp -implicitDefEqProofs only [go_sem]
  refine callK_fn (t45 q ws) (.still rfl) ?_
  rw [h]
  simp -implicitDefEqProofs only [go_sem]
  refine callK_fn awake_ok (.pures rfl) ?_
  simp -implicitDefEqProofs only [go_sem]
end Go.Proofs.Ytgkbafkmbokkaaa
end

section
namespace Go.Proofs.Ytgkbafkmbokkaaa
open Go Go.AM Go.RowKit Go.ChangeShapes
set_option maxRecDepth 100000

theorem own : ownKnob Try.prog.godebug = none := by kernel_rfl
theorem laidOut : laidOutB Try.prog = true := by kernel_rfl

def codeSh : Sh := .agg [.int .i64, .sl .str]

theorem strs_of {l : List PV} (h : ∀ i, i < l.length → Fit .str (l.getD i default)) : ∃ ws : List (List UInt8), l = ws.map .str ∧ ∀ w ∈ ws, w.length ≤ maxLen := by
  induction l with
  | nil => exact ⟨[], rfl, by simp⟩
  | cons x l ih =>
    obtain ⟨ws, h1, h2⟩ := ih (fun i hi => h (i + 1) (by simpa using hi))
    have h0 := h 0 (by simp)
    simp only [List.getD_cons_zero] at h0
    cases h0 with
    | str s hs => exact ⟨s :: ws, by rw [h1]; rfl, fun w hw => by
        rcases List.mem_cons.1 hw with rfl | hw
        · exact hs
        · exact h2 w hw⟩
theorem ints_of {l : List PV} (h : ∀ i, i < l.length → Fit (.int .i64) (l.getD i default)) : ∃ a : List Int, l = a.map (.int .i64) ∧ ∀ x ∈ a, InR .i64 x := by
  induction l with
  | nil => exact ⟨[], rfl, by simp⟩
  | cons x l ih =>
    obtain ⟨a, h1, h2⟩ := ih (fun i hi => h (i + 1) (by simpa using hi))
    have h0 := h 0 (by simp)
    simp only [List.getD_cons_zero] at h0
    cases h0 with
    | int _ n hn => exact ⟨n :: a, by rw [h1]; rfl, fun w hw => by
        rcases List.mem_cons.1 hw with rfl | hw
        · exact hn
        · exact h2 w hw⟩
theorem words_of {p : PV} (h : Fit (.sl .str) p) : ∃ ws : List (List UInt8), p = .sl (ws.map .str) ∧ ws.length ≤ maxLen ∧ ∀ w ∈ ws, w.length ≤ maxLen := by
  cases h with
  | sl _ l h1 h2 =>
    obtain ⟨ws, rfl, h3⟩ := strs_of h2
    exact ⟨ws, rfl, by simpa using h1, h3⟩
theorem nums_of {p : PV} (h : Fit (.sl (.int .i64)) p) : ∃ a : List Int, p = .sl (a.map (.int .i64)) ∧ a.length ≤ maxLen ∧ ∀ x ∈ a, InR .i64 x := by
  cases h with
  | sl _ l h1 h2 =>
    obtain ⟨a, rfl, h3⟩ := ints_of h2
    exact ⟨a, rfl, by simpa using h1, h3⟩
theorem code_of {p : PV} (h : Fit codeSh p) : ∃ (q : Int) (ws : List (List UInt8)), p = codeV q ws ∧ InR .i64 q ∧ ws.length ≤ maxLen ∧ ∀ w ∈ ws, w.length ≤ maxLen := by
  cases h with
  | agg _ l h1 h2 =>
    match l, h1 with
    | [x, y], _ =>
      have h3 := h2 0 (by simp)
      have h4 := h2 1 (by simp)
      simp only [List.getD_cons_zero, List.getD_cons_succ] at h3 h4
      obtain ⟨ws, rfl, h5⟩ := words_of h4
      cases h3 with
      | int _ n hn => exact ⟨n, ws, rfl, hn, h5⟩
end Go.Proofs.Ytgkbafkmbokkaaa
end

