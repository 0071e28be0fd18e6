/-
  DERIVED: THE SHELF's CONTRACTS AT THIS DUMP, IN PLAIN WORDS (tools/lay-plain.mjs out of 'YtgkbafkmbokkaaaShelfG.lean', which tools/lay-shelf.mjs wrote): THE SAME DECLARATIONS UNDER THE SAME NAMES: 'import', 'namespace', 'open', 'def', 'theorem' AND NOTHING ELSE: no command of the shelf's: FOR A HAND-IN. Each laying: the table of numbers ('.._ren') and one theorem, a field a fact of the dump's own or the kernel's comparison; each contract: ONE APPLICATION.
  slices.Grow of the nil list, as a contract with the heap; slices.Concat of lists of words; slices.Reverse of a held list of words.
  slices.Concat of lists of words.
  slices.Reverse of a held list of words.
  The chapter's examples: what awake gives.
  The law CodeMakes.
  The reference's turned, Reverse, Digit; Compose of both.
  Compose of the program and of the reference.
  Compose of the program: the same as the reference's.
  The law CodeChecks.
  The law CodeChanges.
  The law CodePrefixes.
-/
import Derived.Shelf.Spec.SlicesGrow
import Derived.Shelf.SlGeneric
import Derived.Ground.Names8Prog
import Derived.Test.YtgkbafkmbokkaaaProg
import Derived.Test.YtgkbafkmbokkaaaJacf0c6be7c94
import Derived.Test.YtgkbafkmbokkaaaJ65406bb0cd17

section
namespace Go.Proofs
open Go.Shelf
def Try.growS_ren : Go.Shelf.Ren := ⟨fun | 4 => 61 | n => n, fun | 22 => 22 | 25 => 9 | 3 => 3 | 4 => 4 | 9 => 9 | 20 => 20 | 0 => 0 | n => n, fun | n => n⟩
theorem Try.growS : Go.Proofs.Lays8.n4 Try.prog Try.growS_ren := {
  mixed := by kernel_rfl
  f4 := ⟨Try.f61.name, by decide, Try.func61.trans (congrArg some (by kernel_rfl))⟩
  t0 := Try.underlying0
  a0 := Try.isAgg0
  z0 := Try.sizeOf0
  v0 := Try.zeroValue0
  t3 := Try.underlying3
  a3 := Try.isAgg3
  z3 := Try.sizeOf3
  v3 := Try.zeroValue3
  t4 := Try.underlying4
  a4 := Try.isAgg4
  z4 := Try.sizeOf4
  v4 := Try.zeroValue4
  t9 := Try.underlying9
  a9 := Try.isAgg9
  z9 := Try.sizeOf9
  v9 := Try.zeroValue9
  t20 := Try.underlying20
  a20 := Try.isAgg20
  z20 := Try.sizeOf20
  v20 := Try.zeroValue20
  t22 := Try.underlying22
  a22 := Try.isAgg22
  z22 := Try.sizeOf22
  v22 := Try.zeroValue22 }
end Go.Proofs
end

section
namespace Go.Proofs.Ytgkbafkmbokkaaa
open Go Go.AM Go.RowKit
set_option maxRecDepth 100000
set_option linter.unusedSimpArgs false

theorem c61 {h : List AObj} (n : Nat) (hn : 0 < n) (hn2 : n ≤ 1000000) : AC Try.prog 61 [.full [], .p (.int .i64 n)] h [] (fun v h' => v = .own h.length 0 ∧ h' = h ++ [.row 9 1 [] .own]) := by
  refine ⟨entersF_of Try.func61 (by kernel_rfl) rfl, fun X I μ ob w cargs R hlen hargs _ => ?_⟩
  obtain ⟨a0, b0, rfl⟩ : ∃ a b, cargs = [a, b] := by
    match cargs, hlen with
    | [a, b], _ => exact ⟨a, b, rfl⟩
  have g0 := hargs 0 (by simp)
  have g1 := hargs 1 (by simp)
  simp only [List.getD_cons_zero, List.getD_cons_succ] at g0 g1
  obtain ⟨a, rfl⟩ : ∃ a, a0 = .slice a 0 0 := by
    cases g0 with
    | full l a hp => exact ⟨a, rfl⟩
  rw [g1.int_inv]
  obtain ⟨i0, hi0, hisz, hib, hz⟩ := (hΓ 9 _ rfl).info
  obtain ⟨zv, hz1, _, hsz⟩ := hz _ rfl
  simp only at hisz hib hsz
  have hc := Any8.slices_Grow_grow (ρ := Try.growS_ren) Try.growS i0 zv hi0 hz1 (by omega) a 0 0 n [] w (by omega) (by omega) (by rw [hib]; omega) (by omega) (by simp) (fun _ => rfl) (fun _ _ j v hj => by simp at hj)
  refine Calls.mono (P := Try.prog) hc ?_
  rintro e w' ⟨rfl, rfl⟩
  have hg := grown_drew_alloc w (.cells ((#[] : Array Value) ++ Builtin.zeroCells zv.cells (0 + n - 0) ++ Builtin.zeroCells zv.cells (grownCap w (0 + n) 0 9 - (0 + n))) 9)
  have hcg : 0 + n ≤ grownCap w (0 + n) 0 9 := grownCap_ge w _ _ _
  have hcm : grownCap w (0 + n) 0 9 ≤ maxLen := grownCap_le_maxLen w _ _ _ (by simp only [maxLen]; omega)
  have ez : zv.cells.size = 1 := hsz
  have hC : ∃ C : Array Value, C = (#[] : Array Value) ++ Builtin.zeroCells zv.cells (0 + n - 0) ++ Builtin.zeroCells zv.cells (grownCap w (0 + n) 0 9 - (0 + n)) ∧ C.size = grownCap w (0 + n) 0 9 := ⟨_, rfl, by
    simp only [Array.size_append, List.size_toArray, List.length_nil, size_zeroCells, ez]; omega⟩
  obtain ⟨C, eC, hCs⟩ := hC
  have ht : Try.growS_ren.t 25 = 9 := rfl
  rw [ht, ← eC]
  rw [← eC] at hg
  generalize grownCap w (0 + n) 0 9 = cap at hcg hcm hCs
  have hnew : (w.drew.alloc (.cells C 9)).heap[w.heap.size]? = some (.cells C 9) := heap_alloc_new w.drew _
  have R1 := R.name (v := .slice (some ⟨w.heap.size, 0, none⟩) 0 cap) (g := some w.heap.size) (o := .row 9 1 [] .own) hg (fun k e => by injection e with e; subst e; exact ⟨Nat.le_refl _, by simp⟩) (by
    refine ⟨fun x hx => (by cases hx), .inl ⟨w.heap.size, by simp, cap, C, (0, 0), [], by simp, hnew, fun _ => rfl, fun j hj => by simp, by simp, hcm, by rw [hCs]; simp, by simp, by simp, fun j hj => by simp at hj⟩⟩)
  exact ⟨_, .own h.length 0, _, I, _, _, rfl, R1, .own _ _ _ _ (by simp) (by simp), fun _ h => h, fun b hb _ => upd_other _ _ (by omega), by simp, fun g hg => .inl hg,
    fun k g2 hk => by
      by_cases e : k = h.length
      · subst e; rw [upd_same] at hk; injection hk with hk; subst hk; exact .inr (Nat.le_refl _)
      · rw [upd_other _ _ e] at hk; exact .inl ⟨k, hk⟩,
    fun k hk _ => Below.heap_alloc w.drew _ k hk, rfl, rfl⟩
end Go.Proofs.Ytgkbafkmbokkaaa
end

section
namespace Go.Proofs.Ytgkbafkmbokkaaa
open Go Go.AM
set_option maxRecDepth 100000
set_option linter.unusedSimpArgs false

def wsV (l : List (List UInt8)) : PV := .sl (l.map .str)
def wssV (wss : List (List (List UInt8))) : List PV := wss.map wsV

theorem c29 {h : List AObj} (hK : h.map (AObj.kill h.length) = h) (wss : List (List (List UInt8))) (hn : 0 < wss.flatten.length) (hn2 : wss.flatten.length ≤ 1000000) (hw : wss.length ≤ 1000000) :
    AC Try.prog 29 [.p (.sl (wssV wss))] h [] (fun v h' => v = .own h.length wss.flatten.length ∧ h' = h ++ [.row 9 1 (wss.flatten.map .str) .own]) := by
  refine AC.of_bodyE hΓ Try.func29 (by kernel_rfl) rfl (AWp.mono (Q := fun e st => AM.Ends e ∧ st.tmps.getD 2 .junk = .own h.length wss.flatten.length ∧ st.h = h ++ [.row 9 1 (wss.flatten.map .str) .own]) ?_ ?_)
  rotate_left
  · rintro e ⟨tm, h'⟩ ⟨he, h1, h2⟩
    simp only at h1 h2
    subst h2
    refine ⟨he, _, Less.refl _, ?_⟩
    unfold DoneE
    simp +contextual -implicitDefEqProofs only [Try.results29, h1, go_sem]
    exact ⟨h.length + 1, by omega, .inl (by simp), List.take_of_length_le (by simp)⟩
  have gL : ∀ o : AObj, (h ++ [o])[h.length]? = some o := fun o => by simp
  have sL : ∀ o o' : AObj, (h ++ [o]).set h.length o' = h ++ [o'] := fun o o' => by simp
  have hwl : (wssV wss).length = wss.length := by simp [wssV]
  have hget : ∀ k (hk : k < wss.length), (wssV wss).getD k default = .sl (wss[k].map .str) := fun k hk => by unfold wssV; rw [getD_map_lt _ _ _ _ hk]; rfl
  have hflat : ∀ k (hk : k < wss.length), (wss.take (k + 1)).flatten = (wss.take k).flatten ++ wss[k] := fun k hk => by rw [List.take_succ_eq_append_getElem hk, List.flatten_append]; simp
  have hle : ∀ k, (wss.take k).flatten.length ≤ wss.flatten.length := fun k => by
    conv => rhs; rw [← List.take_append_drop k wss, List.flatten_append, List.length_append]
    omega
  refine AWp.of_awpD [] hΓ hmix (by kernel_rfl) ?_
  simp -implicitDefEqProofs only [Try.ntmps29, Nat.reduceAdd, Nat.reduceSub, hwl, go_sem]
  refine AWp.loopI (fun k : Nat => ⟨mkF 36 [(0, .p (.sl (wssV wss))), (2, .full []), (3, .p (.int .i64 (wss.take k).flatten.length)), (9, .p (.sl (wssV wss))), (10, .p (.int .i64 wss.length)), (11, .p (.int .i64 k))], h⟩)
    (fun k => k ≤ wss.length) (fun k => wss.length - k) 0 (by simp [go_sem, weakH_self]) (by omega) ?_
  intro k hk
  refine AWp.of_awpD [] hΓ hmix (by kernel_rfl) ?_
  by_cases hlt : k < wss.length
  · have h5 := hle (k + 1)
    rw [hflat k hlt, List.length_append] at h5
    have h6 : ¬ ((wss.take k).flatten.length : Int) + (wss[k].length : Int) < 0 := by omega
    simp -implicitDefEqProofs only [hlt, hwl, hget k hlt, h6, ↓reduceIte, go_sem]
    exact ⟨by simp only [InR]; omega, by simp only [InR]; omega, k + 1, ⟨⟨by rw [hflat k hlt, List.length_append]; omega, by omega⟩, weakH_self _⟩, hlt, by omega⟩
  · simp -implicitDefEqProofs only [hlt, hwl, go_sem]
    have hfull : wss.take k = wss := List.take_of_length_le (by omega)
    rw [hfull]
    refine callK_ac (c61 (h := h) wss.flatten.length hn hn2) (by simp) ?_
    rintro v h' ⟨rfl, rfl⟩
    simp -implicitDefEqProofs only [killAll, List.foldl, hwl, go_sem]
    refine AWp.loopI (fun j : Nat => ⟨mkF 36 [(0, .p (.sl (wssV wss))), (6, .own h.length (wss.take j).flatten.length), (25, .p (.sl (wssV wss))), (26, .p (.int .i64 wss.length)), (27, .p (.int .i64 j))], h ++ [.row 9 1 ((wss.take j).flatten.map .str) .own]⟩)
      (fun j => j ≤ wss.length) (fun j => wss.length - j) 0 (by simp [go_sem, weakH_self]) (by omega) ?_
    intro j hj
    refine AWp.of_awpD [] hΓ hmix (by kernel_rfl) ?_
    by_cases hlt2 : j < wss.length
    · have h5 := hle (j + 1)
      rw [hflat j hlt2, List.length_append] at h5
      simp -implicitDefEqProofs only [hlt2, hwl, hget j hlt2, gL, sL, hK, List.map_append, ↓reduceIte, go_sem]
      refine ⟨⟨size_str _, one_str _⟩, ⟨by omega, by omega⟩, by simp only [InR]; omega, j + 1, ⟨⟨?_, by omega⟩, ?_⟩, hlt2, by omega⟩
      · rw [hflat j hlt2, List.length_append]
      · rw [hflat j hlt2, List.map_append]
        simp only [ite_self]
        exact weakH_self _
    · have hfull2 : wss.take j = wss := List.take_of_length_le (by omega)
      simp -implicitDefEqProofs only [hlt2, hwl, hfull2, go_sem]
end Go.Proofs.Ytgkbafkmbokkaaa
end

section
namespace Go.Proofs.Ytgkbafkmbokkaaa
open Go Go.AM
set_option maxRecDepth 100000
set_option linter.unusedSimpArgs false

/-- A list of which i words at each end have changed places. -/
def rvL (l : List (List UInt8)) (i : Nat) : List (List UInt8) := (List.range l.length).map fun k => if k < i ∨ l.length - i ≤ k then l.getD (l.length - 1 - k) [] else l.getD k []

theorem rvL_len (l : List (List UInt8)) (i : Nat) : (rvL l i).length = l.length := by simp [rvL]
theorem rvL_get {l : List (List UInt8)} {i k : Nat} (hk : k < l.length) : (rvL l i)[k]? = some (if k < i ∨ l.length - i ≤ k then l.getD (l.length - 1 - k) [] else l.getD k []) := by
  simp [rvL, List.getElem?_map, List.getElem?_range hk]
theorem rvL_zero (l : List (List UInt8)) : rvL l 0 = l := by
  apply List.ext_getElem?
  intro k
  by_cases hk : k < l.length
  · rw [rvL_get hk, if_neg (by omega), List.getD_eq_getElem?_getD, List.getElem?_eq_getElem hk]; rfl
  · rw [List.getElem?_eq_none (by rw [rvL_len]; omega), List.getElem?_eq_none (by omega)]
theorem rvL_end {l : List (List UInt8)} {i : Nat} (h1 : 2 * i ≤ l.length) (h2 : l.length ≤ 2 * i + 1) : rvL l i = l.reverse := by
  apply List.ext_getElem?
  intro k
  by_cases hk : k < l.length
  · rw [rvL_get hk, List.getElem?_reverse hk]
    have e : l.getD (l.length - 1 - k) [] = l[l.length - 1 - k]'(by omega) := by rw [List.getD_eq_getElem?_getD, List.getElem?_eq_getElem (by omega)]; rfl
    by_cases hc : k < i ∨ l.length - i ≤ k
    · rw [if_pos hc, e, List.getElem?_eq_getElem (by omega)]
    · rw [if_neg hc]
      have : k = l.length - 1 - k := by omega
      rw [← this, List.getD_eq_getElem?_getD, List.getElem?_eq_getElem hk]; rfl
  · rw [List.getElem?_eq_none (by rw [rvL_len]; omega), List.getElem?_eq_none (by simp; omega)]
theorem rvL_step {l : List (List UInt8)} {i j : Nat} (hj : i + j + 1 = l.length) (hlt : i < j) : ((rvL l i).set i (l.getD j [])).set j (l.getD i []) = rvL l (i + 1) := by
  apply List.ext_getElem?
  intro k
  by_cases hk : k < l.length
  · rw [List.getElem?_set, List.getElem?_set, rvL_get hk, rvL_get hk]
    simp only [List.length_set, rvL_len]
    by_cases e1 : j = k
    · subst e1
      rw [if_pos rfl, if_pos hk, if_pos (by omega), show l.length - 1 - j = i by omega]
    · rw [if_neg e1]
      by_cases e2 : i = k
      · subst e2
        rw [if_pos rfl, if_pos hk, if_pos (by omega), show l.length - 1 - i = j by omega]
      · rw [if_neg e2]
        by_cases hc : k < i ∨ l.length - i ≤ k
        · rw [if_pos hc, if_pos (by omega)]
        · rw [if_neg hc, if_neg (by omega)]
  · rw [List.getElem?_eq_none (by simp [rvL_len]; omega), List.getElem?_eq_none (by rw [rvL_len]; omega)]

theorem c30 {h : List AObj} {b : Nat} (l : List (List UInt8)) (hb : h[b]? = some (.row 9 1 (l.map PV.str) .own)) (hl : l.length ≤ 1000000) :
    AC Try.prog 30 [.own b l.length] h [] (fun v h' => v = .tup [] ∧ h' = h.set b (.row 9 1 (l.reverse.map PV.str) .own)) := by
  have hbl : b < h.length := (List.getElem?_eq_some_iff.1 hb).1
  refine AC.of_bodyE hΓ Try.func30 (by kernel_rfl) rfl (AWp.mono (Q := fun e st => AM.Ends e ∧ st.h = h.set b (.row 9 1 (l.reverse.map PV.str) .own)) ?_ ?_)
  rotate_left
  · rintro e ⟨tm, h'⟩ ⟨he, h2⟩
    simp only at h2
    subst h2
    refine ⟨he, _, Less.refl _, ?_⟩
    unfold DoneE
    simp +contextual -implicitDefEqProofs only [Try.results30, go_sem]
    exact ⟨h.length, Nat.le_refl _, .inl (by simp), List.take_of_length_le (by simp)⟩
  have gB : ∀ o : AObj, (h.set b o)[b]? = some o := fun o => by simp [hbl]
  have sB : ∀ o o' : AObj, (h.set b o).set b o' = h.set b o' := fun o o' => by simp
  refine AWp.of_awpD [] hΓ hmix (by kernel_rfl) ?_
  simp -implicitDefEqProofs only [Try.ntmps30, Nat.reduceAdd, Nat.reduceSub, go_sem]
  refine ⟨by simp only [InR]; omega, ?_⟩
  refine AWp.loopI (fun i : Nat => ⟨mkF 28 [(0, .own b l.length), (2, .p (.int .i64 i)), (3, .p (.int .i64 ((l.length : Int) - 1 - i)))], h.set b (.row 9 1 ((rvL l i).map PV.str) .own)⟩)
    (fun i => 2 * i ≤ l.length) (fun i => l.length - i) 0 (by
      rw [rvL_zero, show h.set b (.row 9 1 (l.map PV.str) .own) = h from by
        apply List.ext_getElem?
        intro k
        rw [List.getElem?_set]
        split
        · rename_i e; subst e
          first
            | exact hb.symm
            | (rw [if_pos hbl]; exact hb.symm)
        · rfl]
      simp [go_sem, weakH_self]) (by omega) ?_
  intro i hi
  refine AWp.of_awpD [(3, 13)] hΓ hmix (by kernel_rfl) ?_
  by_cases hlt : (i : Int) < (l.length : Int) - 1 - i
  · obtain ⟨j, hj⟩ : ∃ j : Nat, (l.length : Int) - 1 - i = j := ⟨(((l.length : Int) - 1 - i)).toNat, by omega⟩
    rw [hj] at hlt ⊢
    have hjl : j < l.length := by omega
    have hil : i < l.length := by omega
    have e1 : ((rvL l i).map PV.str).getD i default = .str (l.getD i []) := by
      rw [List.getD_eq_getElem?_getD, List.getElem?_map, rvL_get hil, if_neg (by omega)]; rfl
    have e2 : ((rvL l i).map PV.str).getD j default = .str (l.getD j []) := by
      rw [List.getD_eq_getElem?_getD, List.getElem?_map, rvL_get hjl, if_neg (by omega)]; rfl
    have e3 : (((rvL l i).map PV.str).set i (.str (l.getD j []))).set j (.str (l.getD i [])) = (rvL l (i + 1)).map PV.str := by
      rw [← rvL_step (j := j) (by omega) (by omega), List.map_set, List.map_set]
    simp -implicitDefEqProofs only [hlt, gB, sB, e1, e2, e3, Int.toNat_natCast, go_sem]
    have hr := rvL_len l i
    refine ⟨hjl, by omega, hil, by omega, hil, ⟨by omega, rfl⟩, hjl, ⟨by simp; omega, rfl⟩, by simp only [InR]; omega, by simp only [InR]; omega, i + 1, ⟨⟨by omega, by omega⟩, weakH_self _⟩, by omega, by omega⟩
  · simp -implicitDefEqProofs only [hlt, go_sem]
    rw [rvL_end hi (by omega)]

end Go.Proofs.Ytgkbafkmbokkaaa
end

section
namespace Go.Proofs.Ytgkbafkmbokkaaa
open Go Go.AM
set_option maxRecDepth 1000000
set_option linter.unusedSimpArgs false

def xS : PV := .agg [.int .i64 2, .sl [.str [49], .str [48, 48, 49], .str [49, 48, 48]]]
def dS : PV := .agg [.int .i64 2, .sl [.str [49], .str [48, 48]]]

theorem made_ex : made [[49, 48], [48], [48, 49], [48]] = [[48], [48, 49], [49, 48]] := made_of (by unfold ltW; decide) (fun x => by simp only [List.mem_cons, List.not_mem_nil, or_false]; exact ⟨fun h => by rcases h with h | h | h | h <;> simp [h], fun h => by rcases h with h | h | h <;> simp [h]⟩)
theorem made_ex2 : made [[49], [48, 48]] = [[49], [48, 48]] := made_of (by unfold ltW; decide) (fun x => Iff.rfl)

theorem make_ex : PFn Try.prog 13 [.int .i64 2, .sl [.str [49, 48], .str [48], .str [48, 49], .str [48]]] [cS, .int .i64 0] := by
  have h := t71 2 [[49, 48], [48], [48, 49], [48]] (by decide)
  have hc : codeCheck 2 [[48], [48, 49], [49, 48]] = 0 := by kernel_rfl
  rw [made_ex, hc, if_pos rfl] at h
  exact h
theorem make_ex2 : PFn Try.prog 13 [.int .i64 2, .sl [.str [49], .str [48, 48]]] [dS, .int .i64 0] := by
  have h := t71 2 [[49], [48, 48]] (by decide)
  have hc : codeCheck 2 [[49], [48, 48]] = 0 := by kernel_rfl
  rw [made_ex2, hc, if_pos rfl] at h
  exact h
theorem prefix_ex : PFn Try.prog 15 [cS] [.bool false, .int .i64 0] := by
  have h := t38 2 [[48], [48, 49], [49, 48]]
  have hc : codeCheck 2 [[48], [48, 49], [49, 48]] = 0 := by kernel_rfl
  have ha : aloneB (fun w x => x.isPrefixOf w) [[48], [48, 49], [49, 48]] = false := by kernel_rfl
  rw [hc, if_pos rfl, if_pos rfl, ha] at h
  exact h
theorem compose_ex : PFn Try.prog 26 [cS, dS] [xS, .int .i64 0] := PFn.of_runE (C := ⟨Try.prog, Γ, axT⟩) (fuel := 900) hEC (by kernel_rfl)
theorem equal_ex : PFn Try.prog 47 [.sl [.str [48], .str [48, 49], .str [49, 48]], .sl [.str [48], .str [48, 49], .str [49, 48]]] [.bool true] := PFn.of_runE (C := ⟨Try.prog, Γ, axT⟩) (fuel := 900) hEC (by kernel_rfl)
theorem equal_ex2 : PFn Try.prog 47 [.sl [.str [49], .str [48, 48, 49], .str [49, 48, 48]], .sl [.str [49], .str [48, 48, 49], .str [49, 48, 48]]] [.bool true] := PFn.of_runE (C := ⟨Try.prog, Γ, axT⟩) (fuel := 900) hEC (by kernel_rfl)
theorem same_ex : PFn Try.prog 42 [.sl [.sl [.int .i64 0, .int .i64 2], .sl [.int .i64 1, .int .i64 0]], .sl [.sl [.int .i64 0, .int .i64 2], .sl [.int .i64 1, .int .i64 0]]] [.bool true] := PFn.of_runE (C := ⟨Try.prog, Γ, axT⟩) (fuel := 900) hEC (by kernel_rfl)

theorem factor_ex : PFn Try.prog 39 [cS, .str [48, 49, 48]] [.sl [.sl [.int .i64 0, .int .i64 2], .sl [.int .i64 1, .int .i64 0]], .int .i64 0] := PFn.of_runE (C := ⟨Try.prog, Γ, axT⟩) (fuel := 900) hEC (by kernel_rfl)
theorem awake_ok : PFn Try.prog 12 [] [.bool true] := by
  refine PFn.of_body hΓ Try.func12 (by kernel_rfl) rfl (AWp.of_awpD [] hΓ hmix (by kernel_rfl) ?_)
  simp -implicitDefEqProofs only [Try.ntmps12, Try.results12, Nat.reduceAdd, Nat.reduceSub, go_sem]
  refine ⟨⟨by simp [sizeOK, PV.cells], by omega⟩, callK_fn make_ex (.pures rfl) ?_⟩
  simp -implicitDefEqProofs only [cS, go_sem]
  refine callK_fn prefix_ex (.still rfl) ?_
  simp -implicitDefEqProofs only [cS, go_sem]
  refine callK_fn factor_ex (.still rfl) ?_
  simp -implicitDefEqProofs only [cS, go_sem]
  refine ⟨⟨by simp [sizeOK, PV.cells], by omega⟩, callK_fn make_ex2 (.pures rfl) ?_⟩
  simp -implicitDefEqProofs only [dS, go_sem]
  refine callK_fn compose_ex (.still rfl) ?_
  simp -implicitDefEqProofs only [xS, ite_self, go_sem]
  refine ⟨⟨by simp [sizeOK, PV.cells], by omega⟩, callK_fn equal_ex (.pures rfl) ?_⟩
  simp -implicitDefEqProofs only [go_sem]
  refine ⟨⟨by simp [sizeOK, PV.cells], by omega⟩, ⟨by simp [sizeOK, PV.cells], by omega⟩, ⟨by simp [sizeOK, PV.cells], by omega⟩, callK_fn same_ex (.pures rfl) ?_⟩
  simp -implicitDefEqProofs only [go_sem]
  refine ⟨⟨by simp [sizeOK, PV.cells], by omega⟩, callK_fn equal_ex2 (.pures rfl) ?_⟩
  simp -implicitDefEqProofs only [go_sem]
end Go.Proofs.Ytgkbafkmbokkaaa
end

section
namespace Go.Proofs.Ytgkbafkmbokkaaa
open Go Go.AM
set_option maxRecDepth 100000
set_option linter.unusedSimpArgs false

def fineB (q : Int) (ws : List (List UInt8)) : Bool := !(greatC ws || ws.any greatW) && decide (codeCheck q ws = 0)
theorem u28 (q : Int) (ws : List (List UInt8)) (hl : ws.length ≤ 9223372036854775807) : PFn Try.prog 28 [codeV q ws] [.bool (fineB q ws)] := by
  refine PFn.of_body hΓ Try.func28 (by kernel_rfl) rfl (AWp.of_awpD [] hΓ hmix (by kernel_rfl) ?_)
  simp +contextual -implicitDefEqProofs only [codeV, Try.ntmps28, Try.results28, Nat.reduceAdd, Nat.reduceSub, go_sem]
  refine callK_fn (t11 q ws hl) (.still rfl) ?_
  unfold fineB
  cases hg : (greatC ws || ws.any greatW)
  · simp -implicitDefEqProofs only [go_sem]
    refine callK_fn (t44 q ws) (.still rfl) ?_
    by_cases hc : codeCheck q ws = 0
    · rw [hc]
      simp -implicitDefEqProofs only [go_sem]
    · simp -implicitDefEqProofs only [hc, go_sem]
  · simp -implicitDefEqProofs only [go_sem]
    rfl

theorem Valid.strict {q : Int} {ws : List (List UInt8)} (hv : Valid q ws) : ws.Pairwise ltW := List.pairwise_iff_getElem.2 fun i j hi hj hij => by
  have := hv.lt i j hij hj
  rwa [List.getD_eq_getElem?_getD, List.getElem?_eq_getElem hi, Option.getD_some, List.getD_eq_getElem?_getD, List.getElem?_eq_getElem hj, Option.getD_some] at this

theorem u5 (q : Int) (ws : List (List UInt8)) (n : Int) (hws : ws.length ≤ 9223372036854775807) (hn0 : 0 ≤ n) (hn1 : n ≤ 255) : PFn Try.prog 5 [codeV q ws, .int .u8 n] [.bool true] := by
  refine PFn.of_body hΓ Try.func5 (by kernel_rfl) rfl (AWp.seq (AWp.of_awpD [] hΓ hmix (by kernel_rfl) ?_))
  simp -implicitDefEqProofs only [Try.ntmps5, Try.results5, Nat.reduceAdd, Nat.reduceSub, codeV, go_sem]
  refine AWp.seq (AWp.of_awpD [] hΓ hmix (by kernel_rfl) ?_)
  simp -implicitDefEqProofs only [go_sem]
  refine callK_fn (u28 q ws hws) (.still rfl) ?_
  cases hf : fineB q ws
  · simp -implicitDefEqProofs only [go_sem]
    refine callK_fn awake_ok (.pures rfl) ?_
    simp -implicitDefEqProofs only [go_sem]
  simp only [fineB, Bool.and_eq_true, decide_eq_true_eq] at hf
  have h := hf.2
  have hv := valid_of h
  have hlen := hv.len
  have hpos := hv.pos
  simp -implicitDefEqProofs only [go_sem]
  have hwr : IntKind.i64.wrap n = n := InR.wrap (k := .i64) (by simp only [InR]; omega)
  obtain ⟨k, hk⟩ : ∃ k : Nat, n % (ws.length : Int) = k := ⟨(n % (ws.length : Int)).toNat, (Int.toNat_of_nonneg (Int.emod_nonneg _ (by omega))).symm⟩
  have hkl : k < ws.length := by have := Int.emod_lt_of_pos n (show (0 : Int) < ws.length by omega); omega
  refine AWp.seq (AWp.of_awpD [] hΓ hmix (by kernel_rfl) ?_)
  simp -implicitDefEqProofs only [hwr, go_sem]
  refine ⟨⟨by omega, by omega⟩, ?_⟩
  rw [hk]
  refine AWp.seq ?_
  refine AWp.planL (.q 0 (.q 1 (.q 2 (.q 3 (.q 4 (.q 5 (.q 6 (.q 7 (.q 8 (.q 9 (.q 10 (.e 11 (.q 12 .fin) .nil)))))))))))) hΓ hmix (by kernel_rfl) ?_
  simp -implicitDefEqProofs only [go_sem]
  refine ⟨size_str _, by omega, size_str _, by omega, ⟨by simp [sizeOK, PV.cells], by omega⟩, ?_⟩
  have hwss : [PV.sl (List.drop k (List.map PV.str ws)), PV.sl (List.map PV.str ws), PV.sl (List.take k (List.map PV.str ws))] = wssV [ws.drop k, ws, ws.take k] := by simp [wssV, wsV]
  rw [hwss]
  have hfl : [ws.drop k, ws, ws.take k].flatten = ws.drop k ++ (ws ++ ws.take k) := by simp
  have hfn : (ws.drop k ++ (ws ++ ws.take k)).length = 2 * ws.length := by simp; omega
  have hc := c29 (h := [codeB q ws]) rfl [ws.drop k, ws, ws.take k] (by rw [hfl]; omega) (by rw [hfl]; omega) (by simp)
  rw [hfl] at hc
  generalize hall : ws.drop k ++ (ws ++ ws.take k) = l at hc hfn
  refine callK_ac hc.full0 (by simp) ?_
  rintro v h' ⟨rfl, rfl⟩
  simp -implicitDefEqProofs only [killAll, List.foldl, go_sem]
  refine AWp.seq (AWp.of_awpD [] hΓ hmix (by kernel_rfl) ?_)
  simp -implicitDefEqProofs only [codeB, go_sem]
  refine callK_ac (c30 l rfl (by omega)) (by simp) ?_
  rintro v h' ⟨rfl, rfl⟩
  simp -implicitDefEqProofs only [killAll, List.foldl, codeB, go_sem]
  refine AWp.freeze 1 rfl ?_
  refine AWp.of_awpD [] hΓ hmix (by kernel_rfl) ?_
  simp -implicitDefEqProofs only [Frozen, codeB, go_sem]
  have hmem : ∀ x, x ∈ l.reverse ↔ x ∈ ws := fun x => by
    rw [List.mem_reverse, ← hall]
    simp only [List.mem_append]
    constructor
    · rintro (hx | hx | hx)
      · exact List.mem_of_mem_drop hx
      · exact hx
      · exact List.mem_of_mem_take hx
    · exact fun hx => .inr (.inl hx)
  have e13 := t71 q l.reverse (by rw [List.length_reverse]; omega)
  rw [made_of (Valid.strict hv) hmem, if_pos h, h] at e13
  refine callK_fn e13 (.pures rfl) ?_
  simp -implicitDefEqProofs only [codeV, go_sem]
  have e23 := u23 q q ws ws hws
  rw [decide_eq_true ⟨rfl, rfl⟩] at e23
  refine callK_fn e23 (.still rfl) ?_
  simp -implicitDefEqProofs only [go_sem]
  refine callK_fn (t45 q ws) (.still rfl) ?_
  rw [h]
  simp -implicitDefEqProofs only [go_sem]
  refine callK_fn awake_ok (.pures rfl) ?_
  simp -implicitDefEqProofs only [go_sem]
end Go.Proofs.Ytgkbafkmbokkaaa
end

section
namespace Go.Proofs.Ytgkbafkmbokkaaa
open Go Go.AM
set_option maxRecDepth 100000
set_option linter.unusedSimpArgs false

theorem u60 (b : UInt8) : PFn Try.prog 60 [.int .u8 b.toNat] [.int .i64 (ixB b L16 0)] := by
  refine PFn.of_body hΓ Try.func60 (by kernel_rfl) rfl (AWp.of_awpD [] hΓ hmix (by kernel_rfl) ?_)
  simp +contextual -implicitDefEqProofs only [Try.ntmps60, Try.results60, Nat.reduceAdd, Nat.reduceSub, go_sem]
  refine AWp.loopI (fun k : Nat => ⟨mkF 13 [(0, .p (.int .u8 b.toNat)), (2, .p (.int .i64 0)), (3, .p (.int .i64 k))], []⟩)
    (fun k => k ≤ 16 ∧ ∀ j (hj : j < 16), j < k → L16[j]'hj ≠ b) (fun k => 16 - k) 0 (by simp [go_sem]) (by simp) ?_
  rintro k ⟨hk, h0⟩
  refine AWp.of_awpD [] hΓ hmix (by kernel_rfl) ?_
  simp +contextual -implicitDefEqProofs only [getD_map_lt, ↓reduceIte, go_sem]
  refine ⟨fun hlt => ⟨by omega, fun he => ?_, fun hne => ⟨by simp only [InR]; omega, k + 1, by simp, ⟨by omega, ?_⟩, by omega⟩⟩, fun hge => ?_⟩
  · have hk' : k < L16.length := by simp [L16]; omega
    have e : L16[k] = b := by
      rw [← UInt8.toNat_inj, ← he]
      show _ = (L16.getD k 0).toNat
      rw [List.getD_eq_getElem?_getD, List.getElem?_eq_getElem hk', Option.getD_some]
    rw [ixB_at b L16 0 k hk' (fun j hj => h0 j (by omega) hj) e]; simp
  · intro j hj hjk e
    by_cases hjk' : j < k
    · exact h0 j hj hjk' e
    · have : j = k := by omega
      subst this
      apply hne
      rw [← e]
      show (L16.getD j 0).toNat = _
      rw [List.getD_eq_getElem?_getD, List.getElem?_eq_getElem (by simpa [L16] using hj), Option.getD_some]; rfl
  · exact (ixB_none b L16 0 (fun j hj => h0 j (by simpa [L16] using hj) (by simp [L16] at hj; omega))).symm

theorem u59 (w : List UInt8) (hw : w.length ≤ 1000000) : PFn Try.prog 59 [.str w] [.str w.reverse] := by
  refine PFn.of_body hΓ Try.func59 (by kernel_rfl) rfl (AWp.of_awpD [] hΓ hmix (by kernel_rfl) ?_)
  simp +contextual -implicitDefEqProofs only [Try.ntmps59, Try.results59, Nat.reduceAdd, Nat.reduceSub, go_sem]
  refine AWp.loopI (fun k : Nat => ⟨mkF 19 [(0, .p (.str w)), (3, .p (.str (w.take k).reverse)), (4, .p (.int .i64 k))], []⟩)
    (fun k => k ≤ w.length) (fun k => w.length - k) 0 (by simp [go_sem]) (by omega) ?_
  intro k hk
  refine AWp.of_awpD [] hΓ hmix (by kernel_rfl) ?_
  by_cases hlt : k < w.length
  · have e1 : ((k : Int) + 1).toNat - k = 1 := by omega
    simp -implicitDefEqProofs only [hlt, e1, go_sem]
    have e2 : List.take 1 (w.drop k) ++ (w.take k).reverse = (w.take (k + 1)).reverse := by
      rw [List.take_succ_eq_append_getElem hlt, List.reverse_append, List.drop_eq_getElem_cons hlt]; rfl
    exact ⟨by simp only [InR]; omega, ⟨by omega, by omega⟩, by simp; omega, by simp only [InR]; omega, k + 1, ⟨e2.symm, by omega⟩, hlt, by omega⟩
  · simp -implicitDefEqProofs only [hlt, go_sem]
    rw [List.take_of_length_le (by omega)]

theorem u25 (q : Int) (ws : List (List UInt8)) : PFn Try.prog 25 [codeV q ws] [if codeCheck q ws = 0 then (if codeCheck q (made (revs ws)) = 0 then codeV q (made (revs ws)) else codeV 0 []) else codeV 0 [], .int .i64 (if codeCheck q ws = 0 then codeCheck q (made (revs ws)) else 1)] := by
  refine PFn.of_body hΓ Try.func25 (by kernel_rfl) rfl (AWp.of_awpD [] hΓ hmix (by kernel_rfl) ?_)
  simp +contextual -implicitDefEqProofs only [codeV, Try.ntmps25, Try.results25, Nat.reduceAdd, Nat.reduceSub, go_sem]
  refine callK_fn (t44 q ws) (.still rfl) ?_
  by_cases h : codeCheck q ws = 0
  · have hv := valid_of h
    have hws := hv.len
    have hsh : ∀ i (hi : i < ws.length), ws[i].length ≤ 32 := fun i hi => by
      have := hv.short i hi
      rwa [List.getD_eq_getElem?_getD, List.getElem?_eq_getElem hi, Option.getD_some] at this
    rw [h]
    simp -implicitDefEqProofs only [go_sem]
    refine AWp.adopt (l := []) 4 9 1 (by rfl) (by simp) ?_
    simp -implicitDefEqProofs only [go_sem]
    refine AWp.loopI (fun k : Nat => ⟨mkF 32 [(1, .ptr 0 0), (2, .ptr 1 0), (3, .p (.int .i64 0)), (4, .own 2 k), (5, .p (.int .i64 k))], [codeB q ws, .box [.p (.int .i64 0), .full []], .row 9 1 ((revs (ws.take k)).map .str) .lax]⟩)
      (fun k => k ≤ ws.length) (fun k => ws.length - k) 0 (by simp [go_sem, codeB, revs]) (by simp) ?_
    intro k hk
    by_cases hlt : k < ws.length
    · refine AWp.of_awpD [] hΓ hmix (by kernel_rfl) ?_
      simp -implicitDefEqProofs only [hlt, getD_map_lt, ↓reduceIte, codeB, go_sem]
      refine callK_fn (u59 ws[k] (by have := hsh k hlt; omega)) (.pures rfl) ?_
      simp -implicitDefEqProofs only [go_sem]
      have hs : revs (ws.take (k + 1)) = revs (ws.take k) ++ [ws[k].reverse] := by
        unfold revs; rw [List.take_succ_eq_append_getElem hlt, List.map_append]; rfl
      exact ⟨⟨size_str [_], by omega⟩, ⟨size_str [_], one_str [_]⟩, ⟨.inl (by omega), by omega, by omega⟩, by simp only [InR]; omega, k + 1, by rw [hs]; simp, hlt, by omega⟩
    · refine AWp.freeze 2 rfl ?_
      rw [List.take_of_length_le (by omega)]
      refine AWp.of_awpD [] hΓ hmix (by kernel_rfl) ?_
      simp -implicitDefEqProofs only [hlt, codeB, Frozen, go_sem]
      have e71 := u14 q (revs ws) (by simp [revs]; omega)
      by_cases hc : codeCheck q (made (revs ws)) = 0
      · rw [if_pos hc, hc] at e71
        refine callK_fn e71 (.pures rfl) ?_
        simp -implicitDefEqProofs only [codeV, hc, go_sem]
      · rw [if_neg hc] at e71
        refine callK_fn e71 (.pures rfl) ?_
        simp -implicitDefEqProofs only [codeV, hc, go_sem]
  · simp -implicitDefEqProofs only [h, go_sem]
end Go.Proofs.Ytgkbafkmbokkaaa
end

section
namespace Go.Proofs.Ytgkbafkmbokkaaa
open Go Go.AM
set_option maxRecDepth 100000
set_option linter.unusedSimpArgs false

/-- A letter's number. -/
def digN (b : UInt8) : Nat := (ixB b L16 0).toNat
/-- A word whose letters are put for words. -/
def compW (ds : List (List UInt8)) (w : List UInt8) : List UInt8 := (w.map fun b => ds.getD (digN b) []).flatten
theorem compW_snoc (ds : List (List UInt8)) (w : List UInt8) (b : UInt8) : compW ds (w ++ [b]) = compW ds w ++ ds.getD (digN b) [] := by
  unfold compW; rw [List.map_append, List.flatten_append]; simp
theorem compW_take (ds : List (List UInt8)) (w : List UInt8) {k : Nat} (hk : k < w.length) : compW ds (w.take (k + 1)) = compW ds (w.take k) ++ ds.getD (digN w[k]) [] := by
  rw [List.take_succ_eq_append_getElem hk, compW_snoc]
theorem compW_len {ds : List (List UInt8)} (h : ∀ x ∈ ds, x.length ≤ 32) : ∀ w : List UInt8, (compW ds w).length ≤ 32 * w.length
  | [] => by simp [compW]
  | b :: w => by
    have ih := compW_len h w
    have e : compW ds (b :: w) = ds.getD (digN b) [] ++ compW ds w := rfl
    rw [e, List.length_append, List.length_cons]
    have h1 : (ds.getD (digN b) []).length ≤ 32 := by
      rw [List.getD_eq_getElem?_getD]
      cases hx : ds[digN b]? with
      | none => simp
      | some x => exact h x (List.mem_of_getElem? hx)
    omega

/-- The letters of a valid code's words are numbers below its size. -/
theorem letter_of {q : Int} {w : List UInt8} (h : wordCheck q w = 0) {k : Nat} (hk : k < w.length) : 0 ≤ ixB w[k] L16 0 ∧ ixB w[k] L16 0 < q := by
  unfold wordCheck at h
  split at h
  · omega
  · split at h
    · omega
    · split at h
      · rename_i ho
        unfold okW at ho
        rw [List.all_eq_true] at ho
        have := ho w[k] (List.getElem_mem hk)
        simpa [okB] using this
      · omega

def compL (cs ds : List (List UInt8)) : List (List UInt8) := cs.map (compW ds)
def compQ (p q : Int) (cs ds : List (List UInt8)) : PV := if codeCheck p cs = 0 ∧ codeCheck q ds = 0 ∧ (ds.length : Int) = p ∧ codeCheck q (made (compL cs ds)) = 0 then codeV q (made (compL cs ds)) else codeV 0 []
def compE (p q : Int) (cs ds : List (List UInt8)) : Int := if codeCheck p cs = 0 ∧ codeCheck q ds = 0 then (if (ds.length : Int) = p then codeCheck q (made (compL cs ds)) else 11) else 1

theorem u27 (p q : Int) (cs ds : List (List UInt8)) : PFn Try.prog 27 [codeV p cs, codeV q ds] [compQ p q cs ds, .int .i64 (compE p q cs ds)] := by
  refine PFn.of_body hΓ Try.func27 (by kernel_rfl) rfl (AWp.of_awpD [] hΓ hmix (by kernel_rfl) ?_)
  simp -implicitDefEqProofs only [Try.ntmps27, Try.results27, Nat.reduceAdd, Nat.reduceSub, codeV, go_sem]
  refine callK_fn (t44 p cs) (.still rfl) ?_
  by_cases h1 : codeCheck p cs = 0
  rotate_left
  · unfold compQ compE
    rw [if_neg (fun e => h1 e.1), if_neg (fun e => h1 e.1)]
    simp -implicitDefEqProofs only [h1, codeV, go_sem]
  rw [h1]
  simp -implicitDefEqProofs only [go_sem]
  refine callK_fn (t44 q ds) (.still rfl) ?_
  by_cases h2 : codeCheck q ds = 0
  rotate_left
  · unfold compQ compE
    rw [if_neg (fun e => h2 e.2.1), if_neg (fun e => h2 e.2)]
    simp -implicitDefEqProofs only [h2, codeV, go_sem]
  rw [h2]
  by_cases h3 : (ds.length : Int) = p
  rotate_left
  · unfold compQ compE
    rw [if_neg (fun e => h3 e.2.2.1), if_pos ⟨h1, h2⟩, if_neg h3]
    simp -implicitDefEqProofs only [h3, codeV, go_sem]
  have hv := valid_of h1
  have hd := valid_of h2
  have hcl := hv.len
  have hdl := hd.len
  simp -implicitDefEqProofs only [h3, go_sem]
  have hsh : ∀ i (hi : i < cs.length), cs[i].length ≤ 32 := fun i hi => by
    have := hv.short i hi
    rwa [List.getD_eq_getElem?_getD, List.getElem?_eq_getElem hi, Option.getD_some] at this
  have hwd : ∀ x ∈ ds, x.length ≤ 32 := fun x hx => (hd.words x hx).2.1
  refine AWp.adopt (l := []) 6 9 1 (by rfl) (by simp) ?_
  simp -implicitDefEqProofs only [go_sem]
  refine AWp.loopI (fun k : Nat => ⟨mkF 67 [(2, .ptr 0 0), (3, .ptr 1 0), (4, .ptr 2 0), (5, .p (.int .i64 0)), (6, .own 3 k), (7, .p (.int .i64 k))], [codeB p cs, codeB q ds, .box [.p (.int .i64 0), .full []], .row 9 1 ((compL (cs.take k) ds).map .str) .lax]⟩)
    (fun k => k ≤ cs.length) (fun k => cs.length - k) 0 (by simp [go_sem, codeB, compL]) (by simp) ?_
  intro k hk
  by_cases hlt : k < cs.length
  · refine AWp.of_awpD [] hΓ hmix (by kernel_rfl) ?_
    simp -implicitDefEqProofs only [hlt, codeB, go_sem]
    refine AWp.loopI (fun j : Nat => ⟨mkF 67 [(2, .ptr 0 0), (3, .ptr 1 0), (4, .ptr 2 0), (5, .p (.int .i64 0)), (6, .own 3 k), (7, .p (.int .i64 k)), (8, .p (.str (compW ds (cs[k].take j)))), (9, .p (.int .i64 j))], [codeB p cs, codeB q ds, .box [.p (.int .i64 0), .full []], .row 9 1 ((compL (cs.take k) ds).map .str) .lax]⟩)
      (fun j => j ≤ cs[k].length) (fun j => cs[k].length - j) 0 (by simp [go_sem, codeB, compW]) (by simp) ?_
    intro j hj
    refine AWp.of_awpD [(13, 15)] hΓ hmix (by kernel_rfl) ?_
    by_cases hlt2 : j < cs[k].length
    · have hb : cs[k].getD j 0 = cs[k][j] := by rw [List.getD_eq_getElem?_getD, List.getElem?_eq_getElem hlt2]; rfl
      have hlet := letter_of (hv.words _ (List.getElem_mem hlt)).2.2 hlt2
      have hdn : digN cs[k][j] < ds.length := by unfold digN; omega
      have hg : (ds.map PV.str).getD (ixB cs[k][j] L16 0).toNat default = .str (ds.getD (digN cs[k][j]) []) := by
        show (ds.map PV.str).getD (digN cs[k][j]) default = _
        rw [getD_map_lt _ _ _ _ hdn, List.getD_eq_getElem?_getD, List.getElem?_eq_getElem hdn]; rfl
      have hw1 := compW_len hwd (cs[k].take j)
      have hw2 : (ds.getD (digN cs[k][j]) []).length ≤ 32 := hwd _ (getD_in hdn)
      have hkl := hsh k hlt
      simp -implicitDefEqProofs only [hlt, hlt2, hb, getD_map_lt, ↓reduceIte, codeB, go_sem]
      refine callVPK_fn (u60 cs[k][j]) (.pures rfl) ?_
      simp -implicitDefEqProofs only [hlt, hlt2, hb, hg, getD_map_lt, ↓reduceIte, codeB, go_sem]
      rw [List.length_take] at hw1
      exact ⟨by omega, by omega, by simp only [InR]; omega, j + 1, ⟨compW_take ds cs[k] hlt2, by omega⟩, hlt2, by omega⟩
    · rw [show cs[k].take j = cs[k] from List.take_of_length_le (by omega)]
      simp -implicitDefEqProofs only [hlt, hlt2, getD_map_lt, ↓reduceIte, codeB, go_sem]
      have hs : compL (cs.take (k + 1)) ds = compL (cs.take k) ds ++ [compW ds cs[k]] := by
        unfold compL; rw [List.take_succ_eq_append_getElem hlt, List.map_append]; rfl
      exact ⟨⟨size_str [_], by omega⟩, ⟨size_str [_], one_str [_]⟩, ⟨.inl (by omega), by omega, by omega⟩, by simp only [InR]; omega, k + 1, by rw [hs]; simp, hlt, by omega⟩
  · refine AWp.freeze 3 rfl ?_
    rw [List.take_of_length_le (by omega)]
    refine AWp.of_awpD [] hΓ hmix (by kernel_rfl) ?_
    simp -implicitDefEqProofs only [hlt, codeB, Frozen, go_sem]
    have e14 := u14 q (compL cs ds) (by simp [compL]; omega)
    unfold compQ compE
    rw [if_pos (show codeCheck p cs = 0 ∧ codeCheck q ds = 0 from ⟨h1, h2⟩), if_pos h3]
    by_cases hc : codeCheck q (made (compL cs ds)) = 0
    · rw [if_pos hc, hc] at e14
      rw [if_pos ⟨h1, h2, h3, hc⟩, hc]
      refine callK_fn e14 (.pures rfl) ?_
      simp -implicitDefEqProofs only [codeV, go_sem]
    · rw [if_neg hc] at e14
      rw [if_neg (fun e => hc e.2.2.2)]
      refine callK_fn e14 (.pures rfl) ?_
      simp -implicitDefEqProofs only [codeV, go_sem]
end Go.Proofs.Ytgkbafkmbokkaaa
end

section
namespace Go.Proofs.Ytgkbafkmbokkaaa
open Go Go.AM
set_option maxRecDepth 100000
set_option linter.unusedSimpArgs false

theorem least_of {P : Nat → Prop} : ∀ n, (∃ k, k < n ∧ P k) → ∃ k, k < n ∧ P k ∧ ∀ j, j < k → ¬ P j
  | 0, ⟨k, hk, _⟩ => absurd hk (Nat.not_lt_zero k)
  | n + 1, ⟨k, hk, hp⟩ => by
    by_cases h : ∃ k, k < n ∧ P k
    · obtain ⟨j, h1, h2, h3⟩ := least_of n h
      exact ⟨j, by omega, h2, h3⟩
    · have : k = n := by
        apply Classical.byContradiction
        intro hne
        exact h ⟨k, by omega, hp⟩
      subst this
      exact ⟨k, hk, hp, fun j hj hpj => h ⟨j, hj, hpj⟩⟩

/-- Codes whose words are too long are refused for that. -/
theorem long_check {q : Int} {l : List (List UInt8)} (h2 : 2 ≤ q) (h16 : q ≤ 16) (hlen : l.length ≤ 64) (hw : ∀ x ∈ l, x ≠ [] ∧ wordCheck q x = 0) (hx : ∃ x ∈ l, 32 < x.length) : codeCheck q (made l) = 4 := by
  have hml := made_le l
  have hget : ∀ j, j < (made l).length → (made l).getD j [] ∈ l := fun j hj => mem_made.1 (getD_in hj)
  obtain ⟨k, hk, hp, hlow⟩ := least_of (P := fun k => 32 < ((made l).getD k []).length) (made l).length (by
    obtain ⟨x, h1, h2⟩ := hx
    obtain ⟨i, hi, e⟩ := List.getElem_of_mem (mem_made.2 h1)
    exact ⟨i, hi, by show 32 < ((made l).getD i []).length; rw [List.getD_eq_getElem?_getD, List.getElem?_eq_getElem hi, Option.getD_some, e]; exact h2⟩)
  have e4 : wordErr q (made l) k = 4 := by
    unfold wordErr
    simp only
    rw [if_neg (hw _ (hget k hk)).1, if_pos hp]
  rw [codeCheck_at (by omega) (by omega) hk (fun j hj => ?_) (by omega), e4]
  unfold wordErr
  simp only
  obtain ⟨h3, h5⟩ := hw _ (hget j (by omega))
  rw [if_neg h3, if_neg (hlow j hj), if_neg (by simpa using h5), if_neg]
  rintro ⟨hj0, hc⟩
  have h6 : ltW ((made l).getD (j - 1) []) ((made l).getD j []) := by
    have := List.pairwise_iff_getElem.1 (made_strict l) (j - 1) j (by omega) (by omega) (by omega)
    rwa [List.getD_eq_getElem?_getD, List.getElem?_eq_getElem (by omega), Option.getD_some, List.getD_eq_getElem?_getD, List.getElem?_eq_getElem (by omega), Option.getD_some]
  have := (ltW_iff _ _).2 h6
  omega

theorem okW_of {q : Int} {w : List UInt8} (h : wordCheck q w = 0) : okW q w = true := by
  unfold wordCheck at h
  split at h
  · omega
  · split at h
    · omega
    · split at h
      · assumption
      · omega
theorem comp_word {p q : Int} {cs ds : List (List UInt8)} (hv : Valid p cs) (hd : Valid q ds) (hl : (ds.length : Int) = p) {w : List UInt8} (hw : w ∈ cs) : compW ds w ≠ [] ∧ wordCheck q (compW ds w) = 0 := by
  obtain ⟨h1, h2, h3⟩ := hv.words w hw
  have hdig : ∀ b ∈ w, ds.getD (digN b) [] ∈ ds := fun b hb => by
    obtain ⟨i, hi, rfl⟩ := List.getElem_of_mem hb
    have := letter_of h3 hi
    exact getD_in (by unfold digN; omega)
  have hwd : ∀ x ∈ ds, x.length ≤ 32 := fun x hx => (hd.words x hx).2.1
  have hlen := compW_len hwd w
  constructor
  · intro e
    cases w with
    | nil => exact h1 rfl
    | cons b w =>
      have e2 : compW ds (b :: w) = ds.getD (digN b) [] ++ compW ds w := rfl
      rw [e2] at e
      exact (hd.words _ (hdig b (by simp))).1 (List.append_eq_nil_iff.1 e).1
  · have ho : okW q (compW ds w) = true := by
      unfold okW compW
      rw [List.all_eq_true]
      intro b hb
      obtain ⟨l, hl1, hl2⟩ := List.mem_flatten.1 hb
      obtain ⟨c, hc, rfl⟩ := List.mem_map.1 hl1
      have := okW_of (hd.words _ (hdig c hc)).2.2
      unfold okW at this
      rw [List.all_eq_true] at this
      exact this b hl2
    have hq2 := hd.q2
    have hq16 := hd.q16
    unfold wordCheck
    rw [if_neg (by omega), if_neg (by omega), if_pos ho]

set_option maxHeartbeats 1000000 in
theorem u26 (p q : Int) (cs ds : List (List UInt8)) : PFn Try.prog 26 [codeV p cs, codeV q ds] [compQ p q cs ds, .int .i64 (compE p q cs ds)] := by
  refine PFn.of_body hΓ Try.func26 (by kernel_rfl) rfl (AWp.of_awpD [] hΓ hmix (by kernel_rfl) ?_)
  simp -implicitDefEqProofs only [Try.ntmps26, Try.results26, Nat.reduceAdd, Nat.reduceSub, codeV, go_sem]
  refine callK_fn (t45 p cs) (.still rfl) ?_
  by_cases h1 : codeCheck p cs = 0
  rotate_left
  · unfold compQ compE
    rw [if_neg (fun e => h1 e.1), if_neg (fun e => h1 e.1)]
    simp -implicitDefEqProofs only [h1, codeV, go_sem]
  rw [h1]
  simp -implicitDefEqProofs only [go_sem]
  refine callK_fn (t45 q ds) (.still rfl) ?_
  by_cases h2 : codeCheck q ds = 0
  rotate_left
  · unfold compQ compE
    rw [if_neg (fun e => h2 e.2.1), if_neg (fun e => h2 e.2)]
    simp -implicitDefEqProofs only [h2, codeV, go_sem]
  rw [h2]
  by_cases h3 : (ds.length : Int) = p
  rotate_left
  · unfold compQ compE
    rw [if_neg (fun e => h3 e.2.2.1), if_pos ⟨h1, h2⟩, if_neg h3]
    simp -implicitDefEqProofs only [h3, codeV, go_sem]
  have hv := valid_of h1
  have hd := valid_of h2
  have hcl := hv.len
  have hdl := hd.len
  simp -implicitDefEqProofs only [h3, go_sem]
  have hsh : ∀ i (hi : i < cs.length), cs[i].length ≤ 32 := fun i hi => by
    have := hv.short i hi
    rwa [List.getD_eq_getElem?_getD, List.getElem?_eq_getElem hi, Option.getD_some] at this
  have hwd : ∀ x ∈ ds, x.length ≤ 32 := fun x hx => (hd.words x hx).2.1
  refine AWp.adopt (l := []) 6 9 1 (by rfl) (by simp) ?_
  simp -implicitDefEqProofs only [go_sem]
  refine AWp.loopI (fun k : Nat => ⟨mkF 68 [(2, .ptr 0 0), (3, .ptr 1 0), (4, .ptr 2 0), (5, .p (.int .i64 0)), (6, .own 3 k), (31, .p (.sl (cs.map .str))), (32, .p (.int .i64 cs.length)), (33, .p (.int .i64 k))], codeB p cs :: codeB q ds :: .box [.p (.int .i64 0), .full []] :: .row 9 1 ((compL (cs.take k) ds).map .str) .lax :: List.replicate k .dead⟩)
    (fun k => k ≤ cs.length ∧ ∀ x ∈ compL (cs.take k) ds, x.length ≤ 32) (fun k => cs.length - k) 0 (by simp [go_sem, codeB, compL]) (by simp [compL]) ?_
  rintro k ⟨hk, hlow⟩
  obtain ⟨D, hD⟩ : ∃ D : List AObj, D = List.replicate k .dead := ⟨_, rfl⟩
  have hDk : D.map (AObj.kill 3) = D := by rw [hD]; simp [AObj.kill]
  have gL : ∀ o : AObj, (D ++ [o])[D.length]? = some o := fun o => by simp
  by_cases hlt : k < cs.length
  · rw [← hD]
    refine AWp.of_awpD [(13, 9)] hΓ hmix (by kernel_rfl) ?_
    simp -implicitDefEqProofs only [hlt, getD_map_lt, ↓reduceIte, codeB, go_sem]
    have hkl := hsh k hlt
    refine ⟨by omega, ?_⟩
    refine AWp.loopI (fun j : Nat => ⟨mkF 68 [(2, .ptr 0 0), (3, .ptr 1 0), (4, .ptr 2 0), (5, .p (.int .i64 0)), (6, .own 3 k), (8, .p (.str cs[k])), (9, .p (.str (compW ds (cs[k].take j)))), (31, .p (.sl (cs.map .str))), (32, .p (.int .i64 cs.length)), (33, .p (.int .i64 k)), (38, .own (D.length + 1 + 1 + 1 + 1) cs[k].length), (39, .p (.int .i64 cs[k].length)), (40, .p (.int .i64 j))], codeB p cs :: codeB q ds :: .box [.p (.int .i64 0), .full []] :: .row 9 1 ((compL (cs.take k) ds).map .str) .lax :: (D ++ [AObj.row 5 1 (cs[k].map u8V) .raw])⟩)
      (fun j => j ≤ cs[k].length) (fun j => cs[k].length - j) 0 (by simp [go_sem, codeB, compW, weakH_self]) (by simp) ?_
    intro j hj
    refine AWp.of_awpD [(13, 9)] hΓ hmix (by kernel_rfl) ?_
    by_cases hlt2 : j < cs[k].length
    · have hu : (cs[k].map u8V).getD j default = .int .u8 cs[k][j].toNat := by rw [getD_map_lt _ _ _ _ hlt2]; rfl
      have hlet := letter_of (hv.words _ (List.getElem_mem hlt)).2.2 hlt2
      have hdn : digN cs[k][j] < ds.length := by unfold digN; omega
      have hg : (ds.map PV.str).getD (ixB cs[k][j] L16 0).toNat default = .str (ds.getD (digN cs[k][j]) []) := by
        show (ds.map PV.str).getD (digN cs[k][j]) default = _
        rw [getD_map_lt _ _ _ _ hdn, List.getD_eq_getElem?_getD, List.getElem?_eq_getElem hdn]; rfl
      have hw1 := compW_len hwd (cs[k].take j)
      have hw2 : (ds.getD (digN cs[k][j]) []).length ≤ 32 := hwd _ (getD_in hdn)
      have e101 := t101 L16 cs[k][j].toNat
      have eb : ((cs[k][j].toNat : Nat) : Int).toNat.toUInt8 = cs[k][j] := by simp
      rw [eb] at e101
      simp -implicitDefEqProofs only [hlt, hlt2, hu, gL, ↓reduceIte, codeB, go_sem]
      refine callVPK_fn e101 (.pures rfl) ?_
      simp -implicitDefEqProofs only [hlt, hlt2, hg, ↓reduceIte, codeB, go_sem]
      rw [List.length_take] at hw1
      refine ⟨by omega, by omega, by simp only [InR]; omega, j + 1, ⟨⟨compW_take ds cs[k] hlt2, by omega⟩, weakH_self _⟩, hlt2, by omega⟩
    · rw [show cs[k].take j = cs[k] from List.take_of_length_le (by omega)]
      by_cases hlong : (32 : Int) < (compW ds cs[k]).length
      · simp -implicitDefEqProofs only [hlt, hlt2, hlong, ↓reduceIte, codeB, go_sem]
        have h4 : codeCheck q (made (compL cs ds)) = 4 := long_check hd.q2 hd.q16 (by simp [compL]; omega) (fun x hx => by
          obtain ⟨w, hw, rfl⟩ := List.mem_map.1 hx
          exact comp_word hv hd h3 hw) ⟨compW ds cs[k], List.mem_map.2 ⟨_, List.getElem_mem hlt, rfl⟩, by omega⟩
        unfold compQ compE
        rw [if_neg (fun e => by have := e.2.2.2; omega), if_pos (show codeCheck p cs = 0 ∧ codeCheck q ds = 0 from ⟨h1, h2⟩), if_pos h3, h4]
        exact ⟨rfl, rfl⟩
      · simp -implicitDefEqProofs only [hlt, hlt2, hlong, ↓reduceIte, codeB, hDk, List.map_append, go_sem]
        have hs : compL (cs.take (k + 1)) ds = compL (cs.take k) ds ++ [compW ds cs[k]] := by
          unfold compL; rw [List.take_succ_eq_append_getElem hlt, List.map_append]; rfl
        refine ⟨⟨size_str [_], by omega⟩, ⟨size_str [_], one_str [_]⟩, ⟨.inl (by omega), by omega, by omega⟩, by simp only [InR]; omega, k + 1, ⟨⟨by omega, by omega⟩, ?_, ?_⟩, ⟨hlt, fun x hx => ?_⟩, by omega⟩
        · rw [hs]; simp
        · rw [hD, List.replicate_succ']
          exact weakH_snoc (.inl rfl) _
        · rw [hs] at hx
          rcases List.mem_append.1 hx with hx | hx
          · exact hlow x hx
          · rw [List.mem_singleton] at hx; subst hx; omega
  · refine AWp.freeze 3 rfl ?_
    rw [List.take_of_length_le (by omega)]
    refine AWp.of_awpD [] hΓ hmix (by kernel_rfl) ?_
    simp -implicitDefEqProofs only [hlt, codeB, Frozen, go_sem]
    have e13 := t71 q (compL cs ds) (by simp [compL]; omega)
    unfold compQ compE
    rw [if_pos (show codeCheck p cs = 0 ∧ codeCheck q ds = 0 from ⟨h1, h2⟩), if_pos h3]
    by_cases hc : codeCheck q (made (compL cs ds)) = 0
    · rw [if_pos hc, hc] at e13
      rw [if_pos ⟨h1, h2, h3, hc⟩, hc]
      refine callK_fn e13 (.pures rfl) ?_
      simp -implicitDefEqProofs only [codeV, go_sem]
    · rw [if_neg hc] at e13
      rw [if_neg (fun e => hc e.2.2.2)]
      refine callK_fn e13 (.pures rfl) ?_
      simp -implicitDefEqProofs only [codeV, go_sem]
end Go.Proofs.Ytgkbafkmbokkaaa
end

section
namespace Go.Proofs.Ytgkbafkmbokkaaa
open Go Go.AM
set_option maxRecDepth 100000
set_option linter.unusedSimpArgs false

theorem small_of {ws : List (List UInt8)} (h : (greatC ws || ws.any greatW) = false) : ws.length ≤ 65 := by
  simp only [Bool.or_eq_false_iff, greatC, Bool.and_eq_false_iff, decide_eq_false_iff_not] at h
  omega

theorem u3 (p q : Int) (ws l : List (List UInt8)) (hws : ws.length ≤ 9223372036854775807) (hl : l.length ≤ 9223372036854775807) : PFn Try.prog 3 [codeV p ws, .int .i64 q, .sl (l.map .str)] [.bool true] := by
  refine PFn.of_body hΓ Try.func3 (by kernel_rfl) rfl (AWp.of_awpD [(11, 54)] hΓ hmix (by kernel_rfl) ?_)
  simp -implicitDefEqProofs only [Try.ntmps3, Try.results3, Nat.reduceAdd, Nat.reduceSub, codeV, go_sem]
  refine callK_fn (t11 p ws hws) (.still rfl) ?_
  cases hg : (greatC ws || ws.any greatW)
  rotate_left
  · simp -implicitDefEqProofs only [go_sem]
    refine callK_fn awake_ok (.pures rfl) ?_
    simp -implicitDefEqProofs only [go_sem]
  simp -implicitDefEqProofs only [go_sem]
  refine callK_fn (t11 0 l hl) (.still rfl) ?_
  cases hg2 : (greatC l || l.any greatW)
  rotate_left
  · simp -implicitDefEqProofs only [go_sem]
    refine callK_fn awake_ok (.pures rfl) ?_
    simp -implicitDefEqProofs only [go_sem]
  simp -implicitDefEqProofs only [go_sem]
  have hl2 := small_of hg2
  have e13 := t71 q l (by omega)
  have e14 := u14 q l (by omega)
  obtain ⟨mq, mw, hm, hmw⟩ : ∃ mq mw, (if codeCheck q (made l) = 0 then codeV q (made l) else codeV 0 []) = codeV mq mw ∧ mw.length ≤ 9223372036854775807 := by
    by_cases hc : codeCheck q (made l) = 0
    · exact ⟨q, made l, if_pos hc, by have := made_le l; omega⟩
    · exact ⟨0, [], if_neg hc, by simp⟩
  rw [hm] at e13 e14
  generalize codeCheck q (made l) = ec at e13 e14
  have e15 := t38 p ws
  have e16 := u16 p ws
  generalize (if codeCheck p ws = 0 then aloneB (fun w x => x.isPrefixOf w) ws else false) = bp at e15 e16
  have e17 := u17 p ws
  have e18 := u18 p ws
  generalize (if codeCheck p ws = 0 then aloneB (fun w x => x.isSuffixOf w) ws else false) = bs at e17 e18
  have e19 := u19 p ws
  have e20 := u20 p ws
  generalize (if codeCheck p ws = 0 then ((ws.getD 0 []).length : Int) else 0) = n1 at e19 e20
  generalize (if codeCheck p ws = 0 then ((ws.getD (ws.length - 1) []).length : Int) else 0) = n2 at e19 e20
  generalize (if codeCheck p ws = 0 then (0 : Int) else 1) = er at e15 e16 e17 e18 e19 e20
  have e21 := t45 p ws
  have e22 := t44 p ws
  generalize codeCheck p ws = cc at e21 e22
  have e23 := u23 mq mq mw mw hmw
  rw [decide_eq_true ⟨rfl, rfl⟩] at e23
  refine callK_fn e13 (.pures rfl) ?_
  simp -implicitDefEqProofs only [codeV, go_sem]
  refine callK_fn e14 (.pures rfl) ?_
  simp -implicitDefEqProofs only [codeV, go_sem]
  refine callK_fn e15 (.still rfl) ?_
  simp -implicitDefEqProofs only [go_sem]
  refine callK_fn e16 (.still rfl) ?_
  simp -implicitDefEqProofs only [go_sem]
  refine callK_fn e17 (.still rfl) ?_
  simp -implicitDefEqProofs only [go_sem]
  refine callK_fn e18 (.still rfl) ?_
  simp -implicitDefEqProofs only [go_sem]
  refine callK_fn e19 (.still rfl) ?_
  simp -implicitDefEqProofs only [go_sem]
  refine callK_fn e20 (.still rfl) ?_
  simp -implicitDefEqProofs only [go_sem]
  refine callVPK_fn e21 (.still rfl) ?_
  simp -implicitDefEqProofs only [go_sem]
  refine callVPK_fn e22 (.still rfl) ?_
  simp -implicitDefEqProofs only [beq_self_eq_true, go_sem]
  refine callVPK_fn e23 (.still rfl) ?_
  simp -implicitDefEqProofs only [beq_self_eq_true, go_sem]
  refine callVPK_fn awake_ok (.pures rfl) ?_
  simp -implicitDefEqProofs only [go_sem]
end Go.Proofs.Ytgkbafkmbokkaaa
end

section
namespace Go.Proofs.Ytgkbafkmbokkaaa
open Go Go.AM
set_option maxRecDepth 100000
set_option linter.unusedSimpArgs false

theorem u4 (p q : Int) (cs ds : List (List UInt8)) (hcs : cs.length ≤ 9223372036854775807) (hds : ds.length ≤ 9223372036854775807) : PFn Try.prog 4 [codeV p cs, codeV q ds] [.bool true] := by
  refine PFn.of_body hΓ Try.func4 (by kernel_rfl) rfl (AWp.of_awpD [] hΓ hmix (by kernel_rfl) ?_)
  simp +contextual -implicitDefEqProofs only [codeV, Try.ntmps4, Try.results4, Nat.reduceAdd, Nat.reduceSub, go_sem]
  refine callK_fn (t11 p cs hcs) (.still rfl) ?_
  cases hg : (greatC cs || cs.any greatW)
  rotate_left
  · simp -implicitDefEqProofs only [go_sem]
    refine callK_fn awake_ok (.pures rfl) ?_
    simp -implicitDefEqProofs only [go_sem]
  simp -implicitDefEqProofs only [go_sem]
  refine callK_fn (t11 q ds hds) (.still rfl) ?_
  cases hg2 : (greatC ds || ds.any greatW)
  rotate_left
  · simp -implicitDefEqProofs only [go_sem]
    refine callK_fn awake_ok (.pures rfl) ?_
    simp -implicitDefEqProofs only [go_sem]
  simp -implicitDefEqProofs only [go_sem]
  have hl1 := small_of hg
  have hl2 := small_of hg2
  have e24 := t39 p cs
  have e25 := u25 p cs
  have e26 := u26 p q cs ds
  have e27 := u27 p q cs ds
  obtain ⟨rq, rw', hr, hrl⟩ : ∃ rq rw', (if codeCheck p cs = 0 then (if codeCheck p (made (revs cs)) = 0 then codeV p (made (revs cs)) else codeV 0 []) else codeV 0 []) = codeV rq rw' ∧ rw'.length ≤ 9223372036854775807 := by
    have h0 := made_le (revs cs)
    have h00 : (revs cs).length = cs.length := by simp [revs]
    by_cases h1 : codeCheck p cs = 0
    · by_cases h2 : codeCheck p (made (revs cs)) = 0
      · exact ⟨p, made (revs cs), by rw [if_pos h1, if_pos h2], by omega⟩
      · exact ⟨0, [], by rw [if_pos h1, if_neg h2], by simp⟩
    · exact ⟨0, [], by rw [if_neg h1], by simp⟩
  obtain ⟨xq, xw, hx, hxl⟩ : ∃ xq xw, compQ p q cs ds = codeV xq xw ∧ xw.length ≤ 9223372036854775807 := by
    have h0 := made_le (compL cs ds)
    have h00 : (compL cs ds).length = cs.length := by simp [compL]
    unfold compQ
    by_cases h1 : codeCheck p cs = 0 ∧ codeCheck q ds = 0 ∧ (ds.length : Int) = p ∧ codeCheck q (made (compL cs ds)) = 0
    · exact ⟨q, made (compL cs ds), by rw [if_pos h1], by omega⟩
    · exact ⟨0, [], by rw [if_neg h1], by simp⟩
  rw [hr] at e24 e25
  rw [hx] at e26 e27
  generalize (if codeCheck p cs = 0 then codeCheck p (made (revs cs)) else 1) = er at e24 e25
  generalize compE p q cs ds = ex at e26 e27
  have e23 := u23 rq rq rw' rw' hrl
  have e23x := u23 xq xq xw xw hxl
  rw [decide_eq_true ⟨rfl, rfl⟩] at e23 e23x
  refine callK_fn e24 (.still rfl) ?_
  simp -implicitDefEqProofs only [codeV, go_sem]
  refine callK_fn e25 (.still rfl) ?_
  simp -implicitDefEqProofs only [codeV, go_sem]
  refine callK_fn e26 (.still rfl) ?_
  simp -implicitDefEqProofs only [codeV, go_sem]
  refine callK_fn e27 (.still rfl) ?_
  simp -implicitDefEqProofs only [codeV, go_sem]
  refine callK_fn e23 (.still rfl) ?_
  simp -implicitDefEqProofs only [codeV, go_sem]
  refine callK_fn e23x (.still rfl) ?_
  simp -implicitDefEqProofs only [codeV, go_sem]
  refine callK_fn awake_ok (.pures rfl) ?_
  simp -implicitDefEqProofs only [go_sem]
end Go.Proofs.Ytgkbafkmbokkaaa
end

section
namespace Go.Proofs.Ytgkbafkmbokkaaa
open Go Go.AM
set_option maxRecDepth 100000
set_option linter.unusedSimpArgs false

theorem alone_iff {pr : List UInt8 → List UInt8 → Bool} {ws : List (List UInt8)} (hd : ws.Nodup) : aloneB pr ws = true ↔ ∀ x ∈ ws, ∀ y ∈ ws, pr x y = true → x = y := by
  have get : ∀ i (h : i < ws.length), ws.getD i [] = ws[i] := fun i h => by rw [List.getD_eq_getElem?_getD, List.getElem?_eq_getElem h, Option.getD_some]
  unfold aloneB aloneN aloneTo
  simp only [List.all_eq_true, List.mem_range, Bool.or_eq_true, decide_eq_true_eq, Bool.not_eq_true']
  constructor
  · intro h x hx y hy hp
    obtain ⟨i, hi, rfl⟩ := List.getElem_of_mem hx
    obtain ⟨k, hk, rfl⟩ := List.getElem_of_mem hy
    rcases h i hi k hk with e | e
    · subst e; rfl
    · rw [get i hi, get k hk, hp] at e; cases e
  · intro h i hi k hk
    by_cases e : i = k
    · exact .inl e
    · right
      rw [get i hi, get k hk]
      cases hp : pr ws[i] ws[k] with
      | false => rfl
      | true =>
        have := h _ (List.getElem_mem hi) _ (List.getElem_mem hk) hp
        have hp := List.pairwise_iff_getElem.1 (show ws.Pairwise (· ≠ ·) from hd)
        rcases Nat.lt_trichotomy i k with hik | hik | hik
        · exact absurd this (hp i k hi hk hik)
        · exact absurd hik e
        · exact absurd this.symm (hp k i hk hi hik)
theorem strict_nodup {ws : List (List UInt8)} (h : ws.Pairwise ltW) : ws.Nodup := List.Pairwise.imp (fun {a b} (hab : ltW a b) (e : a = b) => ltW_irrefl b (by rw [e] at hab; exact hab)) h
/-- A suffix code exactly if the reversed one is a prefix code. -/
theorem alone_rev {ws : List (List UInt8)} (hs : ws.Pairwise ltW) : aloneB (fun w x => x.isPrefixOf w) (made (revs ws)) = aloneB (fun w x => x.isSuffixOf w) ws := by
  have h1 := alone_iff (pr := fun w x => x.isPrefixOf w) (strict_nodup (made_strict (revs ws)))
  have h2 := alone_iff (pr := fun w x => x.isSuffixOf w) (strict_nodup hs)
  rw [Bool.eq_iff_iff, h1, h2]
  have hm : ∀ x, x ∈ made (revs ws) ↔ x.reverse ∈ ws := fun x => by
    rw [mem_made]
    unfold revs
    rw [List.mem_map]
    constructor
    · rintro ⟨a, ha, rfl⟩; simpa using ha
    · intro h; exact ⟨_, h, by simp⟩
  constructor
  · intro h x hx y hy hp
    have := h x.reverse ((hm _).2 (by simpa using hx)) y.reverse ((hm _).2 (by simpa using hy)) (List.isPrefixOf_iff_prefix.2 (List.reverse_prefix.2 (List.isSuffixOf_iff_suffix.1 hp)))
    simpa using congrArg List.reverse this
  · intro h x hx y hy hp
    have := h x.reverse ((hm _).1 hx) y.reverse ((hm _).1 hy) (List.isSuffixOf_iff_suffix.2 (List.reverse_suffix.2 (List.isPrefixOf_iff_prefix.1 hp)))
    simpa using congrArg List.reverse this
theorem alone_cnt {ws : List (List UInt8)} (hn : ∀ x ∈ ws, x ≠ []) (hs : ws.Pairwise ltW) (h : aloneB (fun w x => x.isPrefixOf w) ws = true ∨ aloneB (fun w x => x.isSuffixOf w) ws = true) (w : List UInt8) : cnt ws w ≤ 1 := by
  have hd := strict_nodup hs
  refine cnt_one hn hd ?_ w
  rcases h with h | h
  · left
    intro x hx y hy hp
    exact ((alone_iff hd).1 h y hy x hx (List.isPrefixOf_iff_prefix.2 hp)).symm
  · right
    intro x hx y hy hp
    exact ((alone_iff hd).1 h y hy x hx (List.isSuffixOf_iff_suffix.2 hp)).symm

set_option maxHeartbeats 4000000 in
theorem u6 (q : Int) (ws : List (List UInt8)) (w : List UInt8) (hws : ws.length ≤ 9223372036854775807) : PFn Try.prog 6 [codeV q ws, .str w] [.bool true] := by
  refine PFn.of_body hΓ Try.func6 (by kernel_rfl) rfl (AWp.of_awpD [(24, 16)] hΓ hmix (by kernel_rfl) ?_)
  simp +contextual -implicitDefEqProofs only [codeV, Try.ntmps6, Try.results6, Nat.reduceAdd, Nat.reduceSub, go_sem]
  refine callK_fn (u28 q ws hws) (.still rfl) ?_
  cases hf : fineB q ws
  · simp -implicitDefEqProofs only [go_sem]
    refine callK_fn awake_ok (.pures rfl) ?_
    simp -implicitDefEqProofs only [go_sem]
  simp only [fineB, Bool.and_eq_true, decide_eq_true_eq] at hf
  have h := hf.2
  have hv := valid_of h
  have hlen := hv.len
  have hpos := hv.pos
  by_cases hwl : (20 : Int) < w.length
  · simp -implicitDefEqProofs only [hwl, go_sem]
    refine callK_fn awake_ok (.pures rfl) ?_
    simp -implicitDefEqProofs only [go_sem]
  have hr := rev_valid hv
  have e38 := t38 q ws
  have e17 := u17 q ws
  have e39 := t39 q ws
  have e38r := t38 q (made (revs ws))
  rw [if_pos h, if_pos h] at e38 e17 e39
  rw [if_pos hr, hr] at e39
  rw [if_pos hr, if_pos hr, alone_rev hv.strict] at e38r
  simp -implicitDefEqProofs only [hwl, go_sem]
  refine callK_fn e38 (.still rfl) ?_
  simp -implicitDefEqProofs only [go_sem]
  refine callK_fn e17 (.still rfl) ?_
  simp -implicitDefEqProofs only [go_sem]
  refine callK_fn e39 (.still rfl) ?_
  simp -implicitDefEqProofs only [codeV, go_sem]
  refine callK_fn e38r (.still rfl) ?_
  simp -implicitDefEqProofs only [ite_self, bne_self_eq_false, go_sem]
  clear e38 e17 e39 e38r
  generalize hS : aloneB (fun w x => x.isSuffixOf w) ws = S
  generalize hP : aloneB (fun w x => x.isPrefixOf w) ws = P
  refine AWp.loopI (fun i : Nat => ⟨mkF 121 [(1, .p (.str w)), (2, .ptr 0 0), (5, .p (.bool P)), (7, .p (.bool S)), (13, .p (.bool (!aloneN (fun w x => x.isPrefixOf w) ws i))), (61, .p (.sl (ws.map .str))), (62, .p (.int .i64 ws.length)), (63, .p (.int .i64 i))], [codeB q ws, codeB q (made (revs ws))]⟩)
    (fun i => i ≤ ws.length) (fun i => ws.length - i) 0 (by simp [go_sem, codeB, aloneN]) (by omega) ?_
  intro i hi
  refine AWp.of_awpD [(24, 16)] hΓ hmix (by kernel_rfl) ?_
  by_cases hlt : i < ws.length
  · simp -implicitDefEqProofs only [hlt, getD_map_lt, ↓reduceIte, codeB, go_sem]
    have hwi : ws.getD i [] = ws[i] := by rw [List.getD_eq_getElem?_getD, List.getElem?_eq_getElem hlt, Option.getD_some]
    refine AWp.loopI (fun k : Nat => ⟨mkF 121 [(1, .p (.str w)), (2, .ptr 0 0), (5, .p (.bool P)), (7, .p (.bool S)), (13, .p (.bool (!(aloneN (fun w x => x.isPrefixOf w) ws i && aloneTo (fun w x => x.isPrefixOf w) ws i k)))), (14, .p (.int .i64 i)), (15, .p (.str ws[i])), (61, .p (.sl (ws.map .str))), (62, .p (.int .i64 ws.length)), (63, .p (.int .i64 i)), (69, .p (.sl (ws.map .str))), (70, .p (.int .i64 ws.length)), (71, .p (.int .i64 k))], [codeB q ws, codeB q (made (revs ws))]⟩)
      (fun k => k ≤ ws.length) (fun k => ws.length - k) 0 (by simp [go_sem, codeB, aloneTo]) (by omega) ?_
    intro k hk
    refine AWp.of_awpD [(24, 16)] hΓ hmix (by kernel_rfl) ?_
    by_cases hlt2 : k < ws.length
    · have hwk : ws.getD k [] = ws[k] := by rw [List.getD_eq_getElem?_getD, List.getElem?_eq_getElem hlt2, Option.getD_some]
      have hto := aloneTo_succ (fun w x => x.isPrefixOf w) ws i k
      rw [hwi, hwk] at hto
      cases hb : (aloneN (fun w x => x.isPrefixOf w) ws i && aloneTo (fun w x => x.isPrefixOf w) ws i k)
      · have hb' : (aloneN (fun w x => x.isPrefixOf w) ws i && aloneTo (fun w x => x.isPrefixOf w) ws i (k + 1)) = false := by
          rw [hto, ← Bool.and_assoc, hb]; rfl
        simp -implicitDefEqProofs only [hlt, hlt2, getD_map_lt, ↓reduceIte, codeB, Bool.not_false, go_sem]
        exact ⟨by simp only [InR]; omega, k + 1, ⟨by rw [hb']; rfl, by omega⟩, hlt2, by omega⟩
      · by_cases hik : (i : Int) = k
        · have hb' : (aloneN (fun w x => x.isPrefixOf w) ws i && aloneTo (fun w x => x.isPrefixOf w) ws i (k + 1)) = true := by
            rw [hto, ← Bool.and_assoc, hb, decide_eq_true (show i = k by omega)]; rfl
          simp -implicitDefEqProofs only [hlt, hlt2, getD_map_lt, ↓reduceIte, codeB, Bool.not_true, hik, go_sem]
          exact ⟨by simp only [InR]; omega, k + 1, ⟨by rw [hb']; rfl, by omega⟩, hlt2, by omega⟩
        · have hb' : (aloneN (fun w x => x.isPrefixOf w) ws i && aloneTo (fun w x => x.isPrefixOf w) ws i (k + 1)) = !ws[k].isPrefixOf ws[i] := by
            rw [hto, ← Bool.and_assoc, hb, decide_eq_false (show ¬ i = k by omega)]; simp
          simp -implicitDefEqProofs only [hlt, hlt2, getD_map_lt, ↓reduceIte, codeB, Bool.not_true, hik, go_sem]
          refine callK_fn (t69 ws[i] ws[k]) (.pures rfl) ?_
          simp -implicitDefEqProofs only [hlt, hlt2, getD_map_lt, ↓reduceIte, codeB, Bool.not_true, hik, go_sem]
          exact ⟨by simp only [InR]; omega, k + 1, ⟨by rw [hb', Bool.not_not], by omega⟩, hlt2, by omega⟩
    · have hkn : k = ws.length := by omega
      have hz : ¬ (ws.length : Int) < ws.length := by omega
      have := aloneN_succ (fun w x => x.isPrefixOf w) ws i
      rw [hkn, ← this]
      simp -implicitDefEqProofs only [hz, codeB, go_sem]
      exact ⟨by simp only [InR]; omega, i + 1, ⟨rfl, by omega⟩, hlt, by omega⟩
  · have hin : i = ws.length := by omega
    have hz : ¬ (ws.length : Int) < ws.length := by omega
    have hal : aloneN (fun w x => x.isPrefixOf w) ws ws.length = P := hP
    rw [hin, hal]
    have hpe : (P == !P) = false := by cases P <;> rfl
    simp -implicitDefEqProofs only [hz, codeB, hpe, go_sem]
    have e32 := u32 q ws w (fun _ x hx => (hv.words x hx).1) (fun _ => by omega) (fun _ _ => by omega)
    rw [if_pos h] at e32
    by_cases h2 : wordCheck q w = 0
    · rw [if_pos h2, intN_pos] at e32
      refine callK_fn e32 (.still rfl) ?_
      cases hPS : (P || S)
      · have hP0 : P = false := by cases P <;> simp_all
        have hS0 : S = false := by cases S <;> simp_all
        rw [hP0, hS0]
        simp -implicitDefEqProofs only [go_sem]
        refine callVPK_fn awake_ok (.pures rfl) ?_
        simp -implicitDefEqProofs only [go_sem]
      · have hone : cnt ws w ≤ 1 := alone_cnt (fun x hx => (hv.words x hx).1) hv.strict (by
          rw [hP, hS]
          cases P
          · right; simpa using hPS
          · left; rfl) w
        have e1 := u34 1 (by omega)
        have e33 := u33 (cnt ws w) 1 (cap_41 (Nat.le_trans hone (by decide))) (cap_41 (by decide))
        have hle : cmpN (cnt ws w) 1 ≤ 0 := by
          unfold cmpN
          split
          · decide
          · rw [if_pos (by omega)]; decide
        rw [intN_pos] at e1
        rw [intN_pos, intN_pos] at e33
        have hPS' : (!P && !S) = false := by cases P <;> cases S <;> simp_all
        cases P
        · have hS1 : S = true := by simpa using hPS
          rw [hS1]
          simp -implicitDefEqProofs only [go_sem]
          refine callVPK_fn e1 (.pures rfl) ?_
          simp -implicitDefEqProofs only [go_sem]
          refine callVPK_fn e33 (.still rfl) ?_
          simp -implicitDefEqProofs only [hle, go_sem]
          refine callVPK_fn awake_ok (.pures rfl) ?_
          simp -implicitDefEqProofs only [go_sem]
        · simp -implicitDefEqProofs only [go_sem]
          refine callVPK_fn e1 (.pures rfl) ?_
          simp -implicitDefEqProofs only [go_sem]
          refine callVPK_fn e33 (.still rfl) ?_
          simp -implicitDefEqProofs only [hle, go_sem]
          refine callVPK_fn awake_ok (.pures rfl) ?_
          simp -implicitDefEqProofs only [go_sem]
    · rw [if_neg h2, intN_pos] at e32
      refine callK_fn e32 (.still rfl) ?_
      simp -implicitDefEqProofs only [h2, magB_zero, go_sem]
      refine aggE_ok (v := .p (.bool true)) (by kernel_rfl) ?_
      simp -implicitDefEqProofs only [go_sem]
      refine callK_fn awake_ok (.pures rfl) ?_
      simp -implicitDefEqProofs only [go_sem]
end Go.Proofs.Ytgkbafkmbokkaaa
end

