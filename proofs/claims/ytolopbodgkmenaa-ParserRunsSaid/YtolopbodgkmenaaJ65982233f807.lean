/-
  DERIVED: THE SHELF's CONTRACTS AT THIS DUMP, IN PLAIN WORDS (tools/lay-plain.mjs out of 'YtolopbodgkmenaaTmpSg.lean', which tools/lay-shelf.mjs wrote): THE SAME DECLARATIONS UNDER THE SAME NAMES: 'import', 'namespace', 'open', 'def', 'theorem' AND NOTHING ELSE: no command of the shelf's: FOR A HAND-IN. Each laying: the table of numbers ('.._ren') and one theorem, a field a fact of the dump's own or the kernel's comparison; each contract: ONE APPLICATION.
  slices.Grow of the nil list and slices.Concat of lists of numbers, as contracts with the heap.
  The law ParserRuns.
-/
import Derived.Shelf.Spec.SlicesGrow
import Derived.Shelf.SlGeneric
import Derived.Ground.Names8Prog
import Derived.Test.YtolopbodgkmenaaProg
import Derived.Test.YtolopbodgkmenaaJ1595a54dd3b0

section
namespace Go.Proofs
open Go.Shelf
def Try.growS_ren : Go.Shelf.Ren := ⟨fun | 4 => 71 | n => n, fun | 22 => 50 | 25 => 3 | 3 => 3 | 4 => 4 | 9 => 9 | 20 => 20 | 0 => 0 | n => n, fun | n => n⟩
theorem Try.growS : Go.Proofs.Lays8.n4 Try.prog Try.growS_ren := {
  mixed := by kernel_rfl
  f4 := ⟨Try.f71.name, by decide, Try.func71.trans (congrArg some (by kernel_rfl))⟩
  t0 := Try.underlying0
  a0 := Try.isAgg0
  z0 := Try.sizeOf0
  v0 := Try.zeroValue0
  t3 := Try.underlying3
  a3 := Try.isAgg3
  z3 := Try.sizeOf3
  v3 := Try.zeroValue3
  t4 := Try.underlying4
  a4 := Try.isAgg4
  z4 := Try.sizeOf4
  v4 := Try.zeroValue4
  t9 := Try.underlying9
  a9 := Try.isAgg9
  z9 := Try.sizeOf9
  v9 := Try.zeroValue9
  t20 := Try.underlying20
  a20 := Try.isAgg20
  z20 := Try.sizeOf20
  v20 := Try.zeroValue20
  t22 := Try.underlying50
  a22 := Try.isAgg50
  z22 := Try.sizeOf50
  v22 := Try.zeroValue50 }
end Go.Proofs
end

section
namespace Go.Proofs.Ytolopbodgkmenaa
open Go Go.AM Go.RowKit
set_option maxRecDepth 100000
set_option linter.unusedSimpArgs false

theorem c71 {h : List AObj} (n : Nat) (hn : 0 < n) (hn2 : n ≤ 1000000) : AC Try.prog 71 [.full [], .p (.int .i64 n)] h [] (fun v h' => v = .own h.length 0 ∧ h' = h ++ [.row 3 1 [] .own]) := by
  refine ⟨entersF_of Try.func71 (by kernel_rfl) rfl, fun X I μ ob w cargs R hlen hargs _ => ?_⟩
  obtain ⟨a0, b0, rfl⟩ : ∃ a b, cargs = [a, b] := by
    match cargs, hlen with
    | [a, b], _ => exact ⟨a, b, rfl⟩
  have g0 := hargs 0 (by simp)
  have g1 := hargs 1 (by simp)
  simp only [List.getD_cons_zero, List.getD_cons_succ] at g0 g1
  obtain ⟨a, rfl⟩ : ∃ a, a0 = .slice a 0 0 := by
    cases g0 with
    | full l a hp => exact ⟨a, rfl⟩
  rw [g1.int_inv]
  obtain ⟨i0, hi0, hisz, hib, hz⟩ := (hΓ 3 _ rfl).info
  obtain ⟨zv, hz1, _, hsz⟩ := hz _ rfl
  simp only at hisz hib hsz
  have hc := Any8.slices_Grow_grow (ρ := Try.growS_ren) Try.growS i0 zv hi0 hz1 (by omega) a 0 0 n [] w (by omega) (by omega) (by rw [hib]; omega) (by omega) (by simp) (fun _ => rfl) (fun _ _ j v hj => by simp at hj)
  refine Calls.mono (P := Try.prog) hc ?_
  rintro e w' ⟨rfl, rfl⟩
  have hg := grown_drew_alloc w (.cells ((#[] : Array Value) ++ Builtin.zeroCells zv.cells (0 + n - 0) ++ Builtin.zeroCells zv.cells (grownCap w (0 + n) 0 3 - (0 + n))) 3)
  have hcg : 0 + n ≤ grownCap w (0 + n) 0 3 := grownCap_ge w _ _ _
  have hcm : grownCap w (0 + n) 0 3 ≤ maxLen := grownCap_le_maxLen w _ _ _ (by simp only [maxLen]; omega)
  have ez : zv.cells.size = 1 := hsz
  have hC : ∃ C : Array Value, C = (#[] : Array Value) ++ Builtin.zeroCells zv.cells (0 + n - 0) ++ Builtin.zeroCells zv.cells (grownCap w (0 + n) 0 3 - (0 + n)) ∧ C.size = grownCap w (0 + n) 0 3 := ⟨_, rfl, by
    simp only [Array.size_append, List.size_toArray, List.length_nil, size_zeroCells, ez]; omega⟩
  obtain ⟨C, eC, hCs⟩ := hC
  have ht : Try.growS_ren.t 25 = 3 := rfl
  rw [ht, ← eC]
  rw [← eC] at hg
  generalize grownCap w (0 + n) 0 3 = cap at hcg hcm hCs
  have hnew : (w.drew.alloc (.cells C 3)).heap[w.heap.size]? = some (.cells C 3) := heap_alloc_new w.drew _
  have R1 := R.name (v := .slice (some ⟨w.heap.size, 0, none⟩) 0 cap) (g := some w.heap.size) (o := .row 3 1 [] .own) hg (fun k e => by injection e with e; subst e; exact ⟨Nat.le_refl _, by simp⟩) (by
    refine ⟨fun x hx => (by cases hx), .inl ⟨w.heap.size, by simp, cap, C, (0, 0), [], by simp, hnew, fun _ => rfl, fun j hj => by simp, by simp, hcm, by rw [hCs]; simp, by simp, by simp, fun j hj => by simp at hj⟩⟩)
  exact ⟨_, .own h.length 0, _, I, _, _, rfl, R1, .own _ _ _ _ (by simp) (by simp), fun _ h => h, fun b hb _ => upd_other _ _ (by omega), by simp, fun g hg => .inl hg,
    fun k g2 hk => by
      by_cases e : k = h.length
      · subst e; rw [upd_same] at hk; injection hk with hk; subst hk; exact .inr (Nat.le_refl _)
      · rw [upd_other _ _ e] at hk; exact .inl ⟨k, hk⟩,
    fun k hk _ => Below.heap_alloc w.drew _ k hk, rfl, rfl⟩
theorem c71z {h : List AObj} : AC Try.prog 71 [.full [], .p (.int .i64 (0 : Nat))] h [] (fun v h' => v = .full [] ∧ h' = h) := by
  refine ⟨entersF_of Try.func71 (by kernel_rfl) rfl, fun X I μ ob w cargs R hlen hargs _ => ?_⟩
  obtain ⟨a0, b0, rfl⟩ : ∃ a b, cargs = [a, b] := by
    match cargs, hlen with
    | [a, b], _ => exact ⟨a, b, rfl⟩
  have g0 := hargs 0 (by simp)
  have g1 := hargs 1 (by simp)
  simp only [List.getD_cons_zero, List.getD_cons_succ] at g0 g1
  have g2 := g0
  obtain ⟨a, rfl⟩ : ∃ a, a0 = .slice a 0 0 := by
    cases g0 with
    | full l a hp => exact ⟨a, rfl⟩
  rw [g1.int_inv]
  have hc := Any8.slices_Grow_room (ρ := Try.growS_ren) Try.growS a 0 0 0 w (by omega) (by omega) (by omega) (by omega)
  refine Calls.mono (P := Try.prog) hc ?_
  rintro e w' ⟨rfl, rfl⟩
  exact ⟨_, .full [], _, I, μ, ob, rfl, R, g2, fun _ h => h, fun _ _ _ => rfl, Nat.le_refl _, fun g hg => .inl hg, fun b g hb => .inl ⟨b, hb⟩, fun k hk hno => rfl, rfl, rfl⟩

def issV (iss : List (List Int)) : List PV := iss.map slI
theorem size_int (l : List Int) : sizeOK (l.map (PV.int .i64)) 1 := by simp [sizeOK, PV.cells]
theorem one_int (l : List Int) : oneOK (l.map (PV.int .i64)) := by simp [oneOK, PV.cells, PV.isAgg]

theorem c41 {h : List AObj} (hK : h.map (AObj.kill h.length) = h) (iss : List (List Int)) (hn : 0 < iss.flatten.length) (hn2 : iss.flatten.length ≤ 1000000) (hw : iss.length ≤ 1000000) :
    AC Try.prog 41 [.p (.sl (issV iss))] h [] (fun v h' => v = .own h.length iss.flatten.length ∧ h' = h ++ [.row 3 1 (iss.flatten.map (.int .i64)) .own]) := by
  refine AC.of_bodyE hΓ Try.func41 (by kernel_rfl) rfl (AWp.mono (Q := fun e st => AM.Ends e ∧ st.tmps.getD 2 .junk = .own h.length iss.flatten.length ∧ st.h = h ++ [.row 3 1 (iss.flatten.map (.int .i64)) .own]) ?_ ?_)
  rotate_left
  · rintro e ⟨tm, h'⟩ ⟨he, h1, h2⟩
    simp only at h1 h2
    subst h2
    refine ⟨he, _, Less.refl _, ?_⟩
    unfold DoneE
    simp +contextual -implicitDefEqProofs only [Try.results41, h1, go_sem]
    exact ⟨h.length + 1, by omega, .inl (by simp), List.take_of_length_le (by simp)⟩
  have gL : ∀ o : AObj, (h ++ [o])[h.length]? = some o := fun o => by simp
  have sL : ∀ o o' : AObj, (h ++ [o]).set h.length o' = h ++ [o'] := fun o o' => by simp
  have hwl : (issV iss).length = iss.length := by simp [issV]
  have hget : ∀ k (hk : k < iss.length), (issV iss).getD k default = .sl (iss[k].map (.int .i64)) := fun k hk => by unfold issV; rw [getD_map_lt _ _ _ _ hk]; rfl
  have hflat : ∀ k (hk : k < iss.length), (iss.take (k + 1)).flatten = (iss.take k).flatten ++ iss[k] := fun k hk => by rw [List.take_succ_eq_append_getElem hk, List.flatten_append]; simp
  have hle : ∀ k, (iss.take k).flatten.length ≤ iss.flatten.length := fun k => by
    conv => rhs; rw [← List.take_append_drop k iss, List.flatten_append, List.length_append]
    omega
  refine AWp.of_awpD [] hΓ hmix (by kernel_rfl) ?_
  simp -implicitDefEqProofs only [Try.ntmps41, Nat.reduceAdd, Nat.reduceSub, hwl, go_sem]
  refine AWp.loopI (fun k : Nat => ⟨mkF 36 [(0, .p (.sl (issV iss))), (2, .full []), (3, .p (.int .i64 (iss.take k).flatten.length)), (9, .p (.sl (issV iss))), (10, .p (.int .i64 iss.length)), (11, .p (.int .i64 k))], h⟩)
    (fun k => k ≤ iss.length) (fun k => iss.length - k) 0 (by simp [go_sem, weakH_self]) (by omega) ?_
  intro k hk
  refine AWp.of_awpD [] hΓ hmix (by kernel_rfl) ?_
  by_cases hlt : k < iss.length
  · have h5 := hle (k + 1)
    rw [hflat k hlt, List.length_append] at h5
    have h6 : ¬ ((iss.take k).flatten.length : Int) + (iss[k].length : Int) < 0 := by omega
    simp -implicitDefEqProofs only [hlt, hwl, hget k hlt, h6, ↓reduceIte, List.length_map, go_sem]
    exact ⟨by simp only [InR]; omega, by simp only [InR]; omega, k + 1, ⟨⟨by rw [hflat k hlt, List.length_append]; omega, by omega⟩, weakH_self _⟩, hlt, by omega⟩
  · simp -implicitDefEqProofs only [hlt, hwl, go_sem]
    have hfull : iss.take k = iss := List.take_of_length_le (by omega)
    rw [hfull]
    refine callK_ac (c71 (h := h) iss.flatten.length hn hn2) (by simp) ?_
    rintro v h' ⟨rfl, rfl⟩
    simp -implicitDefEqProofs only [killAll, List.foldl, hwl, go_sem]
    refine AWp.loopI (fun j : Nat => ⟨mkF 36 [(0, .p (.sl (issV iss))), (6, .own h.length (iss.take j).flatten.length), (25, .p (.sl (issV iss))), (26, .p (.int .i64 iss.length)), (27, .p (.int .i64 j))], h ++ [.row 3 1 ((iss.take j).flatten.map (.int .i64)) .own]⟩)
      (fun j => j ≤ iss.length) (fun j => iss.length - j) 0 (by simp [go_sem, weakH_self]) (by omega) ?_
    intro j hj
    refine AWp.of_awpD [] hΓ hmix (by kernel_rfl) ?_
    by_cases hlt2 : j < iss.length
    · have h5 := hle (j + 1)
      rw [hflat j hlt2, List.length_append] at h5
      simp -implicitDefEqProofs only [hlt2, hwl, hget j hlt2, gL, sL, hK, List.map_append, ↓reduceIte, List.length_map, go_sem]
      refine ⟨⟨size_int _, one_int _⟩, ⟨by omega, by omega⟩, by simp only [InR]; omega, j + 1, ⟨⟨?_, by omega⟩, ?_⟩, hlt2, by omega⟩
      · rw [hflat j hlt2, List.length_append]
      · rw [hflat j hlt2, List.map_append]
        simp only [ite_self]
        exact weakH_self _
    · have hfull2 : iss.take j = iss := List.take_of_length_le (by omega)
      simp -implicitDefEqProofs only [hlt2, hwl, hfull2, go_sem]
theorem c41z {h : List AObj} (hK : h.map (AObj.kill h.length) = h) (iss : List (List Int)) (hn : iss.flatten = []) (hw : iss.length ≤ 1000000) :
    AC Try.prog 41 [.p (.sl (issV iss))] h [] (fun v h' => v = .own h.length iss.flatten.length ∧ h' = h ++ [.row 3 1 (iss.flatten.map (.int .i64)) .lax]) := by
  refine AC.of_bodyE hΓ Try.func41 (by kernel_rfl) rfl (AWp.mono (Q := fun e st => AM.Ends e ∧ st.tmps.getD 2 .junk = .own h.length iss.flatten.length ∧ st.h = h ++ [.row 3 1 (iss.flatten.map (.int .i64)) .lax]) ?_ ?_)
  rotate_left
  · rintro e ⟨tm, h'⟩ ⟨he, h1, h2⟩
    simp only at h1 h2
    subst h2
    refine ⟨he, _, Less.refl _, ?_⟩
    unfold DoneE
    simp +contextual -implicitDefEqProofs only [Try.results41, h1, go_sem]
    exact ⟨h.length + 1, by omega, .inl (by simp), List.take_of_length_le (by simp)⟩
  have gL : ∀ o : AObj, (h ++ [o])[h.length]? = some o := fun o => by simp
  have sL : ∀ o o' : AObj, (h ++ [o]).set h.length o' = h ++ [o'] := fun o o' => by simp
  have hwl : (issV iss).length = iss.length := by simp [issV]
  have hget : ∀ k (hk : k < iss.length), (issV iss).getD k default = .sl (iss[k].map (.int .i64)) := fun k hk => by unfold issV; rw [getD_map_lt _ _ _ _ hk]; rfl
  have hflat : ∀ k (hk : k < iss.length), (iss.take (k + 1)).flatten = (iss.take k).flatten ++ iss[k] := fun k hk => by rw [List.take_succ_eq_append_getElem hk, List.flatten_append]; simp
  have hn0 : iss.flatten.length = 0 := by rw [hn]; rfl
  have hle : ∀ k, (iss.take k).flatten.length ≤ iss.flatten.length := fun k => by
    conv => rhs; rw [← List.take_append_drop k iss, List.flatten_append, List.length_append]
    omega
  refine AWp.of_awpD [] hΓ hmix (by kernel_rfl) ?_
  simp -implicitDefEqProofs only [Try.ntmps41, Nat.reduceAdd, Nat.reduceSub, hwl, go_sem]
  refine AWp.loopI (fun k : Nat => ⟨mkF 36 [(0, .p (.sl (issV iss))), (2, .full []), (3, .p (.int .i64 (iss.take k).flatten.length)), (9, .p (.sl (issV iss))), (10, .p (.int .i64 iss.length)), (11, .p (.int .i64 k))], h⟩)
    (fun k => k ≤ iss.length) (fun k => iss.length - k) 0 (by simp [go_sem, weakH_self]) (by omega) ?_
  intro k hk
  refine AWp.of_awpD [] hΓ hmix (by kernel_rfl) ?_
  by_cases hlt : k < iss.length
  · have h5 := hle (k + 1)
    rw [hflat k hlt, List.length_append] at h5
    have h6 : ¬ ((iss.take k).flatten.length : Int) + (iss[k].length : Int) < 0 := by omega
    simp -implicitDefEqProofs only [hlt, hwl, hget k hlt, h6, ↓reduceIte, List.length_map, go_sem]
    exact ⟨by simp only [InR]; omega, by simp only [InR]; omega, k + 1, ⟨⟨by rw [hflat k hlt, List.length_append]; omega, by omega⟩, weakH_self _⟩, hlt, by omega⟩
  · simp -implicitDefEqProofs only [hlt, hwl, go_sem]
    have hfull : iss.take k = iss := List.take_of_length_le (by omega)
    rw [hfull]
    rw [hn, List.length_nil]
    refine callK_ac (c71z (h := h)) (by simp) ?_
    rintro v h' ⟨rfl, e⟩
    rw [e]
    clear e h'
    simp -implicitDefEqProofs only [killAll, List.foldl, hwl, go_sem]
    refine AWp.adopt (l := []) 6 3 1 rfl (by simp) ?_
    refine AWp.loopI (fun j : Nat => ⟨mkF 36 [(0, .p (.sl (issV iss))), (6, .own h.length (iss.take j).flatten.length), (25, .p (.sl (issV iss))), (26, .p (.int .i64 iss.length)), (27, .p (.int .i64 j))], h ++ [.row 3 1 ((iss.take j).flatten.map (.int .i64)) .lax]⟩)
      (fun j => j ≤ iss.length) (fun j => iss.length - j) 0 (by simp [go_sem, weakH_self]) (by omega) ?_
    intro j hj
    refine AWp.of_awpD [] hΓ hmix (by kernel_rfl) ?_
    by_cases hlt2 : j < iss.length
    · have h5 := hle (j + 1)
      rw [hflat j hlt2, List.length_append] at h5
      have hej : iss[j] = [] := List.length_eq_zero_iff.1 (by omega)
      simp -implicitDefEqProofs only [hlt2, hwl, hget j hlt2, gL, sL, hK, List.map_append, ↓reduceIte, List.length_map, hej, go_sem]
      refine ⟨⟨size_int [], one_int []⟩, ⟨by omega, by omega⟩, by simp only [InR]; omega, j + 1, ⟨⟨?_, by omega⟩, ?_⟩, hlt2, by omega⟩
      · rw [hflat j hlt2, hej, List.append_nil, Nat.add_zero]
      · rw [hflat j hlt2, hej, List.append_nil, List.append_nil]
        exact weakH_self _
    · have hfull2 : iss.take j = iss := List.take_of_length_le (by omega)
      simp -implicitDefEqProofs only [hlt2, hwl, hfull2, hn, go_sem]
end Go.Proofs.Ytolopbodgkmenaa
end

section
namespace Go.Proofs.Ytolopbodgkmenaa
open Go Go.AM
set_option maxRecDepth 100000
set_option linter.unusedSimpArgs false

/-! ### Readings in two parts -/
theorem trail_cons (N E : List (List Int)) (s : Nat) (b : UInt8) (w : List UInt8) : trail N E s (b :: w) = if stp N s (digN b) < 0 then [] else (stp E s (digN b), (stp N s (digN b)).toNat) :: trail N E (stp N s (digN b)).toNat w := rfl
theorem trail_app (N E : List (List Int)) : ∀ (u v : List UInt8) (s : Nat), (trail N E s u).length = u.length → trail N E s (u ++ v) = trail N E s u ++ trail N E (endS s (trail N E s u)) v
  | [], v, s, _ => by simp [trail, endS_nil]
  | b :: u, v, s, h => by
    rw [List.cons_append, trail_cons, trail_cons]
    rw [trail_cons] at h
    by_cases hn : stp N s (digN b) < 0
    · rw [if_pos hn] at h; simp at h
    · rw [if_neg hn] at h
      rw [if_neg hn, if_neg hn, List.cons_append, endS_cons, trail_app N E u v _ (by simpa using h)]
theorem endS_app (s : Nat) (d e : List (Int × Nat)) : endS s (d ++ e) = endS (endS s d) e := by
  induction d generalizing s with
  | nil => rw [List.nil_append, endS_nil]
  | cons x d ih =>
    obtain ⟨a, n⟩ := x
    rw [List.cons_append, endS_cons, endS_cons, ih]
theorem outs_app (d e : List (Int × Nat)) : outs (d ++ e) = outs d ++ outs e := by unfold outs; rw [List.map_append, List.filter_append]
/-- From a state, a word that brings it to the end of a word of the code is read whole, and that word is said. -/
theorem trail_word {q : Int} {ws : List (List UInt8)} (hv : Valid q ws) (hp : preB ws = true) : ∀ (y : List UInt8) (s : Nat), okW q y = true → s < (prefs ws).length → y ≠ [] → (prefs ws).getD s [] ++ y ∈ ws →
    (trail (nxP q ws) (emP q ws) s y).length = y.length ∧ endS s (trail (nxP q ws) (emP q ws) s y) = 0 ∧ outs (trail (nxP q ws) (emP q ws) s y) = [ixW ws ((prefs ws).getD s [] ++ y)]
  | [], _, _, _, h, _ => absurd rfl h
  | b :: y, s, hy, hs, _, hin => by
    have hd := dig_of hy b (by simp)
    have hy' : okW q y = true := by
      unfold okW at hy ⊢
      simp only [List.all_cons, Bool.and_eq_true] at hy
      exact hy.2
    have hdq : (digN b : Int) < q := by unfold digN; omega
    have hN := stp_nx (q := q) hs hdq
    have hE := stp_em (q := q) hs hdq
    rw [stepW_of _ hd.1] at hN hE
    rw [trail_cons]
    generalize hx : (prefs ws).getD s [] = x at *
    have hp0 := (prefs_head hv).1
    cases y with
    | nil =>
      have e1 : nextN ws (prefs ws) (x ++ [b]) = 0 := by unfold nextN; rw [if_pos hin]
      obtain ⟨h1, h2, h3⟩ := ixW_getD hin
      rw [hN, hE, e1, if_neg (by decide)]
      refine ⟨by simp [trail], ?_, ?_⟩
      · rw [endS_cons]; rfl
      · rw [outs_cons, if_pos h2]; rfl
    | cons c y =>
      have hpr : x ++ [b] ∈ prefs ws := mem_prefs.2 ⟨_, hin, ⟨c :: y, by simp⟩, by simp⟩
      have hno : x ++ [b] ∉ ws := fun h => preB_out hp h hpr
      have e1 : nextN ws (prefs ws) (x ++ [b]) = ixW (prefs ws) (x ++ [b]) := by unfold nextN; rw [if_neg hno]
      obtain ⟨h1, h2, h3⟩ := ixW_getD hpr
      obtain ⟨i1, i2, i3⟩ := trail_word hv hp (c :: y) (ixW (prefs ws) (x ++ [b])).toNat hy' (by omega) (by simp) (by rw [h1, List.append_assoc]; exact hin)
      rw [hN, hE, e1, if_neg (by omega), ixW_no hno]
      refine ⟨by simp only [List.length_cons] at i1 ⊢; omega, by rw [endS_cons]; exact i2, ?_⟩
      rw [outs_cons, if_neg (by decide), i3, h1, List.append_assoc]; rfl
theorem trail_enc {q : Int} {ws : List (List UInt8)} (hv : Valid q ws) (hp : preB ws = true) : ∀ ks : List Int, encIn ws ks = true →
    (trail (nxP q ws) (emP q ws) 0 (encL ws ks)).length = (encL ws ks).length ∧ endS 0 (trail (nxP q ws) (emP q ws) 0 (encL ws ks)) = 0 ∧ outs (trail (nxP q ws) (emP q ws) 0 (encL ws ks)) = ks
  | [], _ => ⟨rfl, rfl, rfl⟩
  | k :: ks, h => by
    rw [encIn_cons] at h
    simp only [Bool.and_eq_true, decide_eq_true_eq] at h
    obtain ⟨⟨h0, h1⟩, h2⟩ := h
    have hk : k.toNat < ws.length := by omega
    have hg : ws.getD k.toNat [] = ws[k.toNat] := by rw [List.getD_eq_getElem?_getD, List.getElem?_eq_getElem hk]; rfl
    have hx : ws[k.toNat] ∈ ws := List.getElem_mem hk
    obtain ⟨p0, _⟩ := prefs_head hv
    obtain ⟨t1, t2, t3⟩ := trail_word hv hp ws[k.toNat] 0 (word_ok (hv.words _ hx).2.2).1 p0 (hv.words _ hx).1 (by rw [head0 hv]; exact hx)
    obtain ⟨i1, i2, i3⟩ := trail_enc hv hp ks h2
    rw [head0 hv, List.nil_append] at t3
    have hkk : ixW ws ws[k.toNat] = k := by
      rw [ixW_in hx, ixN_nodup (strict_nodup hv.strict) hk]; omega
    rw [hkk] at t3
    rw [encL_cons, hg, trail_app _ _ _ _ _ t1, t2]
    refine ⟨by rw [List.length_append, List.length_append, t1, i1], by rw [endS_app, t2, i2], by rw [outs_app, t3, i3]; rfl⟩

set_option maxHeartbeats 4000000 in
theorem p8 (q : Int) (ws : List (List UInt8)) (bs : List UInt8) (c : Nat) (hcb : c < 256) (hws : ws.length ≤ 9223372036854775807) (hbs : bs.length ≤ 9223372036854775807) : PFn Try.prog 8 [codeV q ws, .sl (bs.map u8V), .int .u8 c] [.bool true] := by
  have e21 := p21 q ws hws
  have e12 := p12 q ws
  refine PFn.of_body hΓ Try.func8 (by kernel_rfl) rfl (AWp.seq (AWp.of_awpD [] hΓ hmix (by kernel_rfl) ?_))
  simp -implicitDefEqProofs only [Try.ntmps8, Try.results8, Nat.reduceAdd, Nat.reduceSub, codeV, go_sem]
  refine AWp.seq (AWp.seq (AWp.of_awpD [] hΓ hmix (by kernel_rfl) ?_))
  simp -implicitDefEqProofs only [go_sem]
  refine callK_fn e21 (.still rfl) ?_
  cases hpr : prB q ws
  · simp -implicitDefEqProofs only [go_sem]
    refine AWp.of_awpD [] hΓ hmix (by kernel_rfl) ?_
    simp -implicitDefEqProofs only [go_sem]
    refine callK_fn awake_ok (.pures rfl) ?_
    simp -implicitDefEqProofs only [go_sem]
  obtain ⟨hg, hc, hp⟩ := prB_true hpr
  have hv := valid_of hc
  have hpos := hv.pos
  have h64 := hv.len
  have hI := parCheck_par hc hp
  obtain ⟨h8, h8w⟩ := small_of hv hg
  obtain ⟨g1, g2⟩ := prefs_small hv hg
  obtain ⟨hP0, _⟩ := prefs_head hv
  have h1 : pR q ws = parV q ws := by unfold pR; rw [if_pos ⟨hc, hp⟩]
  have h2 : pE q ws = 0 := by unfold pE; rw [if_pos hc, if_pos hp]
  rw [h1, h2] at e12
  unfold parV at e12
  have e40 := p40 q ws bs hpos h64 hbs
  have j1 := ixsB_in hpos bs
  have j2 := encL_len h8w (ixsB ws bs)
  have j3 := ixsB_len ws bs
  obtain ⟨m1, m2⟩ := encS_of hc j1 (by omega)
  have e38 := p38 q ws (ixsB ws bs) (by omega)
  rw [m1, m2] at e38
  have hwc := wordCheck_enc hv j1 (by omega)
  have e36 := p36 (ixsB ws bs) (ixsB ws bs) (by omega)
  rw [decide_eq_true rfl] at e36
  obtain ⟨t1, t2, t3⟩ := trail_enc hv hp _ j1
  have hdg : ∀ b ∈ encL ws (ixsB ws bs), digN b < q.toNat := fun b hb => by have := dig_of (word_ok hwc).1 b hb; unfold digN; omega
  have hstl := fun i => endS_lt (isPar_of hc hp).tbl.1 (by have := hv.q2; omega) (encL ws (ixsB ws bs)) 0 i hdg (isPar_of hc hp).tbl.2
  rw [nxP_length] at hstl
  have hel : (encL ws (ixsB ws bs)).length ≤ 96 := by omega
  have hjl : (ixsB ws bs).length ≤ 12 := by omega
  clear m1 m2 j2 j3 h1 h2 hdg
  generalize prefs ws = P at *
  generalize nxP q ws = N at *
  generalize emP q ws = E at *
  generalize ixsB ws bs = js at *
  generalize encL ws js = s at *
  obtain ⟨m, hm⟩ : ∃ m : Nat, (c : Int) % ((s.length : Int) + 1) = m := ⟨((c : Int) % ((s.length : Int) + 1)).toNat, (Int.toNat_of_nonneg (Int.emod_nonneg _ (by omega))).symm⟩
  have hml : m ≤ s.length := by have := Int.emod_lt_of_pos (c : Int) (show (0 : Int) < (s.length : Int) + 1 by omega); omega
  have ta := trail_take N E s 0 m
  have la : ((trail N E 0 s).take m).length = m := by rw [List.length_take]; omega
  have tb := trail_app N E (s.take m) (s.drop m) 0 (by rw [ta, la, List.length_take]; omega)
  rw [List.take_append_drop, ta] at tb
  have hst := hstl m
  have lb := congrArg List.length tb
  rw [List.length_append, la, t1] at lb
  have eb := congrArg (endS 0) tb
  rw [endS_app, t2] at eb
  have ob := congrArg outs tb
  rw [outs_app, t3] at ob
  have ra := run_of (s := 0) hI hP0 hwc
  rw [t1, if_neg (Nat.lt_irrefl _)] at ra
  have rb := run_of (s := 0) hI hP0 (wordCheck_take hwc m)
  rw [ta, la, List.length_take, if_neg (show ¬ m < min m s.length by omega)] at rb
  have hwd : wordCheck q (s.drop m) = 0 := by
    have hk := word_ok hwc
    have ht : okW q (s.drop m) = true := by
      unfold okW at hk ⊢
      exact List.all_eq_true.2 fun b hb => List.all_eq_true.1 hk.1 b (List.mem_of_mem_drop hb)
    have h2 := hv.q2
    have h16 := hv.q16
    unfold wordCheck
    rw [if_neg (by omega), if_neg (by rw [List.length_drop]; omega), if_pos ht]
  have rc := run_of (s := endS 0 ((trail N E 0 s).take m)) hI hst hwd
  rw [List.length_drop, if_neg (by omega)] at rc
  have gP : ∀ x ∈ P, x.length ≤ 1000 := fun x hx => by have := g2 x hx; omega
  have ea := p29 q P N E ((0 : Nat) : Int) s g1 gP
  have eb2 := p29 q P N E ((0 : Nat) : Int) (s.take m) g1 gP
  have ec := p29 q P N E (endS 0 ((trail N E 0 s).take m) : Nat) (s.drop m) g1 gP
  unfold runL runS at ea eb2 ec
  rw [ra, if_pos rfl, if_pos rfl, Int.toNat_natCast, t2, t3] at ea
  rw [rb, if_pos rfl, if_pos rfl, Int.toNat_natCast, ta] at eb2
  rw [rc, if_pos rfl, if_pos rfl, Int.toNat_natCast, ← eb] at ec
  generalize endS 0 ((trail N E 0 s).take m) = st at *
  generalize outs ((trail N E 0 s).take m) = o1 at *
  generalize outs (trail N E st (s.drop m)) = o2 at *
  have hcat : ∃ rk, AC Try.prog 41 [.p (.sl (issV [o1, o2]))] [codeB q ws, psB q P N E] [] (fun v h' => v = .own 2 js.length ∧ h' = [codeB q ws, psB q P N E, .row 3 1 (js.map (.int .i64)) rk]) := by
    have hfl : [o1, o2].flatten = js := by rw [ob]; simp
    by_cases hj : js = []
    · have := c41z (h := [codeB q ws, psB q P N E]) rfl [o1, o2] (by rw [hfl]; exact hj) (by simp)
      rw [hfl] at this
      exact ⟨_, this⟩
    · have := c41 (h := [codeB q ws, psB q P N E]) rfl [o1, o2] (by rw [hfl]; exact List.length_pos_iff.2 hj) (by rw [hfl]; omega) (by simp)
      rw [hfl] at this
      exact ⟨_, this⟩
  obtain ⟨rk, hcat⟩ := hcat
  have z2 : ((0 : Nat) : Int) = 0 := rfl
  have hmx : (if (if (0 : Int) < 0 then (0 : Int) else 0) < 0 then (0 : Int) else if (0 : Int) < 0 then (0 : Int) else 0) = 0 := rfl
  rw [z2] at ea eb2 ec
  unfold slI at e40 e36 ea eb2 ec
  unfold psV at e12 ea eb2 ec
  simp only [issV, List.map_cons, List.map_nil] at hcat
  unfold codeB psB at hcat
  rw [show slI o1 = PV.sl (o1.map (.int .i64)) from rfl, show slI o2 = PV.sl (o2.map (.int .i64)) from rfl] at hcat
  simp -implicitDefEqProofs only [go_sem]
  refine AWp.of_awpD [] hΓ hmix (by kernel_rfl) ?_
  simp -implicitDefEqProofs only [go_sem]
  refine AWp.of_awpD [(10, 12), (11, 13)] hΓ hmix (by kernel_rfl) ?_
  simp -implicitDefEqProofs only [go_sem]
  refine callK_fn e40 (.still rfl) ?_
  simp -implicitDefEqProofs only [go_sem]
  refine callK_fn e12 (.still rfl) ?_
  simp -implicitDefEqProofs only [go_sem]
  refine callK_fn e38 (.still rfl) ?_
  simp -implicitDefEqProofs only [go_sem]
  refine callK_fn ea (.still rfl) ?_
  simp -implicitDefEqProofs only [hmx, go_sem]
  refine callK_fn e36 (.still rfl) ?_
  simp -implicitDefEqProofs only [go_sem]
  have hwr : IntKind.i64.wrap (c : Int) = c := InR.wrap (k := .i64) (by simp only [InR]; omega)
  rw [hwr, hm]
  refine ⟨by simp only [InR]; omega, ⟨by omega, by omega⟩, ⟨by omega, by omega⟩, callVPK_fn eb2 (.still rfl) ?_⟩
  simp -implicitDefEqProofs only [go_sem]
  refine ⟨hml, callVPK_fn ec (.still rfl) ?_⟩
  simp -implicitDefEqProofs only [go_sem]
  refine ⟨⟨by simp [sizeOK, PV.cells], by omega⟩, callK_ac hcat.full0 (by simp) ?_⟩
  rintro v h' ⟨rfl, rfl⟩
  simp -implicitDefEqProofs only [killAll, List.foldl, go_sem]
  refine callK_fn e36 (.owned rfl rfl) ?_
  simp -implicitDefEqProofs only [go_sem]
  refine callK_fn awake_ok (.pures rfl) ?_
  simp -implicitDefEqProofs only [go_sem]
end Go.Proofs.Ytolopbodgkmenaa
end

