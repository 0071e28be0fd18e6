/-
  DERIVED: THE SHELF's CONTRACTS AT THIS DUMP, IN PLAIN WORDS (tools/lay-plain.mjs out of 'YtgkbafkmbokkaaaShelfC.lean', which tools/lay-shelf.mjs wrote): THE SAME DECLARATIONS UNDER THE SAME NAMES: 'import', 'namespace', 'open', 'def', 'theorem' AND NOTHING ELSE: no command of the shelf's: FOR A HAND-IN. Each laying: the table of numbers ('.._ren') and one theorem, a field a fact of the dump's own or the kernel's comparison; each contract: ONE APPLICATION.
  slices.Compact on an owned row of words, as a contract with the heap.
  Sorted lists.
  The common low layer.
  slices.Clone of a list of words.
  code.Make: the words sorted, each once; checked.
  Reversed words: slices.Reverse of bytes, word.Reverse.
  code.Reverse.
  code.alone, code.Prefix.
  Plain law of codes that are made.
  The reference's Sorted: words put in one by one.
  Prefix and Suffix of the reference, Suffix, Longest, Same, Make of the reference.
-/
import Derived.Shelf.SlicesG.In.CompactS
import Derived.Shelf.SlGeneric
import Derived.Ground.SlgnProg
import Derived.Test.YtgkbafkmbokkaaaProg
import Derived.Test.YtgkbafkmbokkaaaJ32789e2d91b1
import Derived.Test.YtgkbafkmbokkaaaJ16a1c712b009

section
namespace Go.Proofs
open Go.Shelf
def Try.compS_ren : Go.Shelf.Ren := ⟨fun | 44 => 83 | n => n, fun | 25 => 22 | 26 => 9 | 3 => 3 | 4 => 4 | 0 => 0 | n => n, fun | n => n⟩
theorem Try.compS : Go.Proofs.SlLaysN.n44 Try.prog Try.compS_ren := {
  mixed := by kernel_rfl
  f44 := ⟨Try.f83.name, by decide, Try.func83.trans (congrArg some (by kernel_rfl))⟩
  t0 := Try.underlying0
  a0 := Try.isAgg0
  z0 := Try.sizeOf0
  v0 := Try.zeroValue0
  t3 := Try.underlying3
  a3 := Try.isAgg3
  z3 := Try.sizeOf3
  v3 := Try.zeroValue3
  t4 := Try.underlying4
  a4 := Try.isAgg4
  z4 := Try.sizeOf4
  v4 := Try.zeroValue4
  t25 := Try.underlying22
  a25 := Try.isAgg22
  z25 := Try.sizeOf22
  v25 := Try.zeroValue22
  t26 := Try.underlying9
  a26 := Try.isAgg9
  z26 := Try.sizeOf9
  v26 := Try.zeroValue9
  i26 := by kernel_rfl }
end Go.Proofs
end

section
namespace Go.Proofs.Ytgkbafkmbokkaaa
open Go Go.AM Go.RowKit
set_option maxRecDepth 100000
set_option linter.unusedSimpArgs false

theorem compact_le (l : List (List UInt8)) : (Lib.compact l).length ≤ l.length := by
  unfold Lib.compact Lib.compactUpTo
  rw [List.length_map]
  exact Nat.le_trans (List.length_filter_le _ _) (by simp)

theorem c107 {h : List AObj} {b : Nat} (l : List (List UInt8)) (hb : h[b]? = some (.row 9 1 (l.map .str) .own)) (hsz : l.length ≤ 1000000) :
    AC Try.prog 83 [.own b l.length] h [b] (fun v h' => v = .own b (Lib.compact l).length ∧ h' = (h.map (AObj.kill b)).set b (.row 9 1 ((Lib.compact l).map .str) .own)) := by
  refine ⟨entersF_of Try.func83 (by kernel_rfl) rfl, fun X I μ ob w cargs R hlen hargs hmay => ?_⟩
  obtain ⟨a0, rfl⟩ : ∃ a, cargs = [a] := by
    match cargs, hlen with
    | [a], _ => exact ⟨a, rfl⟩
  have g0 := hargs 0 (by simp)
  simp only [List.getD_cons_zero] at g0
  obtain ⟨a, c, rfl, hbn, hbm⟩ := g0.own_inv
  obtain ⟨hall, hrow⟩ := R.objs _ _ hb
  rcases hrow with ⟨g, hg, cap, cur, fr, vs, e1, e2, e3, e4, e5, e6, e7, e8, e9, e10⟩ | ⟨hk, _⟩
  rotate_left
  · cases hk
  rw [hbm] at e1
  simp only [List.length_map] at e1 e5 e7 e8 e9 e10
  injection e1 with e1a _ e1c
  subst e1a e1c
  have hfr := e3 rfl
  subst hfr
  have hgl := (R.own b g hg).2.2
  have cell : ∀ j (hj : j < l.length), cur[j]? = some (encW l[j]) := fun j hj => by
    have h1 := e10 j (by omega)
    rw [flats_str, getD_map_lt _ _ _ _ hj] at h1
    have h2 := encW_of h1
    have h3 : cur.toList[j]? = some (vs.getD j undef) := by
      have : vs[j]? = some (vs.getD j undef) := by rw [List.getD_eq_getElem?_getD, List.getElem?_eq_getElem (by omega)]; rfl
      rw [← e8, List.getElem?_take_of_lt (by omega)] at this
      exact this.trans (by rw [e8])
    rw [Array.getElem?_toList, h2] at h3
    exact h3
  have hH : Sort.Holds encW w g 0 l.toArray := fun j hj => by
    have hj' : j < l.length := by simpa using hj
    refine ⟨?_, ?_⟩
    · unfold World.cell?
      simp only [Nat.zero_add, e2]
      rw [cell j hj', getElem!_pos l.toArray j hj]
      simp
    · unfold World.frozen?
      simp only [e2]
      simp
  have hc : Calls Try.prog 83 #[.slice (some ⟨g, 0, none⟩) l.length c] w fun e w' => e = .returned (.slice (some ⟨g, 0, none⟩) (Lib.compact l).length c) ∧ ∃ q, w' = Sort.putRow encW (Sort.ahead w q) g 0 (Lib.compact l ++ List.replicate (l.length - (Lib.compact l).length) []).toArray :=
    AnyG.slices_Compact_string (ρ := Try.compS_ren) Try.compS g 0 c l w hH (by omega) e5
  refine Calls.mono (P := Try.prog) hc ?_
  rintro e w' ⟨rfl, n, rfl⟩
  have hcl := compact_le l
  generalize hlf : Lib.compact l ++ List.replicate (l.length - (Lib.compact l).length) [] = lf
  have hsl : lf.toArray.size = l.length := by rw [← hlf]; simp; omega
  have hlfl : lf.length = l.length := by simpa using hsl
  -- the world that is left
  have hnew : (Sort.putRow encW (Sort.ahead w n) g 0 lf.toArray).heap[g]? = some (.cells (Sort.putCells encW 0 lf.toArray cur) 9 (0, 0)) := by
    show (w.heap.modify g _)[g]? = _
    rw [Array.getElem?_modify, if_pos rfl, e2]; rfl
  have hold : ∀ k, k < w.heap.size → k ≠ g → (Sort.putRow encW (Sort.ahead w n) g 0 lf.toArray).heap[k]? = w.heap[k]? := fun k hk hne => by
    show (w.heap.modify g _)[k]? = _
    rw [Array.getElem?_modify, if_neg (fun e => hne e.symm)]
  have hsize : (Sort.putRow encW (Sort.ahead w n) g 0 lf.toArray).heap.size = w.heap.size := by
    show (w.heap.modify g _).size = _
    simp
  have hgrow : w.grownBy (Sort.putRow encW (Sort.ahead w n) g 0 lf.toArray) (ob b) := ⟨rfl, rfl, rfl, by rw [hsize]; exact Nat.le_refl _, fun k hk hk2 => hold k hk (fun e => hk2 (by rw [e, hg]))⟩
  have hput : ∀ j, j < (Lib.compact l).length → (Sort.putCells encW 0 lf.toArray cur)[j]? = some (encW ((Lib.compact l).getD j [])) := fun j hj => by
    have hj2 : j < l.length := by omega
    unfold Sort.putCells
    rw [Array.getElem?_mapIdx, cell j hj2]
    simp only [Option.map_some]
    rw [if_pos ⟨Nat.zero_le _, by rw [hsl]; omega⟩, Nat.sub_zero, getElem!_pos lf.toArray j (by rw [hsl]; exact hj2)]
    have : lf[j]'(by omega) = (Lib.compact l).getD j [] := by
      subst hlf
      rw [List.getElem_append_left hj, List.getD_eq_getElem?_getD, List.getElem?_eq_getElem hj]; rfl
    simp only [List.getElem_toArray, this]
  have hps : (Sort.putCells encW 0 lf.toArray cur).size = cur.size := by unfold Sort.putCells; rw [Array.size_mapIdx]
  have hpl : ((Sort.putCells encW 0 lf.toArray cur).toList.take (Lib.compact l).length).length = (Lib.compact l).length := by
    have h1 : (Sort.putCells encW 0 lf.toArray cur).toList.length = cur.size := by simpa using hps
    rw [List.length_take, h1]; omega
  have R2 := R.move (b0 := b) (v := .slice (some ⟨g, 0, none⟩) (Lib.compact l).length c) (g := some g) (o := .row 9 1 ((Lib.compact l).map .str) .own) hbn (hmay b (by simp)) hgrow
    (fun k e => by injection e with e; subst e; exact ⟨.inl hg, by rw [hsize]; exact hgl⟩) ⟨fun x hx => by
      obtain ⟨u, _, rfl⟩ := List.mem_map.1 hx; rfl, .inl ⟨g, by simp, c, Sort.putCells encW 0 lf.toArray cur, (0, 0), (Sort.putCells encW 0 lf.toArray cur).toList.take (Lib.compact l).length, by rw [upd_same, List.length_map], hnew, fun _ => rfl, by simp,
        by rw [List.length_map]; omega, e6, by rw [hps]; exact e7, by rw [List.length_map, Nat.mul_one], by
          rw [List.length_map, hpl, Nat.mul_one], fun j hj => ?_⟩⟩
  · exact ⟨_, .own b (Lib.compact l).length, _, I, upd μ b (.slice (some ⟨g, 0, none⟩) (Lib.compact l).length c), upd ob b (some g), rfl, R2, .own _ _ _ _ (by simpa using hbn) (by simp), fun _ h => h, fun k _ hk => upd_other _ _ (by simpa using hk), by simp, fun g hg => .inl hg,
      fun k g2 hk => by
        by_cases e : k = b
        · subst e; rw [upd_same] at hk; injection hk with hk; subst hk; exact .inl ⟨k, hg⟩
        · rw [upd_other _ _ e] at hk; exact .inl ⟨k, hk⟩,
      fun k hk hno => hold k hk (fun e => hno b (by rw [e]; exact hg)), rfl, rfl⟩
  · rw [List.length_map, Nat.mul_one] at hj
    rw [flats_str, getD_map_lt _ _ _ _ hj]
    have : ((Sort.putCells encW 0 lf.toArray cur).toList.take (Lib.compact l).length).getD j undef = encW ((Lib.compact l).getD j []) := by
      rw [List.getD_eq_getElem?_getD, List.getElem?_take_of_lt hj, Array.getElem?_toList, hput j hj]; rfl
    rw [this, List.getD_eq_getElem?_getD, List.getElem?_eq_getElem hj]
    exact pr_encW _

/-- At no element: nothing turns, whosever the row is. -/
theorem c107n {h : List AObj} {b : Nat} : AC Try.prog 83 [.own b 0] h [] (fun v h' => v = .own b 0 ∧ h' = h) := by
  refine ⟨entersF_of Try.func83 (by kernel_rfl) rfl, fun X I μ ob w cargs R hlen hargs _ => ?_⟩
  obtain ⟨a0, rfl⟩ : ∃ a, cargs = [a] := by
    match cargs, hlen with
    | [a], _ => exact ⟨a, rfl⟩
  have g0 := hargs 0 (by simp)
  simp only [List.getD_cons_zero] at g0
  obtain ⟨a, c, rfl, hbn, hbm⟩ := g0.own_inv
  have hc : Calls Try.prog 83 #[.slice a 0 c] w fun e w' => e = .returned (.slice a 0 c) ∧ w' = w := AnyG.slices_Compact_string_empty (ρ := Try.compS_ren) Try.compS a c w
  refine Calls.mono (P := Try.prog) hc ?_
  rintro e w' ⟨rfl, rfl⟩
  exact ⟨_, .own b 0, _, I, μ, ob, rfl, R, .own _ _ _ _ hbn hbm, fun _ h => h, fun _ _ _ => rfl, Nat.le_refl _, fun g hg => .inl hg, fun b g hb => .inl ⟨b, hb⟩, fun k hk hno => rfl, rfl, rfl⟩
end Go.Proofs.Ytgkbafkmbokkaaa
end

section
namespace Go.Proofs.Ytgkbafkmbokkaaa
open Go Go.AM
set_option maxRecDepth 100000
set_option linter.unusedSimpArgs false

/-! ### Sorted lists -/
theorem sortW_perm (l : List (List UInt8)) : (sortW l).Perm l := List.mergeSort_perm l _
theorem mem_sortW (l : List (List UInt8)) (x : List UInt8) : x ∈ sortW l ↔ x ∈ l := (sortW_perm l).mem_iff
theorem sortW_sorted (l : List (List UInt8)) : (sortW l).Pairwise fun a b => ¬ ltW b a := by
  have h := List.pairwise_mergeSort (le := fun x y => !(ltOf cmpK) y x) (fun a b c h1 h2 => by
    simp only [Bool.not_eq_true', ltOf_false] at *
    intro h
    by_cases hbc : ltW b c
    · exact h1 (by
        by_cases hab : ltW a b
        · exact absurd (ltW_trans hab (ltW_trans hbc h)) (ltW_irrefl a)
        · have := ltW_total hab h1
          subst this; exact absurd (ltW_trans hbc h) (ltW_irrefl _))
    · have := ltW_total hbc h2
      subst this; exact h1 h) (fun a b => by
    simp only [Bool.or_eq_true, Bool.not_eq_true', ltOf_false]
    by_cases hab : ltW b a
    · exact .inr (fun h => ltW_irrefl a (ltW_trans h hab))
    · exact .inl hab) l
  refine h.imp ?_
  intro a b hab
  simpa [ltOf_false] using hab
theorem sortW_nodup {l : List (List UInt8)} (h : l.Nodup) : (sortW l).Nodup := (sortW_perm l).nodup_iff.2 h
/-- Strictly ascending. -/
theorem sortW_strict {l : List (List UInt8)} (h : l.Nodup) : (sortW l).Pairwise ltW := by
  refine (sortW_sorted l).imp₂ ?_ (sortW_nodup h)
  intro a b h1 h2
  by_cases hab : ltW a b
  · exact hab
  · exact absurd (ltW_total hab h1) h2

theorem strict_unique : ∀ {l m : List (List UInt8)}, l.Pairwise ltW → m.Pairwise ltW → (∀ x, x ∈ l ↔ x ∈ m) → l = m
  | [], [], _, _, _ => rfl
  | [], b :: m, _, _, h => absurd ((h b).2 (by simp)) (by simp)
  | a :: l, [], _, _, h => absurd ((h a).1 (by simp)) (by simp)
  | a :: l, b :: m, hl, hm, h => by
    obtain ⟨ha, hl2⟩ := List.pairwise_cons.1 hl
    obtain ⟨hb, hm2⟩ := List.pairwise_cons.1 hm
    have e : a = b := by
      rcases List.mem_cons.1 ((h a).1 (by simp)) with e | e
      · exact e
      · rcases List.mem_cons.1 ((h b).2 (by simp)) with e2 | e2
        · exact e2.symm
        · exact absurd (ltW_trans (ha b e2) (hb a e)) (ltW_irrefl a)
    subst e
    refine congrArg (List.cons a) (strict_unique hl2 hm2 (fun x => ⟨fun hx => ?_, fun hx => ?_⟩))
    · rcases List.mem_cons.1 ((h x).1 (by simp [hx])) with e | e
      · subst e; exact absurd (ha x hx) (ltW_irrefl x)
      · exact e
    · rcases List.mem_cons.1 ((h x).2 (by simp [hx])) with e | e
      · subst e; exact absurd (hb x hx) (ltW_irrefl x)
      · exact e

end Go.Proofs.Ytgkbafkmbokkaaa
end

section
namespace Go.Proofs.Ytgkbafkmbokkaaa
open Go Go.AM
set_option maxRecDepth 100000
set_option linter.unusedSimpArgs false


end Go.Proofs.Ytgkbafkmbokkaaa
end

section
namespace Go.Proofs.Ytgkbafkmbokkaaa
open Go Go.AM
set_option maxRecDepth 100000
set_option linter.unusedSimpArgs false

theorem size_str (l : List (List UInt8)) : sizeOK (l.map .str) 1 := fun x hx => by
  obtain ⟨b, _, rfl⟩ := List.mem_map.1 hx
  rfl
theorem one_str (l : List (List UInt8)) : oneOK (l.map .str) := fun x hx c hc => by
  obtain ⟨b, _, rfl⟩ := List.mem_map.1 hx
  have : c = .str b := by simpa [PV.cells] using hc
  subst this; rfl

theorem c22 {h : List AObj} (ws : List (List UInt8)) (hl : ws.length ≤ 1000000) :
    AC Try.prog 81 [.p (.sl (ws.map .str))] h [] (fun v h' => (ws = [] ∧ v = .full [] ∧ h' = h) ∨ (∃ rk, rk ≠ .raw ∧ (ws ≠ [] → rk = .own) ∧ v = .own h.length ws.length ∧ h' = h ++ [.row 9 1 (ws.map .str) rk])) := by
  refine AC.of_bodyE hΓ Try.func81 (by kernel_rfl) rfl (AWp.mono (Q := fun e st => AM.Ends e ∧ ((ws = [] ∧ st.tmps.getD 2 .junk = .full [] ∧ st.h = h) ∨ (∃ rk, rk ≠ .raw ∧ (ws ≠ [] → rk = .own) ∧ st.tmps.getD 2 .junk = .own h.length ws.length ∧ st.h = h ++ [.row 9 1 (ws.map .str) rk]))) ?_ ?_)
  rotate_left
  · rintro e ⟨tm, h'⟩ ⟨he, ⟨hw, h1, h2⟩ | ⟨rk, hr, hr2, h1, h2⟩⟩
    · simp only at h1 h2
      subst h2
      refine ⟨he, _, Less.refl _, ?_⟩
      unfold DoneE
      simp +contextual -implicitDefEqProofs only [Try.results81, h1, go_sem]
      exact ⟨_, Nat.le_refl _, .inl rfl, .inl ⟨hw, List.take_length⟩⟩
    · simp only at h1 h2
      subst h2
      refine ⟨he, _, Less.refl _, ?_⟩
      unfold DoneE
      simp +contextual -implicitDefEqProofs only [Try.results81, h1, go_sem]
      exact ⟨h.length + 1, by omega, .inl (by simp), .inr ⟨rk, hr, hr2, List.take_of_length_le (by simp)⟩⟩
  refine AWp.of_awpD [] hΓ hmix (by kernel_rfl) ?_
  cases ws with
  | nil =>
    simp -implicitDefEqProofs only [Try.ntmps81, Nat.reduceAdd, Nat.reduceSub, go_sem]
    exact ⟨⟨by simp [sizeOK], by omega⟩, ⟨by simp [sizeOK], by simp [oneOK]⟩, ⟨by simp [sizeOK], by omega, by omega⟩, .inr ⟨.lax, by simp, rfl⟩⟩
  | cons x l =>
    simp -implicitDefEqProofs only [Try.ntmps81, Nat.reduceAdd, Nat.reduceSub, go_sem]
    have h1 := size_str (x :: l)
    have h2 := one_str (x :: l)
    simp only [List.map_cons] at h1 h2
    simp only [List.length_cons] at hl
    exact ⟨⟨by simp [sizeOK], by omega⟩, ⟨h1, h2⟩, ⟨by simp [sizeOK], by omega, by omega⟩, .inr ⟨.own, by simp, rfl, rfl⟩⟩
end Go.Proofs.Ytgkbafkmbokkaaa
end

section
namespace Go.Proofs.Ytgkbafkmbokkaaa
open Go Go.AM
set_option maxRecDepth 100000
set_option linter.unusedSimpArgs false

/-- The words of a code that is made. -/
def made (l : List (List UInt8)) : List (List UInt8) := Lib.compact (sortW l)
theorem made_le (l : List (List UInt8)) : (made l).length ≤ l.length := by
  have := compact_le (sortW l)
  rw [sortW_length] at this
  exact this

theorem compact_nil : Lib.compact ([] : List (List UInt8)) = [] := by
  have := compact_le []
  exact List.length_eq_zero_iff.1 (by simpa using this)
theorem made_nil : made [] = [] := by
  have := made_le []
  exact List.length_eq_zero_iff.1 (by simpa using this)

theorem c83f {g : FuncId} {h : List AObj} : AC Try.prog 82 [.full [], .fn g []] h [] (fun v h' => v = .tup [] ∧ h' = h) := by
  refine ⟨entersF_of Try.func82 (by kernel_rfl) rfl, fun X I μ ob w cargs R hlen hargs _ => ?_⟩
  obtain ⟨a0, f0, rfl⟩ : ∃ a f, cargs = [a, f] := by
    match cargs, hlen with
    | [a, f], _ => exact ⟨a, f, rfl⟩
  have g0 := hargs 0 (by simp)
  simp only [List.getD_cons_zero] at g0
  obtain ⟨a, rfl⟩ : ∃ a, a0 = .slice a 0 0 := by
    cases g0 with
    | full l a hp => exact ⟨a, rfl⟩
  have hc : Calls Try.prog 82 #[.slice a 0 0, f0] w fun e w' => e = .returned (.tuple #[]) ∧ w' = w := AnyF.slices_SortFunc_none (ρ := Try.sortS_ren) { Try.sortS with } a 0 f0 w
  refine Calls.mono (P := Try.prog) hc ?_
  rintro e w' ⟨rfl, rfl⟩
  exact ⟨_, .tup [], _, I, μ, ob, rfl, R, .tup [] [] rfl (by simp), fun _ h => h, fun _ _ _ => rfl, Nat.le_refl _, fun g hg => .inl hg, fun b g hb => .inl ⟨b, hb⟩, fun k hk hno => rfl, rfl, rfl⟩
theorem c107f {h : List AObj} : AC Try.prog 83 [.full []] h [] (fun v h' => v = .full [] ∧ h' = h) := by
  refine ⟨entersF_of Try.func83 (by kernel_rfl) rfl, fun X I μ ob w cargs R hlen hargs _ => ?_⟩
  obtain ⟨a0, rfl⟩ : ∃ a, cargs = [a] := by
    match cargs, hlen with
    | [a], _ => exact ⟨a, rfl⟩
  have g0 := hargs 0 (by simp)
  simp only [List.getD_cons_zero] at g0
  have g1 := g0
  obtain ⟨a, rfl⟩ : ∃ a, a0 = .slice a 0 0 := by
    cases g0 with
    | full l a hp => exact ⟨a, rfl⟩
  have hc : Calls Try.prog 83 #[.slice a 0 0] w fun e w' => e = .returned (.slice a 0 0) ∧ w' = w := AnyG.slices_Compact_string_empty (ρ := Try.compS_ren) Try.compS a 0 w
  refine Calls.mono (P := Try.prog) hc ?_
  rintro e w' ⟨rfl, rfl⟩
  exact ⟨_, .full [], _, I, μ, ob, rfl, R, g1, fun _ h => h, fun _ _ _ => rfl, Nat.le_refl _, fun g hg => .inl hg, fun b g hb => .inl ⟨b, hb⟩, fun k hk hno => rfl, rfl, rfl⟩

theorem c94 {h : List AObj} (hK : h.map (AObj.kill h.length) = h) (ws : List (List UInt8)) (hl : ws.length ≤ 1000000) :
    AC Try.prog 48 [.p (.sl (ws.map .str)), .fn 49 []] h [] (fun v h' => (ws = [] ∧ v = .full [] ∧ h' = h) ∨ (∃ rk, rk ≠ .raw ∧ v = .own h.length (made ws).length ∧ h' = h ++ [.row 9 1 ((made ws).map .str) rk])) := by
  refine AC.of_bodyE hΓ Try.func48 (by kernel_rfl) rfl (AWp.mono (Q := fun e st => AM.Ends e ∧ ((ws = [] ∧ st.tmps.getD 4 .junk = .full [] ∧ st.h = h) ∨ (∃ rk, rk ≠ .raw ∧ st.tmps.getD 4 .junk = .own h.length (made ws).length ∧ st.h = h ++ [.row 9 1 ((made ws).map .str) rk]))) ?_ ?_)
  rotate_left
  · rintro e ⟨tm, h'⟩ ⟨he, ⟨hw, h1, h2⟩ | ⟨rk, hr, h1, h2⟩⟩
    · simp only at h1 h2
      subst h2
      refine ⟨he, _, Less.refl _, ?_⟩
      unfold DoneE
      simp +contextual -implicitDefEqProofs only [Try.results48, h1, go_sem]
      exact ⟨_, Nat.le_refl _, .inl rfl, .inl ⟨hw, List.take_length⟩⟩
    · simp only at h1 h2
      subst h2
      refine ⟨he, _, Less.refl _, ?_⟩
      unfold DoneE
      simp +contextual -implicitDefEqProofs only [Try.results48, h1, go_sem]
      exact ⟨h.length + 1, by omega, .inl (by simp), .inr ⟨rk, hr, List.take_of_length_le (by simp)⟩⟩
  refine AWp.of_awpD [] hΓ hmix (by kernel_rfl) ?_
  simp -implicitDefEqProofs only [Try.ntmps48, Nat.reduceAdd, Nat.reduceSub, go_sem]
  refine callK_ac (c22 ws hl) (by simp) ?_
  have gL : ∀ o : AObj, (h ++ [o])[h.length]? = some o := fun o => by simp
  rintro v h' (⟨rfl, rfl, rfl⟩ | ⟨rk, hr, hr2, rfl, rfl⟩)
  · simp -implicitDefEqProofs only [killAll, List.foldl, go_sem]
    refine callK_ac c83f (by simp) ?_
    rintro v h' ⟨rfl, rfl⟩
    simp -implicitDefEqProofs only [killAll, List.foldl, go_sem]
    refine callK_ac c107f (by simp) ?_
    rintro v h' ⟨rfl, rfl⟩
    simp -implicitDefEqProofs only [killAll, List.foldl, go_sem]
  · simp -implicitDefEqProofs only [killAll, List.foldl, go_sem]
    by_cases h0 : ws = []
    · subst h0
      refine callK_ac (c83n (b := h.length)) (by simp) ?_
      rintro v h' ⟨rfl, rfl⟩
      simp -implicitDefEqProofs only [killAll, List.foldl, go_sem]
      refine callK_ac (c107n (b := h.length)) (by simp) ?_
      rintro v h' ⟨rfl, rfl⟩
      simp -implicitDefEqProofs only [killAll, List.foldl, go_sem]
      exact .inr ⟨rk, hr, by rw [made_nil]; rfl, by rw [made_nil]; rfl⟩
    · have hrk := hr2 h0
      subst hrk
      have sL : ∀ o o' : AObj, (h ++ [o]).set h.length o' = h ++ [o'] := fun o o' => by simp
      refine callK_ac (c83b ws (gL _) hl) (by simp) ?_
      rintro v h' ⟨rfl, rfl⟩
      simp -implicitDefEqProofs only [killAll, List.foldl, sL, go_sem]
      have hsl := sortW_length ws
      rw [← hsl]
      refine callK_ac (c107 (sortW ws) (gL _) (by omega)) (by simp) ?_
      rintro v h' ⟨rfl, rfl⟩
      simp -implicitDefEqProofs only [killAll, List.foldl, sL, go_sem]
      exact .inr ⟨.own, by simp, rfl, by rw [List.map_append, hK]; simp [AObj.kill, made]⟩

theorem t71 (q : Int) (ws : List (List UInt8)) (hl : ws.length ≤ 1000000) : PFn Try.prog 13 [.int .i64 q, .sl (ws.map .str)] [if codeCheck q (made ws) = 0 then codeV q (made ws) else codeV 0 [], .int .i64 (codeCheck q (made ws))] := by
  refine PFn.of_body hΓ Try.func13 (by kernel_rfl) rfl (AWp.of_awpD [] hΓ hmix (by kernel_rfl) ?_)
  simp +contextual -implicitDefEqProofs only [codeV, Try.ntmps13, Try.results13, Nat.reduceAdd, Nat.reduceSub, go_sem]
  refine callK_ac (c94 rfl ws hl) (by simp) ?_
  rintro v h' (⟨rfl, rfl, rfl⟩ | ⟨rk, hr, rfl, rfl⟩)
  · rw [made_nil]
    simp -implicitDefEqProofs only [killAll, List.foldl, go_sem]
    refine ⟨by omega, ?_⟩
    refine callK_fn (t45 q []) (.still rfl) ?_
    by_cases hc : codeCheck q [] = 0
    · rw [hc]
      simp -implicitDefEqProofs only [go_sem]
    · simp -implicitDefEqProofs only [hc, go_sem]
  · simp -implicitDefEqProofs only [killAll, List.foldl, go_sem]
    refine ⟨by omega, ?_⟩
    refine callK_fn (t45 q (made ws)) (.owned rfl rfl) ?_
    by_cases hc : codeCheck q (made ws) = 0
    · rw [hc]
      simp -implicitDefEqProofs only [go_sem]
    · simp -implicitDefEqProofs only [hc, go_sem]
end Go.Proofs.Ytgkbafkmbokkaaa
end

section
namespace Go.Proofs.Ytgkbafkmbokkaaa
open Go Go.AM
set_option maxRecDepth 100000
set_option linter.unusedSimpArgs false

/-- A word of which i letters at each end have changed places. -/
def rv (l : List UInt8) (i : Nat) : List UInt8 := (List.range l.length).map fun k => if k < i ∨ l.length - i ≤ k then l.getD (l.length - 1 - k) 0 else l.getD k 0
theorem rv_len (l : List UInt8) (i : Nat) : (rv l i).length = l.length := by simp [rv]
theorem rv_get {l : List UInt8} {i k : Nat} (hk : k < l.length) : (rv l i)[k]? = some (if k < i ∨ l.length - i ≤ k then l.getD (l.length - 1 - k) 0 else l.getD k 0) := by
  simp [rv, List.getElem?_map, List.getElem?_range hk]
theorem rv_zero (l : List UInt8) : rv l 0 = l := by
  apply List.ext_getElem?
  intro k
  by_cases hk : k < l.length
  · rw [rv_get hk, if_neg (by omega), List.getD_eq_getElem?_getD, List.getElem?_eq_getElem hk]; rfl
  · rw [List.getElem?_eq_none (by rw [rv_len]; omega), List.getElem?_eq_none (by omega)]
theorem rv_end {l : List UInt8} {i : Nat} (h1 : 2 * i ≤ l.length) (h2 : l.length ≤ 2 * i + 1) : rv l i = l.reverse := by
  apply List.ext_getElem?
  intro k
  by_cases hk : k < l.length
  · rw [rv_get hk, List.getElem?_reverse hk]
    have e : l.getD (l.length - 1 - k) 0 = l[l.length - 1 - k]'(by omega) := by rw [List.getD_eq_getElem?_getD, List.getElem?_eq_getElem (by omega)]; rfl
    by_cases hc : k < i ∨ l.length - i ≤ k
    · rw [if_pos hc, e, List.getElem?_eq_getElem (by omega)]
    · rw [if_neg hc]
      have : k = l.length - 1 - k := by omega
      rw [← this, List.getD_eq_getElem?_getD, List.getElem?_eq_getElem hk]; rfl
  · rw [List.getElem?_eq_none (by rw [rv_len]; omega), List.getElem?_eq_none (by simp; omega)]
theorem rv_step {l : List UInt8} {i j : Nat} (hj : i + j + 1 = l.length) (hlt : i < j) : ((rv l i).set i (l.getD j 0)).set j (l.getD i 0) = rv l (i + 1) := by
  apply List.ext_getElem?
  intro k
  by_cases hk : k < l.length
  · rw [List.getElem?_set, List.getElem?_set, rv_get hk, rv_get hk]
    simp only [List.length_set, rv_len]
    by_cases e1 : j = k
    · subst e1
      rw [if_pos rfl, if_pos hk, if_pos (by omega), show l.length - 1 - j = i by omega]
    · rw [if_neg e1]
      by_cases e2 : i = k
      · subst e2
        rw [if_pos rfl, if_pos hk, if_pos (by omega), show l.length - 1 - i = j by omega]
      · rw [if_neg e2]
        by_cases hc : k < i ∨ l.length - i ≤ k
        · rw [if_pos hc, if_pos (by omega)]
        · rw [if_neg hc, if_neg (by omega)]
  · rw [List.getElem?_eq_none (by simp [rv_len]; omega), List.getElem?_eq_none (by rw [rv_len]; omega)]

theorem c93 {h : List AObj} {b : Nat} (l : List UInt8) (hb : h[b]? = some (.row 5 1 (l.map u8V) .raw)) (hl : l.length ≤ 1000000) :
    AC Try.prog 67 [.own b l.length] h [] (fun v h' => v = .tup [] ∧ h' = h.set b (.row 5 1 (l.reverse.map u8V) .raw)) := by
  have hbl : b < h.length := (List.getElem?_eq_some_iff.1 hb).1
  refine AC.of_bodyE hΓ Try.func67 (by kernel_rfl) rfl (AWp.mono (Q := fun e st => AM.Ends e ∧ st.h = h.set b (.row 5 1 (l.reverse.map u8V) .raw)) ?_ ?_)
  rotate_left
  · rintro e ⟨tm, h'⟩ ⟨he, h2⟩
    simp only at h2
    subst h2
    refine ⟨he, _, Less.refl _, ?_⟩
    unfold DoneE
    simp +contextual -implicitDefEqProofs only [Try.results67, go_sem]
    exact ⟨h.length, Nat.le_refl _, .inl (by simp), List.take_of_length_le (by simp)⟩
  have gB : ∀ o : AObj, (h.set b o)[b]? = some o := fun o => by simp [hbl]
  have sB : ∀ o o' : AObj, (h.set b o).set b o' = h.set b o' := fun o o' => by simp
  refine AWp.of_awpD [] hΓ hmix (by kernel_rfl) ?_
  simp -implicitDefEqProofs only [Try.ntmps67, Nat.reduceAdd, Nat.reduceSub, go_sem]
  refine ⟨by simp only [InR]; omega, ?_⟩
  refine AWp.loopI (fun i : Nat => ⟨mkF 28 [(0, .own b l.length), (2, .p (.int .i64 i)), (3, .p (.int .i64 ((l.length : Int) - 1 - i)))], h.set b (.row 5 1 ((rv l i).map u8V) .raw)⟩)
    (fun i => 2 * i ≤ l.length) (fun i => l.length - i) 0 (by
      rw [rv_zero, show h.set b (.row 5 1 (l.map u8V) .raw) = h from by
        apply List.ext_getElem?
        intro k
        rw [List.getElem?_set]
        split
        · rename_i e; subst e
          first
            | exact hb.symm
            | (rw [if_pos hbl]; exact hb.symm)
        · rfl]
      simp [go_sem, weakH_self]) (by omega) ?_
  intro i hi
  refine AWp.of_awpD [(3, 13)] hΓ hmix (by kernel_rfl) ?_
  by_cases hlt : (i : Int) < (l.length : Int) - 1 - i
  · obtain ⟨j, hj⟩ : ∃ j : Nat, (l.length : Int) - 1 - i = j := ⟨(((l.length : Int) - 1 - i)).toNat, by omega⟩
    rw [hj] at hlt ⊢
    have hjl : j < l.length := by omega
    have hil : i < l.length := by omega
    have e1 : ((rv l i).map u8V).getD i default = .int .u8 (l.getD i 0).toNat := by
      rw [List.getD_eq_getElem?_getD, List.getElem?_map, rv_get hil, if_neg (by omega)]; rfl
    have e2 : ((rv l i).map u8V).getD j default = .int .u8 (l.getD j 0).toNat := by
      rw [List.getD_eq_getElem?_getD, List.getElem?_map, rv_get hjl, if_neg (by omega)]; rfl
    have e3 : (((rv l i).map u8V).set i (.int .u8 (l.getD j 0).toNat)).set j (.int .u8 (l.getD i 0).toNat) = (rv l (i + 1)).map u8V := by
      rw [← rv_step (j := j) (by omega) (by omega), List.map_set, List.map_set]; rfl
    simp -implicitDefEqProofs only [hlt, gB, sB, e1, e2, e3, Int.toNat_natCast, go_sem]
    have hr := rv_len l i
    refine ⟨hjl, by omega, hil, by omega, hil, ⟨by omega, rfl⟩, hjl, ⟨by simp; omega, rfl⟩, by simp only [InR]; omega, by simp only [InR]; omega, i + 1, ⟨⟨by omega, by omega⟩, weakH_self _⟩, by omega, by omega⟩
  · simp -implicitDefEqProofs only [hlt, go_sem]
    rw [rv_end hi (by omega)]

theorem t70 (w : List UInt8) (hw : w.length ≤ 1000000) : PFn Try.prog 58 [.str w] [.str w.reverse] := by
  refine PFn.of_body hΓ Try.func58 (by kernel_rfl) rfl (AWp.of_awpD [] hΓ hmix (by kernel_rfl) ?_)
  simp +contextual -implicitDefEqProofs only [Try.ntmps58, Try.results58, Nat.reduceAdd, Nat.reduceSub, go_sem]
  refine ⟨by omega, ?_⟩
  refine callK_ac (c93 w rfl hw) (by simp) ?_
  rintro v h' ⟨rfl, rfl⟩
  simp -implicitDefEqProofs only [killAll, List.foldl, go_sem]
  exact ⟨⟨_, rfl, rfl⟩, w.reverse, rfl, rfl⟩
end Go.Proofs.Ytgkbafkmbokkaaa
end

section
namespace Go.Proofs.Ytgkbafkmbokkaaa
open Go Go.AM
set_option maxRecDepth 100000
set_option linter.unusedSimpArgs false

def revs (ws : List (List UInt8)) : List (List UInt8) := ws.map List.reverse

theorem t39 (q : Int) (ws : List (List UInt8)) : PFn Try.prog 24 [codeV q ws] [if codeCheck q ws = 0 then (if codeCheck q (made (revs ws)) = 0 then codeV q (made (revs ws)) else codeV 0 []) else codeV 0 [], .int .i64 (if codeCheck q ws = 0 then codeCheck q (made (revs ws)) else 1)] := by
  refine PFn.of_body hΓ Try.func24 (by kernel_rfl) rfl (AWp.of_awpD [] hΓ hmix (by kernel_rfl) ?_)
  simp +contextual -implicitDefEqProofs only [codeV, Try.ntmps24, Try.results24, Nat.reduceAdd, Nat.reduceSub, go_sem]
  refine callK_fn (t45 q ws) (.still rfl) ?_
  by_cases h : codeCheck q ws = 0
  · have hv := valid_of h
    have hws := hv.len
    have hsh : ∀ i (hi : i < ws.length), ws[i].length ≤ 32 := fun i hi => by
      have := hv.short i hi
      rwa [List.getD_eq_getElem?_getD, List.getElem?_eq_getElem hi, Option.getD_some] at this
    rw [h]
    simp -implicitDefEqProofs only [go_sem]
    refine AWp.adopt (l := []) 4 9 1 (by rfl) (by simp) ?_
    simp -implicitDefEqProofs only [go_sem]
    refine AWp.loopI (fun k : Nat => ⟨mkF 30 [(1, .ptr 0 0), (2, .ptr 1 0), (3, .p (.int .i64 0)), (4, .own 2 k), (12, .p (.sl (ws.map .str))), (13, .p (.int .i64 ws.length)), (14, .p (.int .i64 k))], [codeB q ws, .box [.p (.int .i64 0), .full []], .row 9 1 ((revs (ws.take k)).map .str) .lax]⟩)
      (fun k => k ≤ ws.length) (fun k => ws.length - k) 0 (by simp [go_sem, codeB, revs]) (by simp) ?_
    intro k hk
    by_cases hlt : k < ws.length
    · refine AWp.of_awpD [] hΓ hmix (by kernel_rfl) ?_
      simp -implicitDefEqProofs only [hlt, getD_map_lt, ↓reduceIte, codeB, go_sem]
      refine callK_fn (t70 ws[k] (by have := hsh k hlt; omega)) (.pures rfl) ?_
      simp -implicitDefEqProofs only [go_sem]
      have hs : revs (ws.take (k + 1)) = revs (ws.take k) ++ [ws[k].reverse] := by
        unfold revs; rw [List.take_succ_eq_append_getElem hlt, List.map_append]; rfl
      exact ⟨⟨size_str [_], by omega⟩, ⟨size_str [_], one_str [_]⟩, ⟨.inl (by omega), by omega, by omega⟩, by simp only [InR]; omega, k + 1, by rw [hs]; simp, hlt, by omega⟩
    · refine AWp.freeze 2 rfl ?_
      rw [List.take_of_length_le (by omega)]
      refine AWp.of_awpD [] hΓ hmix (by kernel_rfl) ?_
      simp -implicitDefEqProofs only [hlt, codeB, Frozen, go_sem]
      have e71 := t71 q (revs ws) (by simp [revs]; omega)
      by_cases hc : codeCheck q (made (revs ws)) = 0
      · rw [if_pos hc, hc] at e71
        refine callK_fn e71 (.pures rfl) ?_
        simp -implicitDefEqProofs only [codeV, hc, go_sem]
      · rw [if_neg hc] at e71
        refine callK_fn e71 (.pures rfl) ?_
        simp -implicitDefEqProofs only [codeV, hc, go_sem]
  · simp -implicitDefEqProofs only [h, go_sem]
end Go.Proofs.Ytgkbafkmbokkaaa
end

section
namespace Go.Proofs.Ytgkbafkmbokkaaa
open Go Go.AM
set_option maxRecDepth 100000
set_option linter.unusedSimpArgs false

/-- No word has another one as a part. -/
def aloneTo (pr : List UInt8 → List UInt8 → Bool) (ws : List (List UInt8)) (i n : Nat) : Bool := (List.range n).all fun k => decide (i = k) || !pr (ws.getD i []) (ws.getD k [])
def aloneN (pr : List UInt8 → List UInt8 → Bool) (ws : List (List UInt8)) (n : Nat) : Bool := (List.range n).all fun i => aloneTo pr ws i ws.length
def aloneB (pr : List UInt8 → List UInt8 → Bool) (ws : List (List UInt8)) : Bool := aloneN pr ws ws.length

theorem aloneTo_succ (pr : List UInt8 → List UInt8 → Bool) (ws : List (List UInt8)) (i n : Nat) : aloneTo pr ws i (n + 1) = (aloneTo pr ws i n && (decide (i = n) || !pr (ws.getD i []) (ws.getD n []))) := by
  unfold aloneTo; rw [List.range_succ, List.all_append]; simp
theorem aloneN_succ (pr : List UInt8 → List UInt8 → Bool) (ws : List (List UInt8)) (n : Nat) : aloneN pr ws (n + 1) = (aloneN pr ws n && aloneTo pr ws n ws.length) := by
  unfold aloneN; rw [List.range_succ, List.all_append]; simp
theorem alone_bad {pr : List UInt8 → List UInt8 → Bool} {ws : List (List UInt8)} {i k : Nat} (hi : i < ws.length) (hk : k < ws.length) (hne : i ≠ k) (hp : pr (ws.getD i []) (ws.getD k []) = true) : aloneB pr ws = false := by
  unfold aloneB aloneN aloneTo
  rw [Bool.eq_false_iff]
  intro h
  have h1 := List.all_eq_true.1 h i (List.mem_range.2 hi)
  have h2 := List.all_eq_true.1 h1 k (List.mem_range.2 hk)
  rw [hp] at h2
  simp [hne] at h2

theorem c68 {g : FuncId} {pr : List UInt8 → List UInt8 → Bool} (q : Int) (ws : List (List UInt8)) (hg : ∀ x y : List UInt8, x.length ≤ 9223372036854775807 → PFn Try.prog g [.str x, .str y] [.bool (pr x y)]) :
    AC Try.prog 51 [.agg [.p (.int .i64 q), .p (.sl (ws.map .str))], .fn g []] [codeB q ws] [] (fun v h' => v = .tup [.p (.bool (if codeCheck q ws = 0 then aloneB pr ws else false)), .p (.int .i64 (if codeCheck q ws = 0 then 0 else 1))] ∧ h' = [codeB q ws]) := by
  refine AC.of_bodyE hΓ Try.func51 (by kernel_rfl) rfl (AWp.mono (Q := fun e st => AM.Ends e ∧ st.tmps.getD 4 .junk = .p (.bool (if codeCheck q ws = 0 then aloneB pr ws else false)) ∧ st.tmps.getD 5 .junk = .p (.int .i64 (if codeCheck q ws = 0 then 0 else 1)) ∧ st.h = [codeB q ws, codeB q ws]) ?_ ?_)
  rotate_left
  · rintro e ⟨tm, h'⟩ ⟨he, h1, h2, h3⟩
    simp only at h1 h2 h3
    subst h3
    refine ⟨he, _, Less.refl _, ?_⟩
    unfold DoneE
    simp +contextual -implicitDefEqProofs only [Try.results51, h1, h2, go_sem]
    exact ⟨1, by omega, .inr ⟨rfl, rfl, by simp⟩, rfl⟩
  refine AWp.of_awpD [] hΓ hmix (by kernel_rfl) ?_
  simp -implicitDefEqProofs only [Try.ntmps51, Nat.reduceAdd, Nat.reduceSub, codeB, go_sem]
  refine callK_fn (t45 q ws) (.still rfl) ?_
  by_cases h : codeCheck q ws = 0
  · have hv := valid_of h
    have hws := hv.len
    rw [h]
    simp -implicitDefEqProofs only [go_sem]
    refine AWp.loopI (fun i : Nat => ⟨mkF 40 [(1, .fn g []), (2, .ptr 1 0), (14, .p (.sl (ws.map .str))), (15, .p (.int .i64 ws.length)), (16, .p (.int .i64 i))], [codeB q ws, codeB q ws]⟩)
      (fun i => i ≤ ws.length ∧ aloneN pr ws i = true) (fun i => ws.length - i) 0 (by simp [go_sem, codeB]) ⟨by omega, rfl⟩ ?_
    rintro i ⟨hi, hal⟩
    refine AWp.of_awpD [] hΓ hmix (by kernel_rfl) ?_
    by_cases hlt : i < ws.length
    · simp -implicitDefEqProofs only [hlt, getD_map_lt, ↓reduceIte, codeB, go_sem]
      refine AWp.loopI (fun k : Nat => ⟨mkF 40 [(1, .fn g []), (2, .ptr 1 0), (6, .p (.int .i64 i)), (7, .p (.str ws[i])), (14, .p (.sl (ws.map .str))), (15, .p (.int .i64 ws.length)), (16, .p (.int .i64 i)), (22, .p (.sl (ws.map .str))), (23, .p (.int .i64 ws.length)), (24, .p (.int .i64 k))], [codeB q ws, codeB q ws]⟩)
        (fun k => k ≤ ws.length ∧ aloneTo pr ws i k = true) (fun k => ws.length - k) 0 (by simp [go_sem, codeB]) ⟨by omega, rfl⟩ ?_
      rintro k ⟨hk, hal2⟩
      refine AWp.of_awpD [] hΓ hmix (by kernel_rfl) ?_
      have hwi : ws.getD i [] = ws[i] := by rw [List.getD_eq_getElem?_getD, List.getElem?_eq_getElem hlt, Option.getD_some]
      by_cases hlt2 : k < ws.length
      · have hwk : ws.getD k [] = ws[k] := by rw [List.getD_eq_getElem?_getD, List.getElem?_eq_getElem hlt2, Option.getD_some]
        by_cases he : (i : Int) = k
        · simp -implicitDefEqProofs only [hlt2, he, getD_map_lt, ↓reduceIte, codeB, go_sem]
          refine ⟨by simp only [InR]; omega, k + 1, by omega, ⟨hlt2, ?_⟩, by omega⟩
          rw [aloneTo_succ, hal2, decide_eq_true (by omega)]; rfl
        · simp -implicitDefEqProofs only [hlt2, he, getD_map_lt, ↓reduceIte, codeB, go_sem]
          refine callK_fn (hg ws[i] ws[k] (by have := hv.short i hlt; rw [hwi] at this; omega)) (.pures rfl) ?_
          cases hp : pr ws[i] ws[k]
          · simp -implicitDefEqProofs only [go_sem]
            refine ⟨by simp only [InR]; omega, k + 1, by omega, ⟨hlt2, ?_⟩, by omega⟩
            rw [aloneTo_succ, hal2, hwi, hwk, hp]; simp
          · simp -implicitDefEqProofs only [go_sem]
            rw [alone_bad hlt hlt2 (by omega) (by rw [hwi, hwk]; exact hp)]
      · simp -implicitDefEqProofs only [hlt2, codeB, go_sem]
        refine ⟨by simp only [InR]; omega, i + 1, by omega, ⟨hlt, ?_⟩, by omega⟩
        rw [aloneN_succ, hal, show ws.length = k by omega, hal2]; rfl
    · simp -implicitDefEqProofs only [hlt, codeB, go_sem]
      rw [show i = ws.length by omega] at hal; exact hal.symm
  · simp -implicitDefEqProofs only [h, go_sem]

theorem t38 (q : Int) (ws : List (List UInt8)) : PFn Try.prog 15 [codeV q ws] [.bool (if codeCheck q ws = 0 then aloneB (fun w x => x.isPrefixOf w) ws else false), .int .i64 (if codeCheck q ws = 0 then 0 else 1)] := by
  refine PFn.of_body hΓ Try.func15 (by kernel_rfl) rfl (AWp.of_awpD [] hΓ hmix (by kernel_rfl) ?_)
  simp +contextual -implicitDefEqProofs only [codeV, Try.ntmps15, Try.results15, Nat.reduceAdd, Nat.reduceSub, go_sem]
  refine callK_ac (c68 q ws fun x y _ => t69 x y) (by simp) ?_
  rintro v h' ⟨rfl, rfl⟩
  simp -implicitDefEqProofs only [killAll, List.foldl, codeB, go_sem]
end Go.Proofs.Ytgkbafkmbokkaaa
end

section
namespace Go.Proofs.Ytgkbafkmbokkaaa
open Go Go.AM
set_option maxRecDepth 100000
set_option linter.unusedSimpArgs false

theorem compactTo_strict {d : List (List UInt8)} (hs : d.Pairwise fun a b => ¬ ltW b a) : ∀ m, m ≤ d.length →
    (Lib.compactUpTo d.toArray m).Pairwise ltW ∧ (∀ x, x ∈ Lib.compactUpTo d.toArray m ↔ x ∈ d.take m)
  | 0, _ => by simp [Lib.compactUpTo]
  | m + 1, hm => by
    obtain ⟨h1, h2⟩ := compactTo_strict hs m (by omega)
    have hml : m < d.length := hm
    have get : ∀ j (h : j < d.length), d.toArray[j]! = d[j] := fun j h => by rw [getElem!_pos d.toArray j (by simpa using h)]; simp
    have hle : ∀ i j (hi : i < d.length) (hj : j < d.length), i ≤ j → ¬ ltW d[j] d[i] := fun i j hi hj hij => by
      by_cases e : i = j
      · subst e; exact ltW_irrefl _
      · exact List.pairwise_iff_getElem.1 hs i j hi hj (by omega)
    rw [Lib.compactUpTo_succ, List.take_succ_eq_append_getElem hml, get m hml]
    by_cases hk : Lib.keeps d.toArray m = true
    · rw [if_pos hk]
      refine ⟨List.pairwise_append.2 ⟨h1, by simp, fun x hx y hy => ?_⟩, fun x => ?_⟩
      · rw [List.mem_singleton] at hy; subst hy
        obtain ⟨j, hj, rfl⟩ := List.mem_take_iff_getElem.1 ((h2 x).1 hx)
        have hjm : j < m := by omega
        apply Classical.byContradiction
        intro hno
        have e : d[j] = d[m] := ltW_total hno (hle j m (by omega) hml (by omega))
        have e2 : d[m - 1] = d[m] := ltW_total (by rw [← e]; exact hle j (m - 1) (by omega) (by omega) (by omega)) (hle (m - 1) m (by omega) hml (by omega))
        have := Lib.keeps_neg (d := d.toArray) (m := m) (by omega) (by rw [get m hml, get (m - 1) (by omega), e2])
        rw [this] at hk; cases hk
      · simp only [List.mem_append, h2 x]
    · rw [if_neg hk, List.append_nil]
      refine ⟨h1, fun x => ?_⟩
      simp only [List.mem_append, h2 x, List.mem_singleton]
      refine ⟨.inl, fun h => h.elim id fun e => ?_⟩
      subst e
      have hm0 : 0 < m := by
        rcases Nat.eq_zero_or_pos m with h | h
        · subst h; exact absurd (Lib.keeps_lt_one _ 0 (by omega)) hk
        · exact h
      have e : d[m] = d[m - 1] := by
        apply Classical.byContradiction
        intro hne
        exact hk (Lib.keeps_pos (by rw [get m hml, get (m - 1) (by omega)]; exact hne))
      rw [e]
      exact List.mem_take_iff_getElem.2 ⟨m - 1, by omega, rfl⟩

theorem made_strict (l : List (List UInt8)) : (made l).Pairwise ltW := by
  have := (compactTo_strict (sortW_sorted l) (sortW l).length (Nat.le_refl _)).1
  exact this
theorem mem_made {l : List (List UInt8)} {x : List UInt8} : x ∈ made l ↔ x ∈ l := by
  have := (compactTo_strict (sortW_sorted l) (sortW l).length (Nat.le_refl _)).2 x
  rw [List.take_length, mem_sortW] at this
  exact this
theorem made_of {l m : List (List UInt8)} (hm : m.Pairwise ltW) (h : ∀ x, x ∈ l ↔ x ∈ m) : made l = m := strict_unique (made_strict l) hm fun x => mem_made.trans (h x)

theorem check_of {q : Int} {vs : List (List UInt8)} (h2 : 2 ≤ q) (h16 : q ≤ 16) (hne : vs ≠ []) (hlen : vs.length ≤ 64) (hw : ∀ x ∈ vs, x ≠ [] ∧ x.length ≤ 32 ∧ wordCheck q x = 0) (hs : vs.Pairwise ltW) : codeCheck q vs = 0 := by
  refine codeCheck_0 (by omega) (fun h => hne (List.length_eq_zero_iff.1 h)) (by omega) fun j hj => ?_
  obtain ⟨h3, h4, h5⟩ := hw _ (getD_in hj)
  unfold wordErr
  simp only
  rw [if_neg h3, if_neg (by omega), if_neg (by simpa using h5), if_neg]
  rintro ⟨hj0, hc⟩
  have h6 : ltW (vs.getD (j - 1) []) (vs.getD j []) := by
    have := List.pairwise_iff_getElem.1 hs (j - 1) j (by omega) hj (by omega)
    rwa [List.getD_eq_getElem?_getD, List.getElem?_eq_getElem (by omega), Option.getD_some, List.getD_eq_getElem?_getD, List.getElem?_eq_getElem hj, Option.getD_some]
  have := (ltW_iff _ _).2 h6
  omega

theorem Valid.words {q : Int} {ws : List (List UInt8)} (hv : Valid q ws) : ∀ x ∈ ws, x ≠ [] ∧ x.length ≤ 32 ∧ wordCheck q x = 0 := fun x hx => by
  obtain ⟨j, hj, rfl⟩ := List.getElem_of_mem hx
  have h1 := hv.ne j hj
  have h2 := hv.short j hj
  have h3 := hv.word j hj
  rw [List.getD_eq_getElem?_getD, List.getElem?_eq_getElem hj, Option.getD_some] at h1 h2 h3
  exact ⟨h1, h2, h3⟩

theorem word_rev {q : Int} {w : List UInt8} : wordCheck q w.reverse = wordCheck q w := by
  unfold wordCheck okW
  rw [List.length_reverse, List.all_reverse]

theorem rev_valid {q : Int} {ws : List (List UInt8)} (hv : Valid q ws) : codeCheck q (made (revs ws)) = 0 := by
  have hl := made_le (revs ws)
  have hrl : (revs ws).length = ws.length := by simp [revs]
  have hlen := hv.len
  refine check_of hv.q2 hv.q16 (fun e => ?_) (by omega) (fun x hx => ?_) (made_strict _)
  · have hp := hv.pos
    have : ws[0].reverse ∈ made (revs ws) := mem_made.2 (List.mem_map.2 ⟨_, List.getElem_mem hp, rfl⟩)
    rw [e] at this; cases this
  · obtain ⟨w, hw, rfl⟩ := List.mem_map.1 (mem_made.1 hx)
    obtain ⟨h1, h2, h3⟩ := hv.words w hw
    exact ⟨by simpa using h1, by simpa using h2, by rw [word_rev]; exact h3⟩

end Go.Proofs.Ytgkbafkmbokkaaa
end

section
namespace Go.Proofs.Ytgkbafkmbokkaaa
open Go Go.AM
set_option maxRecDepth 100000
set_option linter.unusedSimpArgs false

/-- Sorted's memory: held is the list so far, or nobody's. -/
def stH (m : Nat) (o : Bool) (l : List (List UInt8)) : List AObj := List.replicate m .dead ++ [if o then .row 9 1 (l.map .str) .lax else .dead]
def stV (m : Nat) (o : Bool) (l : List (List UInt8)) : AV := if o then .own m l.length else .p (.sl (l.map .str))

theorem weakH_snoc {a b : AObj} (h : b = .dead ∨ b = a ∨ laxer a b) : ∀ H : List AObj, weakH (H ++ [a]) (H ++ [b])
  | [] => ⟨h, trivial⟩
  | _ :: H => ⟨.inr (.inl rfl), weakH_snoc h H⟩

/-- A word put in where it belongs. -/
def putAt (l : List (List UInt8)) (k : Nat) (w : List UInt8) : List (List UInt8) := l.take k ++ [w] ++ l.drop k
theorem putAt_strict {l : List (List UInt8)} {k : Nat} {w : List UInt8} (hp : l.Pairwise ltW) (hk : k ≤ l.length) (hlow : ∀ j, j < k → cmpW (l.getD j []) w < 0) (hup : k < l.length → ltW w (l.getD k [])) : (putAt l k w).Pairwise ltW := by
  have h1 := List.pairwise_iff_getElem.1 hp
  unfold putAt
  rw [List.append_assoc, List.pairwise_append]
  refine ⟨hp.sublist (List.take_sublist k l), ?_, fun x hx y hy => ?_⟩
  · rw [List.singleton_append, List.pairwise_cons]
    refine ⟨fun y hy => ?_, hp.sublist (List.drop_sublist k l)⟩
    obtain ⟨j, hj, rfl⟩ := List.getElem_of_mem hy
    rw [List.getElem_drop]
    rw [List.length_drop] at hj
    have h2 := hup (by omega)
    rw [List.getD_eq_getElem?_getD, List.getElem?_eq_getElem (by omega), Option.getD_some] at h2
    by_cases e : j = 0
    · subst e; exact h2
    · exact ltW_trans h2 (h1 k (k + j) (by omega) (by omega) (by omega))
  · obtain ⟨j, hj, rfl⟩ := List.mem_take_iff_getElem.1 hx
    have hjk : j < k := by omega
    have hjl : j < l.length := by omega
    have h3 := hlow j hjk
    rw [List.getD_eq_getElem?_getD, List.getElem?_eq_getElem hjl, Option.getD_some] at h3
    rcases List.mem_cons.1 (by simpa using hy) with rfl | hy
    · exact (ltW_iff _ _).1 h3
    · obtain ⟨q, hq, rfl⟩ := List.getElem_of_mem hy
      rw [List.getElem_drop]
      rw [List.length_drop] at hq
      exact h1 j (k + q) hjl (by omega) (by omega)
theorem mem_putAt {l : List (List UInt8)} {k : Nat} {w x : List UInt8} : x ∈ putAt l k w ↔ x ∈ l ∨ x = w := by
  unfold putAt
  conv => rhs; rw [← List.take_append_drop k l]
  simp only [List.mem_append, List.mem_singleton]
  constructor
  · rintro ((h | h) | h)
    · exact .inl (.inl h)
    · exact .inr h
    · exact .inl (.inr h)
  · rintro ((h | h) | h)
    · exact .inl (.inl h)
    · exact .inr h
    · exact .inl (.inr h)
theorem putAt_len {l : List (List UInt8)} {k : Nat} {w : List UInt8} (hk : k ≤ l.length) : (putAt l k w).length = l.length + 1 := by
  unfold putAt; simp; omega

theorem stH_false (m : Nat) (l : List (List UInt8)) : stH m false l = List.replicate (m + 1) .dead := by simp [stH, List.replicate_succ']

theorem u50 (ws : List (List UInt8)) (hl : ws.length ≤ 1000000) : PFn Try.prog 50 [.sl (ws.map .str)] [.sl ((made ws).map .str)] := by
  refine PFn.of_body hΓ Try.func50 (by kernel_rfl) rfl (AWp.of_awpD [] hΓ hmix (by kernel_rfl) ?_)
  simp -implicitDefEqProofs only [Try.ntmps50, Try.results50, Nat.reduceAdd, Nat.reduceSub, go_sem]
  refine AWp.adopt (l := []) 3 9 1 (by rfl) (by simp) ?_
  simp -implicitDefEqProofs only [go_sem]
  refine AWp.loopI (fun x : Nat × List (List UInt8) × Nat × Bool => ⟨mkF 60 [(0, .p (.sl (ws.map .str))), (3, stV x.2.2.1 x.2.2.2 x.2.1), (4, .p (.int .i64 x.1))], stH x.2.2.1 x.2.2.2 x.2.1⟩)
    (fun x => x.1 ≤ ws.length ∧ x.2.1.length ≤ x.1 ∧ x.2.1.Pairwise ltW ∧ (∀ v, v ∈ x.2.1 ↔ v ∈ ws.take x.1)) (fun x => ws.length - x.1) (0, [], 0, true) (by simp [go_sem, stV, stH]) (by simp) ?_
  rintro ⟨i, l, m, o⟩ ⟨hi, hli, hp, hm⟩
  simp only at hi hli hp hm
  refine AWp.freezeIf (E := 9) (s := 1) (k := .lax) (xs := l.map .str) o m (by rintro rfl; simp [stH]) ?_
  have e : ∀ st : St, st = ⟨mkF 60 [(0, .p (.sl (ws.map .str))), (3, stV m o l), (4, .p (.int .i64 i))], stH m o l⟩ → (if o = true then Frozen st m (l.map .str) else st) = ⟨mkF 60 [(0, .p (.sl (ws.map .str))), (3, .p (.sl (l.map .str))), (4, .p (.int .i64 i))], List.replicate (m + 1) .dead⟩ := by
    rintro _ rfl
    cases o
    · simp [stV, stH_false]
    · simp [Frozen, go_sem, stV, stH, List.replicate_succ', AV.thaw, AObj.thaw]
  rw [e _ rfl]
  clear e
  obtain ⟨H, hH⟩ : ∃ H : List AObj, H = List.replicate (m + 1) .dead := ⟨_, rfl⟩
  have hHl : H.length = m + 1 := by rw [hH]; simp
  have hK : H.map (AObj.kill (m + 1)) = H := by rw [hH]; simp [AObj.kill]
  rw [← hH]
  have gL : ∀ o : AObj, (H ++ [o])[H.length]? = some o := fun o => by simp
  have sL : ∀ o o' : AObj, (H ++ [o]).set H.length o' = H ++ [o'] := fun o o' => by simp
  have hKL : H.map (AObj.kill H.length) = H := by rw [hHl]; exact hK
  refine AWp.of_awpD [(8, 15), (9, 1000)] hΓ hmix (by kernel_rfl) ?_
  by_cases hlt : i < ws.length
  · simp -implicitDefEqProofs only [hlt, getD_map_lt, ↓reduceIte, go_sem]
    refine AWp.loopI (fun k : Nat => ⟨mkF 60 [(0, .p (.sl (ws.map .str))), (3, .p (.sl (l.map .str))), (4, .p (.int .i64 i)), (5, .p (.int .i64 k))], H⟩)
      (fun k => k ≤ l.length ∧ ∀ j, j < k → cmpW (l.getD j []) ws[i] < 0) (fun k => l.length - k) 0 (by simp [go_sem, weakH_self]) (by simp) ?_
    rintro k ⟨hk, hlow⟩
    refine AWp.of_awpD [(6, 15)] hΓ hmix (by kernel_rfl) ?_
    by_cases hkl : k < l.length
    · simp -implicitDefEqProofs only [hlt, hkl, getD_map_lt, ↓reduceIte, go_sem]
      refine callVPK_fn (t79' l[k] ws[i]) (.pures rfl) ?_
      by_cases hc : cmpW l[k] ws[i] < 0
      · simp -implicitDefEqProofs only [hlt, hkl, hc, decide_true, getD_map_lt, ↓reduceIte, go_sem]
        refine ⟨by simp only [InR]; omega, k + 1, ⟨by omega, weakH_self _⟩, ⟨by omega, fun j hj => ?_⟩, by omega⟩
        by_cases hjk : j = k
        · subst hjk
          rw [List.getD_eq_getElem?_getD, List.getElem?_eq_getElem hkl, Option.getD_some]; exact hc
        · exact hlow j (by omega)
      · by_cases he : l[k] = ws[i]
        · have hc' : ¬ cmpW ws[i] ws[i] < 0 := by rw [he] at hc; exact hc
          simp -implicitDefEqProofs only [hlt, hkl, hc', decide_false, he, getD_map_lt, ↓reduceIte, go_sem]
          refine ⟨by simp only [InR]; omega, (i + 1, l, m, false), ⟨⟨.inr (by simp [stV]), by simp⟩, ?_⟩, ⟨by simp only; omega, by simp only; omega, hp, fun v => ?_⟩, by simp only; omega⟩
          · simp only [stH_false]; rw [← hH]; exact weakH_self _
          · rw [hm, List.take_succ_eq_append_getElem hlt, List.mem_append, List.mem_singleton]
            refine ⟨.inl, fun h => h.elim id fun h => ?_⟩
            subst h
            exact (hm _).1 (by rw [← he]; exact List.getElem_mem hkl)
        · simp -implicitDefEqProofs only [hlt, hkl, hc, decide_false, he, getD_map_lt, ↓reduceIte, go_sem]
          have hup : k < l.length → ltW ws[i] (l.getD k []) := fun _ => by
            rw [List.getD_eq_getElem?_getD, List.getElem?_eq_getElem hkl, Option.getD_some]
            apply Classical.byContradiction
            intro hno
            exact he (ltW_total (fun h => hc ((ltW_iff _ _).2 h)) hno)
          refine AWp.planL (.q 0 (.q 1 (.q 2 (.q 3 (.q 5 (.q 6 (.q 7 (.q 8 (.q 9 (.q 11 (.q 12 (.q 13 (.e 4 (.s 5 (.s 6 (.s 7 (.s 8 (.s 9 (.s 11 (.s 12 (.s 13 (.e 10 (.s 11 (.s 12 (.s 13 (.e 14 (.q 15 .fin) .nil)))) .nil))))))))) .nil))))))))))))) hΓ hmix (by kernel_rfl) ?_
          simp -implicitDefEqProofs only [hlt, hkl, getD_map_lt, ↓reduceIte, gL, sL, hKL, go_sem]
          have hpl := putAt_strict hp hk hlow hup
          have hlen := putAt_len (w := ws[i]) hk
          have hmem : ∀ v, v ∈ putAt l k ws[i] ↔ v ∈ ws.take (i + 1) := fun v => by
            rw [mem_putAt, hm, List.take_succ_eq_append_getElem hlt, List.mem_append, List.mem_singleton]
          have ht : (l.take k).length = k := by simp; omega
          have hd : (l.drop k).length = l.length - k := by simp
          rw [← List.map_take, ← List.map_drop]
          generalize hrk : (if (List.map PV.str (List.take k l)).isEmpty = true then RK.lax else RK.own) = rk1
          have hr1 : rk1 ≠ .raw := by rw [← hrk]; split <;> simp
          simp only [List.map_append, hKL, List.map_cons, List.map_nil, AObj.kill, sL, gL, List.isEmpty_cons, Bool.false_eq_true, if_false, List.length_map]
          refine ⟨⟨by simp [sizeOK], by omega⟩, size_str _, by omega, ⟨size_str [ws[i]], by omega⟩, size_str _, by omega, ⟨size_str _, one_str _⟩, ⟨by simp [sizeOK], by omega, by omega⟩, ⟨size_str [ws[i]], by omega⟩, ⟨size_str _, by omega⟩, ⟨size_str [ws[i]], one_str [ws[i]]⟩, ⟨hr1, .inl (by omega), by omega, by omega⟩, ⟨size_str _, by omega⟩, ⟨size_str _, one_str _⟩, ⟨by simp, .inl (by omega), trivial, trivial, by omega, by omega⟩, by simp only [InR]; omega,
            (i + 1, putAt l k ws[i], m + 1, true), ⟨⟨.inr ?_, by simp⟩, ?_⟩, ⟨by simp only; omega, by simp only; omega, hpl, hmem⟩, by simp only; omega⟩
          · simp only [stV, if_true]
            rw [hHl]; congr 1; omega
          · simp only [stH, if_true]
            rw [← hH]
            have e3 : (putAt l k ws[i]).map PV.str = List.map PV.str (List.take k l) ++ [PV.str ws[i]] ++ List.map PV.str (List.drop k l) := by simp [putAt]
            rw [e3]
            refine weakH_snoc ?_ H
            by_cases hb : (List.map PV.str (List.drop k l)).isEmpty = true
            · rw [if_pos hb]; exact .inr (.inr rfl)
            · rw [if_neg hb]; exact .inr (.inr rfl)
    · simp -implicitDefEqProofs only [hlt, hkl, getD_map_lt, ↓reduceIte, go_sem]
      have hup : k < l.length → ltW ws[i] (l.getD k []) := fun h => absurd h hkl
      refine AWp.planL (.q 0 (.q 1 (.q 2 (.q 3 (.q 5 (.q 6 (.q 7 (.q 8 (.q 9 (.q 11 (.q 12 (.q 13 (.e 4 (.s 5 (.s 6 (.s 7 (.s 8 (.s 9 (.s 11 (.s 12 (.s 13 (.e 10 (.s 11 (.s 12 (.s 13 (.e 14 (.q 15 .fin) .nil)))) .nil))))))))) .nil))))))))))))) hΓ hmix (by kernel_rfl) ?_
      simp -implicitDefEqProofs only [hlt, hkl, getD_map_lt, ↓reduceIte, gL, sL, hKL, go_sem]
      have hpl := putAt_strict hp hk hlow hup
      have hlen := putAt_len (w := ws[i]) hk
      have hmem : ∀ v, v ∈ putAt l k ws[i] ↔ v ∈ ws.take (i + 1) := fun v => by
        rw [mem_putAt, hm, List.take_succ_eq_append_getElem hlt, List.mem_append, List.mem_singleton]
      have ht : (l.take k).length = k := by simp; omega
      have hd : (l.drop k).length = l.length - k := by simp
      rw [← List.map_take, ← List.map_drop]
      generalize hrk : (if (List.map PV.str (List.take k l)).isEmpty = true then RK.lax else RK.own) = rk1
      have hr1 : rk1 ≠ .raw := by rw [← hrk]; split <;> simp
      simp only [List.map_append, hKL, List.map_cons, List.map_nil, AObj.kill, sL, gL, List.isEmpty_cons, Bool.false_eq_true, if_false, List.length_map]
      refine ⟨⟨by simp [sizeOK], by omega⟩, size_str _, by omega, ⟨size_str [ws[i]], by omega⟩, size_str _, by omega, ⟨size_str _, one_str _⟩, ⟨by simp [sizeOK], by omega, by omega⟩, ⟨size_str [ws[i]], by omega⟩, ⟨size_str _, by omega⟩, ⟨size_str [ws[i]], one_str [ws[i]]⟩, ⟨hr1, .inl (by omega), by omega, by omega⟩, ⟨size_str _, by omega⟩, ⟨size_str _, one_str _⟩, ⟨by simp, .inl (by omega), trivial, trivial, by omega, by omega⟩, by simp only [InR]; omega,
        (i + 1, putAt l k ws[i], m + 1, true), ⟨⟨.inr ?_, by simp⟩, ?_⟩, ⟨by simp only; omega, by simp only; omega, hpl, hmem⟩, by simp only; omega⟩
      · simp only [stV, if_true]
        rw [hHl]; congr 1; omega
      · simp only [stH, if_true]
        rw [← hH]
        have e3 : (putAt l k ws[i]).map PV.str = List.map PV.str (List.take k l) ++ [PV.str ws[i]] ++ List.map PV.str (List.drop k l) := by simp [putAt]
        rw [e3]
        refine weakH_snoc ?_ H
        by_cases hb : (List.map PV.str (List.drop k l)).isEmpty = true
        · rw [if_pos hb]; exact .inr (.inr rfl)
        · rw [if_neg hb]; exact .inr (.inr rfl)
  · simp -implicitDefEqProofs only [hlt, go_sem]
    rw [List.take_of_length_le (by omega)] at hm
    rw [made_of hp (fun x => (hm x).symm)]
end Go.Proofs.Ytgkbafkmbokkaaa
end

section
namespace Go.Proofs.Ytgkbafkmbokkaaa
open Go Go.AM
set_option maxRecDepth 100000
set_option linter.unusedSimpArgs false

theorem u52 (w x : List UInt8) : PFn Try.prog 52 [.str w, .str x] [.bool (x.isPrefixOf w)] := by
  refine PFn.of_body hΓ Try.func52 (by kernel_rfl) rfl (AWp.of_awpD [] hΓ hmix (by kernel_rfl) ?_)
  simp +contextual -implicitDefEqProofs only [Try.ntmps52, Try.results52, Nat.reduceAdd, Nat.reduceSub, go_sem]
  refine ⟨fun h => ?_, fun h => ?_⟩
  · rw [Bool.eq_iff_iff, List.isPrefixOf_iff_prefix, List.prefix_iff_eq_take, decide_eq_true_eq]; exact eq_comm
  · rw [Bool.eq_iff_iff, List.isPrefixOf_iff_prefix]
    exact ⟨fun h => by simp at h, fun h' => absurd h'.length_le (by omega)⟩
theorem u54 (w x : List UInt8) (hw : w.length ≤ 9223372036854775807) : PFn Try.prog 54 [.str w, .str x] [.bool (x.isSuffixOf w)] := by
  refine PFn.of_body hΓ Try.func54 (by kernel_rfl) rfl (AWp.of_awpD [] hΓ hmix (by kernel_rfl) ?_)
  simp +contextual -implicitDefEqProofs only [Try.ntmps54, Try.results54, Nat.reduceAdd, Nat.reduceSub, go_sem]
  refine ⟨fun h => ⟨by simp only [InR]; omega, by omega, ?_⟩, fun h => ?_⟩
  · rw [Bool.eq_iff_iff, List.isSuffixOf_iff_suffix, List.suffix_iff_eq_drop, decide_eq_true_eq, show ((w.length : Int) - x.length).toNat = w.length - x.length by omega]; exact eq_comm
  · rw [Bool.eq_iff_iff, List.isSuffixOf_iff_suffix]
    exact ⟨fun h => by simp at h, fun h' => absurd h'.length_le (by omega)⟩
theorem u86 (w x : List UInt8) (hw : w.length ≤ 9223372036854775807) : PFn Try.prog 86 [.str w, .str x] [.bool (x.isSuffixOf w)] := by
  refine PFn.of_body hΓ Try.func86 (by kernel_rfl) rfl (AWp.of_awpD [] hΓ hmix (by kernel_rfl) ?_)
  simp +contextual -implicitDefEqProofs only [Try.ntmps86, Try.results86, Nat.reduceAdd, Nat.reduceSub, go_sem]
  refine ⟨fun h => ⟨by simp only [InR]; omega, by omega, ?_⟩, fun h => ?_⟩
  · rw [Bool.eq_iff_iff, List.isSuffixOf_iff_suffix, List.suffix_iff_eq_drop, decide_eq_true_eq, show ((w.length : Int) - x.length).toNat = w.length - x.length by omega]; exact eq_comm
  · rw [Bool.eq_iff_iff, List.isSuffixOf_iff_suffix]
    exact ⟨fun h => by simp at h, fun h' => absurd h'.length_le (by omega)⟩
theorem u53 (w x : List UInt8) (hw : w.length ≤ 9223372036854775807) : PFn Try.prog 53 [.str w, .str x] [.bool (x.isSuffixOf w)] := by
  refine PFn.of_body hΓ Try.func53 (by kernel_rfl) rfl (AWp.of_awpD [] hΓ hmix (by kernel_rfl) ?_)
  simp +contextual -implicitDefEqProofs only [Try.ntmps53, Try.results53, Nat.reduceAdd, Nat.reduceSub, go_sem]
  refine callK_fn (u86 w x hw) (.pures rfl) ?_
  simp +contextual -implicitDefEqProofs only [go_sem]

theorem u17 (q : Int) (ws : List (List UInt8)) : PFn Try.prog 17 [codeV q ws] [.bool (if codeCheck q ws = 0 then aloneB (fun w x => x.isSuffixOf w) ws else false), .int .i64 (if codeCheck q ws = 0 then 0 else 1)] := by
  refine PFn.of_body hΓ Try.func17 (by kernel_rfl) rfl (AWp.of_awpD [] hΓ hmix (by kernel_rfl) ?_)
  simp +contextual -implicitDefEqProofs only [codeV, Try.ntmps17, Try.results17, Nat.reduceAdd, Nat.reduceSub, go_sem]
  refine callK_ac (c68 q ws u53) (by simp) ?_
  rintro v h' ⟨rfl, rfl⟩
  simp -implicitDefEqProofs only [killAll, List.foldl, codeB, go_sem]

theorem u16 (q : Int) (ws : List (List UInt8)) : PFn Try.prog 16 [codeV q ws] [.bool (if codeCheck q ws = 0 then aloneB (fun w x => x.isPrefixOf w) ws else false), .int .i64 (if codeCheck q ws = 0 then 0 else 1)] := by
  refine PFn.of_body hΓ Try.func16 (by kernel_rfl) rfl (AWp.of_awpD [] hΓ hmix (by kernel_rfl) ?_)
  simp +contextual -implicitDefEqProofs only [codeV, Try.ntmps16, Try.results16, Nat.reduceAdd, Nat.reduceSub, go_sem]
  refine callK_fn (t44 q ws) (.still rfl) ?_
  by_cases h : codeCheck q ws = 0
  · have hv := valid_of h
    have hws := hv.len
    rw [h]
    simp -implicitDefEqProofs only [go_sem]
    refine AWp.loopI (fun i : Nat => ⟨mkF 39 [(1, .ptr 0 0), (2, .p (.bool false)), (3, .p (.int .i64 0)), (4, .p (.int .i64 i))], [codeB q ws]⟩)
      (fun i => i ≤ ws.length ∧ aloneN (fun w x => x.isPrefixOf w) ws i = true) (fun i => ws.length - i) 0 (by simp [go_sem, codeB]) ⟨by omega, rfl⟩ ?_
    rintro i ⟨hi, hal⟩
    refine AWp.of_awpD [] hΓ hmix (by kernel_rfl) ?_
    by_cases hlt : i < ws.length
    · simp -implicitDefEqProofs only [hlt, getD_map_lt, ↓reduceIte, codeB, go_sem]
      refine AWp.loopI (fun k : Nat => ⟨mkF 39 [(1, .ptr 0 0), (2, .p (.bool false)), (3, .p (.int .i64 0)), (4, .p (.int .i64 i)), (5, .p (.int .i64 k))], [codeB q ws]⟩)
        (fun k => k ≤ ws.length ∧ aloneTo (fun w x => x.isPrefixOf w) ws i k = true) (fun k => ws.length - k) 0 (by simp [go_sem, codeB]) ⟨by omega, rfl⟩ ?_
      rintro k ⟨hk, hal2⟩
      refine AWp.of_awpD [(9, 16)] hΓ hmix (by kernel_rfl) ?_
      have hwi : ws.getD i [] = ws[i] := by rw [List.getD_eq_getElem?_getD, List.getElem?_eq_getElem hlt, Option.getD_some]
      have hsh : ws[i].length ≤ 9223372036854775807 := by have := hv.short i hlt; rw [hwi] at this; omega
      by_cases hlt2 : k < ws.length
      · have hwk : ws.getD k [] = ws[k] := by rw [List.getD_eq_getElem?_getD, List.getElem?_eq_getElem hlt2, Option.getD_some]
        by_cases he : (i : Int) = k
        · simp -implicitDefEqProofs only [hlt2, he, getD_map_lt, ↓reduceIte, codeB, go_sem]
          refine ⟨by simp only [InR]; omega, k + 1, by omega, ⟨hlt2, ?_⟩, by omega⟩
          rw [aloneTo_succ, hal2, decide_eq_true (by omega)]; rfl
        · simp -implicitDefEqProofs only [hlt, hlt2, he, getD_map_lt, ↓reduceIte, codeB, go_sem]
          refine callVPK_fn (u52 ws[i] ws[k]) (.pures rfl) ?_
          cases hp : ws[k].isPrefixOf ws[i]
          · simp -implicitDefEqProofs only [hlt, hlt2, he, getD_map_lt, ↓reduceIte, codeB, go_sem]
            refine ⟨by simp only [InR]; omega, k + 1, by omega, ⟨hlt2, ?_⟩, by omega⟩
            rw [aloneTo_succ, hal2, hwi, hwk, hp]; simp
          · simp -implicitDefEqProofs only [hlt, hlt2, he, getD_map_lt, ↓reduceIte, codeB, go_sem]
            rw [alone_bad hlt hlt2 (by omega) (by rw [hwi, hwk]; exact hp)]
      · simp -implicitDefEqProofs only [hlt2, codeB, go_sem]
        refine ⟨by simp only [InR]; omega, i + 1, by omega, ⟨hlt, ?_⟩, by omega⟩
        rw [aloneN_succ, hal, show ws.length = k by omega, hal2]; rfl
    · simp -implicitDefEqProofs only [hlt, codeB, go_sem]
      rw [show i = ws.length by omega] at hal; exact hal.symm
  · simp -implicitDefEqProofs only [h, go_sem]

theorem u18 (q : Int) (ws : List (List UInt8)) : PFn Try.prog 18 [codeV q ws] [.bool (if codeCheck q ws = 0 then aloneB (fun w x => x.isSuffixOf w) ws else false), .int .i64 (if codeCheck q ws = 0 then 0 else 1)] := by
  refine PFn.of_body hΓ Try.func18 (by kernel_rfl) rfl (AWp.of_awpD [] hΓ hmix (by kernel_rfl) ?_)
  simp +contextual -implicitDefEqProofs only [codeV, Try.ntmps18, Try.results18, Nat.reduceAdd, Nat.reduceSub, go_sem]
  refine callK_fn (t44 q ws) (.still rfl) ?_
  by_cases h : codeCheck q ws = 0
  · have hv := valid_of h
    have hws := hv.len
    rw [h]
    simp -implicitDefEqProofs only [go_sem]
    refine AWp.loopI (fun i : Nat => ⟨mkF 39 [(1, .ptr 0 0), (2, .p (.bool false)), (3, .p (.int .i64 0)), (4, .p (.int .i64 i))], [codeB q ws]⟩)
      (fun i => i ≤ ws.length ∧ aloneN (fun w x => x.isSuffixOf w) ws i = true) (fun i => ws.length - i) 0 (by simp [go_sem, codeB]) ⟨by omega, rfl⟩ ?_
    rintro i ⟨hi, hal⟩
    refine AWp.of_awpD [] hΓ hmix (by kernel_rfl) ?_
    by_cases hlt : i < ws.length
    · simp -implicitDefEqProofs only [hlt, getD_map_lt, ↓reduceIte, codeB, go_sem]
      refine AWp.loopI (fun k : Nat => ⟨mkF 39 [(1, .ptr 0 0), (2, .p (.bool false)), (3, .p (.int .i64 0)), (4, .p (.int .i64 i)), (5, .p (.int .i64 k))], [codeB q ws]⟩)
        (fun k => k ≤ ws.length ∧ aloneTo (fun w x => x.isSuffixOf w) ws i k = true) (fun k => ws.length - k) 0 (by simp [go_sem, codeB]) ⟨by omega, rfl⟩ ?_
      rintro k ⟨hk, hal2⟩
      refine AWp.of_awpD [(9, 16)] hΓ hmix (by kernel_rfl) ?_
      have hwi : ws.getD i [] = ws[i] := by rw [List.getD_eq_getElem?_getD, List.getElem?_eq_getElem hlt, Option.getD_some]
      have hsh : ws[i].length ≤ 9223372036854775807 := by have := hv.short i hlt; rw [hwi] at this; omega
      by_cases hlt2 : k < ws.length
      · have hwk : ws.getD k [] = ws[k] := by rw [List.getD_eq_getElem?_getD, List.getElem?_eq_getElem hlt2, Option.getD_some]
        by_cases he : (i : Int) = k
        · simp -implicitDefEqProofs only [hlt2, he, getD_map_lt, ↓reduceIte, codeB, go_sem]
          refine ⟨by simp only [InR]; omega, k + 1, by omega, ⟨hlt2, ?_⟩, by omega⟩
          rw [aloneTo_succ, hal2, decide_eq_true (by omega)]; rfl
        · simp -implicitDefEqProofs only [hlt, hlt2, he, getD_map_lt, ↓reduceIte, codeB, go_sem]
          refine callVPK_fn (u54 ws[i] ws[k] hsh) (.pures rfl) ?_
          cases hp : ws[k].isSuffixOf ws[i]
          · simp -implicitDefEqProofs only [hlt, hlt2, he, getD_map_lt, ↓reduceIte, codeB, go_sem]
            refine ⟨by simp only [InR]; omega, k + 1, by omega, ⟨hlt2, ?_⟩, by omega⟩
            rw [aloneTo_succ, hal2, hwi, hwk, hp]; simp
          · simp -implicitDefEqProofs only [hlt, hlt2, he, getD_map_lt, ↓reduceIte, codeB, go_sem]
            rw [alone_bad hlt hlt2 (by omega) (by rw [hwi, hwk]; exact hp)]
      · simp -implicitDefEqProofs only [hlt2, codeB, go_sem]
        refine ⟨by simp only [InR]; omega, i + 1, by omega, ⟨hlt, ?_⟩, by omega⟩
        rw [aloneN_succ, hal, show ws.length = k by omega, hal2]; rfl
    · simp -implicitDefEqProofs only [hlt, codeB, go_sem]
      rw [show i = ws.length by omega] at hal; exact hal.symm
  · simp -implicitDefEqProofs only [h, go_sem]

theorem u19 (q : Int) (ws : List (List UInt8)) : PFn Try.prog 19 [codeV q ws] [.int .i64 (if codeCheck q ws = 0 then ((ws.getD 0 []).length : Int) else 0), .int .i64 (if codeCheck q ws = 0 then ((ws.getD (ws.length - 1) []).length : Int) else 0), .int .i64 (if codeCheck q ws = 0 then 0 else 1)] := by
  refine PFn.of_body hΓ Try.func19 (by kernel_rfl) rfl (AWp.of_awpD [(3, 17)] hΓ hmix (by kernel_rfl) ?_)
  simp +contextual -implicitDefEqProofs only [codeV, Try.ntmps19, Try.results19, Nat.reduceAdd, Nat.reduceSub, go_sem]
  refine callK_fn (t45 q ws) (.still rfl) ?_
  by_cases h : codeCheck q ws = 0
  · have hv := valid_of h
    have hws := hv.len
    have hpos := hv.pos
    have e : ((ws.length : Int) - 1).toNat = ws.length - 1 := by omega
    have hl1 : ws.length - 1 < ws.length := by omega
    have g0 : (ws.map PV.str).getD (Int.toNat 0) default = .str (ws.getD 0 []) := by
      rw [Int.toNat_zero, getD_map_lt _ _ _ _ hpos, List.getD_eq_getElem?_getD, List.getElem?_eq_getElem hpos, Option.getD_some]
    have g1 : (ws.map PV.str).getD (ws.length - 1) default = .str (ws.getD (ws.length - 1) []) := by
      rw [getD_map_lt _ _ _ _ hl1, List.getD_eq_getElem?_getD, List.getElem?_eq_getElem hl1, Option.getD_some]
    rw [h]
    simp -implicitDefEqProofs only [g0, g1, e, ↓reduceIte, go_sem]
    exact ⟨by omega, by simp only [InR]; omega, by omega, by omega⟩
  · simp -implicitDefEqProofs only [h, go_sem]

theorem u20 (q : Int) (ws : List (List UInt8)) : PFn Try.prog 20 [codeV q ws] [.int .i64 (if codeCheck q ws = 0 then ((ws.getD 0 []).length : Int) else 0), .int .i64 (if codeCheck q ws = 0 then ((ws.getD (ws.length - 1) []).length : Int) else 0), .int .i64 (if codeCheck q ws = 0 then 0 else 1)] := by
  refine PFn.of_body hΓ Try.func20 (by kernel_rfl) rfl (AWp.of_awpD [(3, 17)] hΓ hmix (by kernel_rfl) ?_)
  simp +contextual -implicitDefEqProofs only [codeV, Try.ntmps20, Try.results20, Nat.reduceAdd, Nat.reduceSub, go_sem]
  refine callK_fn (t44 q ws) (.still rfl) ?_
  by_cases h : codeCheck q ws = 0
  · have hv := valid_of h
    have hws := hv.len
    have hpos := hv.pos
    have e : ((ws.length : Int) - 1).toNat = ws.length - 1 := by omega
    have hl1 : ws.length - 1 < ws.length := by omega
    have g0 : (ws.map PV.str).getD (Int.toNat 0) default = .str (ws.getD 0 []) := by
      rw [Int.toNat_zero, getD_map_lt _ _ _ _ hpos, List.getD_eq_getElem?_getD, List.getElem?_eq_getElem hpos, Option.getD_some]
    have g1 : (ws.map PV.str).getD (ws.length - 1) default = .str (ws.getD (ws.length - 1) []) := by
      rw [getD_map_lt _ _ _ _ hl1, List.getD_eq_getElem?_getD, List.getElem?_eq_getElem hl1, Option.getD_some]
    rw [h]
    simp -implicitDefEqProofs only [g0, g1, e, ↓reduceIte, go_sem]
    exact ⟨by omega, by simp only [InR]; omega, by omega, by omega⟩
  · simp -implicitDefEqProofs only [h, go_sem]

theorem u23 (q p : Int) (us bs : List (List UInt8)) (hl : us.length ≤ 9223372036854775807) : PFn Try.prog 23 [codeV q us, codeV p bs] [.bool (decide (q = p ∧ us = bs))] := by
  by_cases hq : q = p
  rotate_left
  · rw [decide_eq_false (fun e => hq e.1)]
    refine PFn.of_body hΓ Try.func23 (by kernel_rfl) rfl (AWp.of_awpD [] hΓ hmix (by kernel_rfl) ?_)
    simp -implicitDefEqProofs only [Try.ntmps23, Try.results23, Nat.reduceAdd, Nat.reduceSub, codeV, hq, go_sem]
  subst hq
  rw [show decide (q = q ∧ us = bs) = decide (us = bs) by simp]
  refine PFn.of_body hΓ Try.func23 (by kernel_rfl) rfl (AWp.of_awpD [] hΓ hmix (by kernel_rfl) ?_)
  by_cases hn : (us.length : Int) = bs.length
  rotate_left
  · rw [decide_eq_false (fun e => hn (by rw [e]))]
    simp -implicitDefEqProofs only [Try.ntmps23, Try.results23, Nat.reduceAdd, Nat.reduceSub, codeV, hn, go_sem]
  simp -implicitDefEqProofs only [Try.ntmps23, Try.results23, Nat.reduceAdd, Nat.reduceSub, codeV, hn, go_sem]
  have hn' : us.length = bs.length := by omega
  refine AWp.loopI (fun k : Nat => ⟨mkF 38 [(2, .ptr 0 0), (3, .ptr 1 0), (4, .p (.bool false)), (5, .p (.int .i64 k))], [codeB q us, codeB q bs]⟩)
    (fun k => k ≤ us.length ∧ us.take k = bs.take k) (fun k => us.length - k) 0 (by simp [go_sem, codeB]) (by simp) ?_
  rintro k ⟨hk, heq⟩
  refine AWp.of_awpD [(6, 11)] hΓ hmix (by kernel_rfl) ?_
  by_cases hlt : k < us.length
  · have hlt2 : k < bs.length := by omega
    by_cases he : us[k] = bs[k]
    · simp -implicitDefEqProofs only [hlt, hlt2, he, getD_map_lt, ↓reduceIte, codeB, go_sem]
      refine ⟨by simp only [InR]; omega, k + 1, by omega, ⟨hlt, ?_⟩, by omega⟩
      rw [List.take_succ_eq_append_getElem hlt, List.take_succ_eq_append_getElem hlt2, heq, he]
    · simp -implicitDefEqProofs only [hlt, hlt2, he, getD_map_lt, ↓reduceIte, codeB, go_sem]
      refine (decide_eq_false fun e => he ?_).symm
      subst e; rfl
  · simp -implicitDefEqProofs only [hlt, codeB, go_sem]
    rw [List.take_of_length_le (by omega), List.take_of_length_le (by omega)] at heq
    exact (decide_eq_true heq).symm

theorem u14 (q : Int) (ws : List (List UInt8)) (hl : ws.length ≤ 1000000) : PFn Try.prog 14 [.int .i64 q, .sl (ws.map .str)] [if codeCheck q (made ws) = 0 then codeV q (made ws) else codeV 0 [], .int .i64 (codeCheck q (made ws))] := by
  refine PFn.of_body hΓ Try.func14 (by kernel_rfl) rfl (AWp.of_awpD [] hΓ hmix (by kernel_rfl) ?_)
  simp +contextual -implicitDefEqProofs only [codeV, Try.ntmps14, Try.results14, Nat.reduceAdd, Nat.reduceSub, go_sem]
  refine callK_fn (u50 ws hl) (.pures rfl) ?_
  simp -implicitDefEqProofs only [go_sem]
  refine ⟨by omega, ?_⟩
  refine callK_fn (t44 q (made ws)) (.still rfl) ?_
  by_cases hc : codeCheck q (made ws) = 0
  · rw [hc]
    simp -implicitDefEqProofs only [go_sem]
  · simp -implicitDefEqProofs only [hc, go_sem]
end Go.Proofs.Ytgkbafkmbokkaaa
end

