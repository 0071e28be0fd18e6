/-
  DERIVED: THE SHELF's CONTRACTS AT THIS DUMP, IN PLAIN WORDS (tools/lay-plain.mjs out of 'YtoajffhlbogdaaaGreatTmpSc.lean', which tools/lay-shelf.mjs wrote): THE SAME DECLARATIONS UNDER THE SAME NAMES: 'import', 'namespace', 'open', 'def', 'theorem' AND NOTHING ELSE: no command of the shelf's: FOR A HAND-IN. Each laying: the table of numbers ('.._ren') and one theorem, a field a fact of the dump's own or the kernel's comparison; each contract: ONE APPLICATION.
  slices.Compact on an owned row of words, as a contract with the heap.
  Sorted lists.
  The common low layer.
  slices.Clone of a list of words.
  code.Make: the words sorted, each once; checked.
  code.alone, code.Prefix.
  Plain law of codes that are made.
  Prefix of the reference.
  Plain facts of parsers: maps of words to numbers, proper beginnings in order, places of words.
  slices.Index of words and the reference's place; slices.Contains of numbers.
  slices.SortFunc by the parser's comparison of words.
  parser.build.
  parser.Build, parser.Automaton, parser.same.
  The reference's insert.
  The reference's build.
  Build and Automaton of both; the comparisons of parsers and automata.
  Automaton of both.
  The reference's comparisons of lists, parsers and automata; which parsers are too large.
  Which parsers are too large.
  The words that end in a parser; the reference's CodeOf and Check.
  parser.Check.
-/
import Derived.Shelf.SlicesG.In.CompactS
import Derived.Shelf.SlGeneric
import Derived.Ground.SlgnProg
import Derived.Test.YtoajffhlbogdaaaGreatProg
import Derived.Test.YtoajffhlbogdaaaGreatJ1950e8435dff
import Derived.Test.YtoajffhlbogdaaaGreatJ79731265f946

section
namespace Go.Proofs
open Go.Shelf
def Tryz.compS_ren : Go.Shelf.Ren := ⟨fun | 44 => 107 | n => n, fun | 25 => 22 | 26 => 9 | 3 => 3 | 4 => 4 | 0 => 0 | n => n, fun | n => n⟩
theorem Tryz.compS : Go.Proofs.SlLaysN.n44 Tryz.prog Tryz.compS_ren := {
  mixed := by kernel_rfl
  f44 := ⟨Tryz.f107.name, by decide, Tryz.func107.trans (congrArg some (by kernel_rfl))⟩
  t0 := Tryz.underlying0
  a0 := Tryz.isAgg0
  z0 := Tryz.sizeOf0
  v0 := Tryz.zeroValue0
  t3 := Tryz.underlying3
  a3 := Tryz.isAgg3
  z3 := Tryz.sizeOf3
  v3 := Tryz.zeroValue3
  t4 := Tryz.underlying4
  a4 := Tryz.isAgg4
  z4 := Tryz.sizeOf4
  v4 := Tryz.zeroValue4
  t25 := Tryz.underlying22
  a25 := Tryz.isAgg22
  z25 := Tryz.sizeOf22
  v25 := Tryz.zeroValue22
  t26 := Tryz.underlying9
  a26 := Tryz.isAgg9
  z26 := Tryz.sizeOf9
  v26 := Tryz.zeroValue9
  i26 := by kernel_rfl }
end Go.Proofs
end

section
namespace Go.Proofs.YtoajffhlbogdaaaGreat
open Go Go.AM Go.RowKit
set_option maxRecDepth 100000
set_option linter.unusedSimpArgs false

theorem compact_le (l : List (List UInt8)) : (Lib.compact l).length ≤ l.length := by
  unfold Lib.compact Lib.compactUpTo
  rw [List.length_map]
  exact Nat.le_trans (List.length_filter_le _ _) (by simp)

theorem c107 {h : List AObj} {b : Nat} (l : List (List UInt8)) (hb : h[b]? = some (.row 9 1 (l.map .str) .own)) (hsz : l.length ≤ 1000000) :
    AC Tryz.prog 107 [.own b l.length] h [b] (fun v h' => v = .own b (Lib.compact l).length ∧ h' = (h.map (AObj.kill b)).set b (.row 9 1 ((Lib.compact l).map .str) .own)) := by
  refine ⟨entersF_of Tryz.func107 (by kernel_rfl) rfl, fun X I μ ob w cargs R hlen hargs hmay => ?_⟩
  obtain ⟨a0, rfl⟩ : ∃ a, cargs = [a] := by
    match cargs, hlen with
    | [a], _ => exact ⟨a, rfl⟩
  have g0 := hargs 0 (by simp)
  simp only [List.getD_cons_zero] at g0
  obtain ⟨a, c, rfl, hbn, hbm⟩ := g0.own_inv
  obtain ⟨hall, hrow⟩ := R.objs _ _ hb
  rcases hrow with ⟨g, hg, cap, cur, fr, vs, e1, e2, e3, e4, e5, e6, e7, e8, e9, e10⟩ | ⟨hk, _⟩
  rotate_left
  · cases hk
  rw [hbm] at e1
  simp only [List.length_map] at e1 e5 e7 e8 e9 e10
  injection e1 with e1a _ e1c
  subst e1a e1c
  have hfr := e3 rfl
  subst hfr
  have hgl := (R.own b g hg).2.2
  have cell : ∀ j (hj : j < l.length), cur[j]? = some (encW l[j]) := fun j hj => by
    have h1 := e10 j (by omega)
    rw [flats_str, getD_map_lt _ _ _ _ hj] at h1
    have h2 := encW_of h1
    have h3 : cur.toList[j]? = some (vs.getD j undef) := by
      have : vs[j]? = some (vs.getD j undef) := by rw [List.getD_eq_getElem?_getD, List.getElem?_eq_getElem (by omega)]; rfl
      rw [← e8, List.getElem?_take_of_lt (by omega)] at this
      exact this.trans (by rw [e8])
    rw [Array.getElem?_toList, h2] at h3
    exact h3
  have hH : Sort.Holds encW w g 0 l.toArray := fun j hj => by
    have hj' : j < l.length := by simpa using hj
    refine ⟨?_, ?_⟩
    · unfold World.cell?
      simp only [Nat.zero_add, e2]
      rw [cell j hj', getElem!_pos l.toArray j hj]
      simp
    · unfold World.frozen?
      simp only [e2]
      simp
  have hc : Calls Tryz.prog 107 #[.slice (some ⟨g, 0, none⟩) l.length c] w fun e w' => e = .returned (.slice (some ⟨g, 0, none⟩) (Lib.compact l).length c) ∧ ∃ q, w' = Sort.putRow encW (Sort.ahead w q) g 0 (Lib.compact l ++ List.replicate (l.length - (Lib.compact l).length) []).toArray :=
    AnyG.slices_Compact_string (ρ := Tryz.compS_ren) Tryz.compS g 0 c l w hH (by omega) e5
  refine Calls.mono (P := Tryz.prog) hc ?_
  rintro e w' ⟨rfl, n, rfl⟩
  have hcl := compact_le l
  generalize hlf : Lib.compact l ++ List.replicate (l.length - (Lib.compact l).length) [] = lf
  have hsl : lf.toArray.size = l.length := by rw [← hlf]; simp; omega
  have hlfl : lf.length = l.length := by simpa using hsl
  -- the world that is left
  have hnew : (Sort.putRow encW (Sort.ahead w n) g 0 lf.toArray).heap[g]? = some (.cells (Sort.putCells encW 0 lf.toArray cur) 9 (0, 0)) := by
    show (w.heap.modify g _)[g]? = _
    rw [Array.getElem?_modify, if_pos rfl, e2]; rfl
  have hold : ∀ k, k < w.heap.size → k ≠ g → (Sort.putRow encW (Sort.ahead w n) g 0 lf.toArray).heap[k]? = w.heap[k]? := fun k hk hne => by
    show (w.heap.modify g _)[k]? = _
    rw [Array.getElem?_modify, if_neg (fun e => hne e.symm)]
  have hsize : (Sort.putRow encW (Sort.ahead w n) g 0 lf.toArray).heap.size = w.heap.size := by
    show (w.heap.modify g _).size = _
    simp
  have hgrow : w.grownBy (Sort.putRow encW (Sort.ahead w n) g 0 lf.toArray) (ob b) := ⟨rfl, rfl, rfl, by rw [hsize]; exact Nat.le_refl _, fun k hk hk2 => hold k hk (fun e => hk2 (by rw [e, hg]))⟩
  have hput : ∀ j, j < (Lib.compact l).length → (Sort.putCells encW 0 lf.toArray cur)[j]? = some (encW ((Lib.compact l).getD j [])) := fun j hj => by
    have hj2 : j < l.length := by omega
    unfold Sort.putCells
    rw [Array.getElem?_mapIdx, cell j hj2]
    simp only [Option.map_some]
    rw [if_pos ⟨Nat.zero_le _, by rw [hsl]; omega⟩, Nat.sub_zero, getElem!_pos lf.toArray j (by rw [hsl]; exact hj2)]
    have : lf[j]'(by omega) = (Lib.compact l).getD j [] := by
      subst hlf
      rw [List.getElem_append_left hj, List.getD_eq_getElem?_getD, List.getElem?_eq_getElem hj]; rfl
    simp only [List.getElem_toArray, this]
  have hps : (Sort.putCells encW 0 lf.toArray cur).size = cur.size := by unfold Sort.putCells; rw [Array.size_mapIdx]
  have hpl : ((Sort.putCells encW 0 lf.toArray cur).toList.take (Lib.compact l).length).length = (Lib.compact l).length := by
    have h1 : (Sort.putCells encW 0 lf.toArray cur).toList.length = cur.size := by simpa using hps
    rw [List.length_take, h1]; omega
  have R2 := R.move (b0 := b) (v := .slice (some ⟨g, 0, none⟩) (Lib.compact l).length c) (g := some g) (o := .row 9 1 ((Lib.compact l).map .str) .own) hbn (hmay b (by simp)) hgrow
    (fun k e => by injection e with e; subst e; exact ⟨.inl hg, by rw [hsize]; exact hgl⟩) ⟨fun x hx => by
      obtain ⟨u, _, rfl⟩ := List.mem_map.1 hx; rfl, .inl ⟨g, by simp, c, Sort.putCells encW 0 lf.toArray cur, (0, 0), (Sort.putCells encW 0 lf.toArray cur).toList.take (Lib.compact l).length, by rw [upd_same, List.length_map], hnew, fun _ => rfl, by simp,
        by rw [List.length_map]; omega, e6, by rw [hps]; exact e7, by rw [List.length_map, Nat.mul_one], by
          rw [List.length_map, hpl, Nat.mul_one], fun j hj => ?_⟩⟩
  · exact ⟨_, .own b (Lib.compact l).length, _, I, upd μ b (.slice (some ⟨g, 0, none⟩) (Lib.compact l).length c), upd ob b (some g), rfl, R2, .own _ _ _ _ (by simpa using hbn) (by simp), fun _ h => h, fun k _ hk => upd_other _ _ (by simpa using hk), by simp, fun g hg => .inl hg,
      fun k g2 hk => by
        by_cases e : k = b
        · subst e; rw [upd_same] at hk; injection hk with hk; subst hk; exact .inl ⟨k, hg⟩
        · rw [upd_other _ _ e] at hk; exact .inl ⟨k, hk⟩,
      fun k hk hno => hold k hk (fun e => hno b (by rw [e]; exact hg)), rfl, rfl⟩
  · rw [List.length_map, Nat.mul_one] at hj
    rw [flats_str, getD_map_lt _ _ _ _ hj]
    have : ((Sort.putCells encW 0 lf.toArray cur).toList.take (Lib.compact l).length).getD j undef = encW ((Lib.compact l).getD j []) := by
      rw [List.getD_eq_getElem?_getD, List.getElem?_take_of_lt hj, Array.getElem?_toList, hput j hj]; rfl
    rw [this, List.getD_eq_getElem?_getD, List.getElem?_eq_getElem hj]
    exact pr_encW _

/-- At no element: nothing turns, whosever the row is. -/
theorem c107n {h : List AObj} {b : Nat} : AC Tryz.prog 107 [.own b 0] h [] (fun v h' => v = .own b 0 ∧ h' = h) := by
  refine ⟨entersF_of Tryz.func107 (by kernel_rfl) rfl, fun X I μ ob w cargs R hlen hargs _ => ?_⟩
  obtain ⟨a0, rfl⟩ : ∃ a, cargs = [a] := by
    match cargs, hlen with
    | [a], _ => exact ⟨a, rfl⟩
  have g0 := hargs 0 (by simp)
  simp only [List.getD_cons_zero] at g0
  obtain ⟨a, c, rfl, hbn, hbm⟩ := g0.own_inv
  have hc : Calls Tryz.prog 107 #[.slice a 0 c] w fun e w' => e = .returned (.slice a 0 c) ∧ w' = w := AnyG.slices_Compact_string_empty (ρ := Tryz.compS_ren) Tryz.compS a c w
  refine Calls.mono (P := Tryz.prog) hc ?_
  rintro e w' ⟨rfl, rfl⟩
  exact ⟨_, .own b 0, _, I, μ, ob, rfl, R, .own _ _ _ _ hbn hbm, fun _ h => h, fun _ _ _ => rfl, Nat.le_refl _, fun g hg => .inl hg, fun b g hb => .inl ⟨b, hb⟩, fun k hk hno => rfl, rfl, rfl⟩
end Go.Proofs.YtoajffhlbogdaaaGreat
end

section
namespace Go.Proofs.YtoajffhlbogdaaaGreat
open Go Go.AM
set_option maxRecDepth 100000
set_option linter.unusedSimpArgs false

/-! ### Sorted lists -/
theorem sortW_perm (l : List (List UInt8)) : (sortW l).Perm l := List.mergeSort_perm l _
theorem mem_sortW (l : List (List UInt8)) (x : List UInt8) : x ∈ sortW l ↔ x ∈ l := (sortW_perm l).mem_iff
theorem sortW_sorted (l : List (List UInt8)) : (sortW l).Pairwise fun a b => ¬ ltW b a := by
  have h := List.pairwise_mergeSort (le := fun x y => !(ltOf cmpK) y x) (fun a b c h1 h2 => by
    simp only [Bool.not_eq_true', ltOf_false] at *
    intro h
    by_cases hbc : ltW b c
    · exact h1 (by
        by_cases hab : ltW a b
        · exact absurd (ltW_trans hab (ltW_trans hbc h)) (ltW_irrefl a)
        · have := ltW_total hab h1
          subst this; exact absurd (ltW_trans hbc h) (ltW_irrefl _))
    · have := ltW_total hbc h2
      subst this; exact h1 h) (fun a b => by
    simp only [Bool.or_eq_true, Bool.not_eq_true', ltOf_false]
    by_cases hab : ltW b a
    · exact .inr (fun h => ltW_irrefl a (ltW_trans h hab))
    · exact .inl hab) l
  refine h.imp ?_
  intro a b hab
  simpa [ltOf_false] using hab
theorem sortW_nodup {l : List (List UInt8)} (h : l.Nodup) : (sortW l).Nodup := (sortW_perm l).nodup_iff.2 h
/-- Strictly ascending. -/
theorem sortW_strict {l : List (List UInt8)} (h : l.Nodup) : (sortW l).Pairwise ltW := by
  refine (sortW_sorted l).imp₂ ?_ (sortW_nodup h)
  intro a b h1 h2
  by_cases hab : ltW a b
  · exact hab
  · exact absurd (ltW_total hab h1) h2

theorem strict_unique : ∀ {l m : List (List UInt8)}, l.Pairwise ltW → m.Pairwise ltW → (∀ x, x ∈ l ↔ x ∈ m) → l = m
  | [], [], _, _, _ => rfl
  | [], b :: m, _, _, h => absurd ((h b).2 (by simp)) (by simp)
  | a :: l, [], _, _, h => absurd ((h a).1 (by simp)) (by simp)
  | a :: l, b :: m, hl, hm, h => by
    obtain ⟨ha, hl2⟩ := List.pairwise_cons.1 hl
    obtain ⟨hb, hm2⟩ := List.pairwise_cons.1 hm
    have e : a = b := by
      rcases List.mem_cons.1 ((h a).1 (by simp)) with e | e
      · exact e
      · rcases List.mem_cons.1 ((h b).2 (by simp)) with e2 | e2
        · exact e2.symm
        · exact absurd (ltW_trans (ha b e2) (hb a e)) (ltW_irrefl a)
    subst e
    refine congrArg (List.cons a) (strict_unique hl2 hm2 (fun x => ⟨fun hx => ?_, fun hx => ?_⟩))
    · rcases List.mem_cons.1 ((h x).1 (by simp [hx])) with e | e
      · subst e; exact absurd (ha x hx) (ltW_irrefl x)
      · exact e
    · rcases List.mem_cons.1 ((h x).2 (by simp [hx])) with e | e
      · subst e; exact absurd (hb x hx) (ltW_irrefl x)
      · exact e

end Go.Proofs.YtoajffhlbogdaaaGreat
end

section
namespace Go.Proofs.YtoajffhlbogdaaaGreat
open Go Go.AM
set_option maxRecDepth 100000
set_option linter.unusedSimpArgs false


end Go.Proofs.YtoajffhlbogdaaaGreat
end

section
namespace Go.Proofs.YtoajffhlbogdaaaGreat
open Go Go.AM
set_option maxRecDepth 100000
set_option linter.unusedSimpArgs false

theorem size_str (l : List (List UInt8)) : sizeOK (l.map .str) 1 := fun x hx => by
  obtain ⟨b, _, rfl⟩ := List.mem_map.1 hx
  rfl
theorem one_str (l : List (List UInt8)) : oneOK (l.map .str) := fun x hx c hc => by
  obtain ⟨b, _, rfl⟩ := List.mem_map.1 hx
  have : c = .str b := by simpa [PV.cells] using hc
  subst this; rfl

theorem c22 {h : List AObj} (ws : List (List UInt8)) (hl : ws.length ≤ 1000000) :
    AC Tryz.prog 106 [.p (.sl (ws.map .str))] h [] (fun v h' => (ws = [] ∧ v = .full [] ∧ h' = h) ∨ (∃ rk, rk ≠ .raw ∧ (ws ≠ [] → rk = .own) ∧ v = .own h.length ws.length ∧ h' = h ++ [.row 9 1 (ws.map .str) rk])) := by
  refine AC.of_bodyE hΓ Tryz.func106 (by kernel_rfl) rfl (AWp.mono (Q := fun e st => AM.Ends e ∧ ((ws = [] ∧ st.tmps.getD 2 .junk = .full [] ∧ st.h = h) ∨ (∃ rk, rk ≠ .raw ∧ (ws ≠ [] → rk = .own) ∧ st.tmps.getD 2 .junk = .own h.length ws.length ∧ st.h = h ++ [.row 9 1 (ws.map .str) rk]))) ?_ ?_)
  rotate_left
  · rintro e ⟨tm, h'⟩ ⟨he, ⟨hw, h1, h2⟩ | ⟨rk, hr, hr2, h1, h2⟩⟩
    · simp only at h1 h2
      subst h2
      refine ⟨he, _, Less.refl _, ?_⟩
      unfold DoneE
      simp +contextual -implicitDefEqProofs only [Tryz.results106, h1, go_sem]
      exact ⟨_, Nat.le_refl _, .inl rfl, .inl ⟨hw, List.take_length⟩⟩
    · simp only at h1 h2
      subst h2
      refine ⟨he, _, Less.refl _, ?_⟩
      unfold DoneE
      simp +contextual -implicitDefEqProofs only [Tryz.results106, h1, go_sem]
      exact ⟨h.length + 1, by omega, .inl (by simp), .inr ⟨rk, hr, hr2, List.take_of_length_le (by simp)⟩⟩
  refine AWp.of_awpD [] hΓ hmix (by kernel_rfl) ?_
  cases ws with
  | nil =>
    simp -implicitDefEqProofs only [Tryz.ntmps106, Nat.reduceAdd, Nat.reduceSub, go_sem]
    exact ⟨⟨by simp [sizeOK], by omega⟩, ⟨by simp [sizeOK], by simp [oneOK]⟩, ⟨by simp [sizeOK], by omega, by omega⟩, .inr ⟨.lax, by simp, rfl⟩⟩
  | cons x l =>
    simp -implicitDefEqProofs only [Tryz.ntmps106, Nat.reduceAdd, Nat.reduceSub, go_sem]
    have h1 := size_str (x :: l)
    have h2 := one_str (x :: l)
    simp only [List.map_cons] at h1 h2
    simp only [List.length_cons] at hl
    exact ⟨⟨by simp [sizeOK], by omega⟩, ⟨h1, h2⟩, ⟨by simp [sizeOK], by omega, by omega⟩, .inr ⟨.own, by simp, rfl, rfl⟩⟩
end Go.Proofs.YtoajffhlbogdaaaGreat
end

section
namespace Go.Proofs.YtoajffhlbogdaaaGreat
open Go Go.AM
set_option maxRecDepth 100000
set_option linter.unusedSimpArgs false

/-- The words of a code that is made. -/
def made (l : List (List UInt8)) : List (List UInt8) := Lib.compact (sortW l)
theorem made_le (l : List (List UInt8)) : (made l).length ≤ l.length := by
  have := compact_le (sortW l)
  rw [sortW_length] at this
  exact this

theorem compact_nil : Lib.compact ([] : List (List UInt8)) = [] := by
  have := compact_le []
  exact List.length_eq_zero_iff.1 (by simpa using this)
theorem made_nil : made [] = [] := by
  have := made_le []
  exact List.length_eq_zero_iff.1 (by simpa using this)

theorem c83f {g : FuncId} {h : List AObj} : AC Tryz.prog 60 [.full [], .fn g []] h [] (fun v h' => v = .tup [] ∧ h' = h) := by
  refine ⟨entersF_of Tryz.func60 (by kernel_rfl) rfl, fun X I μ ob w cargs R hlen hargs _ => ?_⟩
  obtain ⟨a0, f0, rfl⟩ : ∃ a f, cargs = [a, f] := by
    match cargs, hlen with
    | [a, f], _ => exact ⟨a, f, rfl⟩
  have g0 := hargs 0 (by simp)
  simp only [List.getD_cons_zero] at g0
  obtain ⟨a, rfl⟩ : ∃ a, a0 = .slice a 0 0 := by
    cases g0 with
    | full l a hp => exact ⟨a, rfl⟩
  have hc : Calls Tryz.prog 60 #[.slice a 0 0, f0] w fun e w' => e = .returned (.tuple #[]) ∧ w' = w := AnyF.slices_SortFunc_none (ρ := Tryz.sortS_ren) { Tryz.sortS with } a 0 f0 w
  refine Calls.mono (P := Tryz.prog) hc ?_
  rintro e w' ⟨rfl, rfl⟩
  exact ⟨_, .tup [], _, I, μ, ob, rfl, R, .tup [] [] rfl (by simp), fun _ h => h, fun _ _ _ => rfl, Nat.le_refl _, fun g hg => .inl hg, fun b g hb => .inl ⟨b, hb⟩, fun k hk hno => rfl, rfl, rfl⟩
theorem c107f {h : List AObj} : AC Tryz.prog 107 [.full []] h [] (fun v h' => v = .full [] ∧ h' = h) := by
  refine ⟨entersF_of Tryz.func107 (by kernel_rfl) rfl, fun X I μ ob w cargs R hlen hargs _ => ?_⟩
  obtain ⟨a0, rfl⟩ : ∃ a, cargs = [a] := by
    match cargs, hlen with
    | [a], _ => exact ⟨a, rfl⟩
  have g0 := hargs 0 (by simp)
  simp only [List.getD_cons_zero] at g0
  have g1 := g0
  obtain ⟨a, rfl⟩ : ∃ a, a0 = .slice a 0 0 := by
    cases g0 with
    | full l a hp => exact ⟨a, rfl⟩
  have hc : Calls Tryz.prog 107 #[.slice a 0 0] w fun e w' => e = .returned (.slice a 0 0) ∧ w' = w := AnyG.slices_Compact_string_empty (ρ := Tryz.compS_ren) Tryz.compS a 0 w
  refine Calls.mono (P := Tryz.prog) hc ?_
  rintro e w' ⟨rfl, rfl⟩
  exact ⟨_, .full [], _, I, μ, ob, rfl, R, g1, fun _ h => h, fun _ _ _ => rfl, Nat.le_refl _, fun g hg => .inl hg, fun b g hb => .inl ⟨b, hb⟩, fun k hk hno => rfl, rfl, rfl⟩

theorem c94 {h : List AObj} (hK : h.map (AObj.kill h.length) = h) (ws : List (List UInt8)) (hl : ws.length ≤ 1000000) :
    AC Tryz.prog 100 [.p (.sl (ws.map .str)), .fn 20 []] h [] (fun v h' => (ws = [] ∧ v = .full [] ∧ h' = h) ∨ (∃ rk, rk ≠ .raw ∧ v = .own h.length (made ws).length ∧ h' = h ++ [.row 9 1 ((made ws).map .str) rk])) := by
  refine AC.of_bodyE hΓ Tryz.func100 (by kernel_rfl) rfl (AWp.mono (Q := fun e st => AM.Ends e ∧ ((ws = [] ∧ st.tmps.getD 4 .junk = .full [] ∧ st.h = h) ∨ (∃ rk, rk ≠ .raw ∧ st.tmps.getD 4 .junk = .own h.length (made ws).length ∧ st.h = h ++ [.row 9 1 ((made ws).map .str) rk]))) ?_ ?_)
  rotate_left
  · rintro e ⟨tm, h'⟩ ⟨he, ⟨hw, h1, h2⟩ | ⟨rk, hr, h1, h2⟩⟩
    · simp only at h1 h2
      subst h2
      refine ⟨he, _, Less.refl _, ?_⟩
      unfold DoneE
      simp +contextual -implicitDefEqProofs only [Tryz.results100, h1, go_sem]
      exact ⟨_, Nat.le_refl _, .inl rfl, .inl ⟨hw, List.take_length⟩⟩
    · simp only at h1 h2
      subst h2
      refine ⟨he, _, Less.refl _, ?_⟩
      unfold DoneE
      simp +contextual -implicitDefEqProofs only [Tryz.results100, h1, go_sem]
      exact ⟨h.length + 1, by omega, .inl (by simp), .inr ⟨rk, hr, List.take_of_length_le (by simp)⟩⟩
  refine AWp.of_awpD [] hΓ hmix (by kernel_rfl) ?_
  simp -implicitDefEqProofs only [Tryz.ntmps100, Nat.reduceAdd, Nat.reduceSub, go_sem]
  refine callK_ac (c22 ws hl) (by simp) ?_
  have gL : ∀ o : AObj, (h ++ [o])[h.length]? = some o := fun o => by simp
  rintro v h' (⟨rfl, rfl, rfl⟩ | ⟨rk, hr, hr2, rfl, rfl⟩)
  · simp -implicitDefEqProofs only [killAll, List.foldl, go_sem]
    refine callK_ac c83f (by simp) ?_
    rintro v h' ⟨rfl, rfl⟩
    simp -implicitDefEqProofs only [killAll, List.foldl, go_sem]
    refine callK_ac c107f (by simp) ?_
    rintro v h' ⟨rfl, rfl⟩
    simp -implicitDefEqProofs only [killAll, List.foldl, go_sem]
  · simp -implicitDefEqProofs only [killAll, List.foldl, go_sem]
    by_cases h0 : ws = []
    · subst h0
      refine callK_ac (c83n (b := h.length)) (by simp) ?_
      rintro v h' ⟨rfl, rfl⟩
      simp -implicitDefEqProofs only [killAll, List.foldl, go_sem]
      refine callK_ac (c107n (b := h.length)) (by simp) ?_
      rintro v h' ⟨rfl, rfl⟩
      simp -implicitDefEqProofs only [killAll, List.foldl, go_sem]
      exact .inr ⟨rk, hr, by rw [made_nil]; rfl, by rw [made_nil]; rfl⟩
    · have hrk := hr2 h0
      subst hrk
      have sL : ∀ o o' : AObj, (h ++ [o]).set h.length o' = h ++ [o'] := fun o o' => by simp
      refine callK_ac (c83b ws (gL _) hl) (by simp) ?_
      rintro v h' ⟨rfl, rfl⟩
      simp -implicitDefEqProofs only [killAll, List.foldl, sL, go_sem]
      have hsl := sortW_length ws
      rw [← hsl]
      refine callK_ac (c107 (sortW ws) (gL _) (by omega)) (by simp) ?_
      rintro v h' ⟨rfl, rfl⟩
      simp -implicitDefEqProofs only [killAll, List.foldl, sL, go_sem]
      exact .inr ⟨.own, by simp, rfl, by rw [List.map_append, hK]; simp [AObj.kill, made]⟩

theorem t71 (q : Int) (ws : List (List UInt8)) (hl : ws.length ≤ 1000000) : PFn Tryz.prog 82 [.int .i64 q, .sl (ws.map .str)] [if codeCheck q (made ws) = 0 then codeV q (made ws) else codeV 0 [], .int .i64 (codeCheck q (made ws))] := by
  refine PFn.of_body hΓ Tryz.func82 (by kernel_rfl) rfl (AWp.of_awpD [] hΓ hmix (by kernel_rfl) ?_)
  simp +contextual -implicitDefEqProofs only [codeV, Tryz.ntmps82, Tryz.results82, Nat.reduceAdd, Nat.reduceSub, go_sem]
  refine callK_ac (c94 rfl ws hl) (by simp) ?_
  rintro v h' (⟨rfl, rfl, rfl⟩ | ⟨rk, hr, rfl, rfl⟩)
  · rw [made_nil]
    simp -implicitDefEqProofs only [killAll, List.foldl, go_sem]
    refine ⟨by omega, ?_⟩
    refine callK_fn (t45 q []) (.still rfl) ?_
    by_cases hc : codeCheck q [] = 0
    · rw [hc]
      simp -implicitDefEqProofs only [go_sem]
    · simp -implicitDefEqProofs only [hc, go_sem]
  · simp -implicitDefEqProofs only [killAll, List.foldl, go_sem]
    refine ⟨by omega, ?_⟩
    refine callK_fn (t45 q (made ws)) (.owned rfl rfl) ?_
    by_cases hc : codeCheck q (made ws) = 0
    · rw [hc]
      simp -implicitDefEqProofs only [go_sem]
    · simp -implicitDefEqProofs only [hc, go_sem]
end Go.Proofs.YtoajffhlbogdaaaGreat
end

section
namespace Go.Proofs.YtoajffhlbogdaaaGreat
open Go Go.AM
set_option maxRecDepth 100000
set_option linter.unusedSimpArgs false

/-- No word has another one as a part. -/
def aloneTo (pr : List UInt8 → List UInt8 → Bool) (ws : List (List UInt8)) (i n : Nat) : Bool := (List.range n).all fun k => decide (i = k) || !pr (ws.getD i []) (ws.getD k [])
def aloneN (pr : List UInt8 → List UInt8 → Bool) (ws : List (List UInt8)) (n : Nat) : Bool := (List.range n).all fun i => aloneTo pr ws i ws.length
def aloneB (pr : List UInt8 → List UInt8 → Bool) (ws : List (List UInt8)) : Bool := aloneN pr ws ws.length

theorem aloneTo_succ (pr : List UInt8 → List UInt8 → Bool) (ws : List (List UInt8)) (i n : Nat) : aloneTo pr ws i (n + 1) = (aloneTo pr ws i n && (decide (i = n) || !pr (ws.getD i []) (ws.getD n []))) := by
  unfold aloneTo; rw [List.range_succ, List.all_append]; simp
theorem aloneN_succ (pr : List UInt8 → List UInt8 → Bool) (ws : List (List UInt8)) (n : Nat) : aloneN pr ws (n + 1) = (aloneN pr ws n && aloneTo pr ws n ws.length) := by
  unfold aloneN; rw [List.range_succ, List.all_append]; simp
theorem alone_bad {pr : List UInt8 → List UInt8 → Bool} {ws : List (List UInt8)} {i k : Nat} (hi : i < ws.length) (hk : k < ws.length) (hne : i ≠ k) (hp : pr (ws.getD i []) (ws.getD k []) = true) : aloneB pr ws = false := by
  unfold aloneB aloneN aloneTo
  rw [Bool.eq_false_iff]
  intro h
  have h1 := List.all_eq_true.1 h i (List.mem_range.2 hi)
  have h2 := List.all_eq_true.1 h1 k (List.mem_range.2 hk)
  rw [hp] at h2
  simp [hne] at h2

theorem c68 {g : FuncId} {pr : List UInt8 → List UInt8 → Bool} (q : Int) (ws : List (List UInt8)) (hg : ∀ x y : List UInt8, x.length ≤ 9223372036854775807 → PFn Tryz.prog g [.str x, .str y] [.bool (pr x y)]) :
    AC Tryz.prog 46 [.agg [.p (.int .i64 q), .p (.sl (ws.map .str))], .fn g []] [codeB q ws] [] (fun v h' => v = .tup [.p (.bool (if codeCheck q ws = 0 then aloneB pr ws else false)), .p (.int .i64 (if codeCheck q ws = 0 then 0 else 1))] ∧ h' = [codeB q ws]) := by
  refine AC.of_bodyE hΓ Tryz.func46 (by kernel_rfl) rfl (AWp.mono (Q := fun e st => AM.Ends e ∧ st.tmps.getD 4 .junk = .p (.bool (if codeCheck q ws = 0 then aloneB pr ws else false)) ∧ st.tmps.getD 5 .junk = .p (.int .i64 (if codeCheck q ws = 0 then 0 else 1)) ∧ st.h = [codeB q ws, codeB q ws]) ?_ ?_)
  rotate_left
  · rintro e ⟨tm, h'⟩ ⟨he, h1, h2, h3⟩
    simp only at h1 h2 h3
    subst h3
    refine ⟨he, _, Less.refl _, ?_⟩
    unfold DoneE
    simp +contextual -implicitDefEqProofs only [Tryz.results46, h1, h2, go_sem]
    exact ⟨1, by omega, .inr ⟨rfl, rfl, by simp⟩, rfl⟩
  refine AWp.of_awpD [] hΓ hmix (by kernel_rfl) ?_
  simp -implicitDefEqProofs only [Tryz.ntmps46, Nat.reduceAdd, Nat.reduceSub, codeB, go_sem]
  refine callK_fn (t45 q ws) (.still rfl) ?_
  by_cases h : codeCheck q ws = 0
  · have hv := valid_of h
    have hws := hv.len
    rw [h]
    simp -implicitDefEqProofs only [go_sem]
    refine AWp.loopI (fun i : Nat => ⟨mkF 40 [(1, .fn g []), (2, .ptr 1 0), (14, .p (.sl (ws.map .str))), (15, .p (.int .i64 ws.length)), (16, .p (.int .i64 i))], [codeB q ws, codeB q ws]⟩)
      (fun i => i ≤ ws.length ∧ aloneN pr ws i = true) (fun i => ws.length - i) 0 (by simp [go_sem, codeB]) ⟨by omega, rfl⟩ ?_
    rintro i ⟨hi, hal⟩
    refine AWp.of_awpD [] hΓ hmix (by kernel_rfl) ?_
    by_cases hlt : i < ws.length
    · simp -implicitDefEqProofs only [hlt, getD_map_lt, ↓reduceIte, codeB, go_sem]
      refine AWp.loopI (fun k : Nat => ⟨mkF 40 [(1, .fn g []), (2, .ptr 1 0), (6, .p (.int .i64 i)), (7, .p (.str ws[i])), (14, .p (.sl (ws.map .str))), (15, .p (.int .i64 ws.length)), (16, .p (.int .i64 i)), (22, .p (.sl (ws.map .str))), (23, .p (.int .i64 ws.length)), (24, .p (.int .i64 k))], [codeB q ws, codeB q ws]⟩)
        (fun k => k ≤ ws.length ∧ aloneTo pr ws i k = true) (fun k => ws.length - k) 0 (by simp [go_sem, codeB]) ⟨by omega, rfl⟩ ?_
      rintro k ⟨hk, hal2⟩
      refine AWp.of_awpD [] hΓ hmix (by kernel_rfl) ?_
      have hwi : ws.getD i [] = ws[i] := by rw [List.getD_eq_getElem?_getD, List.getElem?_eq_getElem hlt, Option.getD_some]
      by_cases hlt2 : k < ws.length
      · have hwk : ws.getD k [] = ws[k] := by rw [List.getD_eq_getElem?_getD, List.getElem?_eq_getElem hlt2, Option.getD_some]
        by_cases he : (i : Int) = k
        · simp -implicitDefEqProofs only [hlt2, he, getD_map_lt, ↓reduceIte, codeB, go_sem]
          refine ⟨by simp only [InR]; omega, k + 1, by omega, ⟨hlt2, ?_⟩, by omega⟩
          rw [aloneTo_succ, hal2, decide_eq_true (by omega)]; rfl
        · simp -implicitDefEqProofs only [hlt2, he, getD_map_lt, ↓reduceIte, codeB, go_sem]
          refine callK_fn (hg ws[i] ws[k] (by have := hv.short i hlt; rw [hwi] at this; omega)) (.pures rfl) ?_
          cases hp : pr ws[i] ws[k]
          · simp -implicitDefEqProofs only [go_sem]
            refine ⟨by simp only [InR]; omega, k + 1, by omega, ⟨hlt2, ?_⟩, by omega⟩
            rw [aloneTo_succ, hal2, hwi, hwk, hp]; simp
          · simp -implicitDefEqProofs only [go_sem]
            rw [alone_bad hlt hlt2 (by omega) (by rw [hwi, hwk]; exact hp)]
      · simp -implicitDefEqProofs only [hlt2, codeB, go_sem]
        refine ⟨by simp only [InR]; omega, i + 1, by omega, ⟨hlt, ?_⟩, by omega⟩
        rw [aloneN_succ, hal, show ws.length = k by omega, hal2]; rfl
    · simp -implicitDefEqProofs only [hlt, codeB, go_sem]
      rw [show i = ws.length by omega] at hal; exact hal.symm
  · simp -implicitDefEqProofs only [h, go_sem]

theorem t38 (q : Int) (ws : List (List UInt8)) : PFn Tryz.prog 28 [codeV q ws] [.bool (if codeCheck q ws = 0 then aloneB (fun w x => x.isPrefixOf w) ws else false), .int .i64 (if codeCheck q ws = 0 then 0 else 1)] := by
  refine PFn.of_body hΓ Tryz.func28 (by kernel_rfl) rfl (AWp.of_awpD [] hΓ hmix (by kernel_rfl) ?_)
  simp +contextual -implicitDefEqProofs only [codeV, Tryz.ntmps28, Tryz.results28, Nat.reduceAdd, Nat.reduceSub, go_sem]
  refine callK_ac (c68 q ws fun x y _ => t69 x y) (by simp) ?_
  rintro v h' ⟨rfl, rfl⟩
  simp -implicitDefEqProofs only [killAll, List.foldl, codeB, go_sem]
end Go.Proofs.YtoajffhlbogdaaaGreat
end

section
namespace Go.Proofs.YtoajffhlbogdaaaGreat
open Go Go.AM
set_option maxRecDepth 100000
set_option linter.unusedSimpArgs false

theorem compactTo_strict {d : List (List UInt8)} (hs : d.Pairwise fun a b => ¬ ltW b a) : ∀ m, m ≤ d.length →
    (Lib.compactUpTo d.toArray m).Pairwise ltW ∧ (∀ x, x ∈ Lib.compactUpTo d.toArray m ↔ x ∈ d.take m)
  | 0, _ => by simp [Lib.compactUpTo]
  | m + 1, hm => by
    obtain ⟨h1, h2⟩ := compactTo_strict hs m (by omega)
    have hml : m < d.length := hm
    have get : ∀ j (h : j < d.length), d.toArray[j]! = d[j] := fun j h => by rw [getElem!_pos d.toArray j (by simpa using h)]; simp
    have hle : ∀ i j (hi : i < d.length) (hj : j < d.length), i ≤ j → ¬ ltW d[j] d[i] := fun i j hi hj hij => by
      by_cases e : i = j
      · subst e; exact ltW_irrefl _
      · exact List.pairwise_iff_getElem.1 hs i j hi hj (by omega)
    rw [Lib.compactUpTo_succ, List.take_succ_eq_append_getElem hml, get m hml]
    by_cases hk : Lib.keeps d.toArray m = true
    · rw [if_pos hk]
      refine ⟨List.pairwise_append.2 ⟨h1, by simp, fun x hx y hy => ?_⟩, fun x => ?_⟩
      · rw [List.mem_singleton] at hy; subst hy
        obtain ⟨j, hj, rfl⟩ := List.mem_take_iff_getElem.1 ((h2 x).1 hx)
        have hjm : j < m := by omega
        apply Classical.byContradiction
        intro hno
        have e : d[j] = d[m] := ltW_total hno (hle j m (by omega) hml (by omega))
        have e2 : d[m - 1] = d[m] := ltW_total (by rw [← e]; exact hle j (m - 1) (by omega) (by omega) (by omega)) (hle (m - 1) m (by omega) hml (by omega))
        have := Lib.keeps_neg (d := d.toArray) (m := m) (by omega) (by rw [get m hml, get (m - 1) (by omega), e2])
        rw [this] at hk; cases hk
      · simp only [List.mem_append, h2 x]
    · rw [if_neg hk, List.append_nil]
      refine ⟨h1, fun x => ?_⟩
      simp only [List.mem_append, h2 x, List.mem_singleton]
      refine ⟨.inl, fun h => h.elim id fun e => ?_⟩
      subst e
      have hm0 : 0 < m := by
        rcases Nat.eq_zero_or_pos m with h | h
        · subst h; exact absurd (Lib.keeps_lt_one _ 0 (by omega)) hk
        · exact h
      have e : d[m] = d[m - 1] := by
        apply Classical.byContradiction
        intro hne
        exact hk (Lib.keeps_pos (by rw [get m hml, get (m - 1) (by omega)]; exact hne))
      rw [e]
      exact List.mem_take_iff_getElem.2 ⟨m - 1, by omega, rfl⟩

theorem made_strict (l : List (List UInt8)) : (made l).Pairwise ltW := by
  have := (compactTo_strict (sortW_sorted l) (sortW l).length (Nat.le_refl _)).1
  exact this
theorem mem_made {l : List (List UInt8)} {x : List UInt8} : x ∈ made l ↔ x ∈ l := by
  have := (compactTo_strict (sortW_sorted l) (sortW l).length (Nat.le_refl _)).2 x
  rw [List.take_length, mem_sortW] at this
  exact this
theorem made_of {l m : List (List UInt8)} (hm : m.Pairwise ltW) (h : ∀ x, x ∈ l ↔ x ∈ m) : made l = m := strict_unique (made_strict l) hm fun x => mem_made.trans (h x)

theorem check_of {q : Int} {vs : List (List UInt8)} (h2 : 2 ≤ q) (h16 : q ≤ 16) (hne : vs ≠ []) (hlen : vs.length ≤ 64) (hw : ∀ x ∈ vs, x ≠ [] ∧ x.length ≤ 32 ∧ wordCheck q x = 0) (hs : vs.Pairwise ltW) : codeCheck q vs = 0 := by
  refine codeCheck_0 (by omega) (fun h => hne (List.length_eq_zero_iff.1 h)) (by omega) fun j hj => ?_
  obtain ⟨h3, h4, h5⟩ := hw _ (getD_in hj)
  unfold wordErr
  simp only
  rw [if_neg h3, if_neg (by omega), if_neg (by simpa using h5), if_neg]
  rintro ⟨hj0, hc⟩
  have h6 : ltW (vs.getD (j - 1) []) (vs.getD j []) := by
    have := List.pairwise_iff_getElem.1 hs (j - 1) j (by omega) hj (by omega)
    rwa [List.getD_eq_getElem?_getD, List.getElem?_eq_getElem (by omega), Option.getD_some, List.getD_eq_getElem?_getD, List.getElem?_eq_getElem hj, Option.getD_some]
  have := (ltW_iff _ _).2 h6
  omega

theorem Valid.words {q : Int} {ws : List (List UInt8)} (hv : Valid q ws) : ∀ x ∈ ws, x ≠ [] ∧ x.length ≤ 32 ∧ wordCheck q x = 0 := fun x hx => by
  obtain ⟨j, hj, rfl⟩ := List.getElem_of_mem hx
  have h1 := hv.ne j hj
  have h2 := hv.short j hj
  have h3 := hv.word j hj
  rw [List.getD_eq_getElem?_getD, List.getElem?_eq_getElem hj, Option.getD_some] at h1 h2 h3
  exact ⟨h1, h2, h3⟩
end Go.Proofs.YtoajffhlbogdaaaGreat
end

section
namespace Go.Proofs.YtoajffhlbogdaaaGreat
open Go Go.AM
set_option maxRecDepth 100000
set_option linter.unusedSimpArgs false

end Go.Proofs.YtoajffhlbogdaaaGreat
end

section
namespace Go.Proofs.YtoajffhlbogdaaaGreat
open Go Go.AM
set_option linter.unusedSimpArgs false

theorem nodup_at {α : Type} {l : List α} (hd : l.Nodup) {i j : Nat} (hi : i < l.length) (hj : j < l.length) (h : l[i] = l[j]) : i = j := by
  rcases Nat.lt_trichotomy i j with g | g | g
  · exact absurd h (List.pairwise_iff_getElem.1 hd i j hi hj g)
  · exact g
  · exact absurd h.symm (List.pairwise_iff_getElem.1 hd j i hj hi g)
/-! Maps whose values follow from the keys. -/
def entF (f : List UInt8 → PV) (k : List UInt8) : List UInt8 × PV := (k, f k)
theorem midxF (f : List UInt8 → PV) (k : List UInt8) : ∀ ks : List (List UInt8), (k ∉ ks → midx k (ks.map (entF f)) = none) ∧ (k ∈ ks → ∃ j, midx k (ks.map (entF f)) = some j ∧ ∃ h : j < ks.length, ks[j] = k)
  | [] => ⟨fun _ => rfl, fun h => by cases h⟩
  | a :: ks => by
    obtain ⟨h1, h2⟩ := midxF f k ks
    constructor
    · intro h
      simp only [List.mem_cons, not_or] at h
      rw [List.map_cons]; unfold midx; rw [if_neg (show ¬ k = (entF f a).1 from h.1)]
      rw [h1 h.2]; rfl
    · intro h
      by_cases e : k = a
      · exact ⟨0, by simp [midx, entF, e], by simp, e.symm⟩
      · simp only [List.mem_cons, e, false_or] at h
        obtain ⟨j, h3, h4, h5⟩ := h2 h
        refine ⟨j + 1, ?_, by simpa using h4, by simpa using h5⟩
        rw [List.map_cons]; unfold midx; rw [if_neg (show ¬ k = (entF f a).1 from e)]
        rw [h3]; rfl
theorem mgetF (f : List UInt8 → PV) (k : List UInt8) (ks : List (List UInt8)) : mget k (ks.map (entF f)) = if k ∈ ks then some (f k) else none := by
  unfold mget
  by_cases h : k ∈ ks
  · obtain ⟨j, h1, h2, h3⟩ := (midxF f k ks).2 h
    rw [h1, if_pos h]
    simp only [Option.map_some, List.getD_eq_getElem?_getD, List.getElem?_map, List.getElem?_eq_getElem h2, Option.map_some, Option.getD_some, entF, h3]
  · rw [(midxF f k ks).1 h, if_neg h]; rfl
theorem msetF_new {f : List UInt8 → PV} {k : List UInt8} {ks : List (List UInt8)} {v : PV} (h : k ∉ ks) (hv : v = f k) : mset k v (ks.map (entF f)) = (ks ++ [k]).map (entF f) := by
  unfold mset
  rw [(midxF f k ks).1 h, hv]; simp [entF]
theorem msetF_old {f g : List UInt8 → PV} {k : List UInt8} {ks : List (List UInt8)} (hd : ks.Nodup) (h : k ∈ ks) (hg : ∀ x ∈ ks, x ≠ k → g x = f x) : mset k (g k) (ks.map (entF f)) = ks.map (entF g) := by
  unfold mset
  obtain ⟨j, h1, h2, h3⟩ := (midxF f k ks).2 h
  rw [h1]
  apply List.ext_getElem (by simp)
  intro i hi hi2
  simp only [List.length_map] at hi2
  simp only [List.getElem_set, List.getElem_map]
  by_cases e : j = i
  · subst e; rw [if_pos rfl, h3]; rfl
  · rw [if_neg e]
    unfold entF
    rw [hg _ (List.getElem_mem hi2) (fun e2 => e (nodup_at hd h2 hi2 (h3.trans e2.symm)))]

/-! Words, each once, in the order of their coming. -/
def addK (ks : List (List UInt8)) (k : List UInt8) : List (List UInt8) := if k ∈ ks then ks else ks ++ [k]
def keysOf (l : List (List UInt8)) : List (List UInt8) := l.foldl addK []
theorem keysOf_snoc (l : List (List UInt8)) (k : List UInt8) : keysOf (l ++ [k]) = addK (keysOf l) k := by unfold keysOf; rw [List.foldl_append]; rfl
theorem keysOf_all : ∀ l : List (List UInt8), (∀ k, k ∈ keysOf l ↔ k ∈ l) ∧ (keysOf l).Nodup ∧ (keysOf l).length ≤ l.length := by
  intro l
  induction hn : l.length generalizing l with
  | zero =>
    have : l = [] := List.length_eq_zero_iff.1 hn
    subst this; simp [keysOf]
  | succ n ih =>
    obtain ⟨m, x, rfl⟩ : ∃ m x, l = m ++ [x] := by
      refine ⟨l.dropLast, l.getLast (fun e => by rw [e] at hn; cases hn), (List.dropLast_concat_getLast _).symm⟩
    simp only [List.length_append, List.length_singleton, Nat.add_right_cancel_iff] at hn
    obtain ⟨h1, h2, h3⟩ := ih m hn
    rw [keysOf_snoc]
    unfold addK
    by_cases hx : x ∈ keysOf m
    · rw [if_pos hx]
      refine ⟨fun k => ?_, h2, by omega⟩
      rw [List.mem_append, h1 k, List.mem_singleton]
      exact ⟨.inl, fun h => h.elim id fun e => by subst e; exact (h1 _).1 hx⟩
    · rw [if_neg hx]
      refine ⟨fun k => ?_, ?_, by simp only [List.length_append, List.length_singleton]; omega⟩
      · simp only [List.mem_append, h1 k, List.mem_singleton]
      · rw [List.nodup_append]
        exact ⟨h2, by simp, fun a ha b hb e => by
          rw [List.mem_singleton] at hb; subst hb; subst e; exact hx ha⟩
theorem mem_keysOf {l : List (List UInt8)} {k : List UInt8} : k ∈ keysOf l ↔ k ∈ l := (keysOf_all l).1 k
theorem keysOf_nodup (l : List (List UInt8)) : (keysOf l).Nodup := (keysOf_all l).2.1
theorem keysOf_len (l : List (List UInt8)) : (keysOf l).length ≤ l.length := (keysOf_all l).2.2
theorem keysOf_old {l : List (List UInt8)} {k : List UInt8} (h : k ∈ l) : keysOf (l ++ [k]) = keysOf l := by
  rw [keysOf_snoc]; unfold addK; rw [if_pos (mem_keysOf.2 h)]
theorem keysOf_new {l : List (List UInt8)} {k : List UInt8} (h : k ∉ l) : keysOf (l ++ [k]) = keysOf l ++ [k] := by
  rw [keysOf_snoc]; unfold addK; rw [if_neg (fun e => h (mem_keysOf.1 e))]
theorem sort_keys (l : List (List UInt8)) : sortW (keysOf l) = made l :=
  strict_unique (sortW_strict (keysOf_nodup l)) (made_strict l) fun x => by rw [mem_sortW, mem_keysOf, mem_made]

/-! Proper beginnings. -/
def inits (w : List UInt8) (n : Nat) : List (List UInt8) := (List.range n).map fun j => w.take j
theorem inits_succ (w : List UInt8) (n : Nat) : inits w (n + 1) = inits w n ++ [w.take n] := by unfold inits; rw [List.range_succ, List.map_append]; rfl
theorem inits_len (w : List UInt8) (n : Nat) : (inits w n).length = n := by simp [inits]
def propers (ws : List (List UInt8)) : List (List UInt8) := ws.flatMap fun w => inits w w.length
theorem propers_snoc (ws : List (List UInt8)) (w : List UInt8) : propers (ws ++ [w]) = propers ws ++ inits w w.length := by
  unfold propers; rw [List.flatMap_append]; simp
theorem mem_propers {ws : List (List UInt8)} {x : List UInt8} : x ∈ propers ws ↔ ∃ w ∈ ws, x <+: w ∧ x.length < w.length := by
  unfold propers inits
  simp only [List.mem_flatMap, List.mem_map, List.mem_range]
  constructor
  · rintro ⟨w, hw, j, hj, rfl⟩
    exact ⟨w, hw, List.take_prefix _ _, by rw [List.length_take]; omega⟩
  · rintro ⟨w, hw, hp, hl⟩
    exact ⟨w, hw, x.length, hl, (List.prefix_iff_eq_take.1 hp).symm⟩
theorem propers_len {ws : List (List UInt8)} {m : Nat} (h : ∀ w ∈ ws, w.length ≤ m) : (propers ws).length ≤ ws.length * m := by
  unfold propers
  induction ws with
  | nil => simp
  | cons w ws ih =>
    rw [List.flatMap_cons, List.length_append, inits_len, List.length_cons, Nat.add_mul, Nat.one_mul]
    have h1 := h w (by simp)
    have h2 := ih (fun x hx => h x (by simp [hx]))
    omega
/-- The states. -/
def prefs (ws : List (List UInt8)) : List (List UInt8) := made (propers ws)
theorem mem_prefs {ws : List (List UInt8)} {x : List UInt8} : x ∈ prefs ws ↔ ∃ w ∈ ws, x <+: w ∧ x.length < w.length := mem_made.trans mem_propers
theorem prefs_strict (ws : List (List UInt8)) : (prefs ws).Pairwise ltW := made_strict _
theorem strict_nodup {l : List (List UInt8)} (h : l.Pairwise ltW) : l.Nodup := h.imp fun h e => by subst e; exact ltW_irrefl _ h
theorem prefs_nodup (ws : List (List UInt8)) : (prefs ws).Nodup := strict_nodup (prefs_strict ws)

/-! Places. -/
def ixN {α : Type} [DecidableEq α] (w : α) : List α → Nat
  | [] => 0
  | x :: l => if x = w then 0 else ixN w l + 1
def ixW {α : Type} [DecidableEq α] (ws : List α) (w : α) : Int := if w ∈ ws then (ixN w ws : Int) else -1
theorem ixN_at {α : Type} [DecidableEq α] {w : α} : ∀ {l : List α} {k : Nat} (hk : k < l.length), (∀ j (hj : j < k), l[j] ≠ w) → l[k] = w → ixN w l = k
  | x :: l, 0, _, _, h => by unfold ixN; rw [if_pos (show x = w from h)]
  | x :: l, k + 1, hk, h0, h => by
    unfold ixN
    rw [if_neg (show ¬ x = w from h0 0 (by omega)), ixN_at (k := k) (by simpa using hk) (fun j hj => h0 (j + 1) (by omega)) h]
theorem ixN_get {α : Type} [DecidableEq α] {w : α} : ∀ {l : List α}, w ∈ l → ∃ h : ixN w l < l.length, l[ixN w l] = w
  | x :: l, h => by
    by_cases e : x = w
    · have : ixN w (x :: l) = 0 := by unfold ixN; rw [if_pos e]
      refine ⟨by rw [this]; simp, ?_⟩
      simp only [this, List.getElem_cons_zero]; exact e
    · have h' : w ∈ l := (List.mem_cons.1 h).elim (fun e2 => absurd e2.symm e) id
      obtain ⟨h1, h2⟩ := ixN_get h'
      have : ixN w (x :: l) = ixN w l + 1 := by
        show (if x = w then 0 else ixN w l + 1) = _
        rw [if_neg e]
      refine ⟨by rw [this, List.length_cons]; omega, ?_⟩
      simp only [this, List.getElem_cons_succ]; exact h2
theorem ixN_nodup {α : Type} [DecidableEq α] {l : List α} (hd : l.Nodup) {k : Nat} (hk : k < l.length) : ixN l[k] l = k :=
  ixN_at hk (fun j hj e => by have := nodup_at hd (by omega) hk e; omega) rfl
theorem ixW_in {α : Type} [DecidableEq α] {ws : List α} {w : α} (h : w ∈ ws) : ixW ws w = (ixN w ws : Int) := by unfold ixW; rw [if_pos h]
theorem ixW_no {α : Type} [DecidableEq α] {ws : List α} {w : α} (h : w ∉ ws) : ixW ws w = -1 := by unfold ixW; rw [if_neg h]
theorem ixW_ge {α : Type} [DecidableEq α] {ws : List α} {w : α} : 0 ≤ ixW ws w ↔ w ∈ ws := by
  unfold ixW; split
  · rename_i h; exact ⟨fun _ => h, fun _ => by omega⟩
  · rename_i h; exact ⟨fun h2 => by omega, fun h2 => absurd h2 h⟩
theorem ixW_lt {α : Type} [DecidableEq α] (ws : List α) (w : α) : ixW ws w < ws.length ∨ ws.length = 0 := by
  unfold ixW; split
  · rename_i h; obtain ⟨h1, _⟩ := ixN_get h; exact .inl (by omega)
  · omega

/-! Parsers as values. -/
def slI (l : List Int) : PV := .sl (l.map (.int .i64))
def psV (q : Int) (P : List (List UInt8)) (N E : List (List Int)) : PV := .agg [.int .i64 q, .sl (P.map .str), .sl (N.map slI), .sl (E.map slI)]
def nextN (ws P : List (List UInt8)) (w : List UInt8) : Int := if w ∈ ws then 0 else ixW P w
def stepW (x : List UInt8) (a : Nat) : List UInt8 := x ++ [L16.getD a 0]
def nxL (q : Nat) (ws P : List (List UInt8)) (x : List UInt8) : List Int := (List.range q).map fun a => nextN ws P (stepW x a)
def emL (q : Nat) (ws : List (List UInt8)) (x : List UInt8) : List Int := (List.range q).map fun a => ixW ws (stepW x a)
def nxP (q : Int) (ws : List (List UInt8)) : List (List Int) := (prefs ws).map (nxL q.toNat ws (prefs ws))
def emP (q : Int) (ws : List (List UInt8)) : List (List Int) := (prefs ws).map (emL q.toNat ws)
/-- The parser of a code. -/
def parV (q : Int) (ws : List (List UInt8)) : PV := psV q (prefs ws) (nxP q ws) (emP q ws)
end Go.Proofs.YtoajffhlbogdaaaGreat
end

section
namespace Go.Proofs.YtoajffhlbogdaaaGreat
open Go Go.AM
set_option maxRecDepth 100000
set_option linter.unusedSimpArgs false

theorem notin_of {α : Type} {ws : List α} {w : α} {k : Nat} (hk : ws.length ≤ k) (h0 : ∀ j (hj : j < ws.length), j < k → ws[j] ≠ w) : w ∉ ws := fun h => by
  obtain ⟨j, hj, e⟩ := List.getElem_of_mem h
  exact h0 j hj (by omega) e
theorem ixW_at {α : Type} [DecidableEq α] {ws : List α} {k : Nat} (hk : k < ws.length) {w : α} (h0 : ∀ j (hj : j < ws.length), j < k → ws[j] ≠ w) (h : ws[k] = w) : (k : Int) = ixW ws w := by
  rw [ixW_in (h ▸ List.getElem_mem hk), ixN_at hk (fun j hj => h0 j (by omega) hj) h]
theorem none_step {α : Type} {ws : List α} {k : Nat} (hk : k < ws.length) {w : α} (h0 : ∀ j (hj : j < ws.length), j < k → ws[j] ≠ w) (h : ¬ ws[k] = w) : ∀ j (hj : j < ws.length), j < k + 1 → ws[j] ≠ w := fun j hj hjk => by
  by_cases e : j = k
  · subst e; exact h
  · exact h0 j hj (by omega)

theorem p60 (ws : List (List UInt8)) (w : List UInt8) (hl : ws.length ≤ 1000000) : PFn Tryz.prog 63 [.sl (ws.map .str), .str w] [.int .i64 (ixW ws w)] := by
  refine PFn.of_body hΓ Tryz.func63 (by kernel_rfl) rfl (AWp.seq (AWp.of_awpD [] hΓ hmix (by kernel_rfl) ?_))
  simp -implicitDefEqProofs only [Tryz.ntmps63, Tryz.results63, Nat.reduceAdd, Nat.reduceSub, go_sem]
  refine AWp.of_awpD [] hΓ hmix (by kernel_rfl) ?_
  simp -implicitDefEqProofs only [List.length_map, go_sem]
  refine AWp.loopI (fun k : Nat => ⟨mkF 19 [(0, .p (.sl (ws.map .str))), (1, .p (.str w)), (7, .p (.int .i64 ws.length)), (8, .p (.int .i64 k))], []⟩)
    (fun k => k ≤ ws.length ∧ ∀ j (hj : j < ws.length), j < k → ws[j] ≠ w) (fun k => ws.length - k) 0 (by simp [go_sem]) (by simp) ?_
  rintro k ⟨hk, h0⟩
  simp -implicitDefEqProofs only [go_sem]
  refine AWp.of_awpD [] hΓ hmix (by kernel_rfl) ?_
  by_cases hlt : k < ws.length
  · by_cases he : ws[k] = w
    · simp -implicitDefEqProofs only [hlt, getD_map_lt, ↓reduceIte, List.length_map, he, go_sem]
      exact ixW_at hlt h0 he
    · have he2 : ¬ w = ws[k] := fun e => he e.symm
      simp -implicitDefEqProofs only [hlt, getD_map_lt, ↓reduceIte, List.length_map, he2, go_sem]
      exact ⟨by simp only [InR]; omega, k + 1, by simp, ⟨hlt, none_step hlt h0 he⟩, by omega⟩
  · have hz : ¬ (k : Int) < ws.length := by omega
    simp -implicitDefEqProofs only [hz, hlt, go_sem]
    exact (ixW_no (notin_of (by omega) h0)).symm

theorem p80 (l : List Int) (v : Int) (hl : l.length ≤ 1000000) : PFn Tryz.prog 45 [slI l, .int .i64 v] [.int .i64 (ixW l v)] := by
  refine PFn.of_body hΓ Tryz.func45 (by kernel_rfl) rfl (AWp.seq (AWp.of_awpD [] hΓ hmix (by kernel_rfl) ?_))
  simp -implicitDefEqProofs only [Tryz.ntmps45, Tryz.results45, Nat.reduceAdd, Nat.reduceSub, slI, go_sem]
  refine AWp.of_awpD [] hΓ hmix (by kernel_rfl) ?_
  simp -implicitDefEqProofs only [List.length_map, go_sem]
  refine AWp.loopI (fun k : Nat => ⟨mkF 19 [(0, .p (.sl (l.map (.int .i64)))), (1, .p (.int .i64 v)), (7, .p (.int .i64 l.length)), (8, .p (.int .i64 k))], []⟩)
    (fun k => k ≤ l.length ∧ ∀ j (hj : j < l.length), j < k → l[j] ≠ v) (fun k => l.length - k) 0 (by simp [go_sem]) (by simp) ?_
  rintro k ⟨hk, h0⟩
  simp -implicitDefEqProofs only [go_sem]
  refine AWp.of_awpD [] hΓ hmix (by kernel_rfl) ?_
  by_cases hlt : k < l.length
  · by_cases he : l[k] = v
    · simp -implicitDefEqProofs only [hlt, getD_map_lt, ↓reduceIte, List.length_map, he, go_sem]
      exact ixW_at hlt h0 he
    · have he2 : ¬ v = l[k] := fun e => he e.symm
      simp -implicitDefEqProofs only [hlt, getD_map_lt, ↓reduceIte, List.length_map, he2, go_sem]
      exact ⟨by simp only [InR]; omega, k + 1, by simp, ⟨hlt, none_step hlt h0 he⟩, by omega⟩
  · have hz : ¬ (k : Int) < l.length := by omega
    simp -implicitDefEqProofs only [hz, hlt, go_sem]
    exact (ixW_no (notin_of (by omega) h0)).symm

theorem p51 (l : List Int) (v : Int) (hl : l.length ≤ 1000000) : PFn Tryz.prog 27 [slI l, .int .i64 v] [.bool (decide (v ∈ l))] := by
  have e80 := p80 l v hl
  have hr : 0 ≤ ixW l v ↔ v ∈ l := ixW_ge
  generalize ixW l v = r at e80 hr
  refine PFn.of_body hΓ Tryz.func27 (by kernel_rfl) rfl (AWp.of_awpD [] hΓ hmix (by kernel_rfl) ?_)
  simp +contextual -implicitDefEqProofs only [Tryz.ntmps27, Tryz.results27, Nat.reduceAdd, Nat.reduceSub, go_sem]
  refine callK_fn e80 (.pures rfl) ?_
  simp -implicitDefEqProofs only [go_sem]
  exact decide_eq_decide.2 hr
end Go.Proofs.YtoajffhlbogdaaaGreat
end

section
namespace Go.Proofs.YtoajffhlbogdaaaGreat
open Go Go.AM Go.RowKit
set_option maxRecDepth 100000
set_option linter.unusedSimpArgs false

theorem k93 (x : ByteArray) (w : World) : Calls Tryz.prog 81 #[.string x] w fun e w' => e = .returned (.bool false) ∧ w' = w := by
  go_enter Tryz.func81, Tryz.ntmps81
  go_wp2
  go_ret
  exact ⟨by simp, rfl⟩

theorem cmp_lt {a b : ByteArray} (h : Op.bytesLess a.data.toList b.data.toList = true) : (-1 : Int) = cmpB a.data.toList b.data.toList := by
  unfold cmpB; rw [bLt_eq, h]
theorem cmp_gt {a b : ByteArray} (h : Op.bytesLess a.data.toList b.data.toList = false) (h2 : (!decide (a.data = b.data)) = true) : (1 : Int) = cmpB a.data.toList b.data.toList := by
  have : bEq a.data.toList b.data.toList = false := by
    rw [bEq_eq]
    simp at h2 ⊢
    exact h2
  unfold cmpB; rw [bLt_eq, h, this]
theorem cmp_eq {a b : ByteArray} (h : Op.bytesLess a.data.toList b.data.toList = false) (h2 : (!decide (a.data = b.data)) = false) : (0 : Int) = cmpB a.data.toList b.data.toList := by
  have : bEq a.data.toList b.data.toList = true := by
    rw [bEq_eq]
    simp at h2 ⊢
    exact h2
  unfold cmpB; rw [bLt_eq, h, this]

theorem k76 (a b : ByteArray) (w : World) : Calls Tryz.prog 62 #[.string a, .string b] w fun e w' => e = .returned (.int .i64 (cmpB a.data.toList b.data.toList)) ∧ w' = w := by
  have hc := k93
  have eg : binOp .gtr 9 (.string a) (.string b) = pure (.bool (!(Op.bytesLess a.data.toList b.data.toList || decide (a.data.toList = b.data.toList)))) := by
    rw [show binOp .gtr 9 (.string a) (.string b) = Op.stringOp .gtr a b from rfl]
    simp only [Op.stringOp, ByteArray.toList_eq, lbeq]
  have eF : ByteArray.toList a = a.data.toList := ByteArray.toList_eq a
  have eG : ByteArray.toList b = b.data.toList := ByteArray.toList_eq b
  go_enter Tryz.func62, Tryz.ntmps62
  go_wp2_with (go_at_call 81; refine (hc _ _).mono ?_; rintro e w' ⟨rfl, rfl⟩)
  all_goals go_ret
  · exact ⟨congrArg (fun n => Ending.returned (Value.int .i64 n)) (cmp_lt ‹_›), rfl⟩
  · exact ⟨congrArg (fun n => Ending.returned (Value.int .i64 n)) (cmp_gt ‹_› ‹_›), rfl⟩
  · exact ⟨congrArg (fun n => Ending.returned (Value.int .i64 n)) (cmp_eq ‹_› ‹_›), rfl⟩

theorem k73 (a b : ByteArray) (w : World) : Calls Tryz.prog 61 #[.string a, .string b] w fun e w' => e = .returned (.int .i64 (cmpK a.data.toList b.data.toList)) ∧ ∃ q os, w' = Sort.grow (w.drewN q) os := by
  have hc1 := k103
  have hc2 := k76
  have hc3 := k102
  go_enter Tryz.func61, Tryz.ntmps61
  go_wp2_with (first | (go_at_call 42; refine (hc1 _ _ _).mono ?_; rintro e w' ⟨rfl, rfl⟩) | (go_at_call 62; refine (hc2 _ _ _).mono ?_; rintro e w' ⟨rfl, rfl⟩) | (go_at_call 41; refine (hc3 _ _ _ _ _ (newCells _ _ _ _ _ rfl) (newCells _ _ _ _ _ rfl)).mono ?_; rintro e w' ⟨rfl, rfl⟩))
  all_goals go_ret
  all_goals have e1 : ∀ x : ByteArray, x.data.toList.length = x.size := fun x => by simp
  · refine ⟨congrArg (fun n => Ending.returned (Value.int .i64 n)) ?_, 0, #[_], by rw [Sort.alloc_eq_grow]; rfl⟩
    have hs : a.size = b.size := by
      rcases Nat.lt_trichotomy a.size b.size with g | g | g
      · rw [if_pos g] at h; cases h
      · exact g
      · rw [if_neg (by omega), if_pos g] at h; cases h
    unfold cmpK
    simp only [e1, hs]
    rw [if_pos (by simp), cmpB_eq]
  · refine ⟨congrArg (fun n => Ending.returned (Value.int .i64 n)) ?_, 0, #[_], by rw [Sort.alloc_eq_grow]; rfl⟩
    unfold cmpK
    simp only [e1]
    rw [if_pos (show (a.size : Int) < b.size by omega)]; rfl
  · refine ⟨congrArg (fun n => Ending.returned (Value.int .i64 n)) ?_, 0, #[_], by rw [Sort.alloc_eq_grow]; rfl⟩
    unfold cmpK
    simp only [e1]
    rw [if_neg (show ¬ (a.size : Int) < b.size by omega), if_pos (show (b.size : Int) < a.size by omega)]; rfl
theorem sort_calls73 (d : List (List UInt8)) (blk off cap : Nat) (w : World) (hH : Sort.Holds encW w blk off d.toArray) (hblk : blk < w.heap.size) (hsz : d.length < 4611686018427387904) :
    Calls Tryz.prog 60 #[.slice (some ⟨blk, off, none⟩) d.length cap, .func (.func 61) #[] #[]] w fun e w' => e = .returned (.tuple #[]) ∧ ∃ n os, w' = sortWorld encW w blk off n (sortW d).toArray os := by
  have eg : ∀ args w, (callFunc 61 args).run Tryz.prog w = .ok (.enter 61 args) w := entersF_of Tryz.func61 (by kernel_rfl) rfl
  have hcmp : CmpLays1 Tryz.prog 61 #[] encW cmpK blk off d.toArray.size w := fun m os dk _ x y => k73 ⟨x.toArray⟩ ⟨y.toArray⟩ _
  have h := Any.slices_SortFunc_total Tryz.sortS encW (fun _ => rfl) cmpK swoW 61 #[] blk off cap d.toArray w eg hcmp hH hblk (by simpa using hsz) (fun x y h1 h2 => ltW_total ((ltOf_false x y).1 h1) ((ltOf_false y x).1 h2))
  exact h
theorem c72b {h : List AObj} {b : Nat} (l : List (List UInt8)) (hb : h[b]? = some (.row 9 1 (l.map .str) .own)) (hsz : l.length ≤ 1000000) :
    AC Tryz.prog 60 [.own b l.length, .fn 61 []] h [] (fun v h' => v = .tup [] ∧ h' = h.set b (.row 9 1 ((sortW l).map .str) .own)) := c83_of sort_calls73 l hb hsz
end Go.Proofs.YtoajffhlbogdaaaGreat
end

section
namespace Go.Proofs.YtoajffhlbogdaaaGreat
open Go Go.AM
set_option maxRecDepth 100000
set_option linter.unusedSimpArgs false

def zi (_ : List UInt8) : PV := .int .i64 0
/-- A list that holds something has a row of its own. -/
def pk {α : Type} (path : List α) : RK := if path.isEmpty then .lax else .own
theorem pk_snoc {α : Type} (path : List α) (k : α) : pk (path ++ [k]) = .own := by simp [pk]
theorem pk_nil {α : Type} : pk ([] : List α) = .lax := rfl
theorem pk_raw {α : Type} (path : List α) : pk path ≠ .raw := by unfold pk; split <;> simp
theorem pk_own {α : Type} {path : List α} (h : path ≠ []) : pk path = .own := by
  unfold pk; rw [if_neg]; simpa using h
/-- Memory while the states are gathered. -/
def buH (q : Int) (ws L : List (List UInt8)) : List AObj :=
  [codeB q ws, .box [.p (.int .i64 0), .full [], .full [], .full []], .mp ((keysOf L).map (entF zi)), .box [.p (.int .i64 q), .own 4 (keysOf L).length, .full [], .full []], .row 9 1 ((keysOf L).map .str) (pk (keysOf L))]

theorem mgetZ (k : List UInt8) (L : List (List UInt8)) : (mget k ((keysOf L).map (entF zi))).isSome = decide (k ∈ L) := by
  rw [mgetF]
  by_cases h : k ∈ L
  · rw [if_pos (mem_keysOf.2 h), decide_eq_true h]; rfl
  · rw [if_neg (fun e => h (mem_keysOf.1 e)), decide_eq_false h]; rfl

def fN (P : List (List UInt8)) (i : Nat) (x : List UInt8) : PV := .int .i64 (if ixN x P < i then (ixN x P : Int) else 0)
theorem fN_zero (P : List (List UInt8)) : entF (fN P 0) = entF zi := by
  funext x; simp [entF, fN, zi]
theorem fN_set {K P : List (List UInt8)} (hK : K.Nodup) (hP : P.Nodup) (hm : ∀ x, x ∈ K ↔ x ∈ P) {i : Nat} (hi : i < P.length) : mset P[i] (.int .i64 i) (K.map (entF (fN P i))) = K.map (entF (fN P (i + 1))) := by
  have h1 := ixN_nodup hP hi
  have h2 : fN P (i + 1) P[i] = .int .i64 i := by unfold fN; rw [h1, if_pos (by omega)]
  rw [← h2]
  refine msetF_old hK ((hm _).2 (List.getElem_mem hi)) fun x hx hne => ?_
  obtain ⟨g1, g2⟩ := ixN_get ((hm x).1 hx)
  have : ixN x P ≠ i := fun e => hne (by rw [← g2]; simp only [e])
  unfold fN
  by_cases h : ixN x P < i
  · rw [if_pos h, if_pos (by omega)]
  · rw [if_neg h, if_neg (by omega)]
theorem fN_get {K P : List (List UInt8)} (hm : ∀ x, x ∈ K ↔ x ∈ P) (w : List UInt8) : mget w (K.map (entF (fN P P.length))) = if w ∈ P then some (.int .i64 (ixN w P)) else none := by
  rw [mgetF]
  by_cases h : w ∈ P
  · rw [if_pos ((hm w).2 h), if_pos h]
    unfold fN
    rw [if_pos (ixN_get h).1]
  · rw [if_neg (fun e => h ((hm w).1 e)), if_neg h]

def rngV (q j : Nat) (f : Nat → Int) : List PV := (List.range q).map fun a => .int .i64 (if a < j then f a else 0)
theorem rngV_len (q j : Nat) (f : Nat → Int) : (rngV q j f).length = q := by simp [rngV]
theorem rngV_zero (q : Nat) (f : Nat → Int) : List.replicate q (PV.int .i64 0) = rngV q 0 f := by
  unfold rngV
  apply List.ext_getElem (by simp)
  intro i h1 h2; simp
theorem rngV_set {q j : Nat} (f : Nat → Int) : (rngV q j f).set j (.int .i64 (f j)) = rngV q (j + 1) f := by
  unfold rngV
  apply List.ext_getElem (by simp)
  intro i h1 h2
  simp only [List.getElem_set, List.getElem_map, List.getElem_range]
  by_cases e : j = i
  · subst e; rw [if_pos rfl, if_pos (by omega)]
  · rw [if_neg e]
    by_cases h : i < j
    · rw [if_pos h, if_pos (by omega)]
    · rw [if_neg h, if_neg (by omega)]
theorem rngV_all (q : Nat) (f : Nat → Int) : rngV q q f = ((List.range q).map f).map (.int .i64) := by
  unfold rngV
  rw [List.map_map]
  apply List.map_congr_left
  intro a ha
  rw [if_pos (List.mem_range.1 ha)]; rfl

/-- .. while one state's steps are found. -/
def buI (qn : Nat) (ws P K : List (List UInt8)) (x : List UInt8) (i j : Nat) : List AObj :=
  [codeB qn ws, .box [.p (.int .i64 0), .full [], .full [], .full []], .mp (K.map (entF (fN P P.length))), .box [.p (.int .i64 qn), .p (.sl (P.map .str)), .own 4 i, .own 5 i],
   .row 51 1 ((P.take i).map fun x => slI (nxL qn ws P x)) .lax, .row 51 1 ((P.take i).map fun x => slI (emL qn ws x)) .lax,
   .row 3 1 (rngV qn j fun a => nextN ws P (stepW x a)) .own, .row 3 1 (rngV qn j fun a => ixW ws (stepW x a)) .own]
theorem lett_at {j : Nat} (hj : j < 16) : List.take (((j : Int) + 1).toNat - j) (List.drop j [48, 49, 50, 51, 52, 53, 54, 55, 56, 57, 97, 98, 99, 100, 101, 102]) = [L16.getD j 0] := by
  rw [show ((j : Int) + 1).toNat - j = 1 by omega]
  have : ∀ j, j < 16 → List.take 1 (List.drop j ([48, 49, 50, 51, 52, 53, 54, 55, 56, 57, 97, 98, 99, 100, 101, 102] : List UInt8)) = [L16.getD j 0] := by decide
  exact this j hj
theorem step_eq (x : List UInt8) (j : Nat) : x ++ [L16.getD j 0] = stepW x j := rfl
theorem two_and {p p' q q' A B : Prop} (hp : p) (hp' : p') (hq : q) (hq' : q') (h : A ∧ B) : (p ∧ p' ∧ A) ∧ (q ∧ q' ∧ B) := ⟨⟨hp, hp', h.1⟩, hq, hq', h.2⟩
/-- Memory while the steps are noted. -/
def buG (qn : Nat) (ws P K : List (List UInt8)) (i : Nat) : List AObj :=
  [codeB qn ws, .box [.p (.int .i64 0), .full [], .full [], .full []], .mp (K.map (entF (fN P P.length))), .box [.p (.int .i64 qn), .p (.sl (P.map .str)), .own 4 i, .own 5 i],
   .row 51 1 ((P.take i).map fun x => slI (nxL qn ws P x)) .lax, .row 51 1 ((P.take i).map fun x => slI (emL qn ws x)) .lax]

set_option maxHeartbeats 2000000 in
theorem p45 {q : Int} {ws : List (List UInt8)} (hv : Valid q ws) : PFn Tryz.prog 36 [codeV q ws] [parV q ws] := by
  have hq2 := hv.q2
  have hq16 := hv.q16
  obtain ⟨qn, rfl⟩ := Int.eq_ofNat_of_zero_le (show 0 ≤ q by omega)
  have hlen := hv.len
  have hw32 : ∀ x ∈ ws, x.length ≤ 32 := fun x hx => (hv.words x hx).2.1
  have hpl := propers_len hw32
  refine PFn.of_body hΓ Tryz.func36 (by kernel_rfl) rfl (AWp.seq (AWp.of_awpD [] hΓ hmix (by kernel_rfl) ?_))
  simp -implicitDefEqProofs only [Tryz.ntmps36, Tryz.results36, Nat.reduceAdd, Nat.reduceSub, codeV, go_sem]
  refine AWp.seq (AWp.of_awpD [] hΓ hmix (by kernel_rfl) ?_)
  simp -implicitDefEqProofs only [go_sem]
  refine AWp.seq (AWp.of_awpD [] hΓ hmix (by kernel_rfl) ?_)
  simp -implicitDefEqProofs only [go_sem]
  refine ⟨by omega, ?_⟩
  refine AWp.adoptCell (l := []) 3 1 9 1 rfl rfl (by simp) ?_
  simp -implicitDefEqProofs only [List.set_cons_zero, List.set_cons_succ, go_sem]
  refine AWp.seq (AWp.seq (AWp.of_awpD [] hΓ hmix (by kernel_rfl) ?_))
  simp -implicitDefEqProofs only [List.length_map, go_sem]
  refine AWp.block ?_
  refine AWp.mono (Q := fun e st => e = .exit 0 ∧ Weak st ⟨mkF 143 [(1, .ptr 0 0), (2, .ptr 1 0), (3, .map 2), (4, .ptr 3 0)], buH qn ws (propers ws)⟩) ?_ ?_
  · refine AWp.loopI (fun i : Nat => ⟨mkF 143 [(1, .ptr 0 0), (2, .ptr 1 0), (3, .map 2), (4, .ptr 3 0), (25, .p (.sl (ws.map .str))), (26, .p (.int .i64 ws.length)), (27, .p (.int .i64 i))], buH qn ws (propers (ws.take i))⟩)
      (fun i => i ≤ ws.length) (fun i => ws.length - i) 0 (by simp [go_sem, codeB, buH, propers, keysOf, pk]) (by simp) ?_
    intro i hi
    simp -implicitDefEqProofs only [buH, codeB, go_sem]
    refine AWp.of_awpD [] hΓ hmix (by kernel_rfl) ?_
    by_cases hlt : i < ws.length
    · have hwi := hw32 _ (List.getElem_mem hlt)
      have hpli := propers_len (ws := ws.take i) (m := 32) fun x hx => hw32 x (List.mem_of_mem_take hx)
      have htl : (ws.take i).length ≤ 64 := by rw [List.length_take]; omega
      simp -implicitDefEqProofs only [hlt, getD_map_lt, ↓reduceIte, go_sem]
      refine AWp.loopI (fun n : Nat => ⟨mkF 143 [(1, .ptr 0 0), (2, .ptr 1 0), (3, .map 2), (4, .ptr 3 0), (6, .p (.str ws[i])), (25, .p (.sl (ws.map .str))), (26, .p (.int .i64 ws.length)), (27, .p (.int .i64 i)), (32, .p (.int .i64 ws[i].length)), (33, .p (.int .i64 n))], buH qn ws (propers (ws.take i) ++ inits ws[i] n)⟩)
        (fun n => n ≤ ws[i].length) (fun n => ws[i].length - n) 0 (by simp [go_sem, codeB, buH, inits]) (by simp) ?_
      intro n hn
      simp -implicitDefEqProofs only [buH, codeB, go_sem]
      refine AWp.of_awpD [(12, 1000)] hΓ hmix (by kernel_rfl) ?_
      by_cases hlt2 : n < ws[i].length
      · have hL : propers (ws.take i) ++ inits ws[i] (n + 1) = (propers (ws.take i) ++ inits ws[i] n) ++ [ws[i].take n] := by rw [inits_succ, List.append_assoc]
        have hLl : (propers (ws.take i) ++ inits ws[i] n).length ≤ 2100 := by
          rw [List.length_append, inits_len]
          have : (ws.take i).length * 32 ≤ 64 * 32 := Nat.mul_le_mul_right _ htl
          omega
        generalize propers (ws.take i) ++ inits ws[i] n = L at hL hLl
        have hkl := keysOf_len L
        by_cases hm : ws[i].take n ∈ L
        · simp -implicitDefEqProofs only [hlt2, mgetZ, hm, go_sem]
          refine ⟨by omega, by simp only [InR]; omega, n + 1, ⟨by simp, ?_⟩, hlt2, by omega⟩
          rw [hL]
          unfold buH
          rw [keysOf_old hm]
          exact weakH_refl _
        · simp -implicitDefEqProofs only [hlt2, mgetZ, hm, go_sem]
          refine ⟨by omega, by omega, ?_⟩
          have hset : mset (ws[i].take n) (.int .i64 0) ((keysOf L).map (entF zi)) = (keysOf (L ++ [ws[i].take n])).map (entF zi) := by
            rw [keysOf_new hm]; exact msetF_new (fun e => hm (mem_keysOf.1 e)) rfl
          rw [hset]
          refine AWp.planL (.q 0 (.q 1 (.q 2 (.q 3 (.q 4 (.q 5 (.e 6 (.q 7 (.e 8 .fin .nil)) .nil))))))) hΓ hmix (by kernel_rfl) ?_
          simp -implicitDefEqProofs only [go_sem]
          refine ⟨by omega, ⟨by simp [sizeOK, PV.cells], by omega⟩, ⟨by simp [sizeOK, PV.cells], by simp [oneOK, PV.cells, PV.isAgg]⟩, ⟨pk_raw _, .inl (by omega), by omega, by omega⟩, by omega, by simp only [InR]; omega, n + 1, ⟨by simp, ?_⟩, hlt2, by omega⟩
          rw [hL]
          unfold buH
          rw [keysOf_new hm, pk_snoc]
          simp only [List.map_append, List.length_append, List.length_singleton, List.map_cons, List.map_nil, List.isEmpty_cons, Bool.false_eq_true, if_false]
          exact weakH_refl _
      · have hnl : n = ws[i].length := by omega
        have hL : propers (ws.take (i + 1)) = propers (ws.take i) ++ inits ws[i] ws[i].length := by rw [List.take_succ_eq_append_getElem hlt, propers_snoc]
        rw [hnl, ← hL]
        simp -implicitDefEqProofs only [Nat.lt_irrefl, ↓reduceIte, go_sem]
        exact ⟨by simp only [InR]; omega, i + 1, ⟨by simp, weakH_refl _⟩, hlt, by omega⟩
    · have hil : i = ws.length := by omega
      rw [hil, List.take_length]
      simp -implicitDefEqProofs only [Nat.lt_irrefl, go_sem]
      exact weakH_refl _
  rintro e st ⟨rfl, hw⟩
  show AWp _ _ _ _ _
  refine AWp.weak hw ?_
  clear hw
  have hne : keysOf (propers ws) ≠ [] := fun e => by
    have hp := hv.pos
    have : ([] : List UInt8) ∈ keysOf (propers ws) := mem_keysOf.2 (mem_propers.2 ⟨ws[0], List.getElem_mem hp, List.nil_prefix, List.length_pos_iff.2 (hv.words _ (List.getElem_mem hp)).1⟩)
    rw [e] at this; cases this
  have hkl := keysOf_len (propers ws)
  have hsl : (keysOf (propers ws)).length = (prefs ws).length := by unfold prefs; rw [← sort_keys, sortW_length]
  have hmem : ∀ x, x ∈ keysOf (propers ws) ↔ x ∈ prefs ws := fun x => by unfold prefs; rw [mem_keysOf, mem_made]
  have hKd := keysOf_nodup (propers ws)
  have e72 := c72b (h := buH qn ws (propers ws)) (b := 4) (keysOf (propers ws)) (by unfold buH; rw [pk_own hne]; rfl) (by omega)
  rw [sort_keys, hsl] at e72
  have hPd := prefs_nodup ws
  change AC Tryz.prog 60 _ _ _ (fun v h' => v = .tup [] ∧ h' = (buH qn ws (propers ws)).set 4 (.row 9 1 ((prefs ws).map .str) .own)) at e72
  unfold buH at e72 ⊢
  rw [hsl] at e72 ⊢
  generalize keysOf (propers ws) = K at *
  generalize hP : prefs ws = P at *
  simp -implicitDefEqProofs only [codeB, go_sem]
  refine AWp.seq (AWp.of_awpD [] hΓ hmix (by kernel_rfl) ?_)
  simp -implicitDefEqProofs only [go_sem]
  refine callK_ac e72 (by simp) ?_
  rintro v h' ⟨rfl, rfl⟩
  clear e72
  simp -implicitDefEqProofs only [killAll, List.foldl, List.set_cons_zero, List.set_cons_succ, codeB, go_sem]
  refine AWp.freeze 4 rfl ?_
  simp -implicitDefEqProofs only [Frozen, AV.thaw, AObj.thaw, AV.thaw.thawL, List.map_cons, List.map_nil, List.set_cons_zero, List.set_cons_succ, go_sem]
  refine AWp.trimN 4 (by simp) (by simp [AV.blw, AV.blw.blwL]) (by simp [blwH, AObj.blw, AV.blw, AV.blw.blwL]) ?_
  simp -implicitDefEqProofs only [List.take_succ_cons, List.take_zero, go_sem]
  have hPl : P.length ≤ 2100 := by
    have : ws.length * 32 ≤ 64 * 32 := Nat.mul_le_mul_right _ hlen
    omega
  refine AWp.seq (AWp.seq (AWp.of_awpD [] hΓ hmix (by kernel_rfl) ?_))
  simp -implicitDefEqProofs only [List.length_map, go_sem]
  refine AWp.block ?_
  refine AWp.mono (Q := fun e st => e = .exit 4 ∧ Weak st ⟨mkF 143 [(1, .ptr 0 0), (2, .ptr 1 0), (3, .map 2), (4, .ptr 3 0)], [codeB qn ws, .box [.p (.int .i64 0), .full [], .full [], .full []], .mp (K.map (entF (fN P P.length))), .box [.p (.int .i64 qn), .p (.sl (P.map .str)), .full [], .full []]]⟩) ?_ ?_
  · refine AWp.loopI (fun i : Nat => ⟨mkF 143 [(1, .ptr 0 0), (2, .ptr 1 0), (3, .map 2), (4, .ptr 3 0), (64, .p (.sl (P.map .str))), (65, .p (.int .i64 P.length)), (66, .p (.int .i64 i))], [codeB qn ws, .box [.p (.int .i64 0), .full [], .full [], .full []], .mp (K.map (entF (fN P i))), .box [.p (.int .i64 qn), .p (.sl (P.map .str)), .full [], .full []]]⟩)
      (fun i => i ≤ P.length) (fun i => P.length - i) 0 (by simp [go_sem, codeB, fN_zero]) (by simp) ?_
    intro i hi
    simp -implicitDefEqProofs only [codeB, go_sem]
    refine AWp.of_awpD [] hΓ hmix (by kernel_rfl) ?_
    by_cases hlt : i < P.length
    · simp -implicitDefEqProofs only [hlt, getD_map_lt, ↓reduceIte, fN_set hKd hPd hmem hlt, go_sem]
      exact ⟨by simp only [InR]; omega, i + 1, ⟨by simp, .inr rfl, rfl⟩, hlt, by omega⟩
    · have hil : i = P.length := by omega
      rw [hil]
      simp -implicitDefEqProofs only [Nat.lt_irrefl, go_sem]
      exact .inr rfl
  rintro e st ⟨rfl, hw⟩
  show AWp _ _ _ _ _
  refine AWp.weak hw ?_
  clear hw
  simp -implicitDefEqProofs only [codeB, go_sem]
  refine AWp.adoptCell (l := []) 3 2 51 1 rfl rfl (by simp) ?_
  simp -implicitDefEqProofs only [List.set_cons_zero, List.set_cons_succ, go_sem]
  refine AWp.adoptCell (l := []) 3 3 51 1 rfl rfl (by simp) ?_
  simp -implicitDefEqProofs only [List.set_cons_zero, List.set_cons_succ, go_sem]
  refine AWp.seq (AWp.seq (AWp.of_awpD [] hΓ hmix (by kernel_rfl) ?_))
  simp -implicitDefEqProofs only [List.length_map, go_sem]
  refine AWp.block ?_
  refine AWp.mono (Q := fun e st => e = .exit 6 ∧ Weak st ⟨mkF 143 [(1, .ptr 0 0), (2, .ptr 1 0), (4, .ptr 3 0)], buG qn ws P K P.length⟩) ?_ ?_
  · refine AWp.loopI (fun i : Nat => ⟨mkF 143 [(1, .ptr 0 0), (2, .ptr 1 0), (3, .map 2), (4, .ptr 3 0), (76, .p (.sl (P.map .str))), (77, .p (.int .i64 P.length)), (78, .p (.int .i64 i))], buG qn ws P K i⟩)
      (fun i => i ≤ P.length) (fun i => P.length - i) 0 (by simp [go_sem, codeB, buG]) (by simp) ?_
    intro i hi
    simp -implicitDefEqProofs only [buG, codeB, go_sem]
    refine AWp.of_awpD [(24, 1000), (36, 1000)] hΓ hmix (by kernel_rfl) ?_
    by_cases hlt : i < P.length
    · simp -implicitDefEqProofs only [hlt, getD_map_lt, ↓reduceIte, go_sem]
      refine AWp.planL (.q 0 (.q 1 (.q 3 (.q 4 (.e 2 (.s 3 (.s 4 (.q 6 (.e 5 (.s 0 (.s 1 (.s 6 (.q 7 .fin)))) .nil)))) (.e 5 (.s 0 (.s 1 (.e 2 (.s 3 (.s 4 (.q 6 (.q 7 .fin)))) .nil))) .nil)))))) hΓ hmix (by kernel_rfl) ?_
      simp -implicitDefEqProofs only [go_sem]
      have hZ1 : (rngV qn 0 fun a => nextN ws P (stepW P[i] a)) = List.replicate qn (.int .i64 0) := (rngV_zero _ _).symm
      have hZ2 : (rngV qn 0 fun a => ixW ws (stepW P[i] a)) = List.replicate qn (.int .i64 0) := (rngV_zero _ _).symm
      refine two_and ⟨by omega, by omega⟩ ⟨by omega, by omega⟩ ⟨by omega, by omega⟩ ⟨by omega, by omega⟩ (AWp.two 6 7 ⟨mkF 143 [(1, .ptr 0 0), (2, .ptr 1 0), (3, .map 2), (4, .ptr 3 0), (13, .p (.str P[i])), (14, .own 6 qn), (15, .own 7 qn), (76, .p (.sl (P.map .str))), (77, .p (.int .i64 P.length)), (78, .p (.int .i64 i)), (89, .p (.int .i64 qn)), (90, .p (.int .i64 (0 : Nat)))], buI qn ws P K P[i] i 0⟩ rfl rfl (Nat.zero_le _) (Nat.zero_le _)
        (by simp [go_sem, codeB, buI, hZ1, hZ2]) (by simp [go_sem, codeB, buI, AV.sw, AV.sw.swL, AObj.sw, swN, hZ1, hZ2]) ?_)
      clear hZ1 hZ2
      refine AWp.loopI (fun j : Nat => ⟨mkF 143 [(1, .ptr 0 0), (2, .ptr 1 0), (3, .map 2), (4, .ptr 3 0), (13, .p (.str P[i])), (14, .own 6 qn), (15, .own 7 qn), (76, .p (.sl (P.map .str))), (77, .p (.int .i64 P.length)), (78, .p (.int .i64 i)), (89, .p (.int .i64 qn)), (90, .p (.int .i64 j))], buI qn ws P K P[i] i j⟩)
        (fun j => j ≤ qn) (fun j => qn - j) 0 (by simp [go_sem, codeB, buI]) (by simp) ?_
      intro j hj
      simp -implicitDefEqProofs only [buI, codeB, go_sem]
      refine AWp.of_awpD [(36, 1000)] hΓ hmix (by kernel_rfl) ?_
      by_cases hlt2 : j < qn
      · have hq16n : qn ≤ 16 := by omega
        have hws1 : ws.length ≤ 1000000 := by omega
        have e60 := p60 ws (stepW P[i] j) hws1
        have hPx : P[i].length ≤ 32 := by
          have h1 : P[i] ∈ prefs ws := by rw [hP]; exact List.getElem_mem hlt
          obtain ⟨w, hw, _, h2⟩ := mem_prefs.1 h1
          have := hw32 w hw; omega
        have hlen1 : ∀ f : Nat → Int, (rngV qn j f).length = qn := fun f => rngV_len _ _ _
        simp -implicitDefEqProofs only [hlt2, ↓reduceIte, lett_at (show j < 16 by omega), step_eq, List.length_singleton, go_sem]
        refine ⟨by simp only [InR]; omega, ⟨by omega, by omega⟩, by omega, callK_fn e60 (.pures rfl) ?_⟩
        simp -implicitDefEqProofs only [hlt2, ↓reduceIte, hlen1, go_sem]
        refine ⟨rfl, rfl, ?_⟩
        have hget := fN_get hmem (stepW P[i] j)
        have hgE : ((rngV qn j fun a => ixW ws (stepW P[i] a)).set j (.int .i64 (ixW ws (stepW P[i] j)))).getD j default = .int .i64 (ixW ws (stepW P[i] j)) := by
          rw [List.getD_eq_getElem?_getD, List.getElem?_set_self (by rw [rngV_len]; exact hlt2)]; rfl
        have hE : (rngV qn j fun a => ixW ws (stepW P[i] a)).set j (.int .i64 (ixW ws (stepW P[i] j))) = rngV qn (j + 1) fun a => ixW ws (stepW P[i] a) := rngV_set _
        have hN : ∀ V : Int, V = nextN ws P (stepW P[i] j) → (rngV qn j fun a => nextN ws P (stepW P[i] a)).set j (.int .i64 V) = rngV qn (j + 1) fun a => nextN ws P (stepW P[i] a) := by
          rintro V rfl; exact rngV_set _
        have hend : InR IntKind.i64 ((j : Int) + 1) := by simp only [InR]; omega
        by_cases he : stepW P[i] j ∈ ws
        · have hge : 0 ≤ ixW ws (stepW P[i] j) := ixW_ge.2 he
          have hV := hN 0 (by unfold nextN; rw [if_pos he])
          by_cases hp : stepW P[i] j ∈ P
          · simp -implicitDefEqProofs only [hget, hp, ↓reduceIte, Option.isSome_some, Option.getD_some, hlen1, hlt2, List.length_set, hgE, hge, List.set_set, hV, go_sem]
            exact ⟨rfl, rfl, hend, j + 1, ⟨by simp, by rw [hE]; exact weakH_refl _⟩, hlt2, by omega⟩
          · simp -implicitDefEqProofs only [hget, hp, ↓reduceIte, Option.isSome_none, Option.getD_none, hlen1, hlt2, List.length_set, hgE, hge, List.set_set, hV, go_sem]
            exact ⟨rfl, hend, j + 1, ⟨by simp, by rw [hE]; exact weakH_refl _⟩, hlt2, by omega⟩
        · have hge : ¬ 0 ≤ ixW ws (stepW P[i] j) := fun h => he (ixW_ge.1 h)
          by_cases hp : stepW P[i] j ∈ P
          · have hV := hN (ixN (stepW P[i] j) P : Int) (by unfold nextN; rw [if_neg he, ixW_in hp])
            simp -implicitDefEqProofs only [hget, hp, ↓reduceIte, Option.isSome_some, Option.getD_some, hlen1, hlt2, List.length_set, hgE, hge, List.set_set, hV, go_sem]
            exact ⟨rfl, hend, j + 1, ⟨by simp, by rw [hE]; exact weakH_refl _⟩, hlt2, by omega⟩
          · have hV := hN (-1) (by unfold nextN; rw [if_neg he, ixW_no hp])
            simp -implicitDefEqProofs only [hget, hp, ↓reduceIte, Option.isSome_none, Option.getD_none, hlen1, hlt2, List.length_set, hgE, hge, List.set_set, hV, go_sem]
            exact ⟨hend, j + 1, ⟨by simp, by rw [hE]; exact weakH_refl _⟩, hlt2, by omega⟩
      · have hjl : j = qn := by omega
        rw [hjl]
        simp -implicitDefEqProofs only [Nat.lt_irrefl, go_sem]
        have hrN := rngV_all qn fun a => nextN ws P (stepW P[i] a)
        have hrE := rngV_all qn fun a => ixW ws (stepW P[i] a)
        refine AWp.freeze 6 rfl ?_
        simp -implicitDefEqProofs only [Frozen, AV.thaw, AObj.thaw, AV.thaw.thawL, List.map_cons, List.map_nil, List.set_cons_zero, List.set_cons_succ, go_sem]
        refine AWp.freeze 7 rfl ?_
        simp -implicitDefEqProofs only [Frozen, AV.thaw, AObj.thaw, AV.thaw.thawL, List.map_cons, List.map_nil, List.set_cons_zero, List.set_cons_succ, go_sem]
        refine AWp.trimN 6 (by simp) (by simp [AV.blw, AV.blw.blwL]) (by simp [blwH, AObj.blw, AV.blw, AV.blw.blwL]) ?_
        simp -implicitDefEqProofs only [List.take_succ_cons, List.take_zero, go_sem]
        rw [hrN, hrE]
        refine AWp.planL (.q 0 (.q 1 (.q 2 (.q 3 (.q 5 (.q 6 (.q 7 (.q 8 (.e 4 (.s 5 (.s 6 (.s 7 (.s 8 (.q 10 (.e 9 (.s 10 (.e 11 (.q 12 (.e 13 .fin .nil)) .nil)) .nil)))))) .nil))))))))) hΓ hmix (by kernel_rfl) ?_
        simp -implicitDefEqProofs only [go_sem]
        have hs1 : ∀ l, sizeOK [PV.sl l] 1 := fun l => by simp [sizeOK, PV.cells]
        have ho1 : ∀ l, oneOK [PV.sl l] := fun l => by simp [oneOK, PV.cells, PV.isAgg]
        have hr1 : ((P.take i).map fun x => slI (nxL qn ws P x)) ++ [PV.sl (((List.range qn).map fun a => nextN ws P (stepW P[i] a)).map (.int .i64))] = (P.take (i + 1)).map fun x => slI (nxL qn ws P x) := by
          rw [List.take_succ_eq_append_getElem hlt, List.map_append]; rfl
        have hr2 : ((P.take i).map fun x => slI (emL qn ws x)) ++ [PV.sl (((List.range qn).map fun a => ixW ws (stepW P[i] a)).map (.int .i64))] = (P.take (i + 1)).map fun x => slI (emL qn ws x) := by
          rw [List.take_succ_eq_append_getElem hlt, List.map_append]; rfl
        rw [hr1, hr2]
        refine ⟨⟨hs1 _, by omega⟩, ⟨hs1 _, by omega⟩, ⟨hs1 _, ho1 _⟩, ⟨.inl (by omega), by omega, by omega⟩, ⟨hs1 _, by omega⟩, ⟨hs1 _, ho1 _⟩, ⟨.inl (by omega), by omega, by omega⟩, by omega, by simp only [InR]; omega, i + 1, ⟨by simp, ?_⟩, hlt, by omega⟩
        unfold buG
        simp [weakH, laxer, codeB]
    · have hil : i = P.length := by omega
      rw [hil]
      simp -implicitDefEqProofs only [Nat.lt_irrefl, go_sem]
      exact weakH_refl _
  rintro e st ⟨rfl, hw⟩
  show AWp _ _ _ _ _
  refine AWp.weak hw ?_
  clear hw
  simp -implicitDefEqProofs only [buG, codeB, go_sem]
  rw [List.take_length]
  refine AWp.freeze 4 rfl ?_
  simp -implicitDefEqProofs only [Frozen, AV.thaw, AObj.thaw, AV.thaw.thawL, List.map_cons, List.map_nil, List.set_cons_zero, List.set_cons_succ, go_sem]
  refine AWp.freeze 5 rfl ?_
  simp -implicitDefEqProofs only [Frozen, AV.thaw, AObj.thaw, AV.thaw.thawL, List.map_cons, List.map_nil, List.set_cons_zero, List.set_cons_succ, go_sem]
  refine AWp.of_awpD [] hΓ hmix (by kernel_rfl) ?_
  simp -implicitDefEqProofs only [go_sem]
  unfold parV nxP emP psV
  rw [hP, Int.toNat_natCast, List.map_map, List.map_map]
  rfl
end Go.Proofs.YtoajffhlbogdaaaGreat
end

section
namespace Go.Proofs.YtoajffhlbogdaaaGreat
open Go Go.AM
set_option maxRecDepth 100000
set_option linter.unusedSimpArgs false

theorem p36 (a b : List Int) (hl : a.length ≤ 1000000) : PFn Tryz.prog 18 [slI a, slI b] [.bool (decide (a = b))] := by
  refine PFn.of_body hΓ Tryz.func18 (by kernel_rfl) rfl (AWp.of_awpD [(6, 9)] hΓ hmix (by kernel_rfl) ?_)
  simp +contextual -implicitDefEqProofs only [slI, Tryz.ntmps18, Tryz.results18, Nat.reduceAdd, Nat.reduceSub, go_sem]
  by_cases he : a.length = b.length
  rotate_left
  · have hz : ¬ (a.length : Int) = b.length := by omega
    simp -implicitDefEqProofs only [he, hz, List.length_map, go_sem]
    exact (decide_eq_false fun e => he (by rw [e])).symm
  simp -implicitDefEqProofs only [he, List.length_map, go_sem]
  refine AWp.loopI (fun k : Nat => ⟨mkF 26 [(0, .p (.sl (a.map (.int .i64)))), (1, .p (.sl (b.map (.int .i64)))), (4, .p (.bool false)), (12, .p (.int .i64 b.length)), (13, .p (.int .i64 k))], []⟩)
    (fun k => k ≤ a.length ∧ a.take k = b.take k) (fun k => a.length - k) 0 (by simp [go_sem]) (by simp) ?_
  rintro k ⟨hk, heq⟩
  simp -implicitDefEqProofs only [go_sem]
  refine AWp.of_awpD [(6, 9)] hΓ hmix (by kernel_rfl) ?_
  by_cases hlt : k < b.length
  · have hla : k < a.length := by omega
    by_cases hk' : a[k] = b[k]
    · simp -implicitDefEqProofs only [hlt, hla, getD_map_lt, ↓reduceIte, hk', go_sem]
      refine ⟨by simp only [InR]; omega, k + 1, by simp, ⟨hla, ?_⟩, by omega⟩
      rw [List.take_succ_eq_append_getElem hla, List.take_succ_eq_append_getElem hlt, heq, hk']
    · simp -implicitDefEqProofs only [hlt, hla, getD_map_lt, ↓reduceIte, hk', go_sem]
      exact (decide_eq_false fun e => hk' (by subst e; rfl)).symm
  · have hz : ¬ (k : Int) < b.length := by omega
    simp -implicitDefEqProofs only [hz, hlt, go_sem]
    rw [List.take_of_length_le (by omega), List.take_of_length_le (by omega)] at heq
    exact (decide_eq_true heq).symm

theorem p43 (a b : List (List UInt8)) (hl : a.length ≤ 1000000) : PFn Tryz.prog 24 [.sl (a.map .str), .sl (b.map .str)] [.bool (decide (a = b))] := by
  refine PFn.of_body hΓ Tryz.func24 (by kernel_rfl) rfl (AWp.of_awpD [(6, 9)] hΓ hmix (by kernel_rfl) ?_)
  simp +contextual -implicitDefEqProofs only [Tryz.ntmps24, Tryz.results24, Nat.reduceAdd, Nat.reduceSub, go_sem]
  by_cases he : a.length = b.length
  rotate_left
  · have hz : ¬ (a.length : Int) = b.length := by omega
    simp -implicitDefEqProofs only [he, hz, List.length_map, go_sem]
    exact (decide_eq_false fun e => he (by rw [e])).symm
  simp -implicitDefEqProofs only [he, List.length_map, go_sem]
  refine AWp.loopI (fun k : Nat => ⟨mkF 26 [(0, .p (.sl (a.map .str))), (1, .p (.sl (b.map .str))), (4, .p (.bool false)), (12, .p (.int .i64 b.length)), (13, .p (.int .i64 k))], []⟩)
    (fun k => k ≤ a.length ∧ a.take k = b.take k) (fun k => a.length - k) 0 (by simp [go_sem]) (by simp) ?_
  rintro k ⟨hk, heq⟩
  simp -implicitDefEqProofs only [go_sem]
  refine AWp.of_awpD [(6, 9)] hΓ hmix (by kernel_rfl) ?_
  by_cases hlt : k < b.length
  · have hla : k < a.length := by omega
    by_cases hk' : a[k] = b[k]
    · simp -implicitDefEqProofs only [hlt, hla, getD_map_lt, ↓reduceIte, hk', go_sem]
      refine ⟨by simp only [InR]; omega, k + 1, by simp, ⟨hla, ?_⟩, by omega⟩
      rw [List.take_succ_eq_append_getElem hla, List.take_succ_eq_append_getElem hlt, heq, hk']
    · simp -implicitDefEqProofs only [hlt, hla, getD_map_lt, ↓reduceIte, hk', go_sem]
      exact (decide_eq_false fun e => hk' (by subst e; rfl)).symm
  · have hz : ¬ (k : Int) < b.length := by omega
    simp -implicitDefEqProofs only [hz, hlt, go_sem]
    rw [List.take_of_length_le (by omega), List.take_of_length_le (by omega)] at heq
    exact (decide_eq_true heq).symm

theorem c82 {h : List AObj} (a b : List (List Int)) (hl : a.length ≤ 1000000) (hs : ∀ x ∈ a, x.length ≤ 1000000) :
    AC Tryz.prog 16 [.p (.sl (a.map slI)), .p (.sl (b.map slI)), .fn 18 []] h [] (fun v h' => v = .p (.bool (decide (a = b))) ∧ h' = h) := by
  refine AC.of_bodyE hΓ Tryz.func16 (by kernel_rfl) rfl (AWp.mono (Q := fun e st => AM.Ends e ∧ st.tmps.getD 6 .junk = .p (.bool (decide (a = b))) ∧ st.h = h) ?_ ?_)
  rotate_left
  · rintro e ⟨tm, h'⟩ ⟨he, h1, h2⟩
    simp only at h1 h2
    subst h2
    refine ⟨he, _, Less.refl _, ?_⟩
    unfold DoneE
    simp +contextual -implicitDefEqProofs only [Tryz.results16, h1, go_sem]
    exact ⟨_, Nat.le_refl _, .inl rfl, List.take_length⟩
  refine AWp.of_awpD [] hΓ hmix (by kernel_rfl) ?_
  by_cases he : a.length = b.length
  rotate_left
  · have hz : ¬ (a.length : Int) = b.length := by omega
    simp -implicitDefEqProofs only [he, hz, List.length_map, Tryz.ntmps16, Nat.reduceAdd, Nat.reduceSub, go_sem]
    exact ((decide_eq_false fun e => he (by rw [e])).symm)
  simp -implicitDefEqProofs only [Tryz.ntmps16, Nat.reduceAdd, Nat.reduceSub, he, List.length_map, go_sem]
  refine AWp.loopI (fun k : Nat => ⟨mkF 32 [(0, .p (.sl (a.map slI))), (1, .p (.sl (b.map slI))), (2, .fn 18 []), (15, .p (.sl (a.map slI))), (16, .p (.int .i64 b.length)), (17, .p (.int .i64 k))], h⟩)
    (fun k => k ≤ a.length ∧ a.take k = b.take k) (fun k => a.length - k) 0 (by simp [go_sem, weakH_self]) (by simp) ?_
  rintro k ⟨hk, heq⟩
  simp -implicitDefEqProofs only [go_sem]
  refine AWp.of_awpD [] hΓ hmix (by kernel_rfl) ?_
  by_cases hlt : k < b.length
  · have hla : k < a.length := by omega
    simp -implicitDefEqProofs only [hlt, hla, getD_map_lt, ↓reduceIte, slI, go_sem]
    refine callK_fn (p36 a[k] b[k] (hs _ (List.getElem_mem hla))) (.pures rfl) ?_
    by_cases hk' : a[k] = b[k]
    · simp -implicitDefEqProofs only [hk', go_sem]
      refine ⟨by simp only [InR]; omega, k + 1, by simp [weakH_self, slI], ⟨hla, ?_⟩, by omega⟩
      rw [List.take_succ_eq_append_getElem hla, List.take_succ_eq_append_getElem hlt, heq, hk']
    · simp -implicitDefEqProofs only [hk', go_sem]
      exact ((decide_eq_false fun e => hk' (by subst e; rfl)).symm)
  · have hz : ¬ (k : Int) < b.length := by omega
    simp -implicitDefEqProofs only [hz, hlt, go_sem]
    rw [List.take_of_length_le (by omega), List.take_of_length_le (by omega)] at heq
    exact ((decide_eq_true heq).symm)

theorem p55 (q r : Int) (P R : List (List UInt8)) (N E M F : List (List Int)) (hP : P.length ≤ 1000000) (hN : N.length ≤ 1000000) (hE : E.length ≤ 1000000) (hNs : ∀ x ∈ N, x.length ≤ 1000000) (hEs : ∀ x ∈ E, x.length ≤ 1000000) :
    PFn Tryz.prog 83 [psV q P N E, psV r R M F] [.bool (decide (q = r ∧ P = R ∧ N = M ∧ E = F))] := by
  refine PFn.of_body hΓ Tryz.func83 (by kernel_rfl) rfl (AWp.of_awpD [] hΓ hmix (by kernel_rfl) ?_)
  by_cases h1 : q = r
  rotate_left
  · simp -implicitDefEqProofs only [Tryz.ntmps83, Tryz.results83, Nat.reduceAdd, Nat.reduceSub, psV, h1, go_sem]
    exact ⟨by omega, by omega, (decide_eq_false fun e => e.1).symm⟩
  simp -implicitDefEqProofs only [Tryz.ntmps83, Tryz.results83, Nat.reduceAdd, Nat.reduceSub, psV, h1, go_sem]
  refine ⟨by omega, by omega, callK_fn (p43 P R hP) (.pures rfl) ?_⟩
  by_cases h2 : P = R
  rotate_left
  · simp -implicitDefEqProofs only [h2, go_sem]
    exact (decide_eq_false fun e => e.1).symm
  simp -implicitDefEqProofs only [h2, go_sem]
  refine callK_ac (c82 N M hN hNs) (by simp) ?_
  rintro v h' ⟨rfl, rfl⟩
  by_cases h3 : N = M
  rotate_left
  · simp -implicitDefEqProofs only [killAll, List.foldl, h3, go_sem]
    simp [h3]
  simp -implicitDefEqProofs only [killAll, List.foldl, h3, go_sem]
  refine callK_ac (c82 E F hE hEs) (by simp) ?_
  rintro v h' ⟨rfl, rfl⟩
  simp -implicitDefEqProofs only [killAll, List.foldl, go_sem]
  simp [h2, h3]

theorem p44 (q : Int) (ws : List (List UInt8)) : PFn Tryz.prog 35 [codeV q ws] [.bool (decide (codeCheck q ws = 0) && aloneB (fun w x => x.isPrefixOf w) ws)] := by
  refine PFn.of_body hΓ Tryz.func35 (by kernel_rfl) rfl (AWp.of_awpD [] hΓ hmix (by kernel_rfl) ?_)
  simp +contextual -implicitDefEqProofs only [codeV, Tryz.ntmps35, Tryz.results35, Nat.reduceAdd, Nat.reduceSub, go_sem]
  refine callK_fn (t38 q ws) (.still rfl) ?_
  by_cases h : codeCheck q ws = 0
  · simp -implicitDefEqProofs only [h, go_sem]
  · have h10 : ¬ (1 : Int) = 0 := by decide
    simp -implicitDefEqProofs only [h, h10, go_sem]
    rfl

theorem p50 (l : List Int) (hl : l.length ≤ 1000000) : PFn Tryz.prog 26 [slI l] [.bool (decide (-1 ∈ l))] := by
  refine PFn.of_body hΓ Tryz.func26 (by kernel_rfl) rfl (AWp.of_awpD [] hΓ hmix (by kernel_rfl) ?_)
  simp +contextual -implicitDefEqProofs only [Tryz.ntmps26, Tryz.results26, Nat.reduceAdd, Nat.reduceSub, go_sem]
  refine callK_fn (p51 l (-1) hl) (.pures rfl) ?_
  simp -implicitDefEqProofs only [go_sem]
end Go.Proofs.YtoajffhlbogdaaaGreat
end

section
namespace Go.Proofs.YtoajffhlbogdaaaGreat
open Go Go.AM
set_option maxRecDepth 100000
set_option linter.unusedSimpArgs false

/-- A word put in where it belongs. -/
def putAt (l : List (List UInt8)) (k : Nat) (w : List UInt8) : List (List UInt8) := l.take k ++ [w] ++ l.drop k
theorem putAt_strict {l : List (List UInt8)} {k : Nat} {w : List UInt8} (hp : l.Pairwise ltW) (hk : k ≤ l.length) (hlow : ∀ j, j < k → cmpW (l.getD j []) w < 0) (hup : k < l.length → ltW w (l.getD k [])) : (putAt l k w).Pairwise ltW := by
  have h1 := List.pairwise_iff_getElem.1 hp
  unfold putAt
  rw [List.append_assoc, List.pairwise_append]
  refine ⟨hp.sublist (List.take_sublist k l), ?_, fun x hx y hy => ?_⟩
  · rw [List.singleton_append, List.pairwise_cons]
    refine ⟨fun y hy => ?_, hp.sublist (List.drop_sublist k l)⟩
    obtain ⟨j, hj, rfl⟩ := List.getElem_of_mem hy
    rw [List.getElem_drop]
    rw [List.length_drop] at hj
    have h2 := hup (by omega)
    rw [List.getD_eq_getElem?_getD, List.getElem?_eq_getElem (by omega), Option.getD_some] at h2
    by_cases e : j = 0
    · subst e; exact h2
    · exact ltW_trans h2 (h1 k (k + j) (by omega) (by omega) (by omega))
  · obtain ⟨j, hj, rfl⟩ := List.mem_take_iff_getElem.1 hx
    have hjk : j < k := by omega
    have hjl : j < l.length := by omega
    have h3 := hlow j hjk
    rw [List.getD_eq_getElem?_getD, List.getElem?_eq_getElem hjl, Option.getD_some] at h3
    rcases List.mem_cons.1 (by simpa using hy) with rfl | hy
    · exact (ltW_iff _ _).1 h3
    · obtain ⟨q, hq, rfl⟩ := List.getElem_of_mem hy
      rw [List.getElem_drop]
      rw [List.length_drop] at hq
      exact h1 j (k + q) hjl (by omega) (by omega)
theorem mem_putAt {l : List (List UInt8)} {k : Nat} {w x : List UInt8} : x ∈ putAt l k w ↔ x ∈ l ∨ x = w := by
  unfold putAt
  conv => rhs; rw [← List.take_append_drop k l]
  simp only [List.mem_append, List.mem_singleton]
  constructor
  · rintro ((h | h) | h)
    · exact .inl (.inl h)
    · exact .inr h
    · exact .inl (.inr h)
  · rintro ((h | h) | h)
    · exact .inl (.inl h)
    · exact .inr h
    · exact .inl (.inr h)
theorem putAt_len {l : List (List UInt8)} {k : Nat} {w : List UInt8} (hk : k ≤ l.length) : (putAt l k w).length = l.length + 1 := by
  unfold putAt; simp; omega


theorem made_snoc (L : List (List UInt8)) (x : List UInt8) : made (made L ++ [x]) = made (L ++ [x]) :=
  made_of (made_strict _) fun y => by rw [mem_made, List.mem_append, List.mem_append, mem_made]
theorem made_self {l : List (List UInt8)} (h : l.Pairwise ltW) : made l = l := made_of h fun _ => Iff.rfl

def ltD (a b : List UInt8) : Bool := decide (a.length < b.length) || (decide (a.length = b.length) && bLt a b)
theorem ltD_iff (a b : List UInt8) : ltD a b = true ↔ ltW a b := by
  unfold ltD ltW
  simp only [Bool.or_eq_true, Bool.and_eq_true, decide_eq_true_eq]
theorem size_strs (l : List (List UInt8)) : sizeOK (l.map PV.str) 1 := fun x hx => by
  obtain ⟨b, _, rfl⟩ := List.mem_map.1 hx
  rfl
theorem one_strs (l : List (List UInt8)) : oneOK (l.map PV.str) := fun x hx c hc => by
  obtain ⟨b, _, rfl⟩ := List.mem_map.1 hx
  have : c = PV.str b := by simpa [PV.cells] using hc
  subst this; rfl
theorem ins_made {l : List (List UInt8)} {w : List UInt8} {k : Nat} (hs : l.Pairwise ltW) (hm : w ∉ l) (hk : k ≤ l.length) (hup : ∀ j (h : j < l.length), k ≤ j → ltW w l[j]) (hlow : ∀ h : k - 1 < l.length, 0 < k → ¬ ltW w l[k - 1]) :
    made (l ++ [w]) = putAt l k w := by
  refine made_of (putAt_strict hs hk (fun j hj => ?_) (fun h => ?_)) fun x => by rw [mem_putAt, List.mem_append, List.mem_singleton]
  · have hk1 : k - 1 < l.length := by omega
    have h1 := hlow hk1 (by omega)
    have h2 : ltW l[k - 1] w := by
      apply Classical.byContradiction
      intro h
      exact hm ((ltW_total h1 h) ▸ List.getElem_mem hk1)
    have hjl : j < l.length := by omega
    rw [List.getD_eq_getElem?_getD, List.getElem?_eq_getElem hjl, Option.getD_some, ltW_iff]
    by_cases e : j = k - 1
    · subst e; exact h2
    · exact ltW_trans (List.pairwise_iff_getElem.1 hs j (k - 1) hjl hk1 (by omega)) h2
  · rw [List.getD_eq_getElem?_getD, List.getElem?_eq_getElem h, Option.getD_some]; exact hup k h (Nat.le_refl _)

end Go.Proofs.YtoajffhlbogdaaaGreat
end

section
namespace Go.Proofs.YtoajffhlbogdaaaGreat
open Go Go.AM
set_option maxRecDepth 100000
set_option linter.unusedSimpArgs false

/-- Memory while the reference notes the steps. -/
def rbG (qn : Nat) (ws P : List (List UInt8)) (i : Nat) : List AObj :=
  [codeB qn ws, .box [.p (.int .i64 0), .full [], .full [], .full []], .box [.p (.int .i64 qn), .p (.sl (P.map .str)), .own 3 i, .own 4 i],
   .row 51 1 ((P.take i).map fun x => slI (nxL qn ws P x)) .lax, .row 51 1 ((P.take i).map fun x => slI (emL qn ws x)) .lax]
def nxT (qn : Nat) (ws P : List (List UInt8)) (x : List UInt8) (j : Nat) : List PV := ((nxL qn ws P x).take j).map (.int .i64)
def emT (qn : Nat) (ws : List (List UInt8)) (x : List UInt8) (j : Nat) : List PV := ((emL qn ws x).take j).map (.int .i64)
def rbI (qn : Nat) (ws P : List (List UInt8)) (x : List UInt8) (i j : Nat) : List AObj :=
  [codeB qn ws, .box [.p (.int .i64 0), .full [], .full [], .full []], .box [.p (.int .i64 qn), .p (.sl (P.map .str)), .own 3 i, .own 4 i],
   .row 51 1 ((P.take i).map fun x => slI (nxL qn ws P x)) .lax, .row 51 1 ((P.take i).map fun x => slI (emL qn ws x)) .lax,
   .row 3 1 (nxT qn ws P x j) .lax, .row 3 1 (emT qn ws x j) .lax]

theorem nxT_succ {qn j : Nat} (hj : j < qn) (ws P : List (List UInt8)) (x : List UInt8) : nxT qn ws P x (j + 1) = nxT qn ws P x j ++ [.int .i64 (nextN ws P (stepW x j))] := by
  have h : j < (nxL qn ws P x).length := by simp [nxL]; exact hj
  unfold nxT
  rw [List.take_succ_eq_append_getElem h, List.map_append]
  simp [nxL]
theorem emT_succ {qn j : Nat} (hj : j < qn) (ws : List (List UInt8)) (x : List UInt8) : emT qn ws x (j + 1) = emT qn ws x j ++ [.int .i64 (ixW ws (stepW x j))] := by
  have h : j < (emL qn ws x).length := by simp [emL]; exact hj
  unfold emT
  rw [List.take_succ_eq_append_getElem h, List.map_append]
  simp [emL]
theorem nxT_all (qn : Nat) (ws P : List (List UInt8)) (x : List UInt8) : PV.sl (nxT qn ws P x qn) = slI (nxL qn ws P x) := by
  unfold nxT slI; rw [List.take_of_length_le (by simp [nxL])]
theorem emT_all (qn : Nat) (ws : List (List UInt8)) (x : List UInt8) : PV.sl (emT qn ws x qn) = slI (emL qn ws x) := by
  unfold emT slI; rw [List.take_of_length_le (by simp [emL])]
end Go.Proofs.YtoajffhlbogdaaaGreat
end

section
namespace Go.Proofs.YtoajffhlbogdaaaGreat
open Go Go.AM
set_option maxRecDepth 100000
set_option linter.unusedSimpArgs false

def preB (ws : List (List UInt8)) : Bool := aloneB (fun w x => x.isPrefixOf w) ws
def pR (q : Int) (ws : List (List UInt8)) : PV := if codeCheck q ws = 0 ∧ preB ws = true then parV q ws else psV 0 [] [] []
def pE (q : Int) (ws : List (List UInt8)) : Int := if codeCheck q ws = 0 then (if preB ws = true then 0 else 8) else 1

theorem p12 (q : Int) (ws : List (List UInt8)) : PFn Tryz.prog 14 [codeV q ws] [pR q ws, .int .i64 (pE q ws)] := by
  refine PFn.of_body hΓ Tryz.func14 (by kernel_rfl) rfl (AWp.of_awpD [] hΓ hmix (by kernel_rfl) ?_)
  simp -implicitDefEqProofs only [Tryz.ntmps14, Tryz.results14, Nat.reduceAdd, Nat.reduceSub, codeV, go_sem]
  refine callK_fn (t45 q ws) (.still rfl) ?_
  by_cases h : codeCheck q ws = 0
  rotate_left
  · have e1 : pR q ws = psV 0 [] [] [] := by unfold pR; rw [if_neg (fun e => h e.1)]
    have e2 : pE q ws = 1 := by unfold pE; rw [if_neg h]
    rw [e1, e2]
    simp -implicitDefEqProofs only [h, psV, List.map_nil, go_sem]
  have hv := valid_of h
  rw [h]
  simp -implicitDefEqProofs only [go_sem]
  refine callK_fn (p44 q ws) (.still rfl) ?_
  rw [h, show aloneB (fun w x => x.isPrefixOf w) ws = preB ws from rfl]
  cases hp : preB ws
  · have e1 : pR q ws = psV 0 [] [] [] := by unfold pR; rw [if_neg (fun e => by rw [hp] at e; cases e.2)]
    have e2 : pE q ws = 8 := by unfold pE; rw [if_pos h, if_neg (by rw [hp]; simp)]
    rw [e1, e2]
    simp -implicitDefEqProofs only [psV, List.map_nil, Bool.and_false, go_sem]
  · have e1 : pR q ws = parV q ws := by unfold pR; rw [if_pos ⟨h, hp⟩]
    have e2 : pE q ws = 0 := by unfold pE; rw [if_pos h, if_pos hp]
    rw [e1, e2]
    simp -implicitDefEqProofs only [Bool.and_true, go_sem]
    refine callK_fn (p45 hv) (.still rfl) ?_
    simp -implicitDefEqProofs only [parV, psV, go_sem]

end Go.Proofs.YtoajffhlbogdaaaGreat
end

section
namespace Go.Proofs.YtoajffhlbogdaaaGreat
open Go Go.AM
set_option maxRecDepth 100000
set_option linter.unusedSimpArgs false

theorem c79 {h : List AObj} (N : List (List Int)) (hl : N.length ≤ 1000000) (hs : ∀ x ∈ N, x.length ≤ 1000000) :
    AC Tryz.prog 44 [.p (.sl (N.map slI)), .fn 26 []] h [] (fun v h' => (∃ i : Int, v = .p (.int .i64 i) ∧ decide (0 ≤ i) = N.any fun l => decide (-1 ∈ l)) ∧ h' = h) := by
  refine AC.of_bodyE hΓ Tryz.func44 (by kernel_rfl) rfl (AWp.mono (Q := fun e st => AM.Ends e ∧ (∃ i : Int, st.tmps.getD 4 .junk = .p (.int .i64 i) ∧ decide (0 ≤ i) = N.any fun l => decide (-1 ∈ l)) ∧ st.h = h) ?_ ?_)
  rotate_left
  · rintro e ⟨tm, h'⟩ ⟨he, ⟨i, h1, h3⟩, h2⟩
    simp only at h1 h2
    subst h2
    refine ⟨he, _, Less.refl _, ?_⟩
    unfold DoneE
    simp +contextual -implicitDefEqProofs only [Tryz.results44, h1, go_sem]
    exact ⟨_, Nat.le_refl _, .inl rfl, ⟨i, rfl, h3⟩, List.take_length⟩
  refine AWp.of_awpD [] hΓ hmix (by kernel_rfl) ?_
  simp -implicitDefEqProofs only [Tryz.ntmps44, Nat.reduceAdd, Nat.reduceSub, List.length_map, go_sem]
  refine AWp.loopI (fun k : Nat => ⟨mkF 19 [(0, .p (.sl (N.map slI))), (1, .fn 26 []), (7, .p (.int .i64 N.length)), (8, .p (.int .i64 k))], h⟩)
    (fun k => k ≤ N.length ∧ ((N.take k).any fun l => decide (-1 ∈ l)) = false) (fun k => N.length - k) 0 (by simp [go_sem, weakH_self]) (by simp) ?_
  rintro k ⟨hk, h0⟩
  simp -implicitDefEqProofs only [go_sem]
  refine AWp.of_awpD [] hΓ hmix (by kernel_rfl) ?_
  by_cases hlt : k < N.length
  · simp -implicitDefEqProofs only [hlt, getD_map_lt, ↓reduceIte, slI, go_sem]
    refine callK_fn (p50 N[k] (hs _ (List.getElem_mem hlt))) (.pures rfl) ?_
    by_cases hp : -1 ∈ N[k]
    · simp -implicitDefEqProofs only [hp, go_sem]
      refine ⟨k, rfl, ?_⟩
      rw [List.any_eq_true.2 ⟨_, List.getElem_mem hlt, decide_eq_true hp⟩]; simp
    · simp -implicitDefEqProofs only [hp, go_sem]
      refine ⟨by simp only [InR]; omega, k + 1, by simp [weakH_self, slI], ⟨hlt, ?_⟩, by omega⟩
      rw [List.take_succ_eq_append_getElem hlt, List.any_append, h0]; simp [hp]
  · have hz : ¬ (k : Int) < N.length := by omega
    simp -implicitDefEqProofs only [hz, hlt, go_sem]
    exact ⟨-1, rfl, by rw [List.take_of_length_le (by omega)] at h0; rw [h0]; rfl⟩

theorem c49 {h : List AObj} (N : List (List Int)) (hl : N.length ≤ 1000000) (hs : ∀ x ∈ N, x.length ≤ 1000000) :
    AC Tryz.prog 25 [.p (.sl (N.map slI)), .fn 26 []] h [] (fun v h' => v = .p (.bool (N.any fun l => decide (-1 ∈ l))) ∧ h' = h) := by
  refine AC.of_bodyE hΓ Tryz.func25 (by kernel_rfl) rfl (AWp.mono (Q := fun e st => AM.Ends e ∧ st.tmps.getD 4 .junk = .p (.bool (N.any fun l => decide (-1 ∈ l))) ∧ st.h = h) ?_ ?_)
  rotate_left
  · rintro e ⟨tm, h'⟩ ⟨he, h1, h2⟩
    simp only at h1 h2
    subst h2
    refine ⟨he, _, Less.refl _, ?_⟩
    unfold DoneE
    simp +contextual -implicitDefEqProofs only [Tryz.results25, h1, go_sem]
    exact ⟨_, Nat.le_refl _, .inl rfl, List.take_length⟩
  refine AWp.of_awpD [] hΓ hmix (by kernel_rfl) ?_
  simp -implicitDefEqProofs only [Tryz.ntmps25, Nat.reduceAdd, Nat.reduceSub, go_sem]
  refine callK_ac (c79 N hl hs) (by simp) ?_
  rintro v h' ⟨⟨i, rfl, hi⟩, rfl⟩
  simp -implicitDefEqProofs only [killAll, List.foldl, go_sem]
  exact hi

def holeB (q : Int) (ws : List (List UInt8)) : Bool := (nxP q ws).any fun l => decide (-1 ∈ l)
def auV (q : Int) (N : List (List Int)) : PV := .agg [.int .i64 q, .sl (N.map slI)]
def aR (q : Int) (ws : List (List UInt8)) : PV := if codeCheck q ws = 0 ∧ preB ws = true ∧ holeB q ws = false then auV q (nxP q ws) else auV 0 []
def aE (q : Int) (ws : List (List UInt8)) : Int := if codeCheck q ws = 0 ∧ preB ws = true then (if holeB q ws = true then 8 else 0) else pE q ws

theorem prefs_len {q : Int} {ws : List (List UInt8)} (hv : Valid q ws) : (prefs ws).length ≤ 2048 := by
  have h1 := made_le (propers ws)
  have h2 := propers_len (ws := ws) (m := 32) fun x hx => (hv.words x hx).2.1
  have : ws.length * 32 ≤ 64 * 32 := Nat.mul_le_mul_right _ hv.len
  unfold prefs; omega
theorem nxP_len {q : Int} {ws : List (List UInt8)} (hv : Valid q ws) : (nxP q ws).length ≤ 2048 ∧ ∀ x ∈ nxP q ws, x.length = q.toNat := by
  refine ⟨by have := prefs_len hv; simp [nxP]; exact this, fun x hx => ?_⟩
  obtain ⟨y, _, rfl⟩ := List.mem_map.1 hx
  simp [nxL]
theorem emP_len {q : Int} {ws : List (List UInt8)} (hv : Valid q ws) : (emP q ws).length ≤ 2048 ∧ ∀ x ∈ emP q ws, x.length = q.toNat := by
  refine ⟨by have := prefs_len hv; simp [emP]; exact this, fun x hx => ?_⟩
  obtain ⟨y, _, rfl⟩ := List.mem_map.1 hx
  simp [emL]

theorem p14 (q : Int) (ws : List (List UInt8)) : PFn Tryz.prog 8 [codeV q ws] [aR q ws, .int .i64 (aE q ws)] := by
  have e12 := p12 q ws
  by_cases h : codeCheck q ws = 0 ∧ preB ws = true
  rotate_left
  · have e1 : pR q ws = psV 0 [] [] [] := by unfold pR; rw [if_neg h]
    have e2 : aR q ws = auV 0 [] := by unfold aR; rw [if_neg (fun e => h ⟨e.1, e.2.1⟩)]
    have e3 : aE q ws = pE q ws := by unfold aE; rw [if_neg h]
    have e4 : ¬ pE q ws = 0 := fun e => h (by
      unfold pE at e
      by_cases h1 : codeCheck q ws = 0
      · rw [if_pos h1] at e
        by_cases h2 : preB ws = true
        · exact ⟨h1, h2⟩
        · rw [if_neg h2] at e; cases e
      · rw [if_neg h1] at e; cases e)
    rw [e1] at e12
    rw [e2, e3]
    generalize pE q ws = ee at *
    refine PFn.of_body hΓ Tryz.func8 (by kernel_rfl) rfl (AWp.of_awpD [] hΓ hmix (by kernel_rfl) ?_)
    simp -implicitDefEqProofs only [Tryz.ntmps8, Tryz.results8, Nat.reduceAdd, Nat.reduceSub, codeV, go_sem]
    refine callK_fn e12 (.still rfl) ?_
    simp -implicitDefEqProofs only [psV, auV, e4, List.map_nil, go_sem]
  have hv := valid_of h.1
  have e1 : pR q ws = parV q ws := by unfold pR; rw [if_pos h]
  have e2 : pE q ws = 0 := by unfold pE; rw [if_pos h.1, if_pos h.2]
  have hq2 := hv.q2
  have hq16 := hv.q16
  have hN := nxP_len hv
  have e49 := fun (hh : List AObj) => c49 (h := hh) (nxP q ws) (by omega) (fun x hx => by rw [hN.2 x hx]; omega)
  change ∀ hh, AC Tryz.prog 25 [.p (.sl ((nxP q ws).map slI)), .fn 26 []] hh [] (fun v h' => v = .p (.bool (holeB q ws)) ∧ h' = hh) at e49
  rw [e1, e2] at e12
  unfold aR aE
  rw [if_pos h]
  refine PFn.of_body hΓ Tryz.func8 (by kernel_rfl) rfl (AWp.of_awpD [] hΓ hmix (by kernel_rfl) ?_)
  simp -implicitDefEqProofs only [Tryz.ntmps8, Tryz.results8, Nat.reduceAdd, Nat.reduceSub, codeV, go_sem]
  refine callK_fn e12 (.still rfl) ?_
  simp -implicitDefEqProofs only [parV, psV, go_sem]
  refine callK_ac (e49 _) (by simp) ?_
  rintro v h' ⟨rfl, rfl⟩
  cases hh : holeB q ws
  · rw [if_pos ⟨h.1, h.2, rfl⟩]
    simp -implicitDefEqProofs only [killAll, List.foldl, auV, AV.kill, go_sem]
    exact ⟨by omega, by omega⟩
  · rw [if_neg (fun e => by cases e.2.2)]
    simp -implicitDefEqProofs only [killAll, List.foldl, auV, AV.kill, go_sem]

theorem nxP_ge {q : Int} {ws : List (List UInt8)} : ∀ l ∈ nxP q ws, ∀ x ∈ l, -1 ≤ x := fun l hl x hx => by
  obtain ⟨y, _, rfl⟩ := List.mem_map.1 hl
  unfold nxL at hx
  obtain ⟨a, _, rfl⟩ := List.mem_map.1 hx
  unfold nextN ixW
  split
  · omega
  · split <;> omega

end Go.Proofs.YtoajffhlbogdaaaGreat
end

section
namespace Go.Proofs.YtoajffhlbogdaaaGreat
open Go Go.AM
set_option maxRecDepth 100000
set_option linter.unusedSimpArgs false

end Go.Proofs.YtoajffhlbogdaaaGreat
end

section
namespace Go.Proofs.YtoajffhlbogdaaaGreat
open Go Go.AM
set_option maxRecDepth 100000
set_option linter.unusedSimpArgs false

def longW (x : List UInt8) : Bool := decide (40 < x.length)
def longR (l : List Int) : Bool := decide (20 < l.length)
def greatP (P : List (List UInt8)) (N E : List (List Int)) : Bool := decide (40 < P.length) || decide (40 < N.length) || decide (40 < E.length) || P.any longW || N.any longR || E.any longR

end Go.Proofs.YtoajffhlbogdaaaGreat
end

section
namespace Go.Proofs.YtoajffhlbogdaaaGreat
open Go Go.AM
set_option maxRecDepth 100000
set_option linter.unusedSimpArgs false

def rowW (x : List UInt8) (l : List Int) (n : Nat) : List (List UInt8) := ((List.range n).filter fun a => decide (0 ≤ l.getD a 0)).map (stepW x)
theorem rowW_yes {x : List UInt8} {l : List Int} {n : Nat} (hn : n < l.length) (h : 0 ≤ l[n]) : rowW x l (n + 1) = rowW x l n ++ [stepW x n] := by
  unfold rowW
  rw [List.range_succ, List.filter_append, List.map_append]
  congr 1
  have : l.getD n 0 = l[n] := by rw [List.getD_eq_getElem?_getD, List.getElem?_eq_getElem hn]; rfl
  rw [List.filter_cons, this, if_pos (decide_eq_true h)]; rfl
theorem rowW_no {x : List UInt8} {l : List Int} {n : Nat} (hn : n < l.length) (h : ¬ 0 ≤ l[n]) : rowW x l (n + 1) = rowW x l n := by
  unfold rowW
  rw [List.range_succ, List.filter_append, List.map_append]
  have : l.getD n 0 = l[n] := by rw [List.getD_eq_getElem?_getD, List.getElem?_eq_getElem hn]; rfl
  rw [List.filter_cons, this, if_neg (by rw [decide_eq_false h]; simp)]; simp
theorem rowW_len (x : List UInt8) (l : List Int) (n : Nat) : (rowW x l n).length ≤ n := by
  unfold rowW
  rw [List.length_map]
  exact Nat.le_trans (List.length_filter_le _ _) (by simp)
def emW (P : List (List UInt8)) (E : List (List Int)) (m : Nat) : List (List UInt8) := (List.range m).flatMap fun s => rowW (P.getD s []) (E.getD s []) (min (E.getD s []).length 16)
theorem emW_succ {P : List (List UInt8)} {E : List (List Int)} {s : Nat} (hp : s < P.length) (he : s < E.length) : emW P E (s + 1) = emW P E s ++ rowW P[s] E[s] (min E[s].length 16) := by
  unfold emW
  rw [List.range_succ, List.flatMap_append]
  congr 1
  simp [List.getD_eq_getElem?_getD, hp, he]
theorem emW_len (P : List (List UInt8)) (E : List (List Int)) : ∀ m, (emW P E m).length ≤ m * 16
  | 0 => by simp [emW]
  | m + 1 => by
    have h := emW_len P E m
    have h2 := rowW_len (P.getD m []) (E.getD m []) (min (E.getD m []).length 16)
    have : emW P E (m + 1) = emW P E m ++ rowW (P.getD m []) (E.getD m []) (min (E.getD m []).length 16) := by
      unfold emW; rw [List.range_succ, List.flatMap_append]; simp
    rw [this, List.length_append]; omega

/-- The code that a parser is of, if it is of any. -/
def codeP (P : List (List UInt8)) (E : List (List Int)) : List (List UInt8) := made (emW P E (min E.length P.length))
def IsPar (q : Int) (P : List (List UInt8)) (N E : List (List Int)) : Prop :=
  codeCheck q (codeP P E) = 0 ∧ preB (codeP P E) = true ∧ prefs (codeP P E) = P ∧ nxP q (codeP P E) = N ∧ emP q (codeP P E) = E
instance (q : Int) (P : List (List UInt8)) (N E : List (List Int)) : Decidable (IsPar q P N E) := by unfold IsPar; infer_instance
def parCheck (q : Int) (P : List (List UInt8)) (N E : List (List Int)) : Int := if IsPar q P N E then 0 else 1

end Go.Proofs.YtoajffhlbogdaaaGreat
end

section
namespace Go.Proofs.YtoajffhlbogdaaaGreat
open Go Go.AM
set_option maxRecDepth 100000
set_option linter.unusedSimpArgs false

theorem rowW_all {x : List UInt8} {l : List Int} {n : Nat} : ∀ w ∈ rowW x l n, ∃ a, a < n ∧ w = stepW x a ∧ 0 ≤ l.getD a 0 := fun w hw => by
  unfold rowW at hw
  obtain ⟨a, ha, rfl⟩ := List.mem_map.1 hw
  obtain ⟨h1, h2⟩ := List.mem_filter.1 ha
  exact ⟨a, List.mem_range.1 h1, rfl, of_decide_eq_true h2⟩
theorem L16_inj : ∀ a b, a < 16 → b < 16 → L16.getD a 0 = L16.getD b 0 → a = b := by
  have : ∀ a, a < 16 → ∀ b, b < 16 → L16.getD a 0 = L16.getD b 0 → a = b := by decide
  exact fun a b ha hb h => this a ha b hb h
theorem stepW_inj {x y : List UInt8} {a b : Nat} (ha : a < 16) (hb : b < 16) (h : stepW x a = stepW y b) : x = y ∧ a = b := by
  unfold stepW at h
  obtain ⟨h1, h2⟩ := List.append_inj' h rfl
  exact ⟨h1, L16_inj a b ha hb (by injection h2)⟩
theorem rowW_nodup (x : List UInt8) (l : List Int) {n : Nat} (hn : n ≤ 16) : (rowW x l n).Nodup := by
  unfold rowW
  rw [List.Nodup, List.pairwise_map]
  refine ((List.nodup_range (n := n)).filter _).imp_of_mem ?_
  intro a b ha hb hne e
  have h1 := List.mem_range.1 (List.mem_filter.1 ha).1
  have h2 := List.mem_range.1 (List.mem_filter.1 hb).1
  exact hne (stepW_inj (by omega) (by omega) e).2
theorem emW_all {P : List (List UInt8)} {E : List (List Int)} : ∀ {m : Nat}, m ≤ P.length → ∀ w ∈ emW P E m, ∃ s, ∃ h : s < P.length, s < m ∧ ∃ a, a < 16 ∧ w = stepW P[s] a
  | m, hm, w, hw => by
    unfold emW at hw
    obtain ⟨s, hs, hw⟩ := List.mem_flatMap.1 hw
    have hs' := List.mem_range.1 hs
    have hsP : s < P.length := by omega
    obtain ⟨a, ha, rfl, _⟩ := rowW_all w hw
    refine ⟨s, hsP, hs', a, by omega, ?_⟩
    rw [List.getD_eq_getElem?_getD, List.getElem?_eq_getElem hsP]; rfl
theorem emW_nodup {P : List (List UInt8)} {E : List (List Int)} (hd : P.Nodup) : ∀ {m : Nat}, m ≤ P.length → (emW P E m).Nodup
  | 0, _ => by simp [emW]
  | m + 1, hm => by
    have h1 := emW_nodup (E := E) hd (m := m) (by omega)
    have hmP : m < P.length := hm
    have e : emW P E (m + 1) = emW P E m ++ rowW (P.getD m []) (E.getD m []) (min (E.getD m []).length 16) := by
      unfold emW; rw [List.range_succ, List.flatMap_append]; simp
    rw [e, List.nodup_append]
    refine ⟨h1, rowW_nodup _ _ (by omega), fun a ha b hb hab => ?_⟩
    subst hab
    obtain ⟨s, hsP, hsm, c, hc, rfl⟩ := emW_all (by omega) a ha
    obtain ⟨d, hd', he, _⟩ := rowW_all _ hb
    rw [List.getD_eq_getElem?_getD, List.getElem?_eq_getElem hmP] at he
    have := (stepW_inj hc (by omega) he).1
    have := nodup_at hd hsP hmP this
    omega
theorem emW_sub {P : List (List UInt8)} {E : List (List Int)} {m n : Nat} (h : m ≤ n) {w : List UInt8} (hw : w ∈ emW P E m) : w ∈ emW P E n := by
  unfold emW at hw ⊢
  obtain ⟨s, hs, hw⟩ := List.mem_flatMap.1 hw
  exact List.mem_flatMap.2 ⟨s, List.mem_range.2 (by have := List.mem_range.1 hs; omega), hw⟩

theorem nodup_len {α : Type} [DecidableEq α] : ∀ {l m : List α}, l.Nodup → (∀ a ∈ l, a ∈ m) → l.length ≤ m.length
  | [], _, _, _ => by simp
  | a :: l, m, h, hs => by
    rw [List.nodup_cons] at h
    have ha : a ∈ m := hs a (by simp)
    have h2 := nodup_len (l := l) (m := m.erase a) h.2 (fun b hb => by
      have hne : b ≠ a := fun e => h.1 (e ▸ hb)
      exact (List.mem_erase_of_ne hne).2 (hs b (by simp [hb])))
    have h3 := List.length_erase_of_mem ha
    have h4 : 0 < m.length := List.length_pos_of_mem ha
    simp; omega

/-! ### At most one reading -/
theorem nxP_length (q : Int) (ws : List (List UInt8)) : (nxP q ws).length = (prefs ws).length := by simp [nxP]
theorem emP_length (q : Int) (ws : List (List UInt8)) : (emP q ws).length = (prefs ws).length := by simp [emP]
/-- What a parser must be. -/
theorem IsPar.facts {q : Int} {P : List (List UInt8)} {N E : List (List Int)} (h : IsPar q P N E) : 2 ≤ q ∧ q ≤ 16 ∧ P.length = N.length ∧ P.length = E.length ∧ (∀ l ∈ N, (l.length : Int) = q) ∧ (∀ l ∈ E, (l.length : Int) = q) ∧ (∀ x ∈ P, x.length < 32) ∧
    ∀ s, s ≤ P.length → (emW P E s).length ≤ 64 := by
  obtain ⟨h1, h2, h3, h4, h5⟩ := h
  have hv := valid_of h1
  have hq2 := hv.q2
  have hN := (nxP_len hv).2
  have hE := (emP_len hv).2
  have hl : P.length = E.length := by
    have g1 := congrArg List.length h3
    have g2 := congrArg List.length h5
    rw [emP_length] at g2; omega
  have hl2 : P.length = N.length := by
    have g1 := congrArg List.length h3
    have g2 := congrArg List.length h4
    rw [nxP_length] at g2; omega
  refine ⟨hq2, hv.q16, hl2, hl, fun l hl => ?_, fun l hl => ?_, fun x hx => ?_, fun s hs => ?_⟩
  · rw [← h4] at hl
    rw [hN l hl]; omega
  · rw [← h5] at hl
    rw [hE l hl]; omega
  · rw [← h3] at hx
    obtain ⟨w, hw, _, h7⟩ := mem_prefs.1 hx
    have := (hv.words w hw).2.1
    omega
  · have hPd : P.Nodup := by rw [← h3]; exact prefs_nodup _
    have hn := emW_nodup (E := E) hPd hs
    refine Nat.le_trans (nodup_len hn (m := codeP P E) fun a ha => ?_) hv.len
    unfold codeP
    exact mem_made.2 (emW_sub (by omega) ha)
theorem parCheck_no {q : Int} {P : List (List UInt8)} {N E : List (List Int)} (h : ¬ IsPar q P N E) : (1 : Int) = parCheck q P N E := by unfold parCheck; rw [if_neg h]

def chH (qn : Nat) (P : List (List UInt8)) (N E : List (List Int)) (L : List (List UInt8)) : List AObj :=
  [.box [.p (.int .i64 qn), .p (.sl (P.map .str)), .p (.sl (N.map slI)), .p (.sl (E.map slI))], .box [.p (.int .i64 qn), .own 2 L.length], .row 9 1 (L.map .str) .lax]

set_option maxHeartbeats 2000000 in
theorem p18 (q : Int) (P : List (List UInt8)) (N E : List (List Int)) (hP : P.length ≤ 64) (hPs : ∀ x ∈ P, x.length ≤ 1000) :
    PFn Tryz.prog 64 [psV q P N E] [.int .i64 (parCheck q P N E)] := by
  refine PFn.of_body hΓ Tryz.func64 (by kernel_rfl) rfl (AWp.seq (AWp.of_awpD [] hΓ hmix (by kernel_rfl) ?_))
  simp -implicitDefEqProofs only [Tryz.ntmps64, Tryz.results64, Nat.reduceAdd, Nat.reduceSub, psV, go_sem]
  refine AWp.seq (AWp.seq (AWp.of_awpD [] hΓ hmix (by kernel_rfl) ?_))
  by_cases h1 : P.length = N.length
  rotate_left
  · have h1' : ¬ (P.length : Int) = N.length := by omega
    simp -implicitDefEqProofs only [h1, h1', List.length_map, go_sem]
    refine AWp.of_awpD [] hΓ hmix (by kernel_rfl) ?_
    simp -implicitDefEqProofs only [go_sem]
    exact parCheck_no fun h => h1 h.facts.2.2.1
  by_cases h2 : P.length = E.length
  rotate_left
  · have h2' : ¬ (P.length : Int) = E.length := by omega
    have h2'' : ¬ N.length = E.length := by omega
    have h2''' : ¬ (N.length : Int) = E.length := by omega
    simp -implicitDefEqProofs only [h1, h2, h2', h2'', h2''', List.length_map, go_sem]
    refine AWp.of_awpD [] hΓ hmix (by kernel_rfl) ?_
    simp -implicitDefEqProofs only [go_sem]
    exact parCheck_no fun h => h2 h.facts.2.2.2.1
  have hne : N.length = E.length := by omega
  by_cases h3 : q < 2
  · simp -implicitDefEqProofs only [h1, hne, h3, List.length_map, go_sem]
    refine ⟨by omega, ?_⟩
    refine AWp.of_awpD [] hΓ hmix (by kernel_rfl) ?_
    simp -implicitDefEqProofs only [go_sem]
    exact parCheck_no fun h => by have := h.facts.1; omega
  by_cases h4 : 16 < q
  · simp -implicitDefEqProofs only [h1, hne, h3, h4, List.length_map, go_sem]
    refine ⟨by omega, by omega, ?_⟩
    refine AWp.of_awpD [] hΓ hmix (by kernel_rfl) ?_
    simp -implicitDefEqProofs only [go_sem]
    exact parCheck_no fun h => by have := h.facts.2.1; omega
  obtain ⟨qn, rfl⟩ := Int.eq_ofNat_of_zero_le (show 0 ≤ q by omega)
  simp -implicitDefEqProofs only [h1, hne, h3, h4, List.length_map, go_sem]
  refine ⟨by omega, by omega, ?_⟩
  refine AWp.of_awpD [] hΓ hmix (by kernel_rfl) ?_
  simp -implicitDefEqProofs only [go_sem]
  refine AWp.seq (AWp.of_awpD [] hΓ hmix (by kernel_rfl) ?_)
  simp -implicitDefEqProofs only [go_sem]
  refine ⟨by omega, by omega, ?_⟩
  refine AWp.adoptCell (l := []) 1 1 9 1 rfl rfl (by simp) ?_
  simp -implicitDefEqProofs only [List.set_cons_zero, List.set_cons_succ, go_sem]
  refine AWp.seq (AWp.seq (AWp.of_awpD [] hΓ hmix (by kernel_rfl) ?_))
  simp -implicitDefEqProofs only [List.length_map, go_sem]
  refine AWp.block ?_
  refine AWp.mono (Q := fun e st => (e = .ret ∧ st.tmps.getD 2 .junk = .p (.int .i64 (parCheck qn P N E))) ∨ (e = .exit 0 ∧ (∀ l ∈ E, l.length = qn) ∧ Weak st ⟨mkF 125 [(1, .ptr 0 0), (3, .ptr 1 0)], chH qn P N E (emW P E P.length)⟩)) ?_ ?_
  · refine AWp.loopI (fun s : Nat => ⟨mkF 125 [(1, .ptr 0 0), (3, .ptr 1 0), (39, .p (.sl (P.map .str))), (40, .p (.int .i64 P.length)), (41, .p (.int .i64 s))], chH qn P N E (emW P E s)⟩)
      (fun s => s ≤ P.length ∧ ∀ l ∈ E.take s, l.length = qn) (fun s => P.length - s) 0 (by simp [go_sem, chH, emW, h1, h2]) (by simp) ?_
    rintro s ⟨hs, hq⟩
    simp -implicitDefEqProofs only [chH, go_sem]
    refine AWp.of_awpD [(7, 31), (13, 1000)] hΓ hmix (by kernel_rfl) ?_
    by_cases hlt : s < P.length
    · have hsN : s < N.length := by omega
      have hsE : s < E.length := by omega
      by_cases hA : N[s].length = qn
      rotate_left
      · simp -implicitDefEqProofs only [hlt, hsN, hsE, getD_map_lt, ↓reduceIte, List.length_map, slI, hA, go_sem]
        exact ⟨by omega, .inl (parCheck_no fun h => hA (by have := h.facts.2.2.2.2.1 _ (List.getElem_mem hsN); omega))⟩
      by_cases hB : E[s].length = qn
      rotate_left
      · simp -implicitDefEqProofs only [hlt, hsN, hsE, getD_map_lt, ↓reduceIte, List.length_map, slI, hA, hB, go_sem]
        exact ⟨by omega, by omega, .inl (parCheck_no fun h => hB (by have := h.facts.2.2.2.2.2.1 _ (List.getElem_mem hsE); omega))⟩
      by_cases hC : (32 : Int) ≤ P[s].length
      · simp -implicitDefEqProofs only [hlt, hsN, hsE, getD_map_lt, ↓reduceIte, List.length_map, slI, hA, hB, hC, go_sem]
        exact ⟨by omega, by omega, .inl (parCheck_no fun h => by have := h.facts.2.2.2.2.2.2.1 _ (List.getElem_mem hlt); omega)⟩
      by_cases hD : (64 : Int) < (emW P E s).length
      · simp -implicitDefEqProofs only [hlt, hsN, hsE, getD_map_lt, ↓reduceIte, List.length_map, slI, hA, hB, hC, hD, go_sem]
        exact ⟨by omega, by omega, .inl (parCheck_no fun h => by have := h.facts.2.2.2.2.2.2.2 s hs; omega)⟩
      simp -implicitDefEqProofs only [hlt, hsN, hsE, getD_map_lt, ↓reduceIte, List.length_map, slI, hA, hB, hC, hD, go_sem]
      refine ⟨by omega, by omega, ?_⟩
      have hPl := hPs _ (List.getElem_mem hlt)
      refine AWp.loopI (fun a : Nat => ⟨mkF 125 [(1, .ptr 0 0), (3, .ptr 1 0), (5, .p (.str P[s])), (39, .p (.sl (P.map .str))), (40, .p (.int .i64 P.length)), (41, .p (.int .i64 s)), (81, .p (slI E[s])), (82, .p (.int .i64 qn)), (83, .p (.int .i64 a))], chH qn P N E (emW P E s ++ rowW P[s] E[s] a)⟩)
        (fun a => a ≤ qn) (fun a => qn - a) 0 (by simp [go_sem, chH, rowW, slI]) (by simp) ?_
      intro a ha
      simp -implicitDefEqProofs only [chH, slI, go_sem]
      refine AWp.of_awpD [(13, 1000)] hΓ hmix (by kernel_rfl) ?_
      by_cases hla : a < qn
      · have hl1 : a < E[s].length := by omega
        have h5 := emW_len P E s
        have h6 := rowW_len P[s] E[s] a
        by_cases hem : 0 ≤ E[s][a]
        · have hr := rowW_yes (x := P[s]) hl1 hem
          simp -implicitDefEqProofs only [hla, hl1, getD_map_lt, ↓reduceIte, List.length_map, hem, go_sem]
          refine AWp.planL (.q 0 (.q 1 (.q 2 (.q 3 (.q 4 (.q 5 (.q 6 (.q 7 (.q 8 (.e 9 (.q 10 (.e 11 .fin .nil)) .nil)))))))))) hΓ hmix (by kernel_rfl) ?_
          simp -implicitDefEqProofs only [lett_at (show a < 16 by omega), step_eq, List.length_singleton, go_sem]
          have hs1 := size_strs [stepW P[s] a]
          have ho1 := one_strs [stepW P[s] a]
          simp only [List.map_cons, List.map_nil] at hs1 ho1
          refine ⟨by simp only [InR]; omega, ⟨by omega, by omega⟩, by omega, ⟨hs1, by omega⟩, ⟨hs1, ho1⟩, ⟨.inl (by omega), by rw [List.length_append]; omega, by rw [List.length_append]; omega⟩, by simp only [InR]; omega, a + 1, ⟨⟨rfl, by simp⟩, ?_⟩, hla, by omega⟩
          rw [hr, ← List.append_assoc]
          unfold chH
          rw [List.map_append, List.length_append (bs := [stepW P[s] a])]
          simp [weakH, laxer]
        · have hr := rowW_no (x := P[s]) hl1 hem
          simp -implicitDefEqProofs only [hla, hl1, getD_map_lt, ↓reduceIte, List.length_map, hem, go_sem]
          exact ⟨by simp only [InR]; omega, a + 1, ⟨⟨rfl, by simp⟩, by rw [hr]; exact weakH_refl _⟩, hla, by omega⟩
      · have hal : a = qn := by omega
        have hr := emW_succ (P := P) (E := E) hlt hsE
        rw [show min E[s].length 16 = qn by omega, ← hal] at hr
        rw [← hr]
        simp -implicitDefEqProofs only [hla, go_sem]
        refine ⟨by simp only [InR]; omega, s + 1, ⟨by simp, weakH_refl _⟩, ⟨hlt, fun l hl => ?_⟩, by omega⟩
        rw [List.take_succ_eq_append_getElem hsE, List.mem_append, List.mem_singleton] at hl
        exact hl.elim (hq l) (fun e => by rw [e]; exact hB)
    · have hsl : s = P.length := by omega
      simp -implicitDefEqProofs only [hlt, go_sem]
      rw [hsl, h2] at hq
      refine .inr ⟨fun l hl => hq l (by rw [List.take_length]; exact hl), ?_⟩
      rw [hsl]
      exact weakH_refl _
  rintro e st (⟨rfl, hr⟩ | ⟨rfl, hq, hw⟩)
  · change AM.Ends _ ∧ _
    exact ⟨by first | trivial | rfl | simp [AM.Ends], by rw [hr]; rfl⟩
  show AWp _ _ _ _ _
  refine AWp.weak hw ?_
  clear hw
  simp -implicitDefEqProofs only [chH, go_sem]
  have ht71 := t71 qn (emW P E P.length) (by have := emW_len P E P.length; omega)
  have hmin : min E.length P.length = P.length := by omega
  have hC : made (emW P E P.length) = codeP P E := by unfold codeP; rw [hmin]
  rw [hC] at ht71
  refine AWp.freeze 2 rfl ?_
  simp -implicitDefEqProofs only [Frozen, AV.thaw, AObj.thaw, AV.thaw.thawL, List.map_cons, List.map_nil, List.set_cons_zero, List.set_cons_succ, go_sem]
  by_cases hc : codeCheck qn (codeP P E) = 0
  rotate_left
  · rw [if_neg hc] at ht71
    have hno := parCheck_no (q := qn) (P := P) (N := N) (E := E) fun h => hc h.1
    rw [← hno]
    generalize codeCheck qn (codeP P E) = ee at *
    refine AWp.of_awpD [(17, 14)] hΓ hmix (by kernel_rfl) ?_
    simp -implicitDefEqProofs only [go_sem]
    refine ⟨by omega, callK_fn ht71 (.pures rfl) ?_⟩
    simp -implicitDefEqProofs only [codeV, hc, go_sem]
  have hv := valid_of hc
  have e44 := p44 qn (codeP P E)
  have e45 := p45 hv
  have hpl := prefs_len hv
  have hNl := nxP_len hv
  have hMl := emP_len hv
  have e55 := p55 qn qn (prefs (codeP P E)) P (nxP qn (codeP P E)) (emP qn (codeP P E)) N E (by omega) (by omega) (by omega) (fun x hx => by rw [hNl.2 x hx]; omega) (fun x hx => by rw [hMl.2 x hx]; omega)
  rw [if_pos hc, hc] at ht71
  rw [show aloneB (fun w x => x.isPrefixOf w) (codeP P E) = preB (codeP P E) from rfl, hc] at e44
  refine AWp.of_awpD [(17, 14)] hΓ hmix (by kernel_rfl) ?_
  simp -implicitDefEqProofs only [go_sem]
  refine ⟨by omega, callK_fn ht71 (.pures rfl) ?_⟩
  cases hp : preB (codeP P E)
  · have hno := parCheck_no (q := qn) (P := P) (N := N) (E := E) fun h => by rw [h.2.1] at hp; cases hp
    rw [← hno]
    rw [hp] at e44
    simp -implicitDefEqProofs only [codeV, go_sem]
    refine callVPK_fn e44 (.still rfl) ?_
    simp -implicitDefEqProofs only [Bool.and_false, go_sem]
  · rw [hp] at e44
    have e5 : parCheck qn P N E = if decide ((qn : Int) = qn ∧ prefs (codeP P E) = P ∧ nxP qn (codeP P E) = N ∧ emP qn (codeP P E) = E) = true then 0 else 1 := by
      unfold parCheck
      by_cases hh : prefs (codeP P E) = P ∧ nxP qn (codeP P E) = N ∧ emP qn (codeP P E) = E
      · have hI : IsPar qn P N E := ⟨hc, hp, hh⟩
        rw [if_pos hI, if_pos (decide_eq_true ⟨rfl, hh⟩)]
      · have hI : ¬ IsPar qn P N E := fun e => hh e.2.2
        rw [if_neg hI, if_neg (by rw [decide_eq_true_eq]; exact fun e => hh e.2)]
    rw [e5]
    clear e5
    generalize decide ((qn : Int) = qn ∧ prefs (codeP P E) = P ∧ nxP qn (codeP P E) = N ∧ emP qn (codeP P E) = E) = b at *
    unfold parV at e45
    simp -implicitDefEqProofs only [codeV, go_sem]
    refine callVPK_fn e44 (.still rfl) ?_
    simp -implicitDefEqProofs only [Bool.and_true, go_sem]
    refine callVPK_fn e45 (.still rfl) ?_
    unfold psV at e55
    simp -implicitDefEqProofs only [psV, go_sem]
    refine callVPK_fn e55 (.still rfl) ?_
    cases b
    · simp -implicitDefEqProofs only [go_sem]
    · simp -implicitDefEqProofs only [go_sem]
end Go.Proofs.YtoajffhlbogdaaaGreat
end

