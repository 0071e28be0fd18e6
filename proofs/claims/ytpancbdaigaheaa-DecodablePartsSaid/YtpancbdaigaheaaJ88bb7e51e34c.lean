/-
  DERIVED: THE SHELF's CONTRACTS AT THIS DUMP, IN PLAIN WORDS (tools/lay-plain.mjs out of 'YtpancbdaigaheaaShelfC.lean', which tools/lay-shelf.mjs wrote): THE SAME DECLARATIONS UNDER THE SAME NAMES: 'import', 'namespace', 'open', 'def', 'theorem' AND NOTHING ELSE: no command of the shelf's: FOR A HAND-IN. Each laying: the table of numbers ('.._ren') and one theorem, a field a fact of the dump's own or the kernel's comparison; each contract: ONE APPLICATION.
  slices.Compact on an owned row of words, as a contract with the heap.
  code.Make: the words sorted, each once; checked.
  Reversed words: slices.Reverse of bytes, word.Reverse.
  code.Reverse.
  code.alone, code.Prefix.
  Plain law: the empty word dangles exactly if two different lists of words spell the same message.
  Plain law of certificates: an accepted proof keeps the empty word away; an accepted ambiguity brings it; a proof remains one with a further word from which nothing follows.
  Plain law of codes that are made: the words ascend, and are those of the list; a reversed code is a code.
  The law DecodableParts.
  What a parameter that fits a shape is: codes, ambiguities, lists of words and numbers.
-/
import Derived.Shelf.SlicesG.In.CompactS
import Derived.Shelf.SlGeneric
import Derived.Ground.SlgnProg
import Derived.Test.YtpancbdaigaheaaProg
import Derived.Test.YtpancbdaigaheaaJ58bc95b268dc
import Derived.Test.YtpancbdaigaheaaJe96f9ad97536
import Derived.Test.YtpancbdaigaheaaJca0aa663ff4f

section
namespace Go.Proofs
open Go.Shelf
def Try.compS_ren : Go.Shelf.Ren := ⟨fun | 44 => 107 | n => n, fun | 25 => 22 | 26 => 9 | 3 => 3 | 4 => 4 | 0 => 0 | n => n, fun | n => n⟩
theorem Try.compS : Go.Proofs.SlLaysN.n44 Try.prog Try.compS_ren := {
  mixed := by kernel_rfl
  f44 := ⟨Try.f107.name, by decide, Try.func107.trans (congrArg some (by kernel_rfl))⟩
  t0 := Try.underlying0
  a0 := Try.isAgg0
  z0 := Try.sizeOf0
  v0 := Try.zeroValue0
  t3 := Try.underlying3
  a3 := Try.isAgg3
  z3 := Try.sizeOf3
  v3 := Try.zeroValue3
  t4 := Try.underlying4
  a4 := Try.isAgg4
  z4 := Try.sizeOf4
  v4 := Try.zeroValue4
  t25 := Try.underlying22
  a25 := Try.isAgg22
  z25 := Try.sizeOf22
  v25 := Try.zeroValue22
  t26 := Try.underlying9
  a26 := Try.isAgg9
  z26 := Try.sizeOf9
  v26 := Try.zeroValue9
  i26 := by kernel_rfl }
end Go.Proofs
end

section
namespace Go.Proofs.Ytpancbdaigaheaa
open Go Go.AM Go.RowKit
set_option maxRecDepth 100000
set_option linter.unusedSimpArgs false

theorem compact_le (l : List (List UInt8)) : (Lib.compact l).length ≤ l.length := by
  unfold Lib.compact Lib.compactUpTo
  rw [List.length_map]
  exact Nat.le_trans (List.length_filter_le _ _) (by simp)

theorem c107 {h : List AObj} {b : Nat} (l : List (List UInt8)) (hb : h[b]? = some (.row 9 1 (l.map .str) .own)) (hsz : l.length ≤ 1000000) :
    AC Try.prog 107 [.own b l.length] h [b] (fun v h' => v = .own b (Lib.compact l).length ∧ h' = (h.map (AObj.kill b)).set b (.row 9 1 ((Lib.compact l).map .str) .own)) := by
  refine ⟨entersF_of Try.func107 (by kernel_rfl) rfl, fun X I μ ob w cargs R hlen hargs hmay => ?_⟩
  obtain ⟨a0, rfl⟩ : ∃ a, cargs = [a] := by
    match cargs, hlen with
    | [a], _ => exact ⟨a, rfl⟩
  have g0 := hargs 0 (by simp)
  simp only [List.getD_cons_zero] at g0
  obtain ⟨a, c, rfl, hbn, hbm⟩ := g0.own_inv
  obtain ⟨hall, hrow⟩ := R.objs _ _ hb
  rcases hrow with ⟨g, hg, cap, cur, fr, vs, e1, e2, e3, e4, e5, e6, e7, e8, e9, e10⟩ | ⟨hk, _⟩
  rotate_left
  · cases hk
  rw [hbm] at e1
  simp only [List.length_map] at e1 e5 e7 e8 e9 e10
  injection e1 with e1a _ e1c
  subst e1a e1c
  have hfr := e3 rfl
  subst hfr
  have hgl := (R.own b g hg).2.2
  have cell : ∀ j (hj : j < l.length), cur[j]? = some (encW l[j]) := fun j hj => by
    have h1 := e10 j (by omega)
    rw [flats_str, getD_map_lt _ _ _ _ hj] at h1
    have h2 := encW_of h1
    have h3 : cur.toList[j]? = some (vs.getD j undef) := by
      have : vs[j]? = some (vs.getD j undef) := by rw [List.getD_eq_getElem?_getD, List.getElem?_eq_getElem (by omega)]; rfl
      rw [← e8, List.getElem?_take_of_lt (by omega)] at this
      exact this.trans (by rw [e8])
    rw [Array.getElem?_toList, h2] at h3
    exact h3
  have hH : Sort.Holds encW w g 0 l.toArray := fun j hj => by
    have hj' : j < l.length := by simpa using hj
    refine ⟨?_, ?_⟩
    · unfold World.cell?
      simp only [Nat.zero_add, e2]
      rw [cell j hj', getElem!_pos l.toArray j hj]
      simp
    · unfold World.frozen?
      simp only [e2]
      simp
  have hc : Calls Try.prog 107 #[.slice (some ⟨g, 0, none⟩) l.length c] w fun e w' => e = .returned (.slice (some ⟨g, 0, none⟩) (Lib.compact l).length c) ∧ ∃ q, w' = Sort.putRow encW (Sort.ahead w q) g 0 (Lib.compact l ++ List.replicate (l.length - (Lib.compact l).length) []).toArray :=
    AnyG.slices_Compact_string (ρ := Try.compS_ren) Try.compS g 0 c l w hH (by omega) e5
  refine Calls.mono (P := Try.prog) hc ?_
  rintro e w' ⟨rfl, n, rfl⟩
  have hcl := compact_le l
  generalize hlf : Lib.compact l ++ List.replicate (l.length - (Lib.compact l).length) [] = lf
  have hsl : lf.toArray.size = l.length := by rw [← hlf]; simp; omega
  have hlfl : lf.length = l.length := by simpa using hsl
  -- the world that is left
  have hnew : (Sort.putRow encW (Sort.ahead w n) g 0 lf.toArray).heap[g]? = some (.cells (Sort.putCells encW 0 lf.toArray cur) 9 (0, 0)) := by
    show (w.heap.modify g _)[g]? = _
    rw [Array.getElem?_modify, if_pos rfl, e2]; rfl
  have hold : ∀ k, k < w.heap.size → k ≠ g → (Sort.putRow encW (Sort.ahead w n) g 0 lf.toArray).heap[k]? = w.heap[k]? := fun k hk hne => by
    show (w.heap.modify g _)[k]? = _
    rw [Array.getElem?_modify, if_neg (fun e => hne e.symm)]
  have hsize : (Sort.putRow encW (Sort.ahead w n) g 0 lf.toArray).heap.size = w.heap.size := by
    show (w.heap.modify g _).size = _
    simp
  have hgrow : w.grownBy (Sort.putRow encW (Sort.ahead w n) g 0 lf.toArray) (ob b) := ⟨rfl, rfl, rfl, by rw [hsize]; exact Nat.le_refl _, fun k hk hk2 => hold k hk (fun e => hk2 (by rw [e, hg]))⟩
  have hput : ∀ j, j < (Lib.compact l).length → (Sort.putCells encW 0 lf.toArray cur)[j]? = some (encW ((Lib.compact l).getD j [])) := fun j hj => by
    have hj2 : j < l.length := by omega
    unfold Sort.putCells
    rw [Array.getElem?_mapIdx, cell j hj2]
    simp only [Option.map_some]
    rw [if_pos ⟨Nat.zero_le _, by rw [hsl]; omega⟩, Nat.sub_zero, getElem!_pos lf.toArray j (by rw [hsl]; exact hj2)]
    have : lf[j]'(by omega) = (Lib.compact l).getD j [] := by
      subst hlf
      rw [List.getElem_append_left hj, List.getD_eq_getElem?_getD, List.getElem?_eq_getElem hj]; rfl
    simp only [List.getElem_toArray, this]
  have hps : (Sort.putCells encW 0 lf.toArray cur).size = cur.size := by unfold Sort.putCells; rw [Array.size_mapIdx]
  have hpl : ((Sort.putCells encW 0 lf.toArray cur).toList.take (Lib.compact l).length).length = (Lib.compact l).length := by
    have h1 : (Sort.putCells encW 0 lf.toArray cur).toList.length = cur.size := by simpa using hps
    rw [List.length_take, h1]; omega
  have R2 := R.move (b0 := b) (v := .slice (some ⟨g, 0, none⟩) (Lib.compact l).length c) (g := some g) (o := .row 9 1 ((Lib.compact l).map .str) .own) hbn (hmay b (by simp)) hgrow
    (fun k e => by injection e with e; subst e; exact ⟨.inl hg, by rw [hsize]; exact hgl⟩) ⟨fun x hx => by
      obtain ⟨u, _, rfl⟩ := List.mem_map.1 hx; rfl, .inl ⟨g, by simp, c, Sort.putCells encW 0 lf.toArray cur, (0, 0), (Sort.putCells encW 0 lf.toArray cur).toList.take (Lib.compact l).length, by rw [upd_same, List.length_map], hnew, fun _ => rfl, by simp,
        by rw [List.length_map]; omega, e6, by rw [hps]; exact e7, by rw [List.length_map, Nat.mul_one], by
          rw [List.length_map, hpl, Nat.mul_one], fun j hj => ?_⟩⟩
  · exact ⟨_, .own b (Lib.compact l).length, _, I, upd μ b (.slice (some ⟨g, 0, none⟩) (Lib.compact l).length c), upd ob b (some g), rfl, R2, .own _ _ _ _ (by simpa using hbn) (by simp), fun _ h => h, fun k _ hk => upd_other _ _ (by simpa using hk), by simp, fun g hg => .inl hg,
      fun k g2 hk => by
        by_cases e : k = b
        · subst e; rw [upd_same] at hk; injection hk with hk; subst hk; exact .inl ⟨k, hg⟩
        · rw [upd_other _ _ e] at hk; exact .inl ⟨k, hk⟩,
      fun k hk hno => hold k hk (fun e => hno b (by rw [e]; exact hg)), rfl, rfl⟩
  · rw [List.length_map, Nat.mul_one] at hj
    rw [flats_str, getD_map_lt _ _ _ _ hj]
    have : ((Sort.putCells encW 0 lf.toArray cur).toList.take (Lib.compact l).length).getD j undef = encW ((Lib.compact l).getD j []) := by
      rw [List.getD_eq_getElem?_getD, List.getElem?_take_of_lt hj, Array.getElem?_toList, hput j hj]; rfl
    rw [this, List.getD_eq_getElem?_getD, List.getElem?_eq_getElem hj]
    exact pr_encW _

/-- At no element: nothing turns, whosever the row is. -/
theorem c107n {h : List AObj} {b : Nat} : AC Try.prog 107 [.own b 0] h [] (fun v h' => v = .own b 0 ∧ h' = h) := by
  refine ⟨entersF_of Try.func107 (by kernel_rfl) rfl, fun X I μ ob w cargs R hlen hargs _ => ?_⟩
  obtain ⟨a0, rfl⟩ : ∃ a, cargs = [a] := by
    match cargs, hlen with
    | [a], _ => exact ⟨a, rfl⟩
  have g0 := hargs 0 (by simp)
  simp only [List.getD_cons_zero] at g0
  obtain ⟨a, c, rfl, hbn, hbm⟩ := g0.own_inv
  have hc : Calls Try.prog 107 #[.slice a 0 c] w fun e w' => e = .returned (.slice a 0 c) ∧ w' = w := AnyG.slices_Compact_string_empty (ρ := Try.compS_ren) Try.compS a c w
  refine Calls.mono (P := Try.prog) hc ?_
  rintro e w' ⟨rfl, rfl⟩
  exact ⟨_, .own b 0, _, I, μ, ob, rfl, R, .own _ _ _ _ hbn hbm, fun _ h => h, fun _ _ _ => rfl, Nat.le_refl _, fun g hg => .inl hg, fun b g hb => .inl ⟨b, hb⟩, fun k hk hno => rfl, rfl, rfl⟩
end Go.Proofs.Ytpancbdaigaheaa
end

section
namespace Go.Proofs.Ytpancbdaigaheaa
open Go Go.AM
set_option maxRecDepth 100000
set_option linter.unusedSimpArgs false

/-- The words of a code that is made. -/
def made (l : List (List UInt8)) : List (List UInt8) := Lib.compact (sortW l)
theorem made_le (l : List (List UInt8)) : (made l).length ≤ l.length := by
  have := compact_le (sortW l)
  rw [sortW_length] at this
  exact this

theorem compact_nil : Lib.compact ([] : List (List UInt8)) = [] := by
  have := compact_le []
  exact List.length_eq_zero_iff.1 (by simpa using this)
theorem made_nil : made [] = [] := by
  have := made_le []
  exact List.length_eq_zero_iff.1 (by simpa using this)

theorem c83f {g : FuncId} {h : List AObj} : AC Try.prog 83 [.full [], .fn g []] h [] (fun v h' => v = .tup [] ∧ h' = h) := by
  refine ⟨entersF_of Try.func83 (by kernel_rfl) rfl, fun X I μ ob w cargs R hlen hargs _ => ?_⟩
  obtain ⟨a0, f0, rfl⟩ : ∃ a f, cargs = [a, f] := by
    match cargs, hlen with
    | [a, f], _ => exact ⟨a, f, rfl⟩
  have g0 := hargs 0 (by simp)
  simp only [List.getD_cons_zero] at g0
  obtain ⟨a, rfl⟩ : ∃ a, a0 = .slice a 0 0 := by
    cases g0 with
    | full l a hp => exact ⟨a, rfl⟩
  have hc : Calls Try.prog 83 #[.slice a 0 0, f0] w fun e w' => e = .returned (.tuple #[]) ∧ w' = w := AnyF.slices_SortFunc_none (ρ := Try.sortS_ren) { Try.sortS with } a 0 f0 w
  refine Calls.mono (P := Try.prog) hc ?_
  rintro e w' ⟨rfl, rfl⟩
  exact ⟨_, .tup [], _, I, μ, ob, rfl, R, .tup [] [] rfl (by simp), fun _ h => h, fun _ _ _ => rfl, Nat.le_refl _, fun g hg => .inl hg, fun b g hb => .inl ⟨b, hb⟩, fun k hk hno => rfl, rfl, rfl⟩
theorem c107f {h : List AObj} : AC Try.prog 107 [.full []] h [] (fun v h' => v = .full [] ∧ h' = h) := by
  refine ⟨entersF_of Try.func107 (by kernel_rfl) rfl, fun X I μ ob w cargs R hlen hargs _ => ?_⟩
  obtain ⟨a0, rfl⟩ : ∃ a, cargs = [a] := by
    match cargs, hlen with
    | [a], _ => exact ⟨a, rfl⟩
  have g0 := hargs 0 (by simp)
  simp only [List.getD_cons_zero] at g0
  have g1 := g0
  obtain ⟨a, rfl⟩ : ∃ a, a0 = .slice a 0 0 := by
    cases g0 with
    | full l a hp => exact ⟨a, rfl⟩
  have hc : Calls Try.prog 107 #[.slice a 0 0] w fun e w' => e = .returned (.slice a 0 0) ∧ w' = w := AnyG.slices_Compact_string_empty (ρ := Try.compS_ren) Try.compS a 0 w
  refine Calls.mono (P := Try.prog) hc ?_
  rintro e w' ⟨rfl, rfl⟩
  exact ⟨_, .full [], _, I, μ, ob, rfl, R, g1, fun _ h => h, fun _ _ _ => rfl, Nat.le_refl _, fun g hg => .inl hg, fun b g hb => .inl ⟨b, hb⟩, fun k hk hno => rfl, rfl, rfl⟩

theorem c94 {h : List AObj} (hK : h.map (AObj.kill h.length) = h) (ws : List (List UInt8)) (hl : ws.length ≤ 1000000) :
    AC Try.prog 94 [.p (.sl (ws.map .str)), .fn 81 []] h [] (fun v h' => (ws = [] ∧ v = .full [] ∧ h' = h) ∨ (∃ rk, rk ≠ .raw ∧ v = .own h.length (made ws).length ∧ h' = h ++ [.row 9 1 ((made ws).map .str) rk])) := by
  refine AC.of_bodyE hΓ Try.func94 (by kernel_rfl) rfl (AWp.mono (Q := fun e st => AM.Ends e ∧ ((ws = [] ∧ st.tmps.getD 4 .junk = .full [] ∧ st.h = h) ∨ (∃ rk, rk ≠ .raw ∧ st.tmps.getD 4 .junk = .own h.length (made ws).length ∧ st.h = h ++ [.row 9 1 ((made ws).map .str) rk]))) ?_ ?_)
  rotate_left
  · rintro e ⟨tm, h'⟩ ⟨he, ⟨hw, h1, h2⟩ | ⟨rk, hr, h1, h2⟩⟩
    · simp only at h1 h2
      subst h2
      refine ⟨he, _, Less.refl _, ?_⟩
      unfold DoneE
      simp +contextual -implicitDefEqProofs only [Try.results94, h1, go_sem]
      exact ⟨_, Nat.le_refl _, .inl rfl, .inl ⟨hw, List.take_length⟩⟩
    · simp only at h1 h2
      subst h2
      refine ⟨he, _, Less.refl _, ?_⟩
      unfold DoneE
      simp +contextual -implicitDefEqProofs only [Try.results94, h1, go_sem]
      exact ⟨h.length + 1, by omega, .inl (by simp), .inr ⟨rk, hr, List.take_of_length_le (by simp)⟩⟩
  refine AWp.of_awpD [] hΓ hmix (by kernel_rfl) ?_
  simp -implicitDefEqProofs only [Try.ntmps94, Nat.reduceAdd, Nat.reduceSub, go_sem]
  refine callK_ac (c22 ws hl) (by simp) ?_
  have gL : ∀ o : AObj, (h ++ [o])[h.length]? = some o := fun o => by simp
  rintro v h' (⟨rfl, rfl, rfl⟩ | ⟨rk, hr, hr2, rfl, rfl⟩)
  · simp -implicitDefEqProofs only [killAll, List.foldl, go_sem]
    refine callK_ac c83f (by simp) ?_
    rintro v h' ⟨rfl, rfl⟩
    simp -implicitDefEqProofs only [killAll, List.foldl, go_sem]
    refine callK_ac c107f (by simp) ?_
    rintro v h' ⟨rfl, rfl⟩
    simp -implicitDefEqProofs only [killAll, List.foldl, go_sem]
  · simp -implicitDefEqProofs only [killAll, List.foldl, go_sem]
    by_cases h0 : ws = []
    · subst h0
      refine callK_ac (c83n (b := h.length)) (by simp) ?_
      rintro v h' ⟨rfl, rfl⟩
      simp -implicitDefEqProofs only [killAll, List.foldl, go_sem]
      refine callK_ac (c107n (b := h.length)) (by simp) ?_
      rintro v h' ⟨rfl, rfl⟩
      simp -implicitDefEqProofs only [killAll, List.foldl, go_sem]
      exact .inr ⟨rk, hr, by rw [made_nil]; rfl, by rw [made_nil]; rfl⟩
    · have hrk := hr2 h0
      subst hrk
      have sL : ∀ o o' : AObj, (h ++ [o]).set h.length o' = h ++ [o'] := fun o o' => by simp
      refine callK_ac (c83b ws (gL _) hl) (by simp) ?_
      rintro v h' ⟨rfl, rfl⟩
      simp -implicitDefEqProofs only [killAll, List.foldl, sL, go_sem]
      have hsl := sortW_length ws
      rw [← hsl]
      refine callK_ac (c107 (sortW ws) (gL _) (by omega)) (by simp) ?_
      rintro v h' ⟨rfl, rfl⟩
      simp -implicitDefEqProofs only [killAll, List.foldl, sL, go_sem]
      exact .inr ⟨.own, by simp, rfl, by rw [List.map_append, hK]; simp [AObj.kill, made]⟩

theorem t71 (q : Int) (ws : List (List UInt8)) (hl : ws.length ≤ 1000000) : PFn Try.prog 71 [.int .i64 q, .sl (ws.map .str)] [if codeCheck q (made ws) = 0 then codeV q (made ws) else codeV 0 [], .int .i64 (codeCheck q (made ws))] := by
  refine PFn.of_body hΓ Try.func71 (by kernel_rfl) rfl (AWp.of_awpD [] hΓ hmix (by kernel_rfl) ?_)
  simp +contextual -implicitDefEqProofs only [codeV, Try.ntmps71, Try.results71, Nat.reduceAdd, Nat.reduceSub, go_sem]
  refine callK_ac (c94 rfl ws hl) (by simp) ?_
  rintro v h' (⟨rfl, rfl, rfl⟩ | ⟨rk, hr, rfl, rfl⟩)
  · rw [made_nil]
    simp -implicitDefEqProofs only [killAll, List.foldl, go_sem]
    refine ⟨by omega, ?_⟩
    refine callK_fn (t45 q []) (.still rfl) ?_
    by_cases hc : codeCheck q [] = 0
    · rw [hc]
      simp -implicitDefEqProofs only [go_sem]
    · simp -implicitDefEqProofs only [hc, go_sem]
  · simp -implicitDefEqProofs only [killAll, List.foldl, go_sem]
    refine ⟨by omega, ?_⟩
    refine callK_fn (t45 q (made ws)) (.owned rfl rfl) ?_
    by_cases hc : codeCheck q (made ws) = 0
    · rw [hc]
      simp -implicitDefEqProofs only [go_sem]
    · simp -implicitDefEqProofs only [hc, go_sem]
end Go.Proofs.Ytpancbdaigaheaa
end

section
namespace Go.Proofs.Ytpancbdaigaheaa
open Go Go.AM
set_option maxRecDepth 100000
set_option linter.unusedSimpArgs false

/-- A word of which i letters at each end have changed places. -/
def rv (l : List UInt8) (i : Nat) : List UInt8 := (List.range l.length).map fun k => if k < i ∨ l.length - i ≤ k then l.getD (l.length - 1 - k) 0 else l.getD k 0
theorem rv_len (l : List UInt8) (i : Nat) : (rv l i).length = l.length := by simp [rv]
theorem rv_get {l : List UInt8} {i k : Nat} (hk : k < l.length) : (rv l i)[k]? = some (if k < i ∨ l.length - i ≤ k then l.getD (l.length - 1 - k) 0 else l.getD k 0) := by
  simp [rv, List.getElem?_map, List.getElem?_range hk]
theorem rv_zero (l : List UInt8) : rv l 0 = l := by
  apply List.ext_getElem?
  intro k
  by_cases hk : k < l.length
  · rw [rv_get hk, if_neg (by omega), List.getD_eq_getElem?_getD, List.getElem?_eq_getElem hk]; rfl
  · rw [List.getElem?_eq_none (by rw [rv_len]; omega), List.getElem?_eq_none (by omega)]
theorem rv_end {l : List UInt8} {i : Nat} (h1 : 2 * i ≤ l.length) (h2 : l.length ≤ 2 * i + 1) : rv l i = l.reverse := by
  apply List.ext_getElem?
  intro k
  by_cases hk : k < l.length
  · rw [rv_get hk, List.getElem?_reverse hk]
    have e : l.getD (l.length - 1 - k) 0 = l[l.length - 1 - k]'(by omega) := by rw [List.getD_eq_getElem?_getD, List.getElem?_eq_getElem (by omega)]; rfl
    by_cases hc : k < i ∨ l.length - i ≤ k
    · rw [if_pos hc, e, List.getElem?_eq_getElem (by omega)]
    · rw [if_neg hc]
      have : k = l.length - 1 - k := by omega
      rw [← this, List.getD_eq_getElem?_getD, List.getElem?_eq_getElem hk]; rfl
  · rw [List.getElem?_eq_none (by rw [rv_len]; omega), List.getElem?_eq_none (by simp; omega)]
theorem rv_step {l : List UInt8} {i j : Nat} (hj : i + j + 1 = l.length) (hlt : i < j) : ((rv l i).set i (l.getD j 0)).set j (l.getD i 0) = rv l (i + 1) := by
  apply List.ext_getElem?
  intro k
  by_cases hk : k < l.length
  · rw [List.getElem?_set, List.getElem?_set, rv_get hk, rv_get hk]
    simp only [List.length_set, rv_len]
    by_cases e1 : j = k
    · subst e1
      rw [if_pos rfl, if_pos hk, if_pos (by omega), show l.length - 1 - j = i by omega]
    · rw [if_neg e1]
      by_cases e2 : i = k
      · subst e2
        rw [if_pos rfl, if_pos hk, if_pos (by omega), show l.length - 1 - i = j by omega]
      · rw [if_neg e2]
        by_cases hc : k < i ∨ l.length - i ≤ k
        · rw [if_pos hc, if_pos (by omega)]
        · rw [if_neg hc, if_neg (by omega)]
  · rw [List.getElem?_eq_none (by simp [rv_len]; omega), List.getElem?_eq_none (by rw [rv_len]; omega)]

theorem c93 {h : List AObj} {b : Nat} (l : List UInt8) (hb : h[b]? = some (.row 5 1 (l.map u8V) .raw)) (hl : l.length ≤ 1000000) :
    AC Try.prog 93 [.own b l.length] h [] (fun v h' => v = .tup [] ∧ h' = h.set b (.row 5 1 (l.reverse.map u8V) .raw)) := by
  have hbl : b < h.length := (List.getElem?_eq_some_iff.1 hb).1
  refine AC.of_bodyE hΓ Try.func93 (by kernel_rfl) rfl (AWp.mono (Q := fun e st => AM.Ends e ∧ st.h = h.set b (.row 5 1 (l.reverse.map u8V) .raw)) ?_ ?_)
  rotate_left
  · rintro e ⟨tm, h'⟩ ⟨he, h2⟩
    simp only at h2
    subst h2
    refine ⟨he, _, Less.refl _, ?_⟩
    unfold DoneE
    simp +contextual -implicitDefEqProofs only [Try.results93, go_sem]
    exact ⟨h.length, Nat.le_refl _, .inl (by simp), List.take_of_length_le (by simp)⟩
  have gB : ∀ o : AObj, (h.set b o)[b]? = some o := fun o => by simp [hbl]
  have sB : ∀ o o' : AObj, (h.set b o).set b o' = h.set b o' := fun o o' => by simp
  refine AWp.of_awpD [] hΓ hmix (by kernel_rfl) ?_
  simp -implicitDefEqProofs only [Try.ntmps93, Nat.reduceAdd, Nat.reduceSub, go_sem]
  refine ⟨by simp only [InR]; omega, ?_⟩
  refine AWp.loopI (fun i : Nat => ⟨mkF 28 [(0, .own b l.length), (2, .p (.int .i64 i)), (3, .p (.int .i64 ((l.length : Int) - 1 - i)))], h.set b (.row 5 1 ((rv l i).map u8V) .raw)⟩)
    (fun i => 2 * i ≤ l.length) (fun i => l.length - i) 0 (by
      rw [rv_zero, show h.set b (.row 5 1 (l.map u8V) .raw) = h from by
        apply List.ext_getElem?
        intro k
        rw [List.getElem?_set]
        split
        · rename_i e; subst e
          first
            | exact hb.symm
            | (rw [if_pos hbl]; exact hb.symm)
        · rfl]
      simp [go_sem, weakH_self]) (by omega) ?_
  intro i hi
  refine AWp.of_awpD [(3, 13)] hΓ hmix (by kernel_rfl) ?_
  by_cases hlt : (i : Int) < (l.length : Int) - 1 - i
  · obtain ⟨j, hj⟩ : ∃ j : Nat, (l.length : Int) - 1 - i = j := ⟨(((l.length : Int) - 1 - i)).toNat, by omega⟩
    rw [hj] at hlt ⊢
    have hjl : j < l.length := by omega
    have hil : i < l.length := by omega
    have e1 : ((rv l i).map u8V).getD i default = .int .u8 (l.getD i 0).toNat := by
      rw [List.getD_eq_getElem?_getD, List.getElem?_map, rv_get hil, if_neg (by omega)]; rfl
    have e2 : ((rv l i).map u8V).getD j default = .int .u8 (l.getD j 0).toNat := by
      rw [List.getD_eq_getElem?_getD, List.getElem?_map, rv_get hjl, if_neg (by omega)]; rfl
    have e3 : (((rv l i).map u8V).set i (.int .u8 (l.getD j 0).toNat)).set j (.int .u8 (l.getD i 0).toNat) = (rv l (i + 1)).map u8V := by
      rw [← rv_step (j := j) (by omega) (by omega), List.map_set, List.map_set]; rfl
    simp -implicitDefEqProofs only [hlt, gB, sB, e1, e2, e3, Int.toNat_natCast, go_sem]
    have hr := rv_len l i
    refine ⟨hjl, by omega, hil, by omega, hil, ⟨by omega, rfl⟩, hjl, ⟨by simp; omega, rfl⟩, by simp only [InR]; omega, by simp only [InR]; omega, i + 1, ⟨⟨by omega, by omega⟩, weakH_self _⟩, by omega, by omega⟩
  · simp -implicitDefEqProofs only [hlt, go_sem]
    rw [rv_end hi (by omega)]

theorem t70 (w : List UInt8) (hw : w.length ≤ 1000000) : PFn Try.prog 70 [.str w] [.str w.reverse] := by
  refine PFn.of_body hΓ Try.func70 (by kernel_rfl) rfl (AWp.of_awpD [] hΓ hmix (by kernel_rfl) ?_)
  simp +contextual -implicitDefEqProofs only [Try.ntmps70, Try.results70, Nat.reduceAdd, Nat.reduceSub, go_sem]
  refine ⟨by omega, ?_⟩
  refine callK_ac (c93 w rfl hw) (by simp) ?_
  rintro v h' ⟨rfl, rfl⟩
  simp -implicitDefEqProofs only [killAll, List.foldl, go_sem]
  exact ⟨⟨_, rfl, rfl⟩, w.reverse, rfl, rfl⟩
end Go.Proofs.Ytpancbdaigaheaa
end

section
namespace Go.Proofs.Ytpancbdaigaheaa
open Go Go.AM
set_option maxRecDepth 100000
set_option linter.unusedSimpArgs false

def revs (ws : List (List UInt8)) : List (List UInt8) := ws.map List.reverse

theorem t39 (q : Int) (ws : List (List UInt8)) : PFn Try.prog 39 [codeV q ws] [if codeCheck q ws = 0 then (if codeCheck q (made (revs ws)) = 0 then codeV q (made (revs ws)) else codeV 0 []) else codeV 0 [], .int .i64 (if codeCheck q ws = 0 then codeCheck q (made (revs ws)) else 1)] := by
  refine PFn.of_body hΓ Try.func39 (by kernel_rfl) rfl (AWp.of_awpD [] hΓ hmix (by kernel_rfl) ?_)
  simp +contextual -implicitDefEqProofs only [codeV, Try.ntmps39, Try.results39, Nat.reduceAdd, Nat.reduceSub, go_sem]
  refine callK_fn (t45 q ws) (.still rfl) ?_
  by_cases h : codeCheck q ws = 0
  · have hv := valid_of h
    have hws := hv.len
    have hsh : ∀ i (hi : i < ws.length), ws[i].length ≤ 32 := fun i hi => by
      have := hv.short i hi
      rwa [List.getD_eq_getElem?_getD, List.getElem?_eq_getElem hi, Option.getD_some] at this
    rw [h]
    simp -implicitDefEqProofs only [go_sem]
    refine AWp.adopt (l := []) 4 9 1 (by rfl) (by simp) ?_
    simp -implicitDefEqProofs only [go_sem]
    refine AWp.loopI (fun k : Nat => ⟨mkF 30 [(1, .ptr 0 0), (2, .ptr 1 0), (3, .p (.int .i64 0)), (4, .own 2 k), (12, .p (.sl (ws.map .str))), (13, .p (.int .i64 ws.length)), (14, .p (.int .i64 k))], [codeB q ws, .box [.p (.int .i64 0), .full []], .row 9 1 ((revs (ws.take k)).map .str) .lax]⟩)
      (fun k => k ≤ ws.length) (fun k => ws.length - k) 0 (by simp [go_sem, codeB, revs]) (by simp) ?_
    intro k hk
    by_cases hlt : k < ws.length
    · refine AWp.of_awpD [] hΓ hmix (by kernel_rfl) ?_
      simp -implicitDefEqProofs only [hlt, getD_map_lt, ↓reduceIte, codeB, go_sem]
      refine callK_fn (t70 ws[k] (by have := hsh k hlt; omega)) (.pures rfl) ?_
      simp -implicitDefEqProofs only [go_sem]
      have hs : revs (ws.take (k + 1)) = revs (ws.take k) ++ [ws[k].reverse] := by
        unfold revs; rw [List.take_succ_eq_append_getElem hlt, List.map_append]; rfl
      exact ⟨⟨size_str [_], by omega⟩, ⟨size_str [_], one_str [_]⟩, ⟨.inl (by omega), by omega, by omega⟩, by simp only [InR]; omega, k + 1, by rw [hs]; simp, hlt, by omega⟩
    · refine AWp.freeze 2 rfl ?_
      rw [List.take_of_length_le (by omega)]
      refine AWp.of_awpD [] hΓ hmix (by kernel_rfl) ?_
      simp -implicitDefEqProofs only [hlt, codeB, Frozen, go_sem]
      have e71 := t71 q (revs ws) (by simp [revs]; omega)
      by_cases hc : codeCheck q (made (revs ws)) = 0
      · rw [if_pos hc, hc] at e71
        refine callK_fn e71 (.pures rfl) ?_
        simp -implicitDefEqProofs only [codeV, hc, go_sem]
      · rw [if_neg hc] at e71
        refine callK_fn e71 (.pures rfl) ?_
        simp -implicitDefEqProofs only [codeV, hc, go_sem]
  · simp -implicitDefEqProofs only [h, go_sem]
end Go.Proofs.Ytpancbdaigaheaa
end

section
namespace Go.Proofs.Ytpancbdaigaheaa
open Go Go.AM
set_option maxRecDepth 100000
set_option linter.unusedSimpArgs false

/-- No word has another one as a part. -/
def aloneTo (pr : List UInt8 → List UInt8 → Bool) (ws : List (List UInt8)) (i n : Nat) : Bool := (List.range n).all fun k => decide (i = k) || !pr (ws.getD i []) (ws.getD k [])
def aloneN (pr : List UInt8 → List UInt8 → Bool) (ws : List (List UInt8)) (n : Nat) : Bool := (List.range n).all fun i => aloneTo pr ws i ws.length
def aloneB (pr : List UInt8 → List UInt8 → Bool) (ws : List (List UInt8)) : Bool := aloneN pr ws ws.length

theorem aloneTo_succ (pr : List UInt8 → List UInt8 → Bool) (ws : List (List UInt8)) (i n : Nat) : aloneTo pr ws i (n + 1) = (aloneTo pr ws i n && (decide (i = n) || !pr (ws.getD i []) (ws.getD n []))) := by
  unfold aloneTo; rw [List.range_succ, List.all_append]; simp
theorem aloneN_succ (pr : List UInt8 → List UInt8 → Bool) (ws : List (List UInt8)) (n : Nat) : aloneN pr ws (n + 1) = (aloneN pr ws n && aloneTo pr ws n ws.length) := by
  unfold aloneN; rw [List.range_succ, List.all_append]; simp
theorem alone_bad {pr : List UInt8 → List UInt8 → Bool} {ws : List (List UInt8)} {i k : Nat} (hi : i < ws.length) (hk : k < ws.length) (hne : i ≠ k) (hp : pr (ws.getD i []) (ws.getD k []) = true) : aloneB pr ws = false := by
  unfold aloneB aloneN aloneTo
  rw [Bool.eq_false_iff]
  intro h
  have h1 := List.all_eq_true.1 h i (List.mem_range.2 hi)
  have h2 := List.all_eq_true.1 h1 k (List.mem_range.2 hk)
  rw [hp] at h2
  simp [hne] at h2

theorem c68 {g : FuncId} {pr : List UInt8 → List UInt8 → Bool} (q : Int) (ws : List (List UInt8)) (hg : ∀ x y, PFn Try.prog g [.str x, .str y] [.bool (pr x y)]) :
    AC Try.prog 68 [.agg [.p (.int .i64 q), .p (.sl (ws.map .str))], .fn g []] [codeB q ws] [] (fun v h' => v = .tup [.p (.bool (if codeCheck q ws = 0 then aloneB pr ws else false)), .p (.int .i64 (if codeCheck q ws = 0 then 0 else 1))] ∧ h' = [codeB q ws]) := by
  refine AC.of_bodyE hΓ Try.func68 (by kernel_rfl) rfl (AWp.mono (Q := fun e st => AM.Ends e ∧ st.tmps.getD 4 .junk = .p (.bool (if codeCheck q ws = 0 then aloneB pr ws else false)) ∧ st.tmps.getD 5 .junk = .p (.int .i64 (if codeCheck q ws = 0 then 0 else 1)) ∧ st.h = [codeB q ws, codeB q ws]) ?_ ?_)
  rotate_left
  · rintro e ⟨tm, h'⟩ ⟨he, h1, h2, h3⟩
    simp only at h1 h2 h3
    subst h3
    refine ⟨he, _, Less.refl _, ?_⟩
    unfold DoneE
    simp +contextual -implicitDefEqProofs only [Try.results68, h1, h2, go_sem]
    exact ⟨1, by omega, .inr ⟨rfl, rfl, by simp⟩, rfl⟩
  refine AWp.of_awpD [] hΓ hmix (by kernel_rfl) ?_
  simp -implicitDefEqProofs only [Try.ntmps68, Nat.reduceAdd, Nat.reduceSub, codeB, go_sem]
  refine callK_fn (t45 q ws) (.still rfl) ?_
  by_cases h : codeCheck q ws = 0
  · have hv := valid_of h
    have hws := hv.len
    rw [h]
    simp -implicitDefEqProofs only [go_sem]
    refine AWp.loopI (fun i : Nat => ⟨mkF 40 [(1, .fn g []), (2, .ptr 1 0), (14, .p (.sl (ws.map .str))), (15, .p (.int .i64 ws.length)), (16, .p (.int .i64 i))], [codeB q ws, codeB q ws]⟩)
      (fun i => i ≤ ws.length ∧ aloneN pr ws i = true) (fun i => ws.length - i) 0 (by simp [go_sem, codeB]) ⟨by omega, rfl⟩ ?_
    rintro i ⟨hi, hal⟩
    refine AWp.of_awpD [] hΓ hmix (by kernel_rfl) ?_
    by_cases hlt : i < ws.length
    · simp -implicitDefEqProofs only [hlt, getD_map_lt, ↓reduceIte, codeB, go_sem]
      refine AWp.loopI (fun k : Nat => ⟨mkF 40 [(1, .fn g []), (2, .ptr 1 0), (6, .p (.int .i64 i)), (7, .p (.str ws[i])), (14, .p (.sl (ws.map .str))), (15, .p (.int .i64 ws.length)), (16, .p (.int .i64 i)), (22, .p (.sl (ws.map .str))), (23, .p (.int .i64 ws.length)), (24, .p (.int .i64 k))], [codeB q ws, codeB q ws]⟩)
        (fun k => k ≤ ws.length ∧ aloneTo pr ws i k = true) (fun k => ws.length - k) 0 (by simp [go_sem, codeB]) ⟨by omega, rfl⟩ ?_
      rintro k ⟨hk, hal2⟩
      refine AWp.of_awpD [] hΓ hmix (by kernel_rfl) ?_
      have hwi : ws.getD i [] = ws[i] := by rw [List.getD_eq_getElem?_getD, List.getElem?_eq_getElem hlt, Option.getD_some]
      by_cases hlt2 : k < ws.length
      · have hwk : ws.getD k [] = ws[k] := by rw [List.getD_eq_getElem?_getD, List.getElem?_eq_getElem hlt2, Option.getD_some]
        by_cases he : (i : Int) = k
        · simp -implicitDefEqProofs only [hlt2, he, getD_map_lt, ↓reduceIte, codeB, go_sem]
          refine ⟨by simp only [InR]; omega, k + 1, by omega, ⟨hlt2, ?_⟩, by omega⟩
          rw [aloneTo_succ, hal2, decide_eq_true (by omega)]; rfl
        · simp -implicitDefEqProofs only [hlt2, he, getD_map_lt, ↓reduceIte, codeB, go_sem]
          refine callK_fn (hg ws[i] ws[k]) (.pures rfl) ?_
          cases hp : pr ws[i] ws[k]
          · simp -implicitDefEqProofs only [go_sem]
            refine ⟨by simp only [InR]; omega, k + 1, by omega, ⟨hlt2, ?_⟩, by omega⟩
            rw [aloneTo_succ, hal2, hwi, hwk, hp]; simp
          · simp -implicitDefEqProofs only [go_sem]
            rw [alone_bad hlt hlt2 (by omega) (by rw [hwi, hwk]; exact hp)]
      · simp -implicitDefEqProofs only [hlt2, codeB, go_sem]
        refine ⟨by simp only [InR]; omega, i + 1, by omega, ⟨hlt, ?_⟩, by omega⟩
        rw [aloneN_succ, hal, show ws.length = k by omega, hal2]; rfl
    · simp -implicitDefEqProofs only [hlt, codeB, go_sem]
      rw [show i = ws.length by omega] at hal; exact hal.symm
  · simp -implicitDefEqProofs only [h, go_sem]

theorem t38 (q : Int) (ws : List (List UInt8)) : PFn Try.prog 38 [codeV q ws] [.bool (if codeCheck q ws = 0 then aloneB (fun w x => x.isPrefixOf w) ws else false), .int .i64 (if codeCheck q ws = 0 then 0 else 1)] := by
  refine PFn.of_body hΓ Try.func38 (by kernel_rfl) rfl (AWp.of_awpD [] hΓ hmix (by kernel_rfl) ?_)
  simp +contextual -implicitDefEqProofs only [codeV, Try.ntmps38, Try.results38, Nat.reduceAdd, Nat.reduceSub, go_sem]
  refine callK_ac (c68 q ws t69) (by simp) ?_
  rintro v h' ⟨rfl, rfl⟩
  simp -implicitDefEqProofs only [killAll, List.foldl, codeB, go_sem]
end Go.Proofs.Ytpancbdaigaheaa
end

section
namespace Go.Proofs.Ytpancbdaigaheaa
open Go Go.AM
set_option linter.unusedSimpArgs false

/-- Two different lists of words spell one message. -/
def Amb (ws : List (List UInt8)) : Prop := ∃ A B : List (List UInt8), (∀ x ∈ A, x ∈ ws) ∧ (∀ x ∈ B, x ∈ ws) ∧ A ≠ B ∧ A.flatten = B.flatten

theorem reach_step {ws : List (List UInt8)} : ∀ (n : Nat) {A B : List (List UInt8)} {r : List UInt8}, A.length + B.length ≤ n → (∀ x ∈ A, x ∈ ws) → (∀ x ∈ B, x ∈ ws) → Reach ws r → r ++ A.flatten = B.flatten → Reach ws []
  | n, A, B, [], _, _, _, hr, _ => hr
  | n, A, [], c :: r, _, _, _, _, h => by simp at h
  | 0, A, m :: B, c :: r, hn, _, _, _, _ => by simp at hn
  | n + 1, A, m :: B, c :: r, hn, hA, hB, hr, h => by
    have hm : m ∈ ws := hB m (by simp)
    rw [List.flatten_cons, List.append_eq_append_iff] at h
    have hne : c :: r ≠ [] := by simp
    simp only [List.length_cons] at hn
    generalize c :: r = r at h hr hne
    rcases h with ⟨a, h1, h2⟩ | ⟨a, h1, h2⟩
    · cases hp : m.isPrefixOf r
      · have hu : a ∈ nextS ws r := mem_nextS.2 ⟨m, hm, .inr ⟨hp, by rw [h1, List.isPrefixOf_iff_prefix]; exact List.prefix_append _ _, by rw [h1, List.drop_left]⟩⟩
        exact reach_step n (A := B) (B := A) (by omega) (fun x hx => hB x (by simp [hx])) hA (.next r a hr hne hu) h2.symm
      · have hl := (List.isPrefixOf_iff_prefix.1 hp).length_le
        have ha : a = [] := by
          have := congrArg List.length h1
          rw [List.length_append] at this
          exact List.length_eq_zero_iff.1 (by omega)
        subst ha
        rw [List.append_nil] at h1
        exact .next r [] hr hne (mem_nextS.2 ⟨m, hm, .inl ⟨hp, by rw [h1, List.drop_length]⟩⟩)
    · have hu : a ∈ nextS ws r := mem_nextS.2 ⟨m, hm, .inl ⟨by rw [h1, List.isPrefixOf_iff_prefix]; exact List.prefix_append _ _, by rw [h1, List.drop_left]⟩⟩
      exact reach_step n (A := A) (B := B) (by omega) hA (fun x hx => hB x (by simp [hx])) (.next r a hr hne hu) h2.symm

theorem first_of {ws : List (List UInt8)} {x y u : List UInt8} (hx : x ∈ ws) (hy : y ∈ ws) (hne : x ≠ y) (h : x = y ++ u) : u ∈ firstS ws := by
  obtain ⟨i, hi, rfl⟩ := List.getElem_of_mem hx
  obtain ⟨k, hk, rfl⟩ := List.getElem_of_mem hy
  have get : ∀ i, (h : i < ws.length) → ws.getD i [] = ws[i] := fun i h => by rw [List.getD_eq_getElem?_getD, List.getElem?_eq_getElem h, Option.getD_some]
  refine mem_firstS.2 ⟨i, k, hi, hk, fun e => hne (by subst e; rfl), ?_, ?_⟩
  · rw [get i hi, get k hk, h, List.isPrefixOf_iff_prefix]; exact List.prefix_append _ _
  · rw [get i hi, get k hk, h, List.drop_left]

theorem amb_sound {ws : List (List UInt8)} (hne : ∀ x ∈ ws, x ≠ []) : ∀ {A B : List (List UInt8)}, (∀ x ∈ A, x ∈ ws) → (∀ x ∈ B, x ∈ ws) → A ≠ B → A.flatten = B.flatten → Reach ws []
  | [], [], _, _, h, _ => absurd rfl h
  | [], y :: B, _, hB, _, h => by
    rw [List.flatten_nil, List.flatten_cons] at h
    exact absurd (List.append_eq_nil_iff.1 h.symm).1 (hne y (hB y (by simp)))
  | x :: A, [], hA, _, _, h => by
    rw [List.flatten_nil, List.flatten_cons] at h
    exact absurd (List.append_eq_nil_iff.1 h).1 (hne x (hA x (by simp)))
  | x :: A, y :: B, hA, hB, hn, h => by
    have hx := hA x (by simp)
    have hy := hB y (by simp)
    by_cases e : x = y
    · subst e
      rw [List.flatten_cons, List.flatten_cons] at h
      exact amb_sound hne (A := A) (B := B) (fun z hz => hA z (by simp [hz])) (fun z hz => hB z (by simp [hz])) (fun e => hn (by rw [e])) (List.append_cancel_left h)
    · rw [List.flatten_cons, List.flatten_cons, List.append_eq_append_iff] at h
      rcases h with ⟨a, h1, h2⟩ | ⟨a, h1, h2⟩
      · exact reach_step _ (A := B) (B := A) (Nat.le_refl _) (fun z hz => hB z (by simp [hz])) (fun z hz => hA z (by simp [hz])) (.first a (first_of hy hx (Ne.symm e) h1)) h2.symm
      · exact reach_step _ (A := A) (B := B) (Nat.le_refl _) (fun z hz => hA z (by simp [hz])) (fun z hz => hB z (by simp [hz])) (.first a (first_of hx hy e h1)) h2.symm

/-- Whatever dangles is what one list of words lacks to another one that begins otherwise. -/
theorem reach_spelt {ws : List (List UInt8)} (hd : ∀ i j, i < ws.length → j < ws.length → ws.getD i [] = ws.getD j [] → i = j) {u : List UInt8} (h : Reach ws u) :
    ∃ (x y : List UInt8) (A B : List (List UInt8)), x ∈ ws ∧ y ∈ ws ∧ x ≠ y ∧ (∀ z ∈ A, z ∈ ws) ∧ (∀ z ∈ B, z ∈ ws) ∧ (x :: A).flatten = (y :: B).flatten ++ u := by
  have get : ∀ i, (h : i < ws.length) → ws.getD i [] = ws[i] := fun i h => by rw [List.getD_eq_getElem?_getD, List.getElem?_eq_getElem h, Option.getD_some]
  induction h with
  | first u h =>
    obtain ⟨i, k, hi, hk, hne, hp, rfl⟩ := mem_firstS.1 h
    refine ⟨ws.getD i [], ws.getD k [], [], [], by rw [get i hi]; exact List.getElem_mem hi, by rw [get k hk]; exact List.getElem_mem hk, fun e => hne (hd i k hi hk e), by simp, by simp, ?_⟩
    obtain ⟨t, ht⟩ := List.isPrefixOf_iff_prefix.1 hp
    rw [← ht]; simp
  | next r u hr hne h ih =>
    obtain ⟨x, y, A, B, hx, hy, hxy, hA, hB, e⟩ := ih
    obtain ⟨w, hw, ⟨hp, rfl⟩ | ⟨_, hp, rfl⟩⟩ := mem_nextS.1 h
    · obtain ⟨t, ht⟩ := List.isPrefixOf_iff_prefix.1 hp
      refine ⟨x, y, A, B ++ [w], hx, hy, hxy, hA, fun z hz => ?_, ?_⟩
      · rcases List.mem_append.1 hz with hz | hz
        · exact hB z hz
        · rw [List.mem_singleton.1 hz]; exact hw
      · rw [e, ← ht, List.drop_left]; simp
    · obtain ⟨t, ht⟩ := List.isPrefixOf_iff_prefix.1 hp
      refine ⟨y, x, B ++ [w], A, hy, hx, Ne.symm hxy, fun z hz => ?_, hA, ?_⟩
      · rcases List.mem_append.1 hz with hz | hz
        · exact hB z hz
        · rw [List.mem_singleton.1 hz]; exact hw
      · rw [e, ← ht, List.drop_left]; simp

theorem amb_iff {ws : List (List UInt8)} (hne : ∀ x ∈ ws, x ≠ []) (hd : ∀ i j, i < ws.length → j < ws.length → ws.getD i [] = ws.getD j [] → i = j) : Reach ws [] ↔ Amb ws := by
  constructor
  · intro h
    obtain ⟨x, y, A, B, hx, hy, hxy, hA, hB, e⟩ := reach_spelt hd h
    refine ⟨x :: A, y :: B, fun z hz => ?_, fun z hz => ?_, fun e => hxy (by injection e), by rw [e, List.append_nil]⟩
    · rcases List.mem_cons.1 hz with rfl | hz
      · exact hx
      · exact hA z hz
    · rcases List.mem_cons.1 hz with rfl | hz
      · exact hy
      · exact hB z hz
  · rintro ⟨A, B, hA, hB, hn, h⟩
    exact amb_sound hne hA hB hn h

/-- The reversed words are as ambiguous. -/
theorem amb_rev {ws vs : List (List UInt8)} (h : ∀ x ∈ ws, x.reverse ∈ vs) (ha : Amb ws) : Amb vs := by
  obtain ⟨A, B, hA, hB, hn, e⟩ := ha
  have hmem : ∀ A : List (List UInt8), (∀ x ∈ A, x ∈ ws) → ∀ x ∈ (A.map List.reverse).reverse, x ∈ vs := by
    intro A hA x hx
    rw [List.mem_reverse, List.mem_map] at hx
    obtain ⟨y, hy, rfl⟩ := hx
    exact h y (hA y hy)
  refine ⟨(A.map List.reverse).reverse, (B.map List.reverse).reverse, hmem A hA, hmem B hB, fun e2 => hn ?_, ?_⟩
  · have h1 := congrArg (fun l => (l.reverse.map List.reverse)) e2
    simpa [List.map_map, Function.comp_def] using h1
  · rw [← List.reverse_flatten, ← List.reverse_flatten, e]

theorem amb_sub {ws vs : List (List UInt8)} (h : ∀ x ∈ ws, x ∈ vs) (ha : Amb ws) : Amb vs := by
  obtain ⟨A, B, hA, hB, hn, e⟩ := ha
  exact ⟨A, B, fun x hx => h x (hA x hx), fun x hx => h x (hB x hx), hn, e⟩
end Go.Proofs.Ytpancbdaigaheaa
end

section
namespace Go.Proofs.Ytpancbdaigaheaa
open Go Go.AM
set_option maxRecDepth 100000
set_option linter.unusedSimpArgs false

theorem getD_in {ws : List (List UInt8)} {i : Nat} (h : i < ws.length) : ws.getD i [] ∈ ws := by
  rw [List.getD_eq_getElem?_getD, List.getElem?_eq_getElem h, Option.getD_some]; exact List.getElem_mem h
theorem Valid.ne' {q : Int} {ws : List (List UInt8)} (hv : Valid q ws) : ∀ x ∈ ws, x ≠ [] := fun x hx => by
  obtain ⟨j, hj, rfl⟩ := List.getElem_of_mem hx
  have := hv.ne j hj
  rwa [List.getD_eq_getElem?_getD, List.getElem?_eq_getElem hj, Option.getD_some] at this
theorem Valid.amb {q : Int} {ws : List (List UInt8)} (hv : Valid q ws) : [] ∈ residL ws ↔ Amb ws := mem_residL.trans (amb_iff hv.ne' (distinct_idx hv))

theorem proof_reach {ws l : List (List UInt8)} (h : proofOK ws l = true) {u : List UInt8} (hr : Reach ws u) : u ∈ l := by
  unfold proofOK at h
  simp only [Bool.and_eq_true, List.all_eq_true, decide_eq_true_eq] at h
  induction hr with
  | first u hu => exact h.2 u hu
  | next r u hr hne hu ih => exact (h.1 r ih).2 u hu
theorem proof_ne {ws l : List (List UInt8)} (h : proofOK ws l = true) : [] ∉ l := fun hm => by
  unfold proofOK at h
  simp only [Bool.and_eq_true, List.all_eq_true, decide_eq_true_eq] at h
  exact (h.1 [] hm).1 rfl
theorem proof_not {q : Int} {ws l : List (List UInt8)} (h : proofCheck q ws l = 0) : [] ∉ residL ws := fun hm => by
  unfold proofCheck at h
  split at h
  · cases h
  · split at h
    · cases h
    · split at h
      · rename_i hok; exact proof_ne hok (proof_reach hok (mem_residL.1 hm))
      · cases h

theorem spells_flat {ws : List (List UInt8)} : ∀ {l : List Int} {w : List UInt8}, spellsB ws l w = true → (∀ i ∈ l, 0 ≤ i ∧ i < ws.length) ∧ w = (l.map fun i => ws.getD i.toNat []).flatten
  | [], w, h => by
    have : w = [] := by simpa [spellsB] using h
    subst this; simp
  | i :: l, w, h => by
    unfold spellsB at h
    split at h
    · rename_i hi
      split at h
      · rename_i hp
        obtain ⟨h1, h2⟩ := spells_flat h
        refine ⟨fun j hj => ?_, ?_⟩
        · rcases List.mem_cons.1 hj with rfl | hj
          · exact hi
          · exact h1 j hj
        · obtain ⟨t, ht⟩ := List.isPrefixOf_iff_prefix.1 hp
          rw [List.map_cons, List.flatten_cons, ← h2, ← ht, List.drop_left]
      · cases h
    · cases h

theorem map_inj {ws : List (List UInt8)} (hd : ∀ i j, i < ws.length → j < ws.length → ws.getD i [] = ws.getD j [] → i = j) : ∀ {a b : List Int}, (∀ i ∈ a, 0 ≤ i ∧ i < ws.length) → (∀ i ∈ b, 0 ≤ i ∧ i < ws.length) →
    (a.map fun i => ws.getD i.toNat []) = (b.map fun i => ws.getD i.toNat []) → a = b
  | [], [], _, _, _ => rfl
  | [], _ :: _, _, _, h => by simp at h
  | _ :: _, [], _, _, h => by simp at h
  | i :: a, j :: b, ha, hb, h => by
    simp only [List.map_cons, List.cons.injEq] at h
    have h1 := ha i (by simp)
    have h2 := hb j (by simp)
    have h3 := hd i.toNat j.toNat (by omega) (by omega) h.1
    have h4 := map_inj hd (fun x hx => ha x (by simp [hx])) (fun x hx => hb x (by simp [hx])) h.2
    rw [h4, show i = j by omega]

theorem amb_yes {q : Int} {ws : List (List UInt8)} {m : List UInt8} {a b : List Int} (hv : Valid q ws) (h : ambCheck q ws m a b = 0) : [] ∈ residL ws := by
  unfold ambCheck at h
  split at h
  · cases h
  · split at h
    · cases h
    · rename_i h1
      simp only [not_or, Bool.not_eq_false] at h1
      obtain ⟨h2, h3, h4⟩ := h1
      obtain ⟨a1, a2⟩ := spells_flat h3
      obtain ⟨b1, b2⟩ := spells_flat h4
      have hin : ∀ {l : List Int}, (∀ i ∈ l, 0 ≤ i ∧ i < ws.length) → ∀ x ∈ l.map fun i => ws.getD i.toNat [], x ∈ ws := fun h x hx => by
        obtain ⟨i, hi, rfl⟩ := List.mem_map.1 hx
        exact getD_in (by have := h i hi; omega)
      exact (hv.amb).2 ⟨_, _, hin a1, hin b1, fun e => h2 (map_inj (distinct_idx hv) a1 b1 e), a2.symm.trans b2⟩

/-! no word begins as "no word" does -/
def NW : List UInt8 := [110, 111, 32, 119, 111, 114, 100]
theorem nw_next {q : Int} {ws : List (List UInt8)} (hv : Valid q ws) : nextS ws NW = [] := by
  rw [List.eq_nil_iff_forall_not_mem]
  intro u hu
  have head : ∀ x ∈ ws, ∃ c l, x = c :: l ∧ okB q c = true := fun x hx => by
    obtain ⟨j, hj, rfl⟩ := List.getElem_of_mem hx
    have h1 := hv.word j hj
    have h2 := hv.ne j hj
    rw [List.getD_eq_getElem?_getD, List.getElem?_eq_getElem hj, Option.getD_some] at h1 h2
    cases hw : ws[j] with
    | nil => exact absurd hw h2
    | cons c l =>
      rw [hw] at h1
      refine ⟨c, l, rfl, ?_⟩
      unfold wordCheck at h1
      split at h1
      · cases h1
      · split at h1
        · cases h1
        · split at h1
          · rename_i hok; unfold okW at hok; simp only [List.all_cons, Bool.and_eq_true] at hok; exact hok.1
          · cases h1
  have bad : okB q 110 = false := by
    unfold okB
    have : ixB 110 L16 0 = -1 := by decide
    rw [this]; rfl
  obtain ⟨x, hx, ⟨hp, _⟩ | ⟨_, hp, _⟩⟩ := mem_nextS.1 hu
  · obtain ⟨c, l, rfl, hc⟩ := head x hx
    unfold NW at hp
    simp only [List.isPrefixOf, Bool.and_eq_true, beq_iff_eq] at hp
    rw [hp.1, bad] at hc; cases hc
  · obtain ⟨c, l, rfl, hc⟩ := head x hx
    unfold NW at hp
    simp only [List.isPrefixOf, Bool.and_eq_true, beq_iff_eq] at hp
    rw [← hp.1, bad] at hc; cases hc

theorem proof_more {q : Int} {ws l : List (List UInt8)} (hv : Valid q ws) (hl : l.length ≤ 1000) (h : proofCheck q ws l = 0) : proofCheck q ws (l ++ [NW]) = 0 := by
  unfold proofCheck at h ⊢
  split at h
  · cases h
  · rename_i h1
    rw [if_neg h1]
    split at h
    · cases h
    · rw [if_neg (by simp only [List.length_append, List.length_cons, List.length_nil]; omega)]
      split at h
      · rename_i hok
        rw [if_pos]
        unfold proofOK at hok ⊢
        simp only [Bool.and_eq_true, List.all_eq_true, decide_eq_true_eq] at hok ⊢
        refine ⟨fun r hr => ?_, fun u hu => List.mem_append.2 (.inl (hok.2 u hu))⟩
        rcases List.mem_append.1 hr with hr | hr
        · exact ⟨(hok.1 r hr).1, fun u hu => List.mem_append.2 (.inl ((hok.1 r hr).2 u hu))⟩
        · rw [List.mem_singleton] at hr; subst hr
          exact ⟨by unfold NW; simp, by rw [nw_next hv]; simp⟩
      · cases h
end Go.Proofs.Ytpancbdaigaheaa
end

section
namespace Go.Proofs.Ytpancbdaigaheaa
open Go Go.AM
set_option linter.unusedSimpArgs false

theorem compactTo_strict {d : List (List UInt8)} (hs : d.Pairwise fun a b => ¬ ltW b a) : ∀ m, m ≤ d.length →
    (Lib.compactUpTo d.toArray m).Pairwise ltW ∧ (∀ x, x ∈ Lib.compactUpTo d.toArray m ↔ x ∈ d.take m)
  | 0, _ => by simp [Lib.compactUpTo]
  | m + 1, hm => by
    obtain ⟨h1, h2⟩ := compactTo_strict hs m (by omega)
    have hml : m < d.length := hm
    have get : ∀ j (h : j < d.length), d.toArray[j]! = d[j] := fun j h => by rw [getElem!_pos d.toArray j (by simpa using h)]; simp
    have hle : ∀ i j (hi : i < d.length) (hj : j < d.length), i ≤ j → ¬ ltW d[j] d[i] := fun i j hi hj hij => by
      by_cases e : i = j
      · subst e; exact ltW_irrefl _
      · exact List.pairwise_iff_getElem.1 hs i j hi hj (by omega)
    rw [Lib.compactUpTo_succ, List.take_succ_eq_append_getElem hml, get m hml]
    by_cases hk : Lib.keeps d.toArray m = true
    · rw [if_pos hk]
      refine ⟨List.pairwise_append.2 ⟨h1, by simp, fun x hx y hy => ?_⟩, fun x => ?_⟩
      · rw [List.mem_singleton] at hy; subst hy
        obtain ⟨j, hj, rfl⟩ := List.mem_take_iff_getElem.1 ((h2 x).1 hx)
        have hjm : j < m := by omega
        apply Classical.byContradiction
        intro hno
        have e : d[j] = d[m] := ltW_total hno (hle j m (by omega) hml (by omega))
        have e2 : d[m - 1] = d[m] := ltW_total (by rw [← e]; exact hle j (m - 1) (by omega) (by omega) (by omega)) (hle (m - 1) m (by omega) hml (by omega))
        have := Lib.keeps_neg (d := d.toArray) (m := m) (by omega) (by rw [get m hml, get (m - 1) (by omega), e2])
        rw [this] at hk; cases hk
      · simp only [List.mem_append, h2 x]
    · rw [if_neg hk, List.append_nil]
      refine ⟨h1, fun x => ?_⟩
      simp only [List.mem_append, h2 x, List.mem_singleton]
      refine ⟨.inl, fun h => h.elim id fun e => ?_⟩
      subst e
      have hm0 : 0 < m := by
        rcases Nat.eq_zero_or_pos m with h | h
        · subst h; exact absurd (Lib.keeps_lt_one _ 0 (by omega)) hk
        · exact h
      have e : d[m] = d[m - 1] := by
        apply Classical.byContradiction
        intro hne
        exact hk (Lib.keeps_pos (by rw [get m hml, get (m - 1) (by omega)]; exact hne))
      rw [e]
      exact List.mem_take_iff_getElem.2 ⟨m - 1, by omega, rfl⟩

theorem made_strict (l : List (List UInt8)) : (made l).Pairwise ltW := by
  have := (compactTo_strict (sortW_sorted l) (sortW l).length (Nat.le_refl _)).1
  exact this
theorem mem_made {l : List (List UInt8)} {x : List UInt8} : x ∈ made l ↔ x ∈ l := by
  have := (compactTo_strict (sortW_sorted l) (sortW l).length (Nat.le_refl _)).2 x
  rw [List.take_length, mem_sortW] at this
  exact this
theorem made_of {l m : List (List UInt8)} (hm : m.Pairwise ltW) (h : ∀ x, x ∈ l ↔ x ∈ m) : made l = m := strict_unique (made_strict l) hm fun x => mem_made.trans (h x)

theorem check_of {q : Int} {vs : List (List UInt8)} (h2 : 2 ≤ q) (h16 : q ≤ 16) (hne : vs ≠ []) (hlen : vs.length ≤ 64) (hw : ∀ x ∈ vs, x ≠ [] ∧ x.length ≤ 32 ∧ wordCheck q x = 0) (hs : vs.Pairwise ltW) : codeCheck q vs = 0 := by
  refine codeCheck_0 (by omega) (fun h => hne (List.length_eq_zero_iff.1 h)) (by omega) fun j hj => ?_
  obtain ⟨h3, h4, h5⟩ := hw _ (getD_in hj)
  unfold wordErr
  simp only
  rw [if_neg h3, if_neg (by omega), if_neg (by simpa using h5), if_neg]
  rintro ⟨hj0, hc⟩
  have h6 : ltW (vs.getD (j - 1) []) (vs.getD j []) := by
    have := List.pairwise_iff_getElem.1 hs (j - 1) j (by omega) hj (by omega)
    rwa [List.getD_eq_getElem?_getD, List.getElem?_eq_getElem (by omega), Option.getD_some, List.getD_eq_getElem?_getD, List.getElem?_eq_getElem hj, Option.getD_some]
  have := (ltW_iff _ _).2 h6
  omega

theorem Valid.words {q : Int} {ws : List (List UInt8)} (hv : Valid q ws) : ∀ x ∈ ws, x ≠ [] ∧ x.length ≤ 32 ∧ wordCheck q x = 0 := fun x hx => by
  obtain ⟨j, hj, rfl⟩ := List.getElem_of_mem hx
  have h1 := hv.ne j hj
  have h2 := hv.short j hj
  have h3 := hv.word j hj
  rw [List.getD_eq_getElem?_getD, List.getElem?_eq_getElem hj, Option.getD_some] at h1 h2 h3
  exact ⟨h1, h2, h3⟩

theorem word_rev {q : Int} {w : List UInt8} : wordCheck q w.reverse = wordCheck q w := by
  unfold wordCheck okW
  rw [List.length_reverse, List.all_reverse]

theorem rev_valid {q : Int} {ws : List (List UInt8)} (hv : Valid q ws) : codeCheck q (made (revs ws)) = 0 := by
  have hl := made_le (revs ws)
  have hrl : (revs ws).length = ws.length := by simp [revs]
  have hlen := hv.len
  refine check_of hv.q2 hv.q16 (fun e => ?_) (by omega) (fun x hx => ?_) (made_strict _)
  · have hp := hv.pos
    have : ws[0].reverse ∈ made (revs ws) := mem_made.2 (List.mem_map.2 ⟨_, List.getElem_mem hp, rfl⟩)
    rw [e] at this; cases this
  · obtain ⟨w, hw, rfl⟩ := List.mem_map.1 (mem_made.1 hx)
    obtain ⟨h1, h2, h3⟩ := hv.words w hw
    exact ⟨by simpa using h1, by simpa using h2, by rw [word_rev]; exact h3⟩

theorem rev_amb {q : Int} {ws : List (List UInt8)} (hv : Valid q ws) : [] ∈ residL (made (revs ws)) ↔ [] ∈ residL ws := by
  rw [(valid_of (rev_valid hv)).amb, hv.amb]
  constructor
  · exact amb_rev fun x hx => by
      obtain ⟨w, hw, rfl⟩ := List.mem_map.1 (mem_made.1 hx)
      rw [List.reverse_reverse]; exact hw
  · exact amb_rev fun x hx => mem_made.2 (List.mem_map.2 ⟨x, hx, rfl⟩)

theorem alone_resid {ws : List (List UInt8)} : aloneB (fun w x => x.isPrefixOf w) ws = true ↔ residL ws = [] := by
  have key : residL ws = [] ↔ firstS ws = [] := by
    constructor
    · intro h
      rw [List.eq_nil_iff_forall_not_mem] at h ⊢
      exact fun u hu => h u (mem_residL.2 (.first u hu))
    · intro h
      rw [List.eq_nil_iff_forall_not_mem]
      intro u hu
      have : ∀ u, Reach ws u → False := fun u hr => by
        induction hr with
        | first u hu => rw [h] at hu; cases hu
        | next _ _ _ _ _ ih => exact ih
      exact this u (mem_residL.1 hu)
  rw [key, List.eq_nil_iff_forall_not_mem]
  unfold aloneB aloneN aloneTo
  simp only [List.all_eq_true, List.mem_range, Bool.or_eq_true, decide_eq_true_eq, Bool.not_eq_true']
  constructor
  · intro h u hu
    obtain ⟨i, k, hi, hk, hne, hp, _⟩ := mem_firstS.1 hu
    rcases h i hi k hk with h | h
    · exact hne h
    · rw [hp] at h; cases h
  · intro h i hi k hk
    by_cases e : i = k
    · exact .inl e
    · refine .inr (Bool.eq_false_iff.2 fun hp => h _ (mem_firstS.2 ⟨i, k, hi, hk, e, hp, rfl⟩))
end Go.Proofs.Ytpancbdaigaheaa
end

section
namespace Go.Proofs.Ytpancbdaigaheaa
open Go Go.AM
set_option maxRecDepth 100000
set_option linter.unusedSimpArgs false

theorem AC.mono {P : Program} {f : FuncId} {args : List AV} {h : List AObj} {ks : List Nat} {R R' : AV → List AObj → Prop} (hf : AC P f args h ks R) (hi : ∀ v h', R v h' → R' v h') : AC P f args h ks R' :=
  ⟨hf.1, fun X I μ ob w cargs a b c d => (hf.2 X I μ ob w cargs a b c d).mono fun _ _ ⟨cv, v, h', I', μ', ob', x1, x2, x3, x4, x5, x6, x7, x8, x9, x10⟩ => ⟨cv, v, h', I', μ', ob', x1, x2, x3, x4, x5, x6, x7, x8, x9, hi _ _ x10⟩⟩

theorem cut_sub (ws : List (List UInt8)) (k : Nat) : (cutOut ws k (k + 1)).Sublist ws := by
  unfold cutOut
  have h := (List.Sublist.refl (ws.take k)).append (List.drop_sublist 1 (ws.drop k))
  rw [List.drop_drop, List.take_append_drop] at h
  exact h
theorem cut_valid {q : Int} {ws : List (List UInt8)} (hv : Valid q ws) {k : Nat} (hk : k < ws.length) (h2 : 2 ≤ ws.length) (hp : ws.Pairwise ltW) : codeCheck q (cutOut ws k (k + 1)) = 0 := by
  have hs := cut_sub ws k
  have hl : (cutOut ws k (k + 1)).length = ws.length - 1 := by unfold cutOut; simp; omega
  refine check_of hv.q2 hv.q16 (fun e => ?_) (by have := hv.len; omega) (fun x hx => hv.words x (hs.subset hx)) (hp.sublist hs)
  rw [e] at hl; simp at hl; omega
theorem Valid.strict {q : Int} {ws : List (List UInt8)} (hv : Valid q ws) : ws.Pairwise ltW := by
  refine List.pairwise_iff_getElem.2 fun i j hi hj hij => ?_
  have := hv.lt i j hij hj
  rwa [List.getD_eq_getElem?_getD, List.getElem?_eq_getElem hi, Option.getD_some, List.getD_eq_getElem?_getD, List.getElem?_eq_getElem hj, Option.getD_some] at this

theorem resid_small {q : Int} {ws : List (List UInt8)} (hv : Valid q ws) (hg : greatB ws = false) : (residL ws).length ≤ 42 := by
  unfold greatB at hg
  simp only [Bool.or_eq_false_iff, Bool.and_eq_false_iff, decide_eq_false_iff_not] at hg
  obtain ⟨hw, h1, h2⟩ := hg
  have hl : ws.length ≤ 6 := by have := hv.len; omega
  have hsh : ∀ w ∈ ws, w.length ≤ 6 := fun w hwm => by
    have h3 := List.any_eq_false.1 hw w hwm
    have h4 := (hv.words w hwm).2.1
    unfold greatW at h3
    simp only [Bool.or_eq_true, Bool.and_eq_true, decide_eq_true_eq, not_or, not_and] at h3
    omega
  have h5 : residL ws ⊆ sufs ws := fun x hx => mem_sufs (reach_suffix (mem_residL.1 hx))
  have h6 := nodup_sub_lenW ((residL_strict ws).imp (fun h e => by subst e; exact ltW_irrefl _ h)) h5
  have h7 := sufs_len (ws := ws) (n := 6) hsh
  have h8 : ws.length * (6 + 1) ≤ 6 * 7 := Nat.mul_le_mul_right _ hl
  omega

theorem part_proof {q : Int} {ws vs : List (List UInt8)} (hc : codeCheck q vs = 0) (hs : ∀ x ∈ vs, x ∈ ws) (hl : (residL ws).length ≤ 42) (hn : [] ∉ residL ws) : proofCheck q vs (residL ws) = 0 := by
  unfold proofCheck
  rw [if_neg (by simp [hc]), if_neg (by omega), if_pos]
  unfold proofOK
  simp only [Bool.and_eq_true, List.all_eq_true, decide_eq_true_eq]
  refine ⟨fun r hr => ⟨fun e => hn (e ▸ hr), fun u hu => ?_⟩, fun u hu => ?_⟩
  · obtain ⟨x, hx, hxu⟩ := mem_nextS.1 hu
    exact mem_residL.2 (.next r u (mem_residL.1 hr) (fun e => hn (e ▸ hr)) (mem_nextS.2 ⟨x, hs x hx, hxu⟩))
  · obtain ⟨i, k, hi, hk, hne, hp, rfl⟩ := mem_firstS.1 hu
    obtain ⟨t, ht⟩ := List.isPrefixOf_iff_prefix.1 hp
    refine mem_residL.2 (.first _ (first_of (hs _ (getD_in hi)) (hs _ (getD_in hk)) (fun e => hne (distinct_idx (valid_of hc) i k hi hk e)) ?_))
    rw [← ht, List.drop_left]

set_option maxHeartbeats 2000000 in
theorem t4 (q : Int) (ws : List (List UInt8)) (n : Int) (hws : ws.length ≤ 9223372036854775807) (hn0 : 0 ≤ n) (hn1 : n ≤ 255) : PFn Try.prog 4 [codeV q ws, .int .u8 n] [.bool true] := by
  refine PFn.of_body hΓ Try.func4 (by kernel_rfl) rfl (AWp.of_awpD [(4, 1000)] hΓ hmix (by kernel_rfl) ?_)
  simp +contextual -implicitDefEqProofs only [codeV, Try.ntmps4, Try.results4, Nat.reduceAdd, Nat.reduceSub, go_sem]
  refine callK_fn (t12 q ws hws) (.still rfl) ?_
  cases hf : (!greatB ws && decide (codeCheck q ws = 0))
  · simp -implicitDefEqProofs only [go_sem]
    refine callK_fn awake_ok (.pures rfl) ?_
    simp -implicitDefEqProofs only [go_sem]
  simp only [Bool.and_eq_true, decide_eq_true_eq] at hf
  have h := hf.2
  have hv := valid_of h
  by_cases h2 : (ws.length : Int) < 2
  · simp -implicitDefEqProofs only [h2, go_sem]
    refine callK_fn awake_ok (.pures rfl) ?_
    simp -implicitDefEqProofs only [go_sem]
  simp -implicitDefEqProofs only [h2, go_sem]
  refine ⟨by simp only [InR]; omega, ⟨by omega, by omega⟩, ?_⟩
  have hw64 := hv.len
  obtain ⟨k, hk⟩ : ∃ k : Nat, n % (ws.length : Int) = k := ⟨(n % (ws.length : Int)).toNat, (Int.toNat_of_nonneg (Int.emod_nonneg _ (by omega))).symm⟩
  have hkl : k < ws.length := by have := Int.emod_lt_of_pos n (show (0 : Int) < ws.length by omega); omega
  rw [hk]
  refine AWp.planL (.q 0 (.q 1 (.q 2 (.q 3 (.q 5 (.q 6 (.q 7 (.e 4 (.s 0 (.s 1 (.s 5 (.s 6 (.s 7 (.e 8 (.s 0 (.s 1 (.q 9 (.e 10 (.s 0 (.s 1 (.s 2 (.s 3 (.s 5 (.s 6 (.s 7 (.s 9 (.e 11 .fin .nil))))))))) .nil)))) (.e 10 (.s 0 (.s 1 (.s 2 (.s 3 (.s 5 (.s 6 (.s 7 (.e 8 (.s 0 (.s 1 (.q 9 (.e 11 .fin .nil)))) .nil)))))))) .nil))))))) (.e 10 (.s 0 (.s 1 (.s 2 (.s 3 (.s 5 (.s 6 (.s 7 (.e 4 (.s 0 (.s 1 (.s 5 (.s 6 (.s 7 (.e 8 (.s 0 (.s 1 (.q 9 (.e 11 .fin .nil)))) .nil)))))) .nil)))))))) .nil))))))))) hΓ hmix (by kernel_rfl) ?_
  have hn2 : 2 ≤ ws.length := by omega
  have hne : ws ≠ [] := fun e => by rw [e] at hn2; simp at hn2
  have hcv := cut_valid hv hkl hn2 hv.strict
  have hsub : ∀ x ∈ cutOut ws k (k + 1), x ∈ ws := fun x hx => (cut_sub ws k).subset hx
  have hrs := resid_small hv (by simpa using hf.1)
  have e14 := t14 q ws
  have e15 := t15 q ws
  have e15p := t15 q (cutOut ws k (k + 1))
  have e23 := t23 q (cutOut ws k (k + 1)) (residL ws) (by omega)
  rw [if_pos h, if_pos h] at e14 e15
  rw [if_pos hcv, if_pos hcv] at e15p
  obtain ⟨k1, hk1, hk2⟩ : ∃ k1 : Nat, (k : Int) + 1 = k1 ∧ k1 = k + 1 := ⟨k + 1, by omega, rfl⟩
  have hR : InR .i64 k1 := by simp only [InR]; omega
  have c22' : ∀ h : List AObj, AC Try.prog 22 [.p (.sl (ws.map .str))] h [] (fun v h' => v = .own h.length ws.length ∧ h' = h ++ [.row 9 1 (ws.map .str) .own]) := fun h => by
    have h0 := c22 (h := h) ws (by omega)
    refine AC.mono h0 ?_
    rintro v h' (⟨hw, _, _⟩ | ⟨rk, hr, hr2, h3, h4⟩)
    · exact absurd hw hne
    · rw [hr2 hne] at h4; exact ⟨h3, h4⟩
  simp -implicitDefEqProofs only [hk1, go_sem]
  refine ⟨hR, ?a, hR, ?b⟩
  case' a =>
    refine callK_ac (c22' _) (by simp) ?_
    rintro v h' ⟨rfl, rfl⟩
    simp -implicitDefEqProofs only [killAll, List.foldl, hk1, go_sem]
    refine ⟨hR, ?_, hR, ?_⟩
  case' b =>
    refine callK_ac (c22' _) (by simp) ?_
    rintro v h' ⟨rfl, rfl⟩
    simp -implicitDefEqProofs only [killAll, List.foldl, hk1, go_sem]
    refine ⟨hR, ?_⟩
  all_goals
    refine callK_ac (c21 ws k k1 (by omega) (by omega) (by rfl) (by omega)) (by simp) ?_
    rintro v h' ⟨rfl, rfl⟩
    rw [hk2]
    simp -implicitDefEqProofs only [killAll, List.foldl, hk1, go_sem]
    first
      | refine ⟨by omega, ⟨hR, hk2.symm⟩, by omega, ?_⟩
      | refine ⟨by omega, ?_⟩
    refine callK_fn e14 (.still rfl) ?_
    simp -implicitDefEqProofs only [go_sem]
    refine callK_fn e15 (.still rfl) ?_
    simp -implicitDefEqProofs only [go_sem]
    refine callK_fn e15p (.owned rfl rfl) ?_
    cases hd : decide ([] ∈ residL ws)
    · have hn : [] ∉ residL ws := of_decide_eq_false hd
      have hnp : decide ([] ∈ residL (cutOut ws k (k + 1))) = false := decide_eq_false fun hm => hn ((hv.amb).2 (amb_sub hsub ((valid_of hcv).amb.1 hm)))
      have hpc := part_proof hcv hsub hrs hn
      rw [hnp]
      rw [hpc] at e23
      simp -implicitDefEqProofs only [go_sem]
      refine callK_fn e23 (.owned rfl rfl) ?_
      simp -implicitDefEqProofs only [go_sem]
      refine callK_fn awake_ok (.pures rfl) ?_
      simp -implicitDefEqProofs only [go_sem]
    · simp -implicitDefEqProofs only [go_sem]
      refine callK_fn awake_ok (.pures rfl) ?_
      simp -implicitDefEqProofs only [go_sem]
end Go.Proofs.Ytpancbdaigaheaa
end

section
namespace Go.Proofs.Ytpancbdaigaheaa
open Go Go.AM Go.RowKit Go.ChangeShapes
set_option maxRecDepth 100000

theorem own : ownKnob Try.prog.godebug = none := by kernel_rfl
theorem laidOut : laidOutB Try.prog = true := by kernel_rfl

def codeSh : Sh := .agg [.int .i64, .sl .str]
def ambSh : Sh := .agg [.str, .sl (.int .i64), .sl (.int .i64)]

theorem strs_of {l : List PV} (h : ∀ i, i < l.length → Fit .str (l.getD i default)) : ∃ ws : List (List UInt8), l = ws.map .str ∧ ∀ w ∈ ws, w.length ≤ maxLen := by
  induction l with
  | nil => exact ⟨[], rfl, by simp⟩
  | cons x l ih =>
    obtain ⟨ws, h1, h2⟩ := ih (fun i hi => h (i + 1) (by simpa using hi))
    have h0 := h 0 (by simp)
    simp only [List.getD_cons_zero] at h0
    cases h0 with
    | str s hs => exact ⟨s :: ws, by rw [h1]; rfl, fun w hw => by
        rcases List.mem_cons.1 hw with rfl | hw
        · exact hs
        · exact h2 w hw⟩
theorem ints_of {l : List PV} (h : ∀ i, i < l.length → Fit (.int .i64) (l.getD i default)) : ∃ a : List Int, l = a.map (.int .i64) ∧ ∀ x ∈ a, InR .i64 x := by
  induction l with
  | nil => exact ⟨[], rfl, by simp⟩
  | cons x l ih =>
    obtain ⟨a, h1, h2⟩ := ih (fun i hi => h (i + 1) (by simpa using hi))
    have h0 := h 0 (by simp)
    simp only [List.getD_cons_zero] at h0
    cases h0 with
    | int _ n hn => exact ⟨n :: a, by rw [h1]; rfl, fun w hw => by
        rcases List.mem_cons.1 hw with rfl | hw
        · exact hn
        · exact h2 w hw⟩
theorem words_of {p : PV} (h : Fit (.sl .str) p) : ∃ ws : List (List UInt8), p = .sl (ws.map .str) ∧ ws.length ≤ maxLen ∧ ∀ w ∈ ws, w.length ≤ maxLen := by
  cases h with
  | sl _ l h1 h2 =>
    obtain ⟨ws, rfl, h3⟩ := strs_of h2
    exact ⟨ws, rfl, by simpa using h1, h3⟩
theorem nums_of {p : PV} (h : Fit (.sl (.int .i64)) p) : ∃ a : List Int, p = .sl (a.map (.int .i64)) ∧ a.length ≤ maxLen ∧ ∀ x ∈ a, InR .i64 x := by
  cases h with
  | sl _ l h1 h2 =>
    obtain ⟨a, rfl, h3⟩ := ints_of h2
    exact ⟨a, rfl, by simpa using h1, h3⟩
theorem code_of {p : PV} (h : Fit codeSh p) : ∃ (q : Int) (ws : List (List UInt8)), p = codeV q ws ∧ InR .i64 q ∧ ws.length ≤ maxLen ∧ ∀ w ∈ ws, w.length ≤ maxLen := by
  cases h with
  | agg _ l h1 h2 =>
    match l, h1 with
    | [x, y], _ =>
      have h3 := h2 0 (by simp)
      have h4 := h2 1 (by simp)
      simp only [List.getD_cons_zero, List.getD_cons_succ] at h3 h4
      obtain ⟨ws, rfl, h5⟩ := words_of h4
      cases h3 with
      | int _ n hn => exact ⟨n, ws, rfl, hn, h5⟩
theorem amb_of {p : PV} (h : Fit ambSh p) : ∃ (m : List UInt8) (a b : List Int), p = ambV m a b ∧ m.length ≤ maxLen ∧ a.length ≤ maxLen ∧ b.length ≤ maxLen := by
  cases h with
  | agg _ l h1 h2 =>
    match l, h1 with
    | [x, y, z], _ =>
      have h3 := h2 0 (by simp)
      have h4 := h2 1 (by simp)
      have h5 := h2 2 (by simp)
      simp only [List.getD_cons_zero, List.getD_cons_succ] at h3 h4 h5
      obtain ⟨a, rfl, ha, _⟩ := nums_of h4
      obtain ⟨b, rfl, hb, _⟩ := nums_of h5
      cases h3 with
      | str m hm => exact ⟨m, a, b, rfl, hm, ha, hb⟩

end Go.Proofs.Ytpancbdaigaheaa
end

