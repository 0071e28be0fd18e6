/-
  DERIVED: THE SHELF's CONTRACTS AT THIS DUMP, IN PLAIN WORDS (tools/lay-plain.mjs out of 'YtjjedaikbgfmmaaGreatTmpSc.lean', which tools/lay-shelf.mjs wrote): THE SAME DECLARATIONS UNDER THE SAME NAMES: 'import', 'namespace', 'open', 'def', 'theorem' AND NOTHING ELSE: no command of the shelf's: FOR A HAND-IN. Each laying: the table of numbers ('.._ren') and one theorem, a field a fact of the dump's own or the kernel's comparison; each contract: ONE APPLICATION.
  slices.Compact on an owned row of words, as a contract with the heap.
  code.Make: the words sorted, each once; checked.
  Reversed words: slices.Reverse of bytes, word.Reverse.
  code.Reverse.
  Plain law of codes that are made.
  completion.Prune.
  The chapter's examples: reckoned, but for Kraft's sum, its comparison with 1, and Prune, whose contracts are known.
-/
import Derived.Shelf.SlicesG.In.CompactS
import Derived.Shelf.SlGeneric
import Derived.Ground.SlgnProg
import Derived.Test.YtjjedaikbgfmmaaGreatProg
import Derived.Test.YtjjedaikbgfmmaaGreatJe5ec75338621
import Derived.Test.YtjjedaikbgfmmaaGreatJ9084d257f9db
import Derived.Test.YtjjedaikbgfmmaaGreatJ8df0f086fdec
import Derived.Test.YtjjedaikbgfmmaaGreatJc7925ed230f2
import Derived.Test.YtjjedaikbgfmmaaGreatJf918444689f3
import Derived.Test.YtjjedaikbgfmmaaGreatJecd949d4371f

section
namespace Go.Proofs
open Go.Shelf
def Tryz.compS_ren : Go.Shelf.Ren := ⟨fun | 44 => 108 | n => n, fun | 25 => 25 | 26 => 9 | 3 => 3 | 4 => 4 | 0 => 0 | n => n, fun | n => n⟩
theorem Tryz.compS : Go.Proofs.SlLaysN.n44 Tryz.prog Tryz.compS_ren := {
  mixed := by kernel_rfl
  f44 := ⟨Tryz.f108.name, by decide, Tryz.func108.trans (congrArg some (by kernel_rfl))⟩
  t0 := Tryz.underlying0
  a0 := Tryz.isAgg0
  z0 := Tryz.sizeOf0
  v0 := Tryz.zeroValue0
  t3 := Tryz.underlying3
  a3 := Tryz.isAgg3
  z3 := Tryz.sizeOf3
  v3 := Tryz.zeroValue3
  t4 := Tryz.underlying4
  a4 := Tryz.isAgg4
  z4 := Tryz.sizeOf4
  v4 := Tryz.zeroValue4
  t25 := Tryz.underlying25
  a25 := Tryz.isAgg25
  z25 := Tryz.sizeOf25
  v25 := Tryz.zeroValue25
  t26 := Tryz.underlying9
  a26 := Tryz.isAgg9
  z26 := Tryz.sizeOf9
  v26 := Tryz.zeroValue9
  i26 := by kernel_rfl }
end Go.Proofs
end

section
namespace Go.Proofs.YtjjedaikbgfmmaaGreat
open Go Go.AM Go.RowKit
set_option maxRecDepth 100000
set_option linter.unusedSimpArgs false

theorem compact_le (l : List (List UInt8)) : (Lib.compact l).length ≤ l.length := by
  unfold Lib.compact Lib.compactUpTo
  rw [List.length_map]
  exact Nat.le_trans (List.length_filter_le _ _) (by simp)

theorem c107 {h : List AObj} {b : Nat} (l : List (List UInt8)) (hb : h[b]? = some (.row 9 1 (l.map .str) .own)) (hsz : l.length ≤ 1000000) :
    AC Tryz.prog 108 [.own b l.length] h [b] (fun v h' => v = .own b (Lib.compact l).length ∧ h' = (h.map (AObj.kill b)).set b (.row 9 1 ((Lib.compact l).map .str) .own)) := by
  refine ⟨entersF_of Tryz.func108 (by kernel_rfl) rfl, fun X I μ ob w cargs R hlen hargs hmay => ?_⟩
  obtain ⟨a0, rfl⟩ : ∃ a, cargs = [a] := by
    match cargs, hlen with
    | [a], _ => exact ⟨a, rfl⟩
  have g0 := hargs 0 (by simp)
  simp only [List.getD_cons_zero] at g0
  obtain ⟨a, c, rfl, hbn, hbm⟩ := g0.own_inv
  obtain ⟨hall, hrow⟩ := R.objs _ _ hb
  rcases hrow with ⟨g, hg, cap, cur, fr, vs, e1, e2, e3, e4, e5, e6, e7, e8, e9, e10⟩ | ⟨hk, _⟩
  rotate_left
  · cases hk
  rw [hbm] at e1
  simp only [List.length_map] at e1 e5 e7 e8 e9 e10
  injection e1 with e1a _ e1c
  subst e1a e1c
  have hfr := e3 rfl
  subst hfr
  have hgl := (R.own b g hg).2.2
  have cell : ∀ j (hj : j < l.length), cur[j]? = some (encW l[j]) := fun j hj => by
    have h1 := e10 j (by omega)
    rw [flats_str, getD_map_lt _ _ _ _ hj] at h1
    have h2 := encW_of h1
    have h3 : cur.toList[j]? = some (vs.getD j undef) := by
      have : vs[j]? = some (vs.getD j undef) := by rw [List.getD_eq_getElem?_getD, List.getElem?_eq_getElem (by omega)]; rfl
      rw [← e8, List.getElem?_take_of_lt (by omega)] at this
      exact this.trans (by rw [e8])
    rw [Array.getElem?_toList, h2] at h3
    exact h3
  have hH : Sort.Holds encW w g 0 l.toArray := fun j hj => by
    have hj' : j < l.length := by simpa using hj
    refine ⟨?_, ?_⟩
    · unfold World.cell?
      simp only [Nat.zero_add, e2]
      rw [cell j hj', getElem!_pos l.toArray j hj]
      simp
    · unfold World.frozen?
      simp only [e2]
      simp
  have hc : Calls Tryz.prog 108 #[.slice (some ⟨g, 0, none⟩) l.length c] w fun e w' => e = .returned (.slice (some ⟨g, 0, none⟩) (Lib.compact l).length c) ∧ ∃ q, w' = Sort.putRow encW (Sort.ahead w q) g 0 (Lib.compact l ++ List.replicate (l.length - (Lib.compact l).length) []).toArray :=
    AnyG.slices_Compact_string (ρ := Tryz.compS_ren) Tryz.compS g 0 c l w hH (by omega) e5
  refine Calls.mono (P := Tryz.prog) hc ?_
  rintro e w' ⟨rfl, n, rfl⟩
  have hcl := compact_le l
  generalize hlf : Lib.compact l ++ List.replicate (l.length - (Lib.compact l).length) [] = lf
  have hsl : lf.toArray.size = l.length := by rw [← hlf]; simp; omega
  have hlfl : lf.length = l.length := by simpa using hsl
  -- the world that is left
  have hnew : (Sort.putRow encW (Sort.ahead w n) g 0 lf.toArray).heap[g]? = some (.cells (Sort.putCells encW 0 lf.toArray cur) 9 (0, 0)) := by
    show (w.heap.modify g _)[g]? = _
    rw [Array.getElem?_modify, if_pos rfl, e2]; rfl
  have hold : ∀ k, k < w.heap.size → k ≠ g → (Sort.putRow encW (Sort.ahead w n) g 0 lf.toArray).heap[k]? = w.heap[k]? := fun k hk hne => by
    show (w.heap.modify g _)[k]? = _
    rw [Array.getElem?_modify, if_neg (fun e => hne e.symm)]
  have hsize : (Sort.putRow encW (Sort.ahead w n) g 0 lf.toArray).heap.size = w.heap.size := by
    show (w.heap.modify g _).size = _
    simp
  have hgrow : w.grownBy (Sort.putRow encW (Sort.ahead w n) g 0 lf.toArray) (ob b) := ⟨rfl, rfl, rfl, by rw [hsize]; exact Nat.le_refl _, fun k hk hk2 => hold k hk (fun e => hk2 (by rw [e, hg]))⟩
  have hput : ∀ j, j < (Lib.compact l).length → (Sort.putCells encW 0 lf.toArray cur)[j]? = some (encW ((Lib.compact l).getD j [])) := fun j hj => by
    have hj2 : j < l.length := by omega
    unfold Sort.putCells
    rw [Array.getElem?_mapIdx, cell j hj2]
    simp only [Option.map_some]
    rw [if_pos ⟨Nat.zero_le _, by rw [hsl]; omega⟩, Nat.sub_zero, getElem!_pos lf.toArray j (by rw [hsl]; exact hj2)]
    have : lf[j]'(by omega) = (Lib.compact l).getD j [] := by
      subst hlf
      rw [List.getElem_append_left hj, List.getD_eq_getElem?_getD, List.getElem?_eq_getElem hj]; rfl
    simp only [List.getElem_toArray, this]
  have hps : (Sort.putCells encW 0 lf.toArray cur).size = cur.size := by unfold Sort.putCells; rw [Array.size_mapIdx]
  have hpl : ((Sort.putCells encW 0 lf.toArray cur).toList.take (Lib.compact l).length).length = (Lib.compact l).length := by
    have h1 : (Sort.putCells encW 0 lf.toArray cur).toList.length = cur.size := by simpa using hps
    rw [List.length_take, h1]; omega
  have R2 := R.move (b0 := b) (v := .slice (some ⟨g, 0, none⟩) (Lib.compact l).length c) (g := some g) (o := .row 9 1 ((Lib.compact l).map .str) .own) hbn (hmay b (by simp)) hgrow
    (fun k e => by injection e with e; subst e; exact ⟨.inl hg, by rw [hsize]; exact hgl⟩) ⟨fun x hx => by
      obtain ⟨u, _, rfl⟩ := List.mem_map.1 hx; rfl, .inl ⟨g, by simp, c, Sort.putCells encW 0 lf.toArray cur, (0, 0), (Sort.putCells encW 0 lf.toArray cur).toList.take (Lib.compact l).length, by rw [upd_same, List.length_map], hnew, fun _ => rfl, by simp,
        by rw [List.length_map]; omega, e6, by rw [hps]; exact e7, by rw [List.length_map, Nat.mul_one], by
          rw [List.length_map, hpl, Nat.mul_one], fun j hj => ?_⟩⟩
  · exact ⟨_, .own b (Lib.compact l).length, _, I, upd μ b (.slice (some ⟨g, 0, none⟩) (Lib.compact l).length c), upd ob b (some g), rfl, R2, .own _ _ _ _ (by simpa using hbn) (by simp), fun _ h => h, fun k _ hk => upd_other _ _ (by simpa using hk), by simp, fun g hg => .inl hg,
      fun k g2 hk => by
        by_cases e : k = b
        · subst e; rw [upd_same] at hk; injection hk with hk; subst hk; exact .inl ⟨k, hg⟩
        · rw [upd_other _ _ e] at hk; exact .inl ⟨k, hk⟩,
      fun k hk hno => hold k hk (fun e => hno b (by rw [e]; exact hg)), rfl, rfl⟩
  · rw [List.length_map, Nat.mul_one] at hj
    rw [flats_str, getD_map_lt _ _ _ _ hj]
    have : ((Sort.putCells encW 0 lf.toArray cur).toList.take (Lib.compact l).length).getD j undef = encW ((Lib.compact l).getD j []) := by
      rw [List.getD_eq_getElem?_getD, List.getElem?_take_of_lt hj, Array.getElem?_toList, hput j hj]; rfl
    rw [this, List.getD_eq_getElem?_getD, List.getElem?_eq_getElem hj]
    exact pr_encW _

/-- At no element: nothing turns, whosever the row is. -/
theorem c107n {h : List AObj} {b : Nat} : AC Tryz.prog 108 [.own b 0] h [] (fun v h' => v = .own b 0 ∧ h' = h) := by
  refine ⟨entersF_of Tryz.func108 (by kernel_rfl) rfl, fun X I μ ob w cargs R hlen hargs _ => ?_⟩
  obtain ⟨a0, rfl⟩ : ∃ a, cargs = [a] := by
    match cargs, hlen with
    | [a], _ => exact ⟨a, rfl⟩
  have g0 := hargs 0 (by simp)
  simp only [List.getD_cons_zero] at g0
  obtain ⟨a, c, rfl, hbn, hbm⟩ := g0.own_inv
  have hc : Calls Tryz.prog 108 #[.slice a 0 c] w fun e w' => e = .returned (.slice a 0 c) ∧ w' = w := AnyG.slices_Compact_string_empty (ρ := Tryz.compS_ren) Tryz.compS a c w
  refine Calls.mono (P := Tryz.prog) hc ?_
  rintro e w' ⟨rfl, rfl⟩
  exact ⟨_, .own b 0, _, I, μ, ob, rfl, R, .own _ _ _ _ hbn hbm, fun _ h => h, fun _ _ _ => rfl, Nat.le_refl _, fun g hg => .inl hg, fun b g hb => .inl ⟨b, hb⟩, fun k hk hno => rfl, rfl, rfl⟩
end Go.Proofs.YtjjedaikbgfmmaaGreat
end

section
namespace Go.Proofs.YtjjedaikbgfmmaaGreat
open Go Go.AM
set_option maxRecDepth 100000
set_option linter.unusedSimpArgs false

/-- The words of a code that is made. -/
def made (l : List (List UInt8)) : List (List UInt8) := Lib.compact (sortW l)
theorem made_le (l : List (List UInt8)) : (made l).length ≤ l.length := by
  have := compact_le (sortW l)
  rw [sortW_length] at this
  exact this

theorem compact_nil : Lib.compact ([] : List (List UInt8)) = [] := by
  have := compact_le []
  exact List.length_eq_zero_iff.1 (by simpa using this)
theorem made_nil : made [] = [] := by
  have := made_le []
  exact List.length_eq_zero_iff.1 (by simpa using this)

theorem c83f {g : FuncId} {h : List AObj} : AC Tryz.prog 106 [.full [], .fn g []] h [] (fun v h' => v = .tup [] ∧ h' = h) := by
  refine ⟨entersF_of Tryz.func106 (by kernel_rfl) rfl, fun X I μ ob w cargs R hlen hargs _ => ?_⟩
  obtain ⟨a0, f0, rfl⟩ : ∃ a f, cargs = [a, f] := by
    match cargs, hlen with
    | [a, f], _ => exact ⟨a, f, rfl⟩
  have g0 := hargs 0 (by simp)
  simp only [List.getD_cons_zero] at g0
  obtain ⟨a, rfl⟩ : ∃ a, a0 = .slice a 0 0 := by
    cases g0 with
    | full l a hp => exact ⟨a, rfl⟩
  have hc : Calls Tryz.prog 106 #[.slice a 0 0, f0] w fun e w' => e = .returned (.tuple #[]) ∧ w' = w := AnyF.slices_SortFunc_none (ρ := Tryz.sortS_ren) { Tryz.sortS with } a 0 f0 w
  refine Calls.mono (P := Tryz.prog) hc ?_
  rintro e w' ⟨rfl, rfl⟩
  exact ⟨_, .tup [], _, I, μ, ob, rfl, R, .tup [] [] rfl (by simp), fun _ h => h, fun _ _ _ => rfl, Nat.le_refl _, fun g hg => .inl hg, fun b g hb => .inl ⟨b, hb⟩, fun k hk hno => rfl, rfl, rfl⟩
theorem c107f {h : List AObj} : AC Tryz.prog 108 [.full []] h [] (fun v h' => v = .full [] ∧ h' = h) := by
  refine ⟨entersF_of Tryz.func108 (by kernel_rfl) rfl, fun X I μ ob w cargs R hlen hargs _ => ?_⟩
  obtain ⟨a0, rfl⟩ : ∃ a, cargs = [a] := by
    match cargs, hlen with
    | [a], _ => exact ⟨a, rfl⟩
  have g0 := hargs 0 (by simp)
  simp only [List.getD_cons_zero] at g0
  have g1 := g0
  obtain ⟨a, rfl⟩ : ∃ a, a0 = .slice a 0 0 := by
    cases g0 with
    | full l a hp => exact ⟨a, rfl⟩
  have hc : Calls Tryz.prog 108 #[.slice a 0 0] w fun e w' => e = .returned (.slice a 0 0) ∧ w' = w := AnyG.slices_Compact_string_empty (ρ := Tryz.compS_ren) Tryz.compS a 0 w
  refine Calls.mono (P := Tryz.prog) hc ?_
  rintro e w' ⟨rfl, rfl⟩
  exact ⟨_, .full [], _, I, μ, ob, rfl, R, g1, fun _ h => h, fun _ _ _ => rfl, Nat.le_refl _, fun g hg => .inl hg, fun b g hb => .inl ⟨b, hb⟩, fun k hk hno => rfl, rfl, rfl⟩

theorem c94 {h : List AObj} (hK : h.map (AObj.kill h.length) = h) (ws : List (List UInt8)) (hl : ws.length ≤ 1000000) :
    AC Tryz.prog 110 [.p (.sl (ws.map .str)), .fn 111 []] h [] (fun v h' => (ws = [] ∧ v = .full [] ∧ h' = h) ∨ (∃ rk, rk ≠ .raw ∧ v = .own h.length (made ws).length ∧ h' = h ++ [.row 9 1 ((made ws).map .str) rk])) := by
  refine AC.of_bodyE hΓ Tryz.func110 (by kernel_rfl) rfl (AWp.mono (Q := fun e st => AM.Ends e ∧ ((ws = [] ∧ st.tmps.getD 4 .junk = .full [] ∧ st.h = h) ∨ (∃ rk, rk ≠ .raw ∧ st.tmps.getD 4 .junk = .own h.length (made ws).length ∧ st.h = h ++ [.row 9 1 ((made ws).map .str) rk]))) ?_ ?_)
  rotate_left
  · rintro e ⟨tm, h'⟩ ⟨he, ⟨hw, h1, h2⟩ | ⟨rk, hr, h1, h2⟩⟩
    · simp only at h1 h2
      subst h2
      refine ⟨he, _, Less.refl _, ?_⟩
      unfold DoneE
      simp +contextual -implicitDefEqProofs only [Tryz.results110, h1, go_sem]
      exact ⟨_, Nat.le_refl _, .inl rfl, .inl ⟨hw, List.take_length⟩⟩
    · simp only at h1 h2
      subst h2
      refine ⟨he, _, Less.refl _, ?_⟩
      unfold DoneE
      simp +contextual -implicitDefEqProofs only [Tryz.results110, h1, go_sem]
      exact ⟨h.length + 1, by omega, .inl (by simp), .inr ⟨rk, hr, List.take_of_length_le (by simp)⟩⟩
  refine AWp.of_awpD [] hΓ hmix (by kernel_rfl) ?_
  simp -implicitDefEqProofs only [Tryz.ntmps110, Nat.reduceAdd, Nat.reduceSub, go_sem]
  refine callK_ac (c22 ws hl) (by simp) ?_
  have gL : ∀ o : AObj, (h ++ [o])[h.length]? = some o := fun o => by simp
  rintro v h' (⟨rfl, rfl, rfl⟩ | ⟨rk, hr, hr2, rfl, rfl⟩)
  · simp -implicitDefEqProofs only [killAll, List.foldl, go_sem]
    refine callK_ac c83f (by simp) ?_
    rintro v h' ⟨rfl, rfl⟩
    simp -implicitDefEqProofs only [killAll, List.foldl, go_sem]
    refine callK_ac c107f (by simp) ?_
    rintro v h' ⟨rfl, rfl⟩
    simp -implicitDefEqProofs only [killAll, List.foldl, go_sem]
  · simp -implicitDefEqProofs only [killAll, List.foldl, go_sem]
    by_cases h0 : ws = []
    · subst h0
      refine callK_ac (c83n (b := h.length)) (by simp) ?_
      rintro v h' ⟨rfl, rfl⟩
      simp -implicitDefEqProofs only [killAll, List.foldl, go_sem]
      refine callK_ac (c107n (b := h.length)) (by simp) ?_
      rintro v h' ⟨rfl, rfl⟩
      simp -implicitDefEqProofs only [killAll, List.foldl, go_sem]
      exact .inr ⟨rk, hr, by rw [made_nil]; rfl, by rw [made_nil]; rfl⟩
    · have hrk := hr2 h0
      subst hrk
      have sL : ∀ o o' : AObj, (h ++ [o]).set h.length o' = h ++ [o'] := fun o o' => by simp
      refine callK_ac (c83b ws (gL _) hl) (by simp) ?_
      rintro v h' ⟨rfl, rfl⟩
      simp -implicitDefEqProofs only [killAll, List.foldl, sL, go_sem]
      have hsl := sortW_length ws
      rw [← hsl]
      refine callK_ac (c107 (sortW ws) (gL _) (by omega)) (by simp) ?_
      rintro v h' ⟨rfl, rfl⟩
      simp -implicitDefEqProofs only [killAll, List.foldl, sL, go_sem]
      exact .inr ⟨.own, by simp, rfl, by rw [List.map_append, hK]; simp [AObj.kill, made]⟩

theorem t71 (q : Int) (ws : List (List UInt8)) (hl : ws.length ≤ 1000000) : PFn Tryz.prog 65 [.int .i64 q, .sl (ws.map .str)] [if codeCheck q (made ws) = 0 then codeV q (made ws) else codeV 0 [], .int .i64 (codeCheck q (made ws))] := by
  refine PFn.of_body hΓ Tryz.func65 (by kernel_rfl) rfl (AWp.of_awpD [] hΓ hmix (by kernel_rfl) ?_)
  simp +contextual -implicitDefEqProofs only [codeV, Tryz.ntmps65, Tryz.results65, Nat.reduceAdd, Nat.reduceSub, go_sem]
  refine callK_ac (c94 rfl ws hl) (by simp) ?_
  rintro v h' (⟨rfl, rfl, rfl⟩ | ⟨rk, hr, rfl, rfl⟩)
  · rw [made_nil]
    simp -implicitDefEqProofs only [killAll, List.foldl, go_sem]
    refine ⟨by omega, ?_⟩
    refine callK_fn (t45 q []) (.still rfl) ?_
    by_cases hc : codeCheck q [] = 0
    · rw [hc]
      simp -implicitDefEqProofs only [go_sem]
    · simp -implicitDefEqProofs only [hc, go_sem]
  · simp -implicitDefEqProofs only [killAll, List.foldl, go_sem]
    refine ⟨by omega, ?_⟩
    refine callK_fn (t45 q (made ws)) (.owned rfl rfl) ?_
    by_cases hc : codeCheck q (made ws) = 0
    · rw [hc]
      simp -implicitDefEqProofs only [go_sem]
    · simp -implicitDefEqProofs only [hc, go_sem]
end Go.Proofs.YtjjedaikbgfmmaaGreat
end

section
namespace Go.Proofs.YtjjedaikbgfmmaaGreat
open Go Go.AM
set_option maxRecDepth 100000
set_option linter.unusedSimpArgs false

/-- A word of which i letters at each end have changed places. -/
def rv (l : List UInt8) (i : Nat) : List UInt8 := (List.range l.length).map fun k => if k < i ∨ l.length - i ≤ k then l.getD (l.length - 1 - k) 0 else l.getD k 0
theorem rv_len (l : List UInt8) (i : Nat) : (rv l i).length = l.length := by simp [rv]
theorem rv_get {l : List UInt8} {i k : Nat} (hk : k < l.length) : (rv l i)[k]? = some (if k < i ∨ l.length - i ≤ k then l.getD (l.length - 1 - k) 0 else l.getD k 0) := by
  simp [rv, List.getElem?_map, List.getElem?_range hk]
theorem rv_zero (l : List UInt8) : rv l 0 = l := by
  apply List.ext_getElem?
  intro k
  by_cases hk : k < l.length
  · rw [rv_get hk, if_neg (by omega), List.getD_eq_getElem?_getD, List.getElem?_eq_getElem hk]; rfl
  · rw [List.getElem?_eq_none (by rw [rv_len]; omega), List.getElem?_eq_none (by omega)]
theorem rv_end {l : List UInt8} {i : Nat} (h1 : 2 * i ≤ l.length) (h2 : l.length ≤ 2 * i + 1) : rv l i = l.reverse := by
  apply List.ext_getElem?
  intro k
  by_cases hk : k < l.length
  · rw [rv_get hk, List.getElem?_reverse hk]
    have e : l.getD (l.length - 1 - k) 0 = l[l.length - 1 - k]'(by omega) := by rw [List.getD_eq_getElem?_getD, List.getElem?_eq_getElem (by omega)]; rfl
    by_cases hc : k < i ∨ l.length - i ≤ k
    · rw [if_pos hc, e, List.getElem?_eq_getElem (by omega)]
    · rw [if_neg hc]
      have : k = l.length - 1 - k := by omega
      rw [← this, List.getD_eq_getElem?_getD, List.getElem?_eq_getElem hk]; rfl
  · rw [List.getElem?_eq_none (by rw [rv_len]; omega), List.getElem?_eq_none (by simp; omega)]
theorem rv_step {l : List UInt8} {i j : Nat} (hj : i + j + 1 = l.length) (hlt : i < j) : ((rv l i).set i (l.getD j 0)).set j (l.getD i 0) = rv l (i + 1) := by
  apply List.ext_getElem?
  intro k
  by_cases hk : k < l.length
  · rw [List.getElem?_set, List.getElem?_set, rv_get hk, rv_get hk]
    simp only [List.length_set, rv_len]
    by_cases e1 : j = k
    · subst e1
      rw [if_pos rfl, if_pos hk, if_pos (by omega), show l.length - 1 - j = i by omega]
    · rw [if_neg e1]
      by_cases e2 : i = k
      · subst e2
        rw [if_pos rfl, if_pos hk, if_pos (by omega), show l.length - 1 - i = j by omega]
      · rw [if_neg e2]
        by_cases hc : k < i ∨ l.length - i ≤ k
        · rw [if_pos hc, if_pos (by omega)]
        · rw [if_neg hc, if_neg (by omega)]
  · rw [List.getElem?_eq_none (by simp [rv_len]; omega), List.getElem?_eq_none (by rw [rv_len]; omega)]

theorem c93 {h : List AObj} {b : Nat} (l : List UInt8) (hb : h[b]? = some (.row 5 1 (l.map u8V) .raw)) (hl : l.length ≤ 1000000) :
    AC Tryz.prog 127 [.own b l.length] h [] (fun v h' => v = .tup [] ∧ h' = h.set b (.row 5 1 (l.reverse.map u8V) .raw)) := by
  have hbl : b < h.length := (List.getElem?_eq_some_iff.1 hb).1
  refine AC.of_bodyE hΓ Tryz.func127 (by kernel_rfl) rfl (AWp.mono (Q := fun e st => AM.Ends e ∧ st.h = h.set b (.row 5 1 (l.reverse.map u8V) .raw)) ?_ ?_)
  rotate_left
  · rintro e ⟨tm, h'⟩ ⟨he, h2⟩
    simp only at h2
    subst h2
    refine ⟨he, _, Less.refl _, ?_⟩
    unfold DoneE
    simp +contextual -implicitDefEqProofs only [Tryz.results127, go_sem]
    exact ⟨h.length, Nat.le_refl _, .inl (by simp), List.take_of_length_le (by simp)⟩
  have gB : ∀ o : AObj, (h.set b o)[b]? = some o := fun o => by simp [hbl]
  have sB : ∀ o o' : AObj, (h.set b o).set b o' = h.set b o' := fun o o' => by simp
  refine AWp.of_awpD [] hΓ hmix (by kernel_rfl) ?_
  simp -implicitDefEqProofs only [Tryz.ntmps127, Nat.reduceAdd, Nat.reduceSub, go_sem]
  refine ⟨by simp only [InR]; omega, ?_⟩
  refine AWp.loopI (fun i : Nat => ⟨mkF 28 [(0, .own b l.length), (2, .p (.int .i64 i)), (3, .p (.int .i64 ((l.length : Int) - 1 - i)))], h.set b (.row 5 1 ((rv l i).map u8V) .raw)⟩)
    (fun i => 2 * i ≤ l.length) (fun i => l.length - i) 0 (by
      rw [rv_zero, show h.set b (.row 5 1 (l.map u8V) .raw) = h from by
        apply List.ext_getElem?
        intro k
        rw [List.getElem?_set]
        split
        · rename_i e; subst e
          first
            | exact hb.symm
            | (rw [if_pos hbl]; exact hb.symm)
        · rfl]
      simp [go_sem, weakH_self]) (by omega) ?_
  intro i hi
  refine AWp.of_awpD [(3, 13)] hΓ hmix (by kernel_rfl) ?_
  by_cases hlt : (i : Int) < (l.length : Int) - 1 - i
  · obtain ⟨j, hj⟩ : ∃ j : Nat, (l.length : Int) - 1 - i = j := ⟨(((l.length : Int) - 1 - i)).toNat, by omega⟩
    rw [hj] at hlt ⊢
    have hjl : j < l.length := by omega
    have hil : i < l.length := by omega
    have e1 : ((rv l i).map u8V).getD i default = .int .u8 (l.getD i 0).toNat := by
      rw [List.getD_eq_getElem?_getD, List.getElem?_map, rv_get hil, if_neg (by omega)]; rfl
    have e2 : ((rv l i).map u8V).getD j default = .int .u8 (l.getD j 0).toNat := by
      rw [List.getD_eq_getElem?_getD, List.getElem?_map, rv_get hjl, if_neg (by omega)]; rfl
    have e3 : (((rv l i).map u8V).set i (.int .u8 (l.getD j 0).toNat)).set j (.int .u8 (l.getD i 0).toNat) = (rv l (i + 1)).map u8V := by
      rw [← rv_step (j := j) (by omega) (by omega), List.map_set, List.map_set]; rfl
    simp -implicitDefEqProofs only [hlt, gB, sB, e1, e2, e3, Int.toNat_natCast, go_sem]
    have hr := rv_len l i
    refine ⟨hjl, by omega, hil, by omega, hil, ⟨by omega, rfl⟩, hjl, ⟨by simp; omega, rfl⟩, by simp only [InR]; omega, by simp only [InR]; omega, i + 1, ⟨⟨by omega, by omega⟩, weakH_self _⟩, by omega, by omega⟩
  · simp -implicitDefEqProofs only [hlt, go_sem]
    rw [rv_end hi (by omega)]

theorem t70 (w : List UInt8) (hw : w.length ≤ 1000000) : PFn Tryz.prog 89 [.str w] [.str w.reverse] := by
  refine PFn.of_body hΓ Tryz.func89 (by kernel_rfl) rfl (AWp.of_awpD [] hΓ hmix (by kernel_rfl) ?_)
  simp +contextual -implicitDefEqProofs only [Tryz.ntmps89, Tryz.results89, Nat.reduceAdd, Nat.reduceSub, go_sem]
  refine ⟨by omega, ?_⟩
  refine callK_ac (c93 w rfl hw) (by simp) ?_
  rintro v h' ⟨rfl, rfl⟩
  simp -implicitDefEqProofs only [killAll, List.foldl, go_sem]
  exact ⟨⟨_, rfl, rfl⟩, w.reverse, rfl, rfl⟩
end Go.Proofs.YtjjedaikbgfmmaaGreat
end

section
namespace Go.Proofs.YtjjedaikbgfmmaaGreat
open Go Go.AM
set_option maxRecDepth 100000
set_option linter.unusedSimpArgs false

def revs (ws : List (List UInt8)) : List (List UInt8) := ws.map List.reverse

theorem t39 (q : Int) (ws : List (List UInt8)) : PFn Tryz.prog 45 [codeV q ws] [if codeCheck q ws = 0 then (if codeCheck q (made (revs ws)) = 0 then codeV q (made (revs ws)) else codeV 0 []) else codeV 0 [], .int .i64 (if codeCheck q ws = 0 then codeCheck q (made (revs ws)) else 1)] := by
  refine PFn.of_body hΓ Tryz.func45 (by kernel_rfl) rfl (AWp.of_awpD [] hΓ hmix (by kernel_rfl) ?_)
  simp +contextual -implicitDefEqProofs only [codeV, Tryz.ntmps45, Tryz.results45, Nat.reduceAdd, Nat.reduceSub, go_sem]
  refine callK_fn (t45 q ws) (.still rfl) ?_
  by_cases h : codeCheck q ws = 0
  · have hv := valid_of h
    have hws := hv.len
    have hsh : ∀ i (hi : i < ws.length), ws[i].length ≤ 32 := fun i hi => by
      have := hv.short i hi
      rwa [List.getD_eq_getElem?_getD, List.getElem?_eq_getElem hi, Option.getD_some] at this
    rw [h]
    simp -implicitDefEqProofs only [go_sem]
    refine AWp.adopt (l := []) 4 9 1 (by rfl) (by simp) ?_
    simp -implicitDefEqProofs only [go_sem]
    refine AWp.loopI (fun k : Nat => ⟨mkF 30 [(1, .ptr 0 0), (2, .ptr 1 0), (3, .p (.int .i64 0)), (4, .own 2 k), (12, .p (.sl (ws.map .str))), (13, .p (.int .i64 ws.length)), (14, .p (.int .i64 k))], [codeB q ws, .box [.p (.int .i64 0), .full []], .row 9 1 ((revs (ws.take k)).map .str) .lax]⟩)
      (fun k => k ≤ ws.length) (fun k => ws.length - k) 0 (by simp [go_sem, codeB, revs]) (by simp) ?_
    intro k hk
    by_cases hlt : k < ws.length
    · refine AWp.of_awpD [] hΓ hmix (by kernel_rfl) ?_
      simp -implicitDefEqProofs only [hlt, getD_map_lt, ↓reduceIte, codeB, go_sem]
      refine callK_fn (t70 ws[k] (by have := hsh k hlt; omega)) (.pures rfl) ?_
      simp -implicitDefEqProofs only [go_sem]
      have hs : revs (ws.take (k + 1)) = revs (ws.take k) ++ [ws[k].reverse] := by
        unfold revs; rw [List.take_succ_eq_append_getElem hlt, List.map_append]; rfl
      exact ⟨⟨size_str [_], by omega⟩, ⟨size_str [_], one_str [_]⟩, ⟨.inl (by omega), by omega, by omega⟩, by simp only [InR]; omega, k + 1, by rw [hs]; simp, hlt, by omega⟩
    · refine AWp.freeze 2 rfl ?_
      rw [List.take_of_length_le (by omega)]
      refine AWp.of_awpD [] hΓ hmix (by kernel_rfl) ?_
      simp -implicitDefEqProofs only [hlt, codeB, Frozen, go_sem]
      have e71 := t71 q (revs ws) (by simp [revs]; omega)
      by_cases hc : codeCheck q (made (revs ws)) = 0
      · rw [if_pos hc, hc] at e71
        refine callK_fn e71 (.pures rfl) ?_
        simp -implicitDefEqProofs only [codeV, hc, go_sem]
      · rw [if_neg hc] at e71
        refine callK_fn e71 (.pures rfl) ?_
        simp -implicitDefEqProofs only [codeV, hc, go_sem]
  · simp -implicitDefEqProofs only [h, go_sem]
end Go.Proofs.YtjjedaikbgfmmaaGreat
end

section
namespace Go.Proofs.YtjjedaikbgfmmaaGreat
open Go Go.AM
set_option maxRecDepth 100000
set_option linter.unusedSimpArgs false

theorem compactTo_strict {d : List (List UInt8)} (hs : d.Pairwise fun a b => ¬ ltW b a) : ∀ m, m ≤ d.length →
    (Lib.compactUpTo d.toArray m).Pairwise ltW ∧ (∀ x, x ∈ Lib.compactUpTo d.toArray m ↔ x ∈ d.take m)
  | 0, _ => by simp [Lib.compactUpTo]
  | m + 1, hm => by
    obtain ⟨h1, h2⟩ := compactTo_strict hs m (by omega)
    have hml : m < d.length := hm
    have get : ∀ j (h : j < d.length), d.toArray[j]! = d[j] := fun j h => by rw [getElem!_pos d.toArray j (by simpa using h)]; simp
    have hle : ∀ i j (hi : i < d.length) (hj : j < d.length), i ≤ j → ¬ ltW d[j] d[i] := fun i j hi hj hij => by
      by_cases e : i = j
      · subst e; exact ltW_irrefl _
      · exact List.pairwise_iff_getElem.1 hs i j hi hj (by omega)
    rw [Lib.compactUpTo_succ, List.take_succ_eq_append_getElem hml, get m hml]
    by_cases hk : Lib.keeps d.toArray m = true
    · rw [if_pos hk]
      refine ⟨List.pairwise_append.2 ⟨h1, by simp, fun x hx y hy => ?_⟩, fun x => ?_⟩
      · rw [List.mem_singleton] at hy; subst hy
        obtain ⟨j, hj, rfl⟩ := List.mem_take_iff_getElem.1 ((h2 x).1 hx)
        have hjm : j < m := by omega
        apply Classical.byContradiction
        intro hno
        have e : d[j] = d[m] := ltW_total hno (hle j m (by omega) hml (by omega))
        have e2 : d[m - 1] = d[m] := ltW_total (by rw [← e]; exact hle j (m - 1) (by omega) (by omega) (by omega)) (hle (m - 1) m (by omega) hml (by omega))
        have := Lib.keeps_neg (d := d.toArray) (m := m) (by omega) (by rw [get m hml, get (m - 1) (by omega), e2])
        rw [this] at hk; cases hk
      · simp only [List.mem_append, h2 x]
    · rw [if_neg hk, List.append_nil]
      refine ⟨h1, fun x => ?_⟩
      simp only [List.mem_append, h2 x, List.mem_singleton]
      refine ⟨.inl, fun h => h.elim id fun e => ?_⟩
      subst e
      have hm0 : 0 < m := by
        rcases Nat.eq_zero_or_pos m with h | h
        · subst h; exact absurd (Lib.keeps_lt_one _ 0 (by omega)) hk
        · exact h
      have e : d[m] = d[m - 1] := by
        apply Classical.byContradiction
        intro hne
        exact hk (Lib.keeps_pos (by rw [get m hml, get (m - 1) (by omega)]; exact hne))
      rw [e]
      exact List.mem_take_iff_getElem.2 ⟨m - 1, by omega, rfl⟩

theorem made_strict (l : List (List UInt8)) : (made l).Pairwise ltW := by
  have := (compactTo_strict (sortW_sorted l) (sortW l).length (Nat.le_refl _)).1
  exact this
theorem mem_made {l : List (List UInt8)} {x : List UInt8} : x ∈ made l ↔ x ∈ l := by
  have := (compactTo_strict (sortW_sorted l) (sortW l).length (Nat.le_refl _)).2 x
  rw [List.take_length, mem_sortW] at this
  exact this
theorem made_of {l m : List (List UInt8)} (hm : m.Pairwise ltW) (h : ∀ x, x ∈ l ↔ x ∈ m) : made l = m := strict_unique (made_strict l) hm fun x => mem_made.trans (h x)

theorem check_of {q : Int} {vs : List (List UInt8)} (h2 : 2 ≤ q) (h16 : q ≤ 16) (hne : vs ≠ []) (hlen : vs.length ≤ 64) (hw : ∀ x ∈ vs, x ≠ [] ∧ x.length ≤ 32 ∧ wordCheck q x = 0) (hs : vs.Pairwise ltW) : codeCheck q vs = 0 := by
  refine codeCheck_0 (by omega) (fun h => hne (List.length_eq_zero_iff.1 h)) (by omega) fun j hj => ?_
  obtain ⟨h3, h4, h5⟩ := hw _ (getD_in hj)
  unfold wordErr
  simp only
  rw [if_neg h3, if_neg (by omega), if_neg (by simpa using h5), if_neg]
  rintro ⟨hj0, hc⟩
  have h6 : ltW (vs.getD (j - 1) []) (vs.getD j []) := by
    have := List.pairwise_iff_getElem.1 hs (j - 1) j (by omega) hj (by omega)
    rwa [List.getD_eq_getElem?_getD, List.getElem?_eq_getElem (by omega), Option.getD_some, List.getD_eq_getElem?_getD, List.getElem?_eq_getElem hj, Option.getD_some]
  have := (ltW_iff _ _).2 h6
  omega

theorem Valid.words {q : Int} {ws : List (List UInt8)} (hv : Valid q ws) : ∀ x ∈ ws, x ≠ [] ∧ x.length ≤ 32 ∧ wordCheck q x = 0 := fun x hx => by
  obtain ⟨j, hj, rfl⟩ := List.getElem_of_mem hx
  have h1 := hv.ne j hj
  have h2 := hv.short j hj
  have h3 := hv.word j hj
  rw [List.getD_eq_getElem?_getD, List.getElem?_eq_getElem hj, Option.getD_some] at h1 h2 h3
  exact ⟨h1, h2, h3⟩

theorem word_rev {q : Int} {w : List UInt8} : wordCheck q w.reverse = wordCheck q w := by
  unfold wordCheck okW
  rw [List.length_reverse, List.all_reverse]

theorem rev_valid {q : Int} {ws : List (List UInt8)} (hv : Valid q ws) : codeCheck q (made (revs ws)) = 0 := by
  have hl := made_le (revs ws)
  have hrl : (revs ws).length = ws.length := by simp [revs]
  have hlen := hv.len
  refine check_of hv.q2 hv.q16 (fun e => ?_) (by omega) (fun x hx => ?_) (made_strict _)
  · have hp := hv.pos
    have : ws[0].reverse ∈ made (revs ws) := mem_made.2 (List.mem_map.2 ⟨_, List.getElem_mem hp, rfl⟩)
    rw [e] at this; cases this
  · obtain ⟨w, hw, rfl⟩ := List.mem_map.1 (mem_made.1 hx)
    obtain ⟨h1, h2, h3⟩ := hv.words w hw
    exact ⟨by simpa using h1, by simpa using h2, by rw [word_rev]; exact h3⟩

end Go.Proofs.YtjjedaikbgfmmaaGreat
end

section
namespace Go.Proofs.YtjjedaikbgfmmaaGreat
open Go Go.AM
set_option maxRecDepth 100000
set_option maxHeartbeats 4000000
set_option linter.unusedSimpArgs false

/-- What is left of words. -/
def leftN (ws : List (List UInt8)) (l : List Int) (n : Nat) : List (List UInt8) := (List.range n).flatMap fun k : Nat => if (k : Int) ∈ l then [] else [ws.getD k []]
theorem leftN_yes {ws : List (List UInt8)} {l : List Int} {n : Nat} (h : (n : Int) ∈ l) : leftN ws l (n + 1) = leftN ws l n := by
  unfold leftN; rw [List.range_succ, List.flatMap_append]; simp [h]
theorem leftN_no {ws : List (List UInt8)} {l : List Int} {n : Nat} (h : ¬ (n : Int) ∈ l) (hn : n < ws.length) : leftN ws l (n + 1) = leftN ws l n ++ [ws[n]] := by
  unfold leftN; rw [List.range_succ, List.flatMap_append]; simp [h, List.getD_eq_getElem?_getD, List.getElem?_eq_getElem hn]
theorem leftN_len (ws : List (List UInt8)) (l : List Int) : ∀ n, (leftN ws l n).length ≤ n
  | 0 => by simp [leftN]
  | n + 1 => by
    have ih := leftN_len ws l n
    have e : leftN ws l (n + 1) = leftN ws l n ++ (if (n : Int) ∈ l then [] else [ws.getD n []]) := by unfold leftN; rw [List.range_succ, List.flatMap_append]; simp
    rw [e, List.length_append]
    split <;> simp only [List.length_nil, List.length_cons] <;> omega
theorem leftN_mem {ws : List (List UInt8)} {l : List Int} {n : Nat} (hn : n ≤ ws.length) : ∀ x ∈ leftN ws l n, x ∈ ws := fun x hx => by
  unfold leftN at hx
  obtain ⟨k, hk, hx⟩ := List.mem_flatMap.1 hx
  have hk := List.mem_range.1 hk
  split at hx
  · cases hx
  · rw [List.mem_singleton.1 hx, List.getD_eq_getElem?_getD, List.getElem?_eq_getElem (show k < ws.length by omega), Option.getD_some]
    exact List.getElem_mem _
/-- The others of a word. -/
def othersN (L : List (List UInt8)) (i : Nat) : List (List UInt8) := L.take i ++ L.drop (i + 1)
/-- The length of the first beginning that no other word has. -/
def cutN (os : List (List UInt8)) (w : List UInt8) : Nat := ((List.range (w.length + 1)).find? fun n : Nat => decide (0 < n) && !(os.any fun x => (w.take n).isPrefixOf x)).getD (w.length + 1)
def cutL (os : List (List UInt8)) (w : List UInt8) : List (List UInt8) := if cutN os w ≤ w.length then [w.take (cutN os w)] else []
def pruneN (L : List (List UInt8)) (n : Nat) : List (List UInt8) := (List.range n).flatMap fun i : Nat => cutL (othersN L i) (L.getD i [])
theorem pruneN_succ {L : List (List UInt8)} {n : Nat} (hn : n < L.length) : pruneN L (n + 1) = pruneN L n ++ cutL (othersN L n) L[n] := by
  unfold pruneN; rw [List.range_succ, List.flatMap_append]; simp [List.getD_eq_getElem?_getD, List.getElem?_eq_getElem hn]

theorem cutN_le (os : List (List UInt8)) (w : List UInt8) : cutN os w ≤ w.length + 1 := by
  unfold cutN
  cases h : (List.range (w.length + 1)).find? fun n : Nat => decide (0 < n) && !(os.any fun x => (w.take n).isPrefixOf x) with
  | none => simp
  | some n =>
    have := List.mem_of_find?_eq_some h
    rw [List.mem_range] at this
    simp only [Option.getD_some]; omega
theorem cutN_at {os : List (List UInt8)} {w : List UInt8} (h : cutN os w ≤ w.length) : 0 < cutN os w ∧ (os.any fun x => (w.take (cutN os w)).isPrefixOf x) = false := by
  unfold cutN at h ⊢
  cases hf : (List.range (w.length + 1)).find? fun n : Nat => decide (0 < n) && !(os.any fun x => (w.take n).isPrefixOf x) with
  | none =>
    have h' : (none : Option Nat).getD (w.length + 1) ≤ w.length := by rw [← hf]; exact h
    rw [Option.getD_none] at h'
    omega
  | some n =>
    have := List.find?_some hf
    simp only [Bool.and_eq_true, decide_eq_true_eq, Bool.not_eq_true'] at this
    exact this
theorem cutN_lt {os : List (List UInt8)} {w : List UInt8} {n : Nat} (h : n < cutN os w) (hn : n ≤ w.length) : n = 0 ∨ (os.any fun x => (w.take n).isPrefixOf x) = true := by
  unfold cutN at h
  rcases Nat.eq_zero_or_pos n with h0 | h0
  · exact .inl h0
  refine .inr ?_
  cases hf : (List.range (w.length + 1)).find? fun n : Nat => decide (0 < n) && !(os.any fun x => (w.take n).isPrefixOf x) with
  | none =>
    have := List.find?_eq_none.1 hf n (List.mem_range.2 (by omega))
    cases hb : (os.any fun x => (w.take n).isPrefixOf x)
    · exact absurd (by simp [hb, h0]) this
    · rfl
  | some m =>
    rw [hf] at h
    simp only [Option.getD_some] at h
    obtain ⟨_, ls, bs, hab, hls⟩ := List.find?_eq_some_iff_append.1 hf
    cases hb : (os.any fun x => (w.take n).isPrefixOf x)
    · have hmem : n ∈ ls := by
        have hnr : n ∈ List.range (w.length + 1) := List.mem_range.2 (by omega)
        have hp := List.pairwise_lt_range (n := w.length + 1)
        rw [hab] at hnr hp
        rcases List.mem_append.1 hnr with h1 | h1
        · exact h1
        · rcases List.mem_cons.1 h1 with h2 | h2
          · omega
          · have := (List.pairwise_cons.1 (List.pairwise_append.1 hp).2.1).1 n h2
            omega
      have := hls n hmem
      simp [h0, hb] at this
    · rfl

theorem pruneN_len (L : List (List UInt8)) : ∀ n, (pruneN L n).length ≤ n
  | 0 => by simp [pruneN]
  | n + 1 => by
    have ih := pruneN_len L n
    have e : pruneN L (n + 1) = pruneN L n ++ cutL (othersN L n) (L.getD n []) := by unfold pruneN; rw [List.range_succ, List.flatMap_append]; simp
    rw [e, List.length_append]
    unfold cutL
    split <;> simp only [List.length_nil, List.length_cons] <;> omega
def puH (q : Int) (ws : List (List UInt8)) (os : List (List UInt8)) (rk : RK) (w : List UInt8) (out : List (List UInt8)) (rk4 : RK) (rec : AObj) : List AObj :=
  [.box [.p (.int .i64 q), .p (.sl (ws.map .str))], .box [.p (.int .i64 0), .full []], .dead, .box [.own 4 out.length], .row 9 1 (out.map .str) rk4, .row 9 1 (os.map .str) rk, .box [.own 5 os.length], .box [.p (.str w)], rec]

/-- The beginnings up to a stop, where nothing changes ahead of it. -/
theorem c116s {b cw : Nat} {ks : List Nat} (hbk : b ∉ ks) (hwk : cw ∉ ks) (w : List UInt8) (hwl : w.length ≤ 100000) {H0 HM : List AObj} (N : Nat) (hlen : H0.length ≤ HM.length) (hbw : H0[cw]? = some (.box [.p (.str w)]))
    (hround : ∀ n, n < N → n ≤ w.length → YC Tryz.prog b [.p (.str (w.take n))] H0 ks (fun v h' => v = .p (.bool true) ∧ h' = H0))
    (hstop : (N = w.length + 1 ∧ HM = H0) ∨ (N ≤ w.length ∧ YC Tryz.prog b [.p (.str (w.take N))] H0 ks (fun v h' => v = .p (.bool false) ∧ h' = HM))) :
    AC Tryz.prog 116 [.yld b, .ptr cw 0] H0 ks (fun _ h' => h' = HM) := by
  rcases hstop with ⟨h1, h2⟩ | ⟨h1, h2⟩
  · subst h2
    exact c116 hbk hwk w hwl (fun _ => HM) N N (Nat.le_refl _) (fun _ _ => hbw) hround (.inl ⟨h1, rfl⟩)
  · have e0 : (if 0 ≤ N then H0 else HM) = H0 := if_pos (Nat.zero_le _)
    have eN : (if N ≤ N then H0 else HM) = H0 := if_pos (Nat.le_refl _)
    have eM : (if N + 1 ≤ N then H0 else HM) = HM := if_neg (by omega)
    have h := c116 hbk hwk w hwl (fun n => if n ≤ N then H0 else HM) N (N + 1) (by simp only [e0, eM]; exact hlen) (fun n hn => by simp only [if_pos hn]; exact hbw)
      (fun n hn hw => by simp only [if_pos (Nat.le_of_lt hn), if_pos (show n + 1 ≤ N from hn)]; exact hround n hn hw) (.inr ⟨h1, by simp only [eN, eM]; exact h2⟩)
    simp only [e0, eM] at h
    exact h

theorem c116q {q : Int} {ws os : List (List UInt8)} {rk : RK} {w : List UInt8} {out : List (List UInt8)} (hwl : w.length ≤ 100000) (N : Nat) (hN : N = w.length + 1) {tm : List AV} {ps : List Nat} {cs bd : Code}
    (hround : ∀ n, n < N → n ≤ w.length → YC Tryz.prog 8 [.p (.str (w.take n))] (puH q ws os rk w out .lax (.lp tm ps cs bd .ready)) [4] (fun v h' => v = .p (.bool true) ∧ h' = puH q ws os rk w out .lax (.lp tm ps cs bd .ready))) :
    AC Tryz.prog 116 [.yld 8, .ptr 7 0] (puH q ws os rk w out .lax (.lp tm ps cs bd .ready)) [4] (fun _ h' => h' = puH q ws os rk w out .lax (.lp tm ps cs bd .ready)) :=
  c116s (by simp) (by simp) w hwl N (Nat.le_refl _) rfl hround (.inl ⟨hN, rfl⟩)
theorem c116p {q : Int} {ws os : List (List UInt8)} {rk : RK} {w : List UInt8} {out : List (List UInt8)} (hwl : w.length ≤ 100000) (N : Nat) (hN : N ≤ w.length) {tm : List AV} {ps : List Nat} {cs bd : Code}
    (hround : ∀ n, n < N → n ≤ w.length → YC Tryz.prog 8 [.p (.str (w.take n))] (puH q ws os rk w out .lax (.lp tm ps cs bd .ready)) [4] (fun v h' => v = .p (.bool true) ∧ h' = puH q ws os rk w out .lax (.lp tm ps cs bd .ready)))
    (hstop : YC Tryz.prog 8 [.p (.str (w.take N))] (puH q ws os rk w out .lax (.lp tm ps cs bd .ready)) [4] (fun v h' => v = .p (.bool false) ∧ h' = puH q ws os rk w (out ++ [w.take N]) .own (.lp tm ps cs bd (.left (.exit 4))))) :
    AC Tryz.prog 116 [.yld 8, .ptr 7 0] (puH q ws os rk w out .lax (.lp tm ps cs bd .ready)) [4] (fun _ h' => h' = puH q ws os rk w (out ++ [w.take N]) .own (.lp tm ps cs bd (.left (.exit 4)))) :=
  c116s (by simp) (by simp) w hwl N (by simp [puH]) rfl hround (.inr ⟨hN, hstop⟩)

def puI (q : Int) (ws : List (List UInt8)) (os : List (List UInt8)) (rk : RK) (w : List UInt8) (out : List (List UInt8)) (rk4 : RK) (rec : AObj) : List AObj :=
  [.box [.p (.int .i64 q), .p (.sl (ws.map .str))], .box [.p (.int .i64 0), .full []], .dead, .box [.own 4 out.length], .row 9 1 (out.map .str) rk4, .box [.own 6 os.length], .row 9 1 (os.map .str) rk, .box [.p (.str w)], rec]

theorem c116qI {q : Int} {ws os : List (List UInt8)} {rk : RK} {w : List UInt8} {out : List (List UInt8)} (hwl : w.length ≤ 100000) (N : Nat) (hN : N = w.length + 1) {tm : List AV} {ps : List Nat} {cs bd : Code}
    (hround : ∀ n, n < N → n ≤ w.length → YC Tryz.prog 8 [.p (.str (w.take n))] (puI q ws os rk w out .lax (.lp tm ps cs bd .ready)) [4] (fun v h' => v = .p (.bool true) ∧ h' = puI q ws os rk w out .lax (.lp tm ps cs bd .ready))) :
    AC Tryz.prog 116 [.yld 8, .ptr 7 0] (puI q ws os rk w out .lax (.lp tm ps cs bd .ready)) [4] (fun _ h' => h' = puI q ws os rk w out .lax (.lp tm ps cs bd .ready)) :=
  c116s (by simp) (by simp) w hwl N (Nat.le_refl _) rfl hround (.inl ⟨hN, rfl⟩)
theorem c116pI {q : Int} {ws os : List (List UInt8)} {rk : RK} {w : List UInt8} {out : List (List UInt8)} (hwl : w.length ≤ 100000) (N : Nat) (hN : N ≤ w.length) {tm : List AV} {ps : List Nat} {cs bd : Code}
    (hround : ∀ n, n < N → n ≤ w.length → YC Tryz.prog 8 [.p (.str (w.take n))] (puI q ws os rk w out .lax (.lp tm ps cs bd .ready)) [4] (fun v h' => v = .p (.bool true) ∧ h' = puI q ws os rk w out .lax (.lp tm ps cs bd .ready)))
    (hstop : YC Tryz.prog 8 [.p (.str (w.take N))] (puI q ws os rk w out .lax (.lp tm ps cs bd .ready)) [4] (fun v h' => v = .p (.bool false) ∧ h' = puI q ws os rk w (out ++ [w.take N]) .own (.lp tm ps cs bd (.left (.exit 4))))) :
    AC Tryz.prog 116 [.yld 8, .ptr 7 0] (puI q ws os rk w out .lax (.lp tm ps cs bd .ready)) [4] (fun _ h' => h' = puI q ws os rk w (out ++ [w.take N]) .own (.lp tm ps cs bd (.left (.exit 4)))) :=
  c116s (by simp) (by simp) w hwl N (by simp [puI]) rfl hround (.inr ⟨hN, hstop⟩)

def pruneE (q : Int) (ws : List (List UInt8)) (l : List Int) : Int :=
  if chE q ws ≠ 0 then chE q ws else if l.any (outR ws) then 2 else if (leftN ws l ws.length).length = 0 then 5 else codeCheck q (made (pruneN (leftN ws l ws.length) (leftN ws l ws.length).length))
def pruneW (q : Int) (ws : List (List UInt8)) (l : List Int) : PV :=
  if pruneE q ws l = 0 then codeV q (made (pruneN (leftN ws l ws.length) (leftN ws l ws.length).length)) else codeV 0 []

theorem cm27 (q : Int) (ws : List (List UInt8)) (l : List Int) (hl : l.length ≤ 9223372036854775807) :
    PFn Tryz.prog 27 [codeV q ws, .sl (l.map Kn.iV)] [pruneW q ws l, .int .i64 (pruneE q ws l)] := by
  have e61 := cm61 q ws
  refine PFn.of_body hΓ Tryz.func27 (by kernel_rfl) rfl (AWp.seq (AWp.of_awpD [] hΓ hmix (by kernel_rfl) ?_))
  simp -implicitDefEqProofs only [Tryz.ntmps27, Tryz.results27, Nat.reduceAdd, Nat.reduceSub, codeV, go_sem]
  refine AWp.seq ?_
  refine AWp.of_awpD [] hΓ hmix (by kernel_rfl) ?_
  simp -implicitDefEqProofs only [go_sem]
  refine callK_fn e61 (.still rfl) ?_
  by_cases hc : chE q ws = 0
  rotate_left
  · have hE : pruneE q ws l = chE q ws := by unfold pruneE; rw [if_pos hc]
    unfold pruneW
    rw [hE, if_neg hc]
    simp -implicitDefEqProofs only [hc, codeV, List.map_nil, go_sem]
  rw [hc]
  simp -implicitDefEqProofs only [go_sem]
  refine AWp.seq (AWp.of_awpD [] hΓ hmix (by kernel_rfl) ?_)
  simp -implicitDefEqProofs only [go_sem]
  have hout : ∀ h : List AObj, AC Tryz.prog 48 [.p (.sl (l.map Kn.iV)), .fn 72 [.ptr 0 0]] (codeB q ws :: h) [] (fun v h' => v = .p (.bool (l.any (outR ws))) ∧ h' = codeB q ws :: h) := fun h => Kn.c48 l hl fun k _ => c72 q ws k rfl
  unfold codeB at hout
  refine callK_ac (hout _) (by simp) ?_
  rintro v h' ⟨rfl, rfl⟩
  cases ho : l.any (outR ws)
  rotate_left
  · have hE : pruneE q ws l = 2 := by unfold pruneE; rw [if_neg (fun h => h hc), if_pos ho]
    unfold pruneW
    rw [hE, if_neg (by decide)]
    simp -implicitDefEqProofs only [killAll, List.foldl, codeV, List.map_nil, go_sem]
  simp -implicitDefEqProofs only [killAll, List.foldl, go_sem]
  refine AWp.seq (AWp.of_awpD [] hΓ hmix (by kernel_rfl) ?_)
  simp -implicitDefEqProofs only [go_sem]
  refine AWp.seq (AWp.of_awpD [] hΓ hmix (by kernel_rfl) ?_)
  simp -implicitDefEqProofs only [go_sem]
  refine AWp.adopt (l := []) 7 9 1 (by rfl) (by simp) ?_
  simp -implicitDefEqProofs only [go_sem]
  have hv : codeCheck q ws = 0 := by
    unfold chE at hc
    by_cases h : codeCheck q ws = 0
    · exact h
    · rw [if_neg h] at hc; omega
  have hlen := (valid_of hv).len
  refine AWp.loopI (fun i : Nat => ⟨mkF 84 [(1, .p (.sl (l.map Kn.iV))), (2, .ptr 0 0), (4, .ptr 1 0), (5, .p (.int .i64 0)), (7, .own 2 (leftN ws l i).length), (26, .p (.sl (ws.map .str))), (27, .p (.int .i64 ws.length)), (28, .p (.int .i64 i))], [.box [.p (.int .i64 q), .p (.sl (ws.map .str))], .box [.p (.int .i64 0), .full []], .row 9 1 ((leftN ws l i).map .str) .lax]⟩)
    (fun i => i ≤ ws.length) (fun i => ws.length - i) 0 (by simp [go_sem, leftN]) (by omega) ?_
  intro i hi
  refine AWp.of_awpD [] hΓ hmix (by kernel_rfl) ?_
  by_cases hlt : i < ws.length
  · have hlt' : (i : Int) < (ws.length : Int) := by omega
    have hg : (ws.map PV.str).getD i default = .str ws[i] := getD_map_lt _ _ _ _ hlt
    have e16 := cm16 l i hl
    by_cases hm : (i : Int) ∈ l
    · rw [decide_eq_true hm] at e16
      simp -implicitDefEqProofs only [hlt', hg, Int.toNat_natCast, go_sem]
      refine callK_fn e16 (.pures rfl) ?_
      simp -implicitDefEqProofs only [go_sem]
      exact ⟨by simp only [InR]; omega, i + 1, by rw [leftN_yes hm]; simp [weakH_self], hlt, by omega⟩
    · rw [decide_eq_false hm] at e16
      have hL := leftN_len ws l i
      have hs1 : sizeOK [PV.str ws[i]] 1 := by simp [sizeOK, PV.cells]
      have ho1 : oneOK [PV.str ws[i]] := by simp [oneOK, PV.cells, PV.isAgg]
      simp -implicitDefEqProofs only [hlt', hg, Int.toNat_natCast, go_sem]
      refine callK_fn e16 (.pures rfl) ?_
      simp -implicitDefEqProofs only [go_sem]
      refine ⟨⟨hs1, by omega⟩, ⟨hs1, ho1⟩, ⟨by simp, by omega, by omega⟩, by simp only [InR]; omega, i + 1, ⟨⟨by rw [leftN_no hm hlt]; simp, by simp⟩, .inr ?_⟩, hlt, by omega⟩
      rw [leftN_no hm hlt]
      simp
  have hlt' : ¬ (i : Int) < (ws.length : Int) := by omega
  have hiw : i = ws.length := by omega
  subst hiw
  simp -implicitDefEqProofs only [Int.lt_irrefl, Nat.lt_irrefl, go_sem]
  have hL := leftN_len ws l ws.length
  have hLm := leftN_mem (ws := ws) (l := l) (Nat.le_refl _)
  generalize hLe : leftN ws l ws.length = L at *
  refine AWp.freeze 2 rfl ?_
  refine AWp.seq (AWp.of_awpD [] hΓ hmix (by kernel_rfl) ?_)
  by_cases h0 : L.length = 0
  · have hE : pruneE q ws l = 5 := by unfold pruneE; rw [if_neg (fun h => h hc), if_neg (by rw [ho]; decide), hLe, if_pos h0]
    unfold pruneW
    rw [hE, if_neg (by decide)]
    have hz0 : ((0 : Nat) : Int) = 0 := rfl
    simp -implicitDefEqProofs only [Frozen, h0, List.length_map, codeV, List.map_nil, hz0, go_sem]
  have h0' : ¬ (L.length : Int) = 0 := by omega
  simp -implicitDefEqProofs only [Frozen, h0', List.length_map, go_sem]
  refine AWp.seq (AWp.of_awpD [] hΓ hmix (by kernel_rfl) ?_)
  simp -implicitDefEqProofs only [go_sem]
  refine AWp.adoptBox (l := []) 3 9 1 rfl (by simp) ?_
  simp -implicitDefEqProofs only [List.set_cons_zero, List.set_cons_succ, go_sem]
  refine AWp.seq (AWp.seq (AWp.of_awpD [] hΓ hmix (by kernel_rfl) ?_))
  simp -implicitDefEqProofs only [go_sem]
  refine AWp.block ?_
  refine AWp.loopJ (fun i : Nat => ⟨mkF 84 [(2, .ptr 0 0), (4, .ptr 1 0), (5, .p (.int .i64 0)), (7, .p (.sl (L.map .str))), (10, .ptr 3 0), (46, .p (.sl (L.map .str))), (47, .p (.int .i64 L.length)), (48, .p (.int .i64 i))], [.box [.p (.int .i64 q), .p (.sl (ws.map .str))], .box [.p (.int .i64 0), .full []], .dead, .box [.own 4 (pruneN L i).length], .row 9 1 ((pruneN L i).map .str) .lax]⟩)
    (fun i => i ≤ L.length) (fun i => L.length - i) 0 (fun x => by simp [BelowAll, mkF, AV.blw, AV.blw.blwL, blwH, AObj.blw]) (by simp [go_sem, pruneN]) (by omega) ?_
  intro i hi
  refine AWp.seq (AWp.of_awpD [] hΓ hmix (by kernel_rfl) ?_)
  simp -implicitDefEqProofs only [go_sem]
  refine AWp.seq (AWp.of_awpD [] hΓ hmix (by kernel_rfl) ?_)
  by_cases hlt : i < L.length
  · have hlt' : (i : Int) < (L.length : Int) := by omega
    have hg : (L.map PV.str).getD i default = .str L[i] := getD_map_lt _ _ _ _ hlt
    simp -implicitDefEqProofs only [hlt, go_sem]
    refine AWp.seq (AWp.block ?_)
    refine AWp.seq (AWp.of_awpD [] hΓ hmix (by kernel_rfl) ?_)
    simp -implicitDefEqProofs only [hlt, hg, Int.toNat_natCast, List.length_map, go_sem]
    refine AWp.seq ?_
    refine AWp.planL (.q 0 (.q 1 (.q 2 (.q 3 (.q 4 (.q 5 (.q 6 (.q 7 (.e 8 (.e 9 (.s 0 (.s 1 (.s 2 (.s 3 (.s 4 (.s 5 (.s 6 (.s 7 (.e 10 .fin .nil))))))))) .nil) (.e 9 (.s 0 (.s 1 (.s 2 (.s 3 (.s 4 (.s 5 (.s 6 (.s 7 (.e 8 (.e 10 .fin .nil) .nil))))))))) .nil)))))))))) hΓ hmix (by kernel_rfl) ?_
    have hnat : ((i : Int) + 1).toNat = i + 1 := by omega
    simp -implicitDefEqProofs only [List.length_map, hnat, go_sem]
    refine ⟨size_str _, by omega, by simp only [InR]; omega, size_str _, ⟨by omega, by omega⟩, ⟨by simp [sizeOK, PV.cells], by omega⟩, ?_, ?_⟩
    · have hw2 : [PV.sl (List.take i (List.map PV.str L)), PV.sl (List.drop (i + 1) (List.map PV.str L))] = wssV [L.take i, L.drop (i + 1)] := by simp [wssV, wsV]
      rw [hw2]
      refine callK_ac (c29b ?_ (L.take i) (L.drop (i + 1)) (by simp; omega)).full0 (by simp) ?_
      · simp [AObj.kill, AV.kill]
      rintro v h' ⟨rk, hrk, rfl, rfl⟩
      simp -implicitDefEqProofs only [killAll, List.foldl, go_sem]
      refine ⟨⟨size_str _, by omega⟩, by simp only [InR]; omega, ⟨size_str _, ⟨by omega, by omega⟩, by rw [hnat]⟩, ⟨⟨by simp [sizeOK, PV.cells], by omega⟩, by rw [hw2]⟩, ?_⟩
      refine AWp.seq (AWp.of_awpD [] hΓ hmix (by kernel_rfl) ?_)
      simp -implicitDefEqProofs only [hnat, go_sem]
      refine callK_ac (c73 _) (by simp) ?_
      rintro v h' ⟨rfl, rfl⟩
      simp -implicitDefEqProofs only [killAll, List.foldl, List.length_append, List.length_cons, List.length_nil, go_sem]
      have hwl : L[i].length ≤ 100000 := by have := ((valid_of hv).words _ (hLm _ (List.getElem_mem hlt))).2.1; omega
      have hosl : (othersN L i).length ≤ 9223372036854775807 := by simp [othersN]; omega
      have hcle := cutN_le (othersN L i) L[i]
      have hcat := @cutN_at (othersN L i) L[i]
      have hclt := @cutN_lt (othersN L i) L[i]
      rw [show L.take i ++ L.drop (i + 1) = othersN L i from rfl, show (L.take i).length + (L.drop (i + 1)).length = (othersN L i).length from by simp [othersN]]
      have hpl := pruneN_len L i
      generalize hwe : L[i] = w at *
      generalize hoe : othersN L i = os at *
      generalize hNe : cutN os w = N at *
      generalize hpe : pruneN L i = out at *
      refine AWp.block ?_
      refine AWp.weak (st' := ⟨mkF 84 [(2, .ptr 0 0), (4, .ptr 1 0), (5, .p (.int .i64 0)), (7, .p (.sl (L.map .str))), (10, .ptr 3 0), (13, .ptr 6 0), (46, .p (.sl (L.map .str))), (47, .p (.int .i64 L.length)), (48, .p (.int .i64 i)), (63, .fn 116 [.ptr 7 0])], _⟩) (by simp [go_sem, weakH_self]; exact weakH_refl _) ?_
      rw [show (#[64] : Array Nat) = [64].toArray from rfl]
      by_cases hN : N ≤ w.length
      · obtain ⟨hN0, hNo⟩ := hcat hN
        refine AWp.rangeFunc (ks := [4]) rfl (c116p (q := q) (ws := ws) (os := os) (rk := rk) (w := w) (out := out) hwl N hN ?_ ?_) (by simp) (by simp) ?_
        · intro n hn hnw
          have hb := hclt hn hnw
          unfold puH
          refine YC.of_body (Γ := Γ) rfl rfl (by simp) ?_
          intro rr
          refine AWp.of_awpD [] hΓ hmix (by kernel_rfl) ?_
          simp -implicitDefEqProofs only [setP, go_sem]
          unfold BeginE
          refine ⟨rfl, ?_⟩
          simp -implicitDefEqProofs only [go_sem]
          refine AWp.of_awpD [] hΓ hmix (by kernel_rfl) ?_
          by_cases hp : w.take n = []
          · rw [hp]
            simp -implicitDefEqProofs only [go_sem]
            unfold RoundE
            simp -implicitDefEqProofs only [go_sem]
            refine ⟨_, ?_, .inl rfl, ?_⟩
            rotate_left
            · rw [List.take_length]
            · simp
          · have e74 := cm74 os (w.take n) hosl
            rw [hb.resolve_left (fun h => hp (by rw [h, List.take_zero]))] at e74
            simp -implicitDefEqProofs only [hp, go_sem]
            refine callK_fn e74 (.owned rfl rfl) ?_
            simp -implicitDefEqProofs only [go_sem]
            unfold RoundE
            simp -implicitDefEqProofs only [killAll, List.foldl, AObj.kill, AV.kill, AV.kill.killL, go_sem]
            refine ⟨_, ?_, .inl rfl, ?_⟩
            rotate_left
            · rw [List.take_length]
            · simp
        · unfold puH
          have hp : ¬ w.take N = [] := fun h => by
            have := congrArg List.length h
            rw [List.length_take, List.length_nil] at this
            omega
          have e74 := cm74 os (w.take N) hosl
          rw [hNo] at e74
          have hs1 : sizeOK [PV.str (w.take N)] 1 := by simp [sizeOK, PV.cells]
          have ho1 : oneOK [PV.str (w.take N)] := by simp [oneOK, PV.cells, PV.isAgg]
          refine YC.of_body (Γ := Γ) rfl rfl (by simp) ?_
          intro rr
          refine AWp.of_awpD [] hΓ hmix (by kernel_rfl) ?_
          simp -implicitDefEqProofs only [setP, go_sem]
          unfold BeginE
          refine ⟨rfl, ?_⟩
          simp -implicitDefEqProofs only [go_sem]
          refine AWp.of_awpD [] hΓ hmix (by kernel_rfl) ?_
          simp -implicitDefEqProofs only [hp, go_sem]
          refine callK_fn e74 (.owned rfl rfl) ?_
          simp -implicitDefEqProofs only [go_sem]
          refine ⟨⟨hs1, by omega⟩, ⟨hs1, ho1⟩, ⟨.inr (by simp), by omega, by omega⟩, ?_⟩
          unfold RoundE
          simp -implicitDefEqProofs only [killAll, List.foldl, AObj.kill, AV.kill, AV.kill.killL, go_sem]
          refine ⟨_, ?_, .inl rfl, ?_⟩
          rotate_left
          · rw [List.take_length]
            simp
          · simp
        · rintro v h' rfl
          unfold puH RangeK
          simp -implicitDefEqProofs only [killAll, List.foldl, go_sem]
          refine AWp.of_awpD [] hΓ hmix (by kernel_rfl) ?_
          simp -implicitDefEqProofs only [List.set_cons_zero, List.set_cons_succ, go_sem]
          subst hpe hoe hwe
          have hps := pruneN_succ hlt
          unfold cutL at hps
          rw [hNe, if_pos hN] at hps
          refine ⟨by simp only [InR]; omega, i + 1, ⟨by simp, ?_⟩, hlt, by omega⟩
          rw [hps]
          simp
      · have hNe2 : N = w.length + 1 := by omega
        refine AWp.rangeFunc (ks := [4]) rfl (c116q (q := q) (ws := ws) (os := os) (rk := rk) (w := w) (out := out) hwl N hNe2 ?_) (by simp) (by simp) ?_
        · intro n hn hnw
          have hb := hclt hn hnw
          unfold puH
          refine YC.of_body (Γ := Γ) rfl rfl (by simp) ?_
          intro rr
          refine AWp.of_awpD [] hΓ hmix (by kernel_rfl) ?_
          simp -implicitDefEqProofs only [setP, go_sem]
          unfold BeginE
          refine ⟨rfl, ?_⟩
          simp -implicitDefEqProofs only [go_sem]
          refine AWp.of_awpD [] hΓ hmix (by kernel_rfl) ?_
          by_cases hp : w.take n = []
          · rw [hp]
            simp -implicitDefEqProofs only [go_sem]
            unfold RoundE
            simp -implicitDefEqProofs only [go_sem]
            refine ⟨_, ?_, .inl rfl, ?_⟩
            rotate_left
            · rw [List.take_length]
            · simp
          · have e74 := cm74 os (w.take n) hosl
            rw [hb.resolve_left (fun h => hp (by rw [h, List.take_zero]))] at e74
            simp -implicitDefEqProofs only [hp, go_sem]
            refine callK_fn e74 (.owned rfl rfl) ?_
            simp -implicitDefEqProofs only [go_sem]
            unfold RoundE
            simp -implicitDefEqProofs only [killAll, List.foldl, AObj.kill, AV.kill, AV.kill.killL, go_sem]
            refine ⟨_, ?_, .inl rfl, ?_⟩
            rotate_left
            · rw [List.take_length]
            · simp
        · rintro v h' rfl
          unfold puH RangeK
          simp -implicitDefEqProofs only [killAll, List.foldl, go_sem]
          refine AWp.of_awpD [] hΓ hmix (by kernel_rfl) ?_
          simp -implicitDefEqProofs only [List.set_cons_zero, List.set_cons_succ, go_sem]
          subst hpe hoe hwe
          have hps := pruneN_succ hlt
          unfold cutL at hps
          rw [hNe, if_neg hN, List.append_nil] at hps
          refine ⟨by simp only [InR]; omega, i + 1, ⟨by simp [hps], ?_⟩, hlt, by omega⟩
          rw [hps]
          simp
    · have hw2 : [PV.sl (List.take i (List.map PV.str L)), PV.sl (List.drop (i + 1) (List.map PV.str L))] = wssV [L.take i, L.drop (i + 1)] := by simp [wssV, wsV]
      refine ⟨⟨size_str _, by omega⟩, by simp only [InR]; omega, ⟨size_str _, by omega, by omega⟩, ⟨by simp [sizeOK, PV.cells], by omega⟩, ?_⟩
      rw [hw2]
      refine callK_ac (c29b ?_ (L.take i) (L.drop (i + 1)) (by simp; omega)).full0 (by simp) ?_
      · simp [AObj.kill, AV.kill]
      rintro v h' ⟨rk, hrk, rfl, rfl⟩
      simp -implicitDefEqProofs only [killAll, List.foldl, go_sem]
      refine AWp.seq (AWp.of_awpD [] hΓ hmix (by kernel_rfl) ?_)
      simp -implicitDefEqProofs only [hnat, go_sem]
      refine callK_ac (c73 _) (by simp) ?_
      rintro v h' ⟨rfl, rfl⟩
      simp -implicitDefEqProofs only [killAll, List.foldl, List.length_append, List.length_cons, List.length_nil, go_sem]
      have hwl : L[i].length ≤ 100000 := by have := ((valid_of hv).words _ (hLm _ (List.getElem_mem hlt))).2.1; omega
      have hosl : (othersN L i).length ≤ 9223372036854775807 := by simp [othersN]; omega
      have hcle := cutN_le (othersN L i) L[i]
      have hcat := @cutN_at (othersN L i) L[i]
      have hclt := @cutN_lt (othersN L i) L[i]
      rw [show L.take i ++ L.drop (i + 1) = othersN L i from rfl, show (L.take i).length + (L.drop (i + 1)).length = (othersN L i).length from by simp [othersN]]
      have hpl := pruneN_len L i
      generalize hwe : L[i] = w at *
      generalize hoe : othersN L i = os at *
      generalize hNe : cutN os w = N at *
      generalize hpe : pruneN L i = out at *
      refine AWp.block ?_
      refine AWp.weak (st' := ⟨mkF 84 [(2, .ptr 0 0), (4, .ptr 1 0), (5, .p (.int .i64 0)), (7, .p (.sl (L.map .str))), (10, .ptr 3 0), (13, .ptr 5 0), (46, .p (.sl (L.map .str))), (47, .p (.int .i64 L.length)), (48, .p (.int .i64 i)), (63, .fn 116 [.ptr 7 0])], _⟩) (by simp [go_sem, weakH_self]; exact weakH_refl _) ?_
      rw [show (#[64] : Array Nat) = [64].toArray from rfl]
      by_cases hN : N ≤ w.length
      · obtain ⟨hN0, hNo⟩ := hcat hN
        refine AWp.rangeFunc (ks := [4]) rfl (c116pI (q := q) (ws := ws) (os := os) (rk := rk) (w := w) (out := out) hwl N hN ?_ ?_) (by simp) (by simp) ?_
        · intro n hn hnw
          have hb := hclt hn hnw
          unfold puI
          refine YC.of_body (Γ := Γ) rfl rfl (by simp) ?_
          intro rr
          refine AWp.of_awpD [] hΓ hmix (by kernel_rfl) ?_
          simp -implicitDefEqProofs only [setP, go_sem]
          unfold BeginE
          refine ⟨rfl, ?_⟩
          simp -implicitDefEqProofs only [go_sem]
          refine AWp.of_awpD [] hΓ hmix (by kernel_rfl) ?_
          by_cases hp : w.take n = []
          · rw [hp]
            simp -implicitDefEqProofs only [go_sem]
            unfold RoundE
            simp -implicitDefEqProofs only [go_sem]
            refine ⟨_, ?_, .inl rfl, ?_⟩
            rotate_left
            · rw [List.take_length]
            · simp
          · have e74 := cm74 os (w.take n) hosl
            rw [hb.resolve_left (fun h => hp (by rw [h, List.take_zero]))] at e74
            simp -implicitDefEqProofs only [hp, go_sem]
            refine callK_fn e74 (.owned rfl rfl) ?_
            simp -implicitDefEqProofs only [go_sem]
            unfold RoundE
            simp -implicitDefEqProofs only [killAll, List.foldl, AObj.kill, AV.kill, AV.kill.killL, go_sem]
            refine ⟨_, ?_, .inl rfl, ?_⟩
            rotate_left
            · rw [List.take_length]
            · simp
        · unfold puI
          have hp : ¬ w.take N = [] := fun h => by
            have := congrArg List.length h
            rw [List.length_take, List.length_nil] at this
            omega
          have e74 := cm74 os (w.take N) hosl
          rw [hNo] at e74
          have hs1 : sizeOK [PV.str (w.take N)] 1 := by simp [sizeOK, PV.cells]
          have ho1 : oneOK [PV.str (w.take N)] := by simp [oneOK, PV.cells, PV.isAgg]
          refine YC.of_body (Γ := Γ) rfl rfl (by simp) ?_
          intro rr
          refine AWp.of_awpD [] hΓ hmix (by kernel_rfl) ?_
          simp -implicitDefEqProofs only [setP, go_sem]
          unfold BeginE
          refine ⟨rfl, ?_⟩
          simp -implicitDefEqProofs only [go_sem]
          refine AWp.of_awpD [] hΓ hmix (by kernel_rfl) ?_
          simp -implicitDefEqProofs only [hp, go_sem]
          refine callK_fn e74 (.owned rfl rfl) ?_
          simp -implicitDefEqProofs only [go_sem]
          refine ⟨⟨hs1, by omega⟩, ⟨hs1, ho1⟩, ⟨.inr (by simp), by omega, by omega⟩, ?_⟩
          unfold RoundE
          simp -implicitDefEqProofs only [killAll, List.foldl, AObj.kill, AV.kill, AV.kill.killL, go_sem]
          refine ⟨_, ?_, .inl rfl, ?_⟩
          rotate_left
          · rw [List.take_length]
            simp
          · simp
        · rintro v h' rfl
          unfold puI RangeK
          simp -implicitDefEqProofs only [killAll, List.foldl, go_sem]
          refine AWp.of_awpD [] hΓ hmix (by kernel_rfl) ?_
          simp -implicitDefEqProofs only [List.set_cons_zero, List.set_cons_succ, go_sem]
          subst hpe hoe hwe
          have hps := pruneN_succ hlt
          unfold cutL at hps
          rw [hNe, if_pos hN] at hps
          refine ⟨by simp only [InR]; omega, i + 1, ⟨by simp, ?_⟩, hlt, by omega⟩
          rw [hps]
          simp
      · have hNe2 : N = w.length + 1 := by omega
        refine AWp.rangeFunc (ks := [4]) rfl (c116qI (q := q) (ws := ws) (os := os) (rk := rk) (w := w) (out := out) hwl N hNe2 ?_) (by simp) (by simp) ?_
        · intro n hn hnw
          have hb := hclt hn hnw
          unfold puI
          refine YC.of_body (Γ := Γ) rfl rfl (by simp) ?_
          intro rr
          refine AWp.of_awpD [] hΓ hmix (by kernel_rfl) ?_
          simp -implicitDefEqProofs only [setP, go_sem]
          unfold BeginE
          refine ⟨rfl, ?_⟩
          simp -implicitDefEqProofs only [go_sem]
          refine AWp.of_awpD [] hΓ hmix (by kernel_rfl) ?_
          by_cases hp : w.take n = []
          · rw [hp]
            simp -implicitDefEqProofs only [go_sem]
            unfold RoundE
            simp -implicitDefEqProofs only [go_sem]
            refine ⟨_, ?_, .inl rfl, ?_⟩
            rotate_left
            · rw [List.take_length]
            · simp
          · have e74 := cm74 os (w.take n) hosl
            rw [hb.resolve_left (fun h => hp (by rw [h, List.take_zero]))] at e74
            simp -implicitDefEqProofs only [hp, go_sem]
            refine callK_fn e74 (.owned rfl rfl) ?_
            simp -implicitDefEqProofs only [go_sem]
            unfold RoundE
            simp -implicitDefEqProofs only [killAll, List.foldl, AObj.kill, AV.kill, AV.kill.killL, go_sem]
            refine ⟨_, ?_, .inl rfl, ?_⟩
            rotate_left
            · rw [List.take_length]
            · simp
        · rintro v h' rfl
          unfold puI RangeK
          simp -implicitDefEqProofs only [killAll, List.foldl, go_sem]
          refine AWp.of_awpD [] hΓ hmix (by kernel_rfl) ?_
          simp -implicitDefEqProofs only [List.set_cons_zero, List.set_cons_succ, go_sem]
          subst hpe hoe hwe
          have hps := pruneN_succ hlt
          unfold cutL at hps
          rw [hNe, if_neg hN, List.append_nil] at hps
          refine ⟨by simp only [InR]; omega, i + 1, ⟨by simp [hps], ?_⟩, hlt, by omega⟩
          rw [hps]
          simp
  · have hlt' : ¬ (i : Int) < (L.length : Int) := by omega
    have hiL : i = L.length := by omega
    subst hiL
    simp -implicitDefEqProofs only [Int.lt_irrefl, Nat.lt_irrefl, go_sem]
    refine AWp.freeze 4 rfl ?_
    have e65 := t71 q (pruneN L L.length) (by have := pruneN_len L L.length; omega)
    refine AWp.of_awpD [] hΓ hmix (by kernel_rfl) ?_
    simp -implicitDefEqProofs only [Frozen, AV.thaw, AObj.thaw, AV.thaw.thawL, List.map_cons, List.map_nil, List.set_cons_zero, List.set_cons_succ, go_sem]
    have hE : pruneE q ws l = codeCheck q (made (pruneN L L.length)) := by unfold pruneE; rw [if_neg (fun h => h hc), if_neg (by rw [ho]; decide), hLe, if_neg h0]
    unfold pruneW
    rw [hE, hLe]
    by_cases hm : codeCheck q (made (pruneN L L.length)) = 0
    · rw [if_pos hm] at e65 ⊢
      unfold codeV at e65 ⊢
      refine callK_fn e65 (.pures rfl) ?_
      simp -implicitDefEqProofs only [codeV, go_sem]
    · rw [if_neg hm] at e65 ⊢
      unfold codeV at e65 ⊢
      refine callK_fn e65 (.pures rfl) ?_
      simp -implicitDefEqProofs only [codeV, List.map_nil, go_sem]
end Go.Proofs.YtjjedaikbgfmmaaGreat
end

section
namespace Go.Proofs.YtjjedaikbgfmmaaGreat
open Go Go.AM
set_option maxRecDepth 1000000
set_option linter.unusedSimpArgs false

/-- Known results. -/
def kn : FuncId → List PV → Option AV := fun f args => match f, args with
  | 50, [.int .i64 2, .sl [.int .i64 2, .int .i64 1, .int .i64 3]] => some (.tup [.p (.agg [.bool false, .str [7], .bool false, .str [8]]), .p (.int .i64 0)])
  | 52, [.agg [.bool false, .str [1]]] => some (.p (.agg [.bool false, .str [1], .bool false, .str [1]]))
  | 51, [.agg [.bool false, .str [7], .bool false, .str [8]], .agg [.bool false, .str [1], .bool false, .str [1]]] => some (.p (.int .i64 (-1)))
  | 27, [.agg [.int .i64 2, .sl [.str [48], .str [49, 48], .str [49, 49]]], .sl [.int .i64 0]] => some (.tup [.p (.agg [.int .i64 2, .sl [.str [49, 48], .str [49, 49]]]), .p (.int .i64 0)])
  | _, _ => none
def axA : FuncId → List AV → Option AV := fun f args => match f with
  | 50 => (AV.purL [] args).bind (kn 50)
  | 51 => (AV.purL [] args).bind (kn 51)
  | 52 => (AV.purL [] args).bind (kn 52)
  | 27 => (AV.purL [] args).bind (kn 27)
  | f => axT f args
/-- The order in which the sort's exchange is walked. -/
def ptA : Plans := fun id n => match id, n with
  | 6, 18 => some (.q 0 (.q 1 (.q 2 (.q 3 (.q 4 (.q 5 (.q 6 (.q 7 (.q 8 (.q 9 (.q 10 (.q 11 (.q 12 (.q 13 (.q 14 (.e 15 (.s 2 (.s 3 (.s 4 (.q 16 (.e 17 .fin .nil))))) .nil))))))))))))))))
  | _, _ => none

theorem magB_one : magB 1 = [1] := by decide +kernel
theorem ratV_one : Kn.ratV 1 1 = .agg [.bool false, .str [1], .bool false, .str [1]] := by
  unfold Kn.ratV; rw [show Nat.gcd 1 1 = 1 by decide, Nat.div_one, magB_one]
theorem ratV_seven : Kn.ratV 7 8 = .agg [.bool false, .str [7], .bool false, .str [8]] := by
  unfold Kn.ratV
  rw [show Nat.gcd 7 8 = 1 by decide, Nat.div_one, Nat.div_one, show magB 7 = [7] by decide +kernel, show magB 8 = [8] by decide +kernel]
theorem kraft_ex : PFn Tryz.prog 50 [.int .i64 2, .sl [.int .i64 2, .int .i64 1, .int .i64 3]] [.agg [.bool false, .str [7], .bool false, .str [8]], .int .i64 0] := by
  have e := Kn.v50 2 [2, 1, 3] (by decide) (by decide) (by decide) (by decide)
  have h : Kn.ratV (Kn.krS 2 [2, 1, 3]) (2 ^ 32) = .agg [.bool false, .str [7], .bool false, .str [8]] := by
    unfold Kn.ratV
    rw [show Kn.krS 2 [2, 1, 3] = 3758096384 by decide, show Nat.gcd 3758096384 (2 ^ 32) = 536870912 by decide]
    rw [show 3758096384 / 536870912 = 7 by decide, show 2 ^ 32 / 536870912 = 8 by decide]
    rw [show magB 7 = [7] by decide +kernel, show magB 8 = [8] by decide +kernel]
  rw [h] at e
  exact e
theorem cap_big : 100 < capN := Nat.lt_of_lt_of_le (by decide : 100 < 256 ^ 1) (Nat.pow_le_pow_right (by decide) (by decide))
theorem of_ex : PFn Tryz.prog 52 [.agg [.bool false, .str [1]]] [.agg [.bool false, .str [1], .bool false, .str [1]]] := by
  have e := Kn.v52 1 (by have := cap_big; omega)
  rw [ratV_one] at e
  unfold intN intV at e
  rw [magB_one] at e
  exact e
theorem cmp_ex : PFn Tryz.prog 51 [.agg [.bool false, .str [7], .bool false, .str [8]], .agg [.bool false, .str [1], .bool false, .str [1]]] [.int .i64 (-1)] := by
  have hc := cap_big
  have e := Kn.v51 7 8 1 1 (by omega) (by omega) (by omega) (by omega) (by omega) (by omega) (by omega) (by omega)
  rw [ratV_one, ratV_seven] at e
  exact e
theorem prune_ex : PFn Tryz.prog 27 [.agg [.int .i64 2, .sl [.str [48], .str [49, 48], .str [49, 49]]], .sl [.int .i64 0]] [.agg [.int .i64 2, .sl [.str [49, 48], .str [49, 49]]], .int .i64 0] := by
  have e := cm27 2 [[48], [49, 48], [49, 49]] [0] (by decide)
  have hm : made [[49, 48], [49, 49]] = [[49, 48], [49, 49]] := made_of (by unfold ltW; decide) (fun x => Iff.rfl)
  have hl : leftN [[48], [49, 48], [49, 49]] [0] 3 = [[49, 48], [49, 49]] := by decide
  have hp : pruneN [[49, 48], [49, 49]] 2 = [[49, 48], [49, 49]] := by decide
  have hE : pruneE 2 [[48], [49, 48], [49, 49]] [0] = 0 := by
    unfold pruneE
    rw [show ([[48], [49, 48], [49, 49]] : List (List UInt8)).length = 3 from rfl, hl, show ([[49, 48], [49, 49]] : List (List UInt8)).length = 2 from rfl, hp, hm]
    decide
  unfold pruneW at e
  rw [if_pos hE, hE, show ([[48], [49, 48], [49, 49]] : List (List UInt8)).length = 3 from rfl, hl, show ([[49, 48], [49, 49]] : List (List UInt8)).length = 2 from rfl, hp, hm] at e
  exact e

theorem bind_kn {args : List AV} {f : FuncId} {v : AV} (h : (AV.purL [] args).bind (kn f) = some v) : ∃ p, AV.purL [] args = some p ∧ kn f p = some v := Option.bind_eq_some_iff.1 h
theorem kn_ok : ∀ f p v, kn f p = some v → ∃ vs, PFn Tryz.prog f p vs ∧ v = packAV (vs.map .p) := by
  intro f p v h
  unfold kn at h
  split at h
  · injection h with h; exact ⟨_, kraft_ex, h.symm⟩
  · injection h with h; exact ⟨_, of_ex, h.symm⟩
  · injection h with h; exact ⟨_, cmp_ex, h.symm⟩
  · injection h with h; exact ⟨_, prune_ex, h.symm⟩
  · cases h
theorem axA_ok : ∀ f args v, axA f args = some v → AX Tryz.prog f args v ∨ ∀ h, AC Tryz.prog f args h [] (fun u h' => u = v ∧ h' = h) := by
  have go : ∀ f args v, (AV.purL [] args).bind (kn f) = some v → ∀ h, AC Tryz.prog f args h [] (fun u h' => u = v ∧ h' = h) := by
    intro f args v h
    obtain ⟨p, h1, h2⟩ := bind_kn h
    obtain ⟨vs, h3, h4⟩ := kn_ok f p v h2
    subst h4
    exact fun h => AC.of_fn h3 (.inr h1)
  intro f args v h
  unfold axA at h
  split at h
  · exact .inr (go _ _ _ h)
  · exact .inr (go _ _ _ h)
  · exact .inr (go _ _ _ h)
  · exact .inr (go _ _ _ h)
  · exact .inl (axT_ok _ _ _ h)

theorem hEA : ECOK ⟨Tryz.prog, Γ, axA⟩ := ⟨hΓ, hmix, names_ok (by kernel_rfl), axA_ok⟩
theorem awE : (runEP ⟨Tryz.prog, Γ, axA⟩ ptA 2000 12 []).bind AV.pvT = some (.p (.bool true)) := by kernel_rfl
theorem awake_ok : PFn Tryz.prog 12 [] [.bool true] := by
  obtain ⟨v, h1, h2⟩ := Option.bind_eq_some_iff.1 awE
  exact .of_acP ((runEP_ok hEA h1).monoR fun u h' ⟨e1, e2⟩ => ⟨by rw [e1]; exact h2, e2⟩)
end Go.Proofs.YtjjedaikbgfmmaaGreat
end

