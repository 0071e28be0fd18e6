/-
  slices.Sort on an owned row of words, as a contract with the heap.
  Sets of rests: sorted, each once.
  The set at the beginning (measure.begin).
  The set behind a letter (measure.set.read): its closure.
  The set behind a letter (measure.set.read).
  Sorted sets of rests: plain facts, and a form that the kernel can run.
  What the reckoner knows at chapter 36: sums, strings.Join.
  The example of chapter 36: the search, reckoned.
  The example of chapter 36: reckoned, but for sums, whose contracts are known, and strings.Join.
  HasSuffix, Suffix.
  Prefix and Suffix of the reference, Suffix, Longest, Same, Make of the reference.
  Codes without beginnings of others, plain.
  The sizes of chapter 36 (Great); prefix codes of these sizes.
  Kraft's sum of a prefix code, plain: at most 1, and 1 exactly if nothing is missing.
  Words over an alphabet, and prefix codes as lists: plain.
  The law MeasureAdded (f7).
-/
import Derived.Shelf.Slices.In.SortNone
import Derived.Test.YtpljmccnfmkmfaaGreatJ16d257d60e06
import Derived.Test.YtpljmccnfmkmfaaGreatJc862411365c3
import Derived.Test.YtpljmccnfmkmfaaGreatJ77889e4eeaca
import Derived.Test.YtpljmccnfmkmfaaGreatJ0c694ec8948c
import Derived.Test.YtpljmccnfmkmfaaGreatJeeeb5ed1b19d
import Derived.Test.YtpljmccnfmkmfaaGreatJ66b8daa2b8ae
import Derived.Test.YtpljmccnfmkmfaaGreatJ959dc9a6cdbb
import Derived.Test.YtpljmccnfmkmfaaGreatJdfc115ebc299
import Derived.Test.YtpljmccnfmkmfaaGreatJ9e55a1db4c38

section
namespace Go.Proofs.YtpljmccnfmkmfaaGreat
open Go Go.AM Go.RowKit Go.Shelf
set_option maxRecDepth 100000
set_option linter.unusedSimpArgs false

def sortL (l : List (List UInt8)) : List (List UInt8) := l.mergeSort fun x y => decide (x ≤ y)
theorem sortL_length (l : List (List UInt8)) : (sortL l).length = l.length := by unfold sortL; simp
theorem mem_sortL {l : List (List UInt8)} {x : List UInt8} : x ∈ sortL l ↔ x ∈ l := (List.mergeSort_perm l _).mem_iff
theorem sorts197 (d : List (List UInt8)) (blk off cap : Nat) (w : World) (hH : Sort.Holds encW w blk off d.toArray) (hb : blk < w.heap.size) (hd : d.length < 4611686018427387904) :
    Calls Tryz.prog 197 #[.slice (some ⟨blk, off, none⟩) d.length cap] w fun e w' => e = .returned (.tuple #[]) ∧ ∃ n os, w' = sortWorld encW w blk off n (sortL d).toArray os :=
  Any.slices_Sort_string (ρ := Tryz.sortO_ren) Tryz.sortO blk off cap d w hH hb hd

theorem c197 {h : List AObj} {b : Nat} (l : List (List UInt8)) (hb : h[b]? = some (.row 9 1 (l.map .str) .own)) (hsz : l.length ≤ 1000000) :
    AC Tryz.prog 197 [.own b l.length] h [] (fun v h' => v = .tup [] ∧ h' = h.set b (.row 9 1 ((sortL l).map .str) .own)) := by
  refine ⟨entersF_of Tryz.func197 (by kernel_rfl) rfl, fun X I μ ob w cargs R hlen hargs _ => ?_⟩
  obtain ⟨a0, rfl⟩ : ∃ a, cargs = [a] := by
    match cargs, hlen with
    | [a], _ => exact ⟨a, rfl⟩
  have g0 := hargs 0 (by simp)
  simp only [List.getD_cons_zero] at g0
  obtain ⟨a, c, rfl, hbn, hbm⟩ := g0.own_inv
  obtain ⟨hall, hrow⟩ := R.objs _ _ hb
  rcases hrow with ⟨g, hg, off, cap, cur, fr, vs, e1, e2, e3, e4, e5, e6, e7, e8, e9, e10⟩ | ⟨hk, _⟩
  rotate_left
  · cases hk
  rw [hbm] at e1
  simp only [List.length_map] at e1 e5 e7 e8 e9 e10
  injection e1 with e1a _ e1c
  subst e1a e1c
  have hfr := e3 rfl
  subst hfr
  have hgl := (R.own b g hg).2.2
  have cell : ∀ j (hj : j < l.length), cur[off + j]? = some (encW l[j]) := fun j hj => by
    have h1 := e10 j (by omega)
    rw [flats_str, getD_map_lt _ _ _ _ hj] at h1
    have h2 := encW_of h1
    have h3 : cur.toList[off + j]? = some (vs.getD j undef) := by
      have : vs[j]? = some (vs.getD j undef) := by rw [List.getD_eq_getElem?_getD, List.getElem?_eq_getElem (by omega)]; rfl
      rw [← e8, List.getElem?_take_of_lt (by omega), List.getElem?_drop] at this
      exact this.trans (by rw [e8])
    rw [Array.getElem?_toList, h2] at h3
    exact h3
  have hH : Sort.Holds encW w g off l.toArray := fun j hj => by
    have hj' : j < l.length := by simpa using hj
    refine ⟨?_, ?_⟩
    · unfold World.cell?
      simp only [e2]
      rw [cell j hj', getElem!_pos l.toArray j hj]
      simp
    · unfold World.frozen?
      simp only [e2]
      simp
  have hc := sorts197 l g off c w hH hgl (by omega)
  refine Calls.mono (P := Tryz.prog) hc ?_
  rintro e w' ⟨rfl, n, os, rfl⟩
  have hsl : (sortL l).toArray.size = l.length := by simp [sortL_length]
  -- the world that is left
  have hnew : (sortWorld encW w g off n (sortL l).toArray os).heap[g]? = some (.cells (Sort.putCells encW off (sortL l).toArray cur) 9 (0, 0)) := by
    unfold sortWorld
    rw [Sort.heap_grow_old _ _ (by simp [Sort.ahead]; exact hgl)]
    show (w.heap.modify g _)[g]? = _
    rw [Array.getElem?_modify, if_pos rfl, e2]; rfl
  have hold : ∀ k, k < w.heap.size → k ≠ g → (sortWorld encW w g off n (sortL l).toArray os).heap[k]? = w.heap[k]? := fun k hk hne => by
    unfold sortWorld
    rw [Sort.heap_grow_old _ _ (by simp [Sort.ahead]; exact hk)]
    show (w.heap.modify g _)[k]? = _
    rw [Array.getElem?_modify, if_neg (fun e => hne e.symm)]
  have hgrow : w.grownBy (sortWorld encW w g off n (sortL l).toArray os) (some g) := ⟨rfl, rfl, rfl, by simp [sortWorld, Sort.ahead], fun k hk hk2 => hold k hk (fun e => hk2 (by rw [e]))⟩
  have hput : ∀ j, j < l.length → (Sort.putCells encW off (sortL l).toArray cur)[off + j]? = some (encW ((sortL l).getD j [])) := fun j hj => by
    unfold Sort.putCells
    rw [Array.getElem?_mapIdx, cell j hj]
    simp only [Option.map_some]
    rw [if_pos ⟨Nat.le_add_right _ _, by rw [hsl]; omega⟩, Nat.add_sub_cancel_left, getElem!_pos (sortL l).toArray j (by rw [hsl]; exact hj), List.getD_eq_getElem?_getD, List.getElem?_eq_getElem (by rw [sortL_length]; exact hj)]
    simp
  have hps : (Sort.putCells encW off (sortL l).toArray cur).size = cur.size := by unfold Sort.putCells; rw [Array.size_mapIdx]
  have hpl : (((Sort.putCells encW off (sortL l).toArray cur).toList.drop off).take l.length).length = l.length := by
    have h1 : (Sort.putCells encW off (sortL l).toArray cur).toList.length = cur.size := by simpa using hps
    rw [List.length_take, List.length_drop, h1]; omega
  have R2 := R.write (b0 := b) (g0 := g) (o := .row 9 1 ((sortL l).map .str) .own) hbn hg hgrow ⟨fun x hx => by
      obtain ⟨u, _, rfl⟩ := List.mem_map.1 hx; rfl, .inl ⟨g, hg, off, c, Sort.putCells encW off (sortL l).toArray cur, (0, 0), ((Sort.putCells encW off (sortL l).toArray cur).toList.drop off).take l.length, by rw [hbm, List.length_map, sortL_length], hnew, fun _ => rfl, by simp,
        by rw [List.length_map, sortL_length]; exact e5, e6, by rw [hps]; exact e7, by rw [List.length_map, sortL_length, Nat.mul_one], by
          rw [List.length_map, sortL_length, hpl, Nat.mul_one], fun j hj => ?_⟩⟩
  · exact ⟨_, .tup [], _, I, μ, ob, rfl, R2, .tup [] [] rfl (by simp), fun _ h => h, fun _ _ _ => rfl, by simp, fun g hg => .inl hg, fun b g hb => .inl ⟨b, hb⟩, fun k hk hno => hold k hk (fun e => hno b (by rw [e]; exact hg)), rfl, rfl⟩
  · rw [List.length_map, sortL_length, Nat.mul_one] at hj
    rw [flats_str, getD_map_lt _ _ _ _ (by rw [sortL_length]; exact hj)]
    have : (((Sort.putCells encW off (sortL l).toArray cur).toList.drop off).take l.length).getD j undef = encW ((sortL l).getD j []) := by
      rw [List.getD_eq_getElem?_getD, List.getElem?_take_of_lt hj, List.getElem?_drop, Array.getElem?_toList, hput j hj]; rfl
    rw [this, List.getD_eq_getElem?_getD, List.getElem?_eq_getElem (by rw [sortL_length]; exact hj)]
    exact pr_encW _

theorem c197n {h : List AObj} {b : Nat} : AC Tryz.prog 197 [.own b 0] h [] (fun v h' => v = .tup [] ∧ h' = h) := by
  refine ⟨entersF_of Tryz.func197 (by kernel_rfl) rfl, fun X I μ ob w cargs R hlen hargs _ => ?_⟩
  obtain ⟨a0, rfl⟩ : ∃ a, cargs = [a] := by
    match cargs, hlen with
    | [a], _ => exact ⟨a, rfl⟩
  have g0 := hargs 0 (by simp)
  simp only [List.getD_cons_zero] at g0
  obtain ⟨a, c, rfl, hbn, hbm⟩ := g0.own_inv
  have hc : Calls Tryz.prog 197 #[.slice a 0 c] w fun e w' => e = .returned (.tuple #[]) ∧ w' = w := Any.slices_Sort_string_none (ρ := Tryz.sortO_ren) Tryz.sortO a c w
  refine Calls.mono (P := Tryz.prog) hc ?_
  rintro e w' ⟨rfl, rfl⟩
  exact ⟨_, .tup [], _, I, μ, ob, rfl, R, .tup [] [] rfl (by simp), fun _ h => h, fun _ _ _ => rfl, Nat.le_refl _, fun g hg => .inl hg, fun b g hb => .inl ⟨b, hb⟩, fun k hk hno => rfl, rfl, rfl⟩
end Go.Proofs.YtpljmccnfmkmfaaGreat
end

section
namespace Go.Proofs.YtpljmccnfmkmfaaGreat
open Go Go.AM Go.RowKit
set_option maxRecDepth 100000
set_option linter.unusedSimpArgs false

def canL (l : List (List UInt8)) : List (List UInt8) := Lib.compact (sortL l)
theorem c149 {h : List AObj} {b : Nat} (l : List (List UInt8)) (hb : h[b]? = some (.row 9 1 (l.map .str) .own)) (hsz : l.length ≤ 1000000) :
    AC Tryz.prog 149 [.own b l.length] h [b] (fun v h' => v = .own b (canL l).length ∧ h' = (h.map (AObj.kill b)).set b (.row 9 1 ((canL l).map .str) .own)) := by
  have hbl : b < h.length := (List.getElem?_eq_some_iff.1 hb).1
  refine AC.of_bodyE hΓ Tryz.func149 (by kernel_rfl) rfl (AWp.mono (Q := fun e st => AM.Ends e ∧ st.tmps.getD 2 .junk = .own b (canL l).length ∧ st.h = (h.map (AObj.kill b)).set b (.row 9 1 ((canL l).map .str) .own)) ?_ ?_)
  rotate_left
  · rintro e ⟨tm, h'⟩ ⟨he, h1, h2⟩
    simp only at h1 h2
    subst h2
    refine ⟨he, _, Less.refl _, ?_⟩
    unfold DoneE
    simp +contextual -implicitDefEqProofs only [Tryz.results149, h1, go_sem]
    exact ⟨_, by simp, .inl rfl, List.take_length⟩
  refine AWp.of_awpD [] hΓ hmix (by kernel_rfl) ?_
  simp -implicitDefEqProofs only [Tryz.ntmps149, Nat.reduceAdd, Nat.reduceSub, go_sem]
  refine callK_ac (c197 l hb hsz) (by simp) ?_
  rintro v h' ⟨rfl, rfl⟩
  simp -implicitDefEqProofs only [killAll, List.foldl, go_sem]
  have e := c107 (h := h.set b (.row 9 1 ((sortL l).map .str) .own)) (b := b) (sortL l) (by rw [List.getElem?_set_self hbl]) (by rw [sortL_length]; exact hsz)
  rw [sortL_length] at e
  refine callK_ac e (by simp) ?_
  rintro v h' ⟨rfl, rfl⟩
  simp -implicitDefEqProofs only [killAll, List.foldl, go_sem]
  refine ⟨rfl, ?_⟩
  rw [List.map_set, List.set_set]; rfl
theorem c149n {h : List AObj} {b : Nat} : AC Tryz.prog 149 [.own b 0] h [] (fun v h' => v = .own b 0 ∧ h' = h) := by
  refine AC.of_bodyE hΓ Tryz.func149 (by kernel_rfl) rfl (AWp.mono (Q := fun e st => AM.Ends e ∧ st.tmps.getD 2 .junk = .own b 0 ∧ st.h = h) ?_ ?_)
  rotate_left
  · rintro e ⟨tm, h'⟩ ⟨he, h1, h2⟩
    simp only at h1 h2
    subst h2
    refine ⟨he, _, Less.refl _, ?_⟩
    unfold DoneE
    simp +contextual -implicitDefEqProofs only [Tryz.results149, h1, go_sem]
    exact ⟨_, by simp, .inl rfl, List.take_length⟩
  refine AWp.of_awpD [] hΓ hmix (by kernel_rfl) ?_
  simp -implicitDefEqProofs only [Tryz.ntmps149, Nat.reduceAdd, Nat.reduceSub, go_sem]
  refine callK_ac c197n (by simp) ?_
  rintro v h' ⟨rfl, rfl⟩
  simp -implicitDefEqProofs only [killAll, List.foldl, go_sem]
  refine callK_ac c107n (by simp) ?_
  rintro v h' ⟨rfl, rfl⟩
  simp -implicitDefEqProofs only [killAll, List.foldl, go_sem]
end Go.Proofs.YtpljmccnfmkmfaaGreat
end

section
namespace Go.Proofs.YtpljmccnfmkmfaaGreat
open Go Go.AM Go.Mc
set_option maxRecDepth 100000
set_option maxHeartbeats 4000000
set_option linter.unusedSimpArgs false

def begT (ws : List (List UInt8)) (i : Nat) : List (List UInt8) := (ws.take i).flatMap ends
theorem begT_succ {ws : List (List UInt8)} {i : Nat} (hi : i < ws.length) : begT ws (i + 1) = begT ws i ++ ends ws[i] := by
  unfold begT; rw [List.take_succ_eq_append_getElem hi, List.flatMap_append]; simp
theorem begT_len {ws : List (List UInt8)} (hw : ∀ x ∈ ws, x.length ≤ 32) : ∀ i, i ≤ ws.length → (begT ws i).length ≤ 33 * i
  | 0, _ => by simp [begT]
  | i + 1, hi => by
    have h1 := begT_len hw i (by omega)
    have h2 := hw ws[i] (List.getElem_mem (by omega))
    rw [begT_succ (by omega), List.length_append, ends_len]; omega
theorem rk_begT {ws : List (List UInt8)} {i : Nat} (hi : i < ws.length) : rkOf (begT ws (i + 1)) = .own := by
  unfold rkOf
  rw [if_neg]
  intro e
  have := congrArg List.length e
  rw [begT_succ hi, List.length_append, ends_len] at this
  simp at this
theorem c87 (q : Int) (ws : List (List UInt8)) (hv : Valid q ws) : PFn Tryz.prog 87 [codeV q ws] [.sl ((canL (begL ws)).map .str)] := by
  have hlen := hv.len
  have hw32 : ∀ x ∈ ws, x.length ≤ 32 := fun x hx => (hv.words x hx).2.1
  refine PFn.of_body hΓ Tryz.func87 (by kernel_rfl) rfl (AWp.seq (AWp.of_awpD [] hΓ hmix (by kernel_rfl) ?_))
  simp -implicitDefEqProofs only [Tryz.ntmps87, Tryz.results87, Nat.reduceAdd, Nat.reduceSub, codeV, go_sem]
  refine AWp.seq (AWp.of_awpD [] hΓ hmix (by kernel_rfl) ?_)
  simp -implicitDefEqProofs only [go_sem]
  refine AWp.adopt (l := []) 3 9 1 (by rfl) (by simp) ?_
  simp -implicitDefEqProofs only [go_sem]
  refine AWp.seq (AWp.of_awpD [] hΓ hmix (by kernel_rfl) ?_)
  simp -implicitDefEqProofs only [List.length_map, go_sem]
  refine AWp.loopJ (fun i : Nat => ⟨mkF 20 [(1, .ptr 0 0), (3, .own 1 (begT ws i).length), (7, .p (.sl (ws.map .str))), (8, .p (.int .i64 ws.length)), (9, .p (.int .i64 i))], [.box [.p (.int .i64 q), .p (.sl (ws.map .str))], .row 9 1 ((begT ws i).map .str) (rkOf (begT ws i))]⟩)
    (fun i => i ≤ ws.length) (fun i => ws.length - i) 0 (fun x => by simp [BelowAll, mkF, AV.blw, AV.blw.blwL, blwH, AObj.blw]) (by simp [go_sem, begT, rkOf]) (by omega) ?_
  intro i hi
  refine AWp.of_awpD [] hΓ hmix (by kernel_rfl) ?_
  by_cases hlt : i < ws.length
  · have hg : (ws.map PV.str).getD i default = .str ws[i] := getD_map_lt _ _ _ _ hlt
    have hb := begT_len hw32 i (by omega)
    have hsu := begT_succ hlt
    have hx := hw32 ws[i] (List.getElem_mem hlt)
    simp -implicitDefEqProofs only [hlt, hg, Int.toNat_natCast, go_sem]
    refine callK_ac (c148 _) (by simp) ?_
    rintro v h' ⟨rfl, rfl⟩
    simp -implicitDefEqProofs only [killAll, List.foldl, go_sem]
    refine callK_ac (c147 q ws (begT ws i) ws[i] (by omega) (by omega)) (by simp) ?_
    rintro v h' ⟨rfl, rfl⟩
    simp -implicitDefEqProofs only [killAll, List.foldl, go_sem]
    exact ⟨by simp only [InR]; omega, i + 1, ⟨⟨by rw [hsu], by simp⟩, .inl ⟨by rw [hsu], rk_begT hlt⟩⟩, by omega, by omega⟩
  have hiw : i = ws.length := by omega
  subst hiw
  simp -implicitDefEqProofs only [Nat.lt_irrefl, Int.lt_irrefl, go_sem]
  have hpos := hv.pos
  have hrk : rkOf (begT ws ws.length) = .own := by
    obtain ⟨m, hm⟩ : ∃ m, ws.length = m + 1 := ⟨ws.length - 1, by omega⟩
    rw [hm]; exact rk_begT (by omega)
  have hb := begT_len hw32 ws.length (Nat.le_refl _)
  rw [hrk]
  refine AWp.of_awpD [] hΓ hmix (by kernel_rfl) ?_
  simp -implicitDefEqProofs only [go_sem]
  refine callK_ac (c149 (begT ws ws.length) rfl (by omega)) (by simp) ?_
  rintro v h' ⟨rfl, rfl⟩
  have ht : begT ws ws.length = begL ws := by unfold begT begL; rw [List.take_length]
  simp -implicitDefEqProofs only [killAll, List.foldl, List.set_cons_zero, List.set_cons_succ, ht, go_sem]
end Go.Proofs.YtpljmccnfmkmfaaGreat
end

section
namespace Go.Proofs.YtpljmccnfmkmfaaGreat
open Go Go.AM Go.Mc
set_option maxRecDepth 100000
set_option maxHeartbeats 4000000
set_option linter.unusedSimpArgs false

def rdH (q : Int) (ws : List (List UInt8)) (c : UInt8) (out : List (List UInt8)) : List AObj :=
  [.box [.p (.int .i64 q), .p (.sl (ws.map .str))], .box [.p (.int .u8 c.toNat)], .box [.own 3 out.length], .row 9 1 (out.map .str) (rkOf out)]
theorem tails_succ {c : UInt8} {W : List (List UInt8)} {i : Nat} (hi : i < W.length) : tails c (W.take (i + 1)) = tails c (W.take i) ++ tl1 c W[i] := by
  unfold tails; rw [List.take_succ_eq_append_getElem hi, List.flatMap_append]; simp
theorem tails_len (c : UInt8) : ∀ W : List (List UInt8), (tails c W).length ≤ W.length
  | [] => Nat.le_refl _
  | x :: W => by
    have ih := tails_len c W
    have e : tails c (x :: W) = tl1 c x ++ tails c W := rfl
    rw [e, List.length_append, List.length_cons]
    have : (tl1 c x).length ≤ 1 := by
      cases x with
      | nil => exact Nat.zero_le _
      | cons d y => rw [tl1_cons]; split <;> simp
    omega
theorem c150 (q : Int) (ws : List (List UInt8)) (c : UInt8) (out W : List (List UInt8)) (ho : out.length ≤ 1000000) (hW : W.length ≤ 1000000) :
    AC Tryz.prog 150 [.p (.sl (W.map .str)), .ptr 1 0, .ptr 2 0] (rdH q ws c out) [3] (fun _ h' => h' = rdH q ws c (out ++ tails c W)) := by
  refine AC.of_bodyE hΓ Tryz.func150 (by kernel_rfl) rfl (AWp.mono (Q := fun e st => AM.Ends e ∧ st.h = rdH q ws c (out ++ tails c W)) ?_ ?_)
  rotate_left
  · rintro e ⟨tm, h'⟩ ⟨he, h2⟩
    simp only at h2
    subst h2
    refine ⟨he, _, Less.refl _, ?_⟩
    unfold DoneE
    simp +contextual -implicitDefEqProofs only [Tryz.results150, go_sem]
    exact ⟨4, by simp [rdH], .inl rfl, rfl⟩
  refine AWp.of_awpD [] hΓ hmix (by kernel_rfl) ?_
  simp -implicitDefEqProofs only [Tryz.ntmps150, Nat.reduceAdd, Nat.reduceSub, List.length_map, go_sem]
  refine AWp.loopI (fun i : Nat => ⟨mkF 26 [(1, .ptr 1 0), (2, .ptr 2 0), (6, .p (.sl (W.map .str))), (7, .p (.int .i64 W.length)), (8, .p (.int .i64 i))], rdH q ws c (out ++ tails c (W.take i))⟩)
    (fun i => i ≤ W.length) (fun i => W.length - i) 0 (by simp [go_sem, weakH_self, tails, rdH]) (by omega) ?_
  intro i hi
  have hul : (tails c (W.take i)).length ≤ i := by have := tails_len c (W.take i); rw [List.length_take] at this; omega
  generalize hu : out ++ tails c (W.take i) = u at *
  have hulen : u.length ≤ 2000000 := by rw [← hu, List.length_append]; omega
  unfold rdH
  refine AWp.of_awpD [(3, 8), (4, 1000)] hΓ hmix (by kernel_rfl) ?_
  by_cases hlt : i < W.length
  · have hg : (W.map PV.str).getD i default = .str W[i] := getD_map_lt _ _ _ _ hlt
    have hsu := tails_succ (c := c) hlt
    by_cases hx0 : W[i] = []
    · rw [hx0] at hg hsu
      have hn : tails c (W.take (i + 1)) = tails c (W.take i) := by rw [hsu]; exact List.append_nil _
      simp -implicitDefEqProofs only [hlt, hg, Int.toNat_natCast, go_sem]
      refine ⟨by simp only [InR]; omega, i + 1, ⟨by simp, ?_⟩, by omega, by omega⟩
      rw [hn, hu]
      simp [rdH, weakH_self]
    obtain ⟨d, y, hx⟩ := List.exists_cons_of_ne_nil hx0
    rw [hx] at hg hsu
    rw [tl1_cons] at hsu
    have hg0 : (d :: y).getD (Int.toNat 0) 0 = d := rfl
    have hp : 0 < (((y.length + 1 : Nat)) : Int) := by omega
    by_cases hd : d = c
    · subst hd
      rw [if_pos rfl] at hsu
      simp -implicitDefEqProofs only [hlt, hg, Int.toNat_natCast, List.length_cons, hg0, hp, go_sem]
      refine AWp.planL (.q 0 (.q 1 (.q 2 (.q 3 (.e 4 (.e 5 .fin .nil) .nil))))) hΓ hmix (by kernel_rfl) ?_
      simp -implicitDefEqProofs only [List.length_cons, hp, go_sem]
      have hd1 : List.drop (Int.toNat 1) (d :: y) = y := rfl
      rw [hd1]
      have hs1 : sizeOK [PV.str y] 1 := by simp [sizeOK, PV.cells]
      have ho1 : oneOK [PV.str y] := by simp [oneOK, PV.cells, PV.isAgg]
      refine ⟨⟨by omega, by omega⟩, ⟨hs1, by omega⟩, ⟨hs1, ho1⟩, ⟨by unfold rkOf; split <;> simp, .inr (by simp), by omega, by omega⟩, by simp only [InR]; omega, i + 1, ⟨by simp, ?_⟩, by omega, by omega⟩
      rw [hsu, ← List.append_assoc, hu]
      rw [rkOf_snoc]
      simp
    · rw [if_neg hd, List.append_nil] at hsu
      have hdc : ¬ d.toNat = c.toNat := fun e => hd (UInt8.toNat_inj.1 e)
      simp -implicitDefEqProofs only [hlt, hg, Int.toNat_natCast, List.length_cons, hg0, hp, hdc, go_sem]
      refine ⟨by simp only [InR]; omega, i + 1, ⟨by simp, ?_⟩, by omega, by omega⟩
      rw [hsu, hu]
      simp [rdH, weakH_self]
  have hiw : i = W.length := by omega
  subst hiw
  simp -implicitDefEqProofs only [Nat.lt_irrefl, Int.lt_irrefl, go_sem]
  rw [← hu, List.take_length]
  exact ⟨rfl, rfl, rfl⟩
end Go.Proofs.YtpljmccnfmkmfaaGreat
end

section
namespace Go.Proofs.YtpljmccnfmkmfaaGreat
open Go Go.AM Go.Mc
set_option maxRecDepth 100000
set_option maxHeartbeats 4000000
set_option linter.unusedSimpArgs false

theorem AWp.seqT {E : Env} {r : Option Nat} {Q : Exit → St → Prop} {st : St} {x y : Code} (fr : St) (h2 : AWp E r y Q fr)
    (h1 : AWp E r y Q fr → AWp E r x (thenQ (fun st => AWp E r y Q st) Q) st) : AWp E r (.seq x y) Q st := AWp.seq (h1 h2)
theorem cs198 (a : List (List UInt8)) (x : List UInt8) (hl : a.length ≤ 9223372036854775807) : PFn Tryz.prog 198 [.sl (a.map .str), .str x] [.int .i64 (if x ∈ a then (a.idxOf x : Int) else -1)] := by
  refine PFn.of_body hΓ Tryz.func198 (by kernel_rfl) rfl (AWp.of_awpD [] hΓ hmix (by kernel_rfl) ?_)
  simp -implicitDefEqProofs only [Tryz.ntmps198, Tryz.results198, Nat.reduceAdd, Nat.reduceSub, go_sem]
  refine AWp.loopI (fun k : Nat => ⟨mkF 19 [(0, .p (.sl (a.map .str))), (1, .p (.str x)), (4, .p (.int .i64 0)), (7, .p (.int .i64 a.length)), (8, .p (.int .i64 k))], []⟩)
    (fun k => k ≤ a.length ∧ x ∉ a.take k) (fun k => a.length - k) 0 (by simp [go_sem, weakH_self]) (by simp) ?_
  rintro k ⟨hk, h0⟩
  refine AWp.of_awpD [] hΓ hmix (by kernel_rfl) ?_
  by_cases hlt : k < a.length
  · have hlt' : (k : Int) < (a.length : Int) := by omega
    have hg : (a.map PV.str).getD k default = .str a[k] := getD_map_lt _ _ _ _ hlt
    have htk : a.take (k + 1) = a.take k ++ [a[k]] := by rw [List.take_succ_eq_append_getElem hlt]
    by_cases he : x = a[k]
    · simp -implicitDefEqProofs only [hlt', hg, Int.toNat_natCast, he, List.length_map, go_sem]
      have hx : x ∈ a := he ▸ List.getElem_mem hlt
      have hi : a.idxOf x = k := by
        conv => lhs; rw [← List.take_append_drop k a, List.idxOf_append, if_neg h0]
        rw [List.drop_eq_getElem_cons hlt, he, List.idxOf_cons_self, List.length_take]
        omega
      rw [← he, if_pos hx, hi]
    · simp -implicitDefEqProofs only [hlt', hg, Int.toNat_natCast, he, List.length_map, go_sem]
      have h2 : x ∉ a.take (k + 1) := by
        rw [htk]; simp only [List.mem_append, List.mem_singleton]
        exact fun h => h.elim h0 he
      exact ⟨by simp only [InR]; omega, k + 1, by simp, ⟨hlt, h2⟩, by omega⟩
  · have hlt' : ¬ (k : Int) < (a.length : Int) := by omega
    rw [List.take_of_length_le (by omega)] at h0
    rw [if_neg h0]
    simp -implicitDefEqProofs only [hlt', go_sem]
theorem cs151 (a : List (List UInt8)) (x : List UInt8) (hl : a.length ≤ 9223372036854775807) : PFn Tryz.prog 151 [.sl (a.map .str), .str x] [.bool (decide (x ∈ a))] := by
  have e := cs198 a x hl
  by_cases hx : x ∈ a
  · rw [if_pos hx] at e
    refine PFn.of_body hΓ Tryz.func151 (by kernel_rfl) rfl (AWp.of_awpD [] hΓ hmix (by kernel_rfl) ?_)
    simp -implicitDefEqProofs only [Tryz.ntmps151, Tryz.results151, Nat.reduceAdd, Nat.reduceSub, go_sem]
    refine callK_fn e (.pures rfl) ?_
    simp -implicitDefEqProofs only [hx, go_sem]
    try simp
  · rw [if_neg hx] at e
    refine PFn.of_body hΓ Tryz.func151 (by kernel_rfl) rfl (AWp.of_awpD [] hΓ hmix (by kernel_rfl) ?_)
    simp -implicitDefEqProofs only [Tryz.ntmps151, Tryz.results151, Nat.reduceAdd, Nat.reduceSub, go_sem]
    refine callK_fn e (.pures rfl) ?_
    simp -implicitDefEqProofs only [hx, go_sem]
    try simp

theorem c88 (q : Int) (ws S : List (List UInt8)) (c : UInt8) (hS : S.length ≤ 400000) (hw : ws.length ≤ 400000) :
    PFn Tryz.prog 88 [.sl (S.map .str), codeV q ws, .int .u8 c.toNat] [.sl ((canL (rdS ws S c)).map .str)] := by
  have e151 := cs151 S [] (by omega)
  refine PFn.of_body hΓ Tryz.func88 (by kernel_rfl) rfl (AWp.seq (AWp.of_awpD [] hΓ hmix (by kernel_rfl) ?_))
  simp -implicitDefEqProofs only [Tryz.ntmps88, Tryz.results88, Nat.reduceAdd, Nat.reduceSub, codeV, go_sem]
  refine AWp.seq (AWp.of_awpD [] hΓ hmix (by kernel_rfl) ?_)
  simp -implicitDefEqProofs only [go_sem]
  refine AWp.adoptBox (l := []) 2 9 1 rfl (by simp) ?_
  simp -implicitDefEqProofs only [List.set_cons_zero, List.set_cons_succ, go_sem]
  refine AWp.seq (AWp.of_awpD [] hΓ hmix (by kernel_rfl) ?_)
  simp -implicitDefEqProofs only [go_sem]
  refine AWp.seq (AWp.of_awpD [] hΓ hmix (by kernel_rfl) ?_)
  simp -implicitDefEqProofs only [go_sem]
  refine callK_ac (h := rdH q ws c []) (c150 q ws c [] S (by simp) (by omega)) (by simp) ?_
  rintro v h' rfl
  rw [List.nil_append]
  have ht1 := tails_len c S
  have ht2 := tails_len c ws
  simp -implicitDefEqProofs only [killAll, List.foldl, go_sem]
  refine AWp.seqT ⟨mkF 21 [(7, .ptr 2 0)], rdH q ws c (rdS ws S c)⟩ ?_ fun rest => ?_
  rotate_left
  · unfold rdH
    refine AWp.of_awpD [] hΓ hmix (by kernel_rfl) ?_
    simp -implicitDefEqProofs only [go_sem]
    refine callK_fn e151 (.pures rfl) ?_
    by_cases hm : [] ∈ S
    · have hr : rdS ws S c = tails c S ++ tails c ws := by unfold rdS; rw [if_pos hm]
      simp -implicitDefEqProofs only [hm, decide_true, go_sem]
      refine callK_ac (h := rdH q ws c (tails c S)) (c150 q ws c (tails c S) ws (by omega) (by omega)) (by simp) ?_
      rintro v h' rfl
      simp -implicitDefEqProofs only [killAll, List.foldl, go_sem]
      rw [← hr]
      exact AWp.weak (by simp [go_sem, weakH_self]) rest
    · have hr : rdS ws S c = tails c S := by unfold rdS; rw [if_neg hm, List.append_nil]
      simp -implicitDefEqProofs only [hm, decide_false, go_sem]
      rw [← hr]
      exact AWp.weak (by simp [go_sem, weakH_self, rdH]) rest
  have hrl : (rdS ws S c).length ≤ 1000000 := by
    unfold rdS
    rw [List.length_append]
    split
    · omega
    · simp; omega
  generalize rdS ws S c = u at *
  unfold rdH
  refine AWp.of_awpD [] hΓ hmix (by kernel_rfl) ?_
  simp -implicitDefEqProofs only [go_sem]
  by_cases hu : u = []
  · subst hu
    refine callK_ac (c149n (b := 3)) (by simp) ?_
    rintro v h' ⟨rfl, rfl⟩
    simp -implicitDefEqProofs only [killAll, List.foldl, go_sem]
    have h := compact_le (sortL [])
    rw [sortL_length] at h
    have e : canL [] = [] := List.length_eq_zero_iff.1 (Nat.le_zero.1 h)
    rw [e]; rfl
  · have hrk : rkOf u = .own := by unfold rkOf; rw [if_neg hu]
    rw [hrk]
    refine callK_ac (c149 u rfl (by omega)) (by simp) ?_
    rintro v h' ⟨rfl, rfl⟩
    simp -implicitDefEqProofs only [killAll, List.foldl, List.set_cons_zero, List.set_cons_succ, go_sem]
end Go.Proofs.YtpljmccnfmkmfaaGreat
end

section
namespace Go.Proofs.YtpljmccnfmkmfaaGreat
open Go Go.AM
set_option maxRecDepth 100000
set_option linter.unusedSimpArgs false

theorem blt_iff : ∀ {a b : List UInt8}, bLt a b = true ↔ a < b
  | a, [] => by
    refine ⟨fun h => ?_, fun h => absurd h (List.not_lt_nil a)⟩
    cases a <;> cases h
  | [], y :: b => ⟨fun _ => List.nil_lt_cons y b, fun _ => rfl⟩
  | x :: a, y :: b => by
    rw [bLt_cons, List.cons_lt_cons_iff, blt_iff (a := a) (b := b), UInt8.toNat_inj, UInt8.lt_iff_toNat_lt]
theorem compL_strict {d : List (List UInt8)} (hs : d.Pairwise fun a b => a ≤ b) : ∀ m, m ≤ d.length →
    (Lib.compactUpTo d.toArray m).Pairwise (fun a b => a < b) ∧ (∀ x, x ∈ Lib.compactUpTo d.toArray m ↔ x ∈ d.take m)
  | 0, _ => by simp [Lib.compactUpTo]
  | m + 1, hm => by
    obtain ⟨h1, h2⟩ := compL_strict hs m (by omega)
    have hml : m < d.length := hm
    have get : ∀ j (h : j < d.length), d.toArray[j]! = d[j] := fun j h => by rw [getElem!_pos d.toArray j (by simpa using h)]; simp
    have hle : ∀ i j (hi : i < d.length) (hj : j < d.length), i ≤ j → d[i] ≤ d[j] := fun i j hi hj hij => by
      by_cases e : i = j
      · subst e; exact List.le_refl _
      · exact List.pairwise_iff_getElem.1 hs i j hi hj (by omega)
    rw [Lib.compactUpTo_succ, List.take_succ_eq_append_getElem hml, get m hml]
    by_cases hk : Lib.keeps d.toArray m = true
    · rw [if_pos hk]
      refine ⟨List.pairwise_append.2 ⟨h1, by simp, fun x hx y hy => ?_⟩, fun x => ?_⟩
      · rw [List.mem_singleton] at hy; subst hy
        obtain ⟨j, hj, rfl⟩ := List.mem_take_iff_getElem.1 ((h2 x).1 hx)
        have hjm : j < m := by omega
        apply Classical.byContradiction
        intro hno
        have e : d[j] = d[m] := List.le_antisymm (hle j m (by omega) hml (by omega)) (List.not_lt.1 hno)
        have e2 : d[m - 1] = d[m] := List.le_antisymm (hle (m - 1) m (by omega) hml (by omega)) (by rw [← e]; exact hle j (m - 1) (by omega) (by omega) (by omega))
        have := Lib.keeps_neg (d := d.toArray) (m := m) (by omega) (by rw [get m hml, get (m - 1) (by omega), e2])
        rw [this] at hk; cases hk
      · simp only [List.mem_append, h2 x]
    · rw [if_neg hk, List.append_nil]
      refine ⟨h1, fun x => ?_⟩
      simp only [List.mem_append, h2 x, List.mem_singleton]
      refine ⟨.inl, fun h => h.elim id fun e => ?_⟩
      subst e
      have hm0 : 0 < m := by
        rcases Nat.eq_zero_or_pos m with h | h
        · subst h; exact absurd (Lib.keeps_lt_one _ 0 (by omega)) hk
        · exact h
      have e : d[m] = d[m - 1] := by
        apply Classical.byContradiction
        intro hne
        exact hk (Lib.keeps_pos (by rw [get m hml, get (m - 1) (by omega)]; exact hne))
      rw [e]
      exact List.mem_take_iff_getElem.2 ⟨m - 1, by omega, rfl⟩
theorem sortL_sorted (l : List (List UInt8)) : (sortL l).Pairwise fun a b => a ≤ b := by
  refine List.Pairwise.imp (fun {a b} h => of_decide_eq_true h) (List.pairwise_mergeSort ?_ ?_ l)
  · intro a b c h1 h2
    exact decide_eq_true (List.le_trans (of_decide_eq_true h1) (of_decide_eq_true h2))
  · intro a b
    rcases List.le_total a b with h | h
    · rw [decide_eq_true h]; rfl
    · rw [decide_eq_true h, Bool.or_true]
theorem canL_strict (l : List (List UInt8)) : (canL l).Pairwise fun a b => a < b :=
  (compL_strict (sortL_sorted l) (sortL l).length (Nat.le_refl _)).1
theorem mem_canL {l : List (List UInt8)} {x : List UInt8} : x ∈ canL l ↔ x ∈ l := by
  have := (compL_strict (sortL_sorted l) (sortL l).length (Nat.le_refl _)).2 x
  rw [List.take_length, mem_sortL] at this
  exact this
theorem strictL_unique : ∀ {l m : List (List UInt8)}, (l.Pairwise fun a b => a < b) → (m.Pairwise fun a b => a < b) → (∀ x, x ∈ l ↔ x ∈ m) → l = m
  | [], [], _, _, _ => rfl
  | [], b :: m, _, _, h => absurd ((h b).2 (by simp)) (by simp)
  | a :: l, [], _, _, h => absurd ((h a).1 (by simp)) (by simp)
  | a :: l, b :: m, hl, hm, h => by
    obtain ⟨ha, hl2⟩ := List.pairwise_cons.1 hl
    obtain ⟨hb, hm2⟩ := List.pairwise_cons.1 hm
    have e : a = b := by
      rcases List.mem_cons.1 ((h a).1 (by simp)) with e | e
      · exact e
      · rcases List.mem_cons.1 ((h b).2 (by simp)) with e2 | e2
        · exact e2.symm
        · exact absurd (List.lt_trans (ha b e2) (hb a e)) (List.lt_irrefl a)
    subst e
    refine congrArg (List.cons a) (strictL_unique hl2 hm2 (fun x => ⟨fun hx => ?_, fun hx => ?_⟩))
    · rcases List.mem_cons.1 ((h x).1 (by simp [hx])) with e | e
      · subst e; exact absurd (ha x hx) (List.lt_irrefl x)
      · exact e
    · rcases List.mem_cons.1 ((h x).2 (by simp [hx])) with e | e
      · subst e; exact absurd (hb x hx) (List.lt_irrefl x)
      · exact e
def insE (x : List UInt8) : List (List UInt8) → List (List UInt8)
  | [] => [x]
  | y :: r => match bLt x y with
    | true => x :: y :: r
    | false => match bLt y x with
      | true => y :: insE x r
      | false => y :: r
def canE : List (List UInt8) → List (List UInt8)
  | [] => []
  | x :: r => insE x (canE r)
theorem insE_mem (x : List UInt8) : ∀ (l : List (List UInt8)) (z : List UInt8), z ∈ insE x l ↔ z = x ∨ z ∈ l
  | [], z => by simp [insE]
  | y :: r, z => by
    unfold insE
    split
    · simp
    · rename_i h1
      split
      · rw [List.mem_cons, insE_mem x r z, List.mem_cons]
        exact ⟨fun h => h.elim (fun h => .inr (.inl h)) fun h => h.elim .inl fun h => .inr (.inr h), fun h => h.elim (fun h => .inr (.inl h)) fun h => h.elim .inl fun h => .inr (.inr h)⟩
      · rename_i h2
        have a1 : ¬ x < y := fun h => by rw [blt_iff.2 h] at h1; cases h1
        have a2 : ¬ y < x := fun h => by rw [blt_iff.2 h] at h2; cases h2
        have e : x = y := List.le_antisymm (List.not_lt.1 a2) (List.not_lt.1 a1)
        subst e
        simp
theorem insE_strict (x : List UInt8) : ∀ (l : List (List UInt8)), (l.Pairwise fun a b => a < b) → (insE x l).Pairwise fun a b => a < b
  | [], _ => by simp [insE]
  | y :: r, h => by
    obtain ⟨h1, h2⟩ := List.pairwise_cons.1 h
    unfold insE
    split
    · rename_i e
      refine List.pairwise_cons.2 ⟨fun z hz => ?_, h⟩
      rcases List.mem_cons.1 hz with rfl | hz
      · exact blt_iff.1 e
      · exact List.lt_trans (blt_iff.1 e) (h1 z hz)
    · split
      · rename_i e
        refine List.pairwise_cons.2 ⟨fun z hz => ?_, insE_strict x r h2⟩
        rcases (insE_mem x r z).1 hz with rfl | hz
        · exact blt_iff.1 e
        · exact h1 z hz
      · exact h
theorem canE_mem : ∀ (l : List (List UInt8)) (z : List UInt8), z ∈ canE l ↔ z ∈ l
  | [], _ => Iff.rfl
  | x :: r, z => by rw [show canE (x :: r) = insE x (canE r) from rfl, insE_mem, canE_mem r z, List.mem_cons]
theorem canE_strict : ∀ (l : List (List UInt8)), (canE l).Pairwise fun a b => a < b
  | [] => List.Pairwise.nil
  | x :: r => insE_strict x _ (canE_strict r)
theorem canE_eq (l : List (List UInt8)) : canE l = canL l :=
  strictL_unique (canE_strict l) (canL_strict l) fun x => (canE_mem l x).trans mem_canL.symm
end Go.Proofs.YtpljmccnfmkmfaaGreat
end

section
namespace Go.Proofs.YtpljmccnfmkmfaaGreat
open Go Go.AM
set_option maxRecDepth 1000000
set_option linter.unusedSimpArgs false

def strsOf : List PV → Option (List (List UInt8))
  | [] => some []
  | .str s :: l => (match strsOf l with
    | some r => some (s :: r)
    | none => none)
  | _ :: _ => none
theorem strsOf_some : ∀ {l : List PV} {r : List (List UInt8)}, strsOf l = some r → l = r.map .str
  | [], r, h => by injection h with h; subst h; rfl
  | .str s :: l, r, h => by
    have e : strsOf (.str s :: l) = (match strsOf l with | some r => some (s :: r) | none => none) := rfl
    rw [e] at h
    cases h2 : strsOf l with
    | none => rw [h2] at h; cases h
    | some r2 =>
      rw [h2] at h
      injection h with h
      subst h
      rw [strsOf_some h2]; rfl
  | .bool _ :: _, _, h => by cases h
  | .int _ _ :: _, _, h => by cases h
  | .sl _ :: _, _, h => by cases h
  | .agg _ :: _, _, h => by cases h
def joinE (l : List (List UInt8)) (s : List UInt8) : List UInt8 := match l with
  | [] => []
  | [x] => x
  | x :: y :: r => x ++ (s ++ joinE (y :: r) s)
theorem joinE_eq : ∀ (l : List (List UInt8)) (s : List UInt8), joinE l s = Lib.join l s
  | [], s => rfl
  | [x], s => (Lib.join_one x s).symm
  | x :: y :: r, s => by
    have ih := joinE_eq (y :: r) s
    have e : joinE (x :: y :: r) s = x ++ (s ++ joinE (y :: r) s) := rfl
    rw [e, ih, Lib.join_cons, Lib.join_cons]
    simp [Lib.joinTail]
def kn : FuncId → List PV → Option AV := fun f args => match f, args with
  | 195, [.sl l, .str s] => (match strsOf l with
    | some xs => if Nat.ble xs.length 1000 && Nat.ble (joinE xs s).length 100000 then some (.p (.str (joinE xs s))) else none
    | none => none)
  | 44, [.agg [.int .i64 2, .sl [.str [48], .str [48, 49], .str [49, 49]]]] => some (.tup [.p (.agg [.bool false, .str [1], .bool false, .str [1]]), .p (.int .i64 0)])
  | 91, [] => some (.p (.agg [.bool false, .str [1], .bool false, .str [1]]))
  | 224, [.int .i64 1] => some (.p (.str [1]))
  | 224, [.int .i64 2] => some (.p (.str [2]))
  | 87, [.agg [.int .i64 q, .sl l]] => (match strsOf l with
    | some ws => (match codeCheck q ws with
      | 0 => some (.p (.sl ((canE (Mc.begL ws)).map .str)))
      | _ => none)
    | none => none)
  | 88, [.sl s, .agg [.int .i64 _, .sl l], .int .u8 (.ofNat c)] => (match strsOf s, strsOf l with
    | some S, some ws => if Nat.ble S.length 1000 && (Nat.ble ws.length 1000 && Nat.blt c 256) then some (.p (.sl ((canE (Mc.rdS ws S (UInt8.ofNat c))).map .str))) else none
    | _, _ => none)
  | _, _ => none
def axA : FuncId → List AV → Option AV := fun f args => match f with
  | 195 => (AV.purL [] args).bind (kn 195)
  | 44 => (AV.purL [] args).bind (kn 44)
  | 91 => (AV.purL [] args).bind (kn 91)
  | 224 => (AV.purL [] args).bind (kn 224)
  | 87 => (AV.purL [] args).bind (kn 87)
  | 88 => (AV.purL [] args).bind (kn 88)
  | f => axT f args
def ptA : Plans := fun id n => match id, n with
  | 6, 18 => some (.q 0 (.q 1 (.q 2 (.q 3 (.q 4 (.q 5 (.q 6 (.q 7 (.q 8 (.q 9 (.q 10 (.q 11 (.q 12 (.q 13 (.q 14 (.e 15 (.s 2 (.s 3 (.s 4 (.q 16 (.e 17 .fin .nil))))) .nil))))))))))))))))
  | 7, 5 => some (.q 0 (.e 1 (.s 0 (.q 2 (.q 3 (.q 4 .fin)))) .nil))
  | 11, 16 => some (.q 0 (.q 1 (.q 2 (.q 3 (.q 4 (.q 6 (.q 7 (.q 8 (.q 9 (.q 10 (.q 11 (.q 12 (.e 5 (.s 6 (.s 7 (.s 8 (.s 9 (.s 10 (.s 11 (.s 12 (.q 13 (.e 14 (.s 0 (.s 1 (.s 2 (.s 3 (.s 4 (.s 6 (.s 7 (.s 8 (.s 9 (.s 10 (.s 11 (.s 12 (.s 13 (.e 15 .fin .nil)))))))))))))) .nil))))))))) (.e 14 (.s 0 (.s 1 (.s 2 (.s 3 (.s 4 (.s 6 (.s 7 (.s 8 (.s 9 (.s 10 (.s 11 (.s 12 (.e 5 (.s 6 (.s 7 (.s 8 (.s 9 (.s 10 (.s 11 (.s 12 (.q 13 (.e 15 .fin .nil))))))))) .nil))))))))))))) .nil))))))))))))))
  | 17, 5 => some (.q 0 (.q 1 (.e 2 (.s 1 (.e 3 (.q 4 .fin) .nil)) .nil)))
  | _, _ => none

theorem magB1 : magB 1 = [1] := by decide +kernel
theorem magB2 : magB 2 = [2] := by decide +kernel
theorem ratV_one : Kn.ratV 1 1 = .agg [.bool false, .str [1], .bool false, .str [1]] := by
  unfold Kn.ratV; rw [show Nat.gcd 1 1 = 1 by decide, Nat.div_one, magB1]
theorem ratV_half : Kn.ratV 1 2 = .agg [.bool false, .str [1], .bool false, .str [2]] := by
  unfold Kn.ratV; rw [show Nat.gcd 1 2 = 1 by decide, Nat.div_one, Nat.div_one, magB1, magB2]
theorem of_c : PFn Tryz.prog 44 [.agg [.int .i64 2, .sl [.str [48], .str [48, 49], .str [49, 49]]]] [.agg [.bool false, .str [1], .bool false, .str [1]], .int .i64 0] := by
  have e := cm28 2 [[48], [48, 49], [49, 49]] (by decide)
  have h : Kn.ratV (Kn.krS 2 [1, 2, 2]) (2 ^ 32) = .agg [.bool false, .str [1], .bool false, .str [1]] := by
    rw [← ratV_one]
    exact (Kn.low_eq (by decide) (by decide)).2 (by decide)
  rw [show ((2 : Int).toNat) = 2 from rfl, show ([[48], [48, 49], [49, 49]] : List (List UInt8)).map List.length = [1, 2, 2] from rfl, h] at e
  exact e
theorem of_d : PFn Tryz.prog 44 [.agg [.int .i64 2, .sl [.str [48, 48], .str [49, 49]]]] [.agg [.bool false, .str [1], .bool false, .str [2]], .int .i64 0] := by
  have e := cm28 2 [[48, 48], [49, 49]] (by decide)
  have h : Kn.ratV (Kn.krS 2 [2, 2]) (2 ^ 32) = .agg [.bool false, .str [1], .bool false, .str [2]] := by
    rw [← ratV_half]
    exact (Kn.low_eq (by decide) (by decide)).2 (by decide)
  rw [show ((2 : Int).toNat) = 2 from rfl, show ([[48, 48], [49, 49]] : List (List UInt8)).map List.length = [2, 2] from rfl, h] at e
  exact e
theorem one91 : PFn Tryz.prog 91 [] [.agg [.bool false, .str [1], .bool false, .str [1]]] := by
  have e := Kn.v58
  rw [ratV_one] at e
  exact e
theorem u224 (n : Nat) (hn : n < 9223372036854775808) : PFn Tryz.prog 224 [.int .i64 n] [.str (magB n)] := by
  refine ⟨entersF_of Tryz.func224 (by kernel_rfl) rfl, fun I w cargs himm hlen hargs => ?_⟩
  obtain ⟨a, rfl⟩ : ∃ a, cargs = [a] := by
    match cargs, hlen with
    | [a], _ => exact ⟨a, rfl⟩
  have h0 := hargs 0 (by simp)
  simp only [List.getD_cons_zero] at h0
  rw [(VR.p (n := 0) (μ := fun _ => undef) _ _ h0).int_inv]
  refine Calls.mono (P := Tryz.prog) (m108 n hn w) ?_
  rintro e w' ⟨rfl, hB⟩
  exact ⟨_, I, rfl, grown_of_below hB, fun _ h => h, fun g h => .inl h, .p _ _ (.str ⟨(magB n).toArray⟩)⟩
theorem kn_ok : ∀ f p v, kn f p = some v → ∃ vs, PFn Tryz.prog f p vs ∧ v = packAV (vs.map .p) := by
  intro f p v h
  unfold kn at h
  split at h
  · rename_i l s
    split at h
    · rename_i xs hx
      split at h
      · rename_i hb
        injection h with h
        simp only [Bool.and_eq_true] at hb
        have h1 := Nat.le_of_ble_eq_true hb.1
        have h2 := Nat.le_of_ble_eq_true hb.2
        have e := join_fn xs s (by omega) (by rw [← joinE_eq]; omega)
        rw [← joinE_eq, ← strsOf_some hx] at e
        exact ⟨_, e, h.symm⟩
      · cases h
    · cases h
  · injection h with h; exact ⟨_, of_c, h.symm⟩
  · injection h with h; exact ⟨_, one91, h.symm⟩
  · injection h with h
    have e := u224 1 (by omega)
    rw [magB1] at e
    exact ⟨_, e, h.symm⟩
  · injection h with h
    have e := u224 2 (by omega)
    rw [magB2] at e
    exact ⟨_, e, h.symm⟩
  · rename_i q l
    split at h
    · rename_i ws hx
      split at h
      · rename_i hc
        injection h with h
        have e := c87 q ws (valid_of hc)
        rw [← canE_eq] at e
        rw [strsOf_some hx]
        exact ⟨_, e, h.symm⟩
      · cases h
    · cases h
  · rename_i s q l c
    split at h
    · rename_i S ws hS hx
      split at h
      · rename_i hb
        injection h with h
        simp only [Bool.and_eq_true] at hb
        have h1 := Nat.le_of_ble_eq_true hb.1
        have h2 := Nat.le_of_ble_eq_true hb.2.1
        have h3 : c < 256 := Nat.le_of_ble_eq_true hb.2.2
        have e := c88 q ws S (UInt8.ofNat c) (by omega) (by omega)
        rw [← canE_eq, UInt8.toNat_ofNat', Nat.mod_eq_of_lt h3] at e
        rw [strsOf_some hS, strsOf_some hx]
        exact ⟨_, e, h.symm⟩
      · cases h
    · cases h
  · cases h
theorem axA_ok : ∀ f args v, axA f args = some v → AX Tryz.prog f args v ∨ ∀ h, AC Tryz.prog f args h [] (fun u h' => u = v ∧ h' = h) := by
  have go : ∀ f args v, (AV.purL [] args).bind (kn f) = some v → ∀ h, AC Tryz.prog f args h [] (fun u h' => u = v ∧ h' = h) := by
    intro f args v h
    obtain ⟨p, h1, h2⟩ := Option.bind_eq_some_iff.1 h
    obtain ⟨vs, h3, h4⟩ := kn_ok f p v h2
    subst h4
    exact fun h => AC.of_fn h3 (.inr h1)
  intro f args v h
  unfold axA at h
  split at h
  · exact .inr (go _ _ _ h)
  · exact .inr (go _ _ _ h)
  · exact .inr (go _ _ _ h)
  · exact .inr (go _ _ _ h)
  · exact .inr (go _ _ _ h)
  · exact .inr (go _ _ _ h)
  · exact .inl (axT_ok _ _ _ h)

theorem hEA : ECOK ⟨Tryz.prog, Γ, axA⟩ := ⟨hΓ, hmix, names_ok (by kernel_rfl), axA_ok⟩
end Go.Proofs.YtpljmccnfmkmfaaGreat
end

section
namespace Go.Proofs.YtpljmccnfmkmfaaGreat
open Go Go.AM
set_option maxRecDepth 1000000
set_option linter.unusedSimpArgs false

theorem comE : (runEP ⟨Tryz.prog, Γ, axA⟩ ptA 2000 32 [.p (.agg [.int .i64 2, .sl [.str [48], .str [48, 49], .str [49, 49]]])]).bind AV.pvT = some (.tup [.p (.bool true), .p (.int .i64 0)]) := by kernel_rfl
theorem com_c : PFn Tryz.prog 32 [.agg [.int .i64 2, .sl [.str [48], .str [48, 49], .str [49, 49]]]] [.bool true, .int .i64 0] := by
  obtain ⟨v, h1, h2⟩ := Option.bind_eq_some_iff.1 comE
  exact .of_acP ((runEP_ok hEA h1).monoR fun u h' ⟨e1, e2⟩ => ⟨by rw [e1]; exact h2, e2⟩)
theorem uncE : (runEP ⟨Tryz.prog, Γ, axA⟩ ptA 2000 36 [.p (.agg [.int .i64 2, .sl [.str [48, 48], .str [49, 49]]]), .p (.int .i64 5)]).bind AV.pvT = some (.tup [.p (.str [48, 49, 48]), .p (.bool true), .p (.int .i64 0)]) := by kernel_rfl
theorem unc_d : PFn Tryz.prog 36 [.agg [.int .i64 2, .sl [.str [48, 48], .str [49, 49]]], .int .i64 5] [.str [48, 49, 48], .bool true, .int .i64 0] := by
  obtain ⟨v, h1, h2⟩ := Option.bind_eq_some_iff.1 uncE
  exact .of_acP ((runEP_ok hEA h1).monoR fun u h' ⟨e1, e2⟩ => ⟨by rw [e1]; exact h2, e2⟩)
end Go.Proofs.YtpljmccnfmkmfaaGreat
end

section
namespace Go.Proofs.YtpljmccnfmkmfaaGreat
open Go Go.AM
set_option maxRecDepth 1000000
set_option linter.unusedSimpArgs false

theorem r11E : (runEP ⟨Tryz.prog, Γ, axA⟩ ptA 2000 57 [.p (.int .i64 1), .p (.int .i64 1)]).bind AV.pvT = some (.p (.agg [.bool false, .str [1], .bool false, .str [1]])) := by kernel_rfl
theorem r11 : PFn Tryz.prog 57 [.int .i64 1, .int .i64 1] [.agg [.bool false, .str [1], .bool false, .str [1]]] := by
  obtain ⟨v, h1, h2⟩ := Option.bind_eq_some_iff.1 r11E
  exact .of_acP ((runEP_ok hEA h1).monoR fun u h' ⟨e1, e2⟩ => ⟨by rw [e1]; exact h2, e2⟩)
theorem r12E : (runEP ⟨Tryz.prog, Γ, axA⟩ ptA 2000 57 [.p (.int .i64 1), .p (.int .i64 2)]).bind AV.pvT = some (.p (.agg [.bool false, .str [1], .bool false, .str [2]])) := by kernel_rfl
theorem r12 : PFn Tryz.prog 57 [.int .i64 1, .int .i64 2] [.agg [.bool false, .str [1], .bool false, .str [2]]] := by
  obtain ⟨v, h1, h2⟩ := Option.bind_eq_some_iff.1 r12E
  exact .of_acP ((runEP_ok hEA h1).monoR fun u h' ⟨e1, e2⟩ => ⟨by rw [e1]; exact h2, e2⟩)
theorem decE : (runEP ⟨Tryz.prog, Γ, axA⟩ ptA 2000 55 [.p (.agg [.int .i64 2, .sl [.str [48], .str [48, 49], .str [49, 49]]])]).bind AV.pvT = some (.tup [.p (.bool true), .p (.int .i64 0)]) := by kernel_rfl
theorem dec_c : PFn Tryz.prog 55 [.agg [.int .i64 2, .sl [.str [48], .str [48, 49], .str [49, 49]]]] [.bool true, .int .i64 0] := by
  obtain ⟨v, h1, h2⟩ := Option.bind_eq_some_iff.1 decE
  exact .of_acP ((runEP_ok hEA h1).monoR fun u h' ⟨e1, e2⟩ => ⟨by rw [e1]; exact h2, e2⟩)
theorem max_c : PFn Tryz.prog 38 [.agg [.int .i64 2, .sl [.str [48], .str [48, 49], .str [49, 49]]]] [.bool true, .int .i64 0] := by
  have e1 := dec_c
  have e2 := of_c
  have e3 := one91
  refine PFn.of_body hΓ Tryz.func38 (by kernel_rfl) rfl (AWp.of_awpD [(7, 5)] hΓ hmix (by kernel_rfl) ?_)
  simp -implicitDefEqProofs only [Tryz.ntmps38, Tryz.results38, Nat.reduceAdd, Nat.reduceSub, go_sem]
  refine callK_fn e1 (.owned rfl rfl) ?_
  simp -implicitDefEqProofs only [go_sem]
  refine callK_fn e2 (.owned rfl rfl) ?_
  simp -implicitDefEqProofs only [go_sem]
  refine callVPK_fn e3 (.still rfl) ?_
  simp -implicitDefEqProofs only [go_sem]
  refine aggR rfl rfl ?_
  simp -implicitDefEqProofs only [go_sem]
theorem awake36 : PFn Tryz.prog 31 [] [.bool true] := by
  have e1 := of_c
  have e2 := of_d
  have e3 := com_c
  have e4 := max_c
  have e5 := unc_d
  have f1 := cm14 2 [1, 2, 2] (by decide) (by decide) (by decide) (by decide)
  have f2 := cm14 2 [1, 1, 2] (by decide) (by decide) (by decide) (by decide)
  rw [decide_eq_true (show Kn.krS 2 [1, 2, 2] ≤ 2 ^ 32 by decide)] at f1
  rw [decide_eq_false (show ¬ Kn.krS 2 [1, 1, 2] ≤ 2 ^ 32 by decide)] at f2
  have g1 := r11
  have g2 := r12
  have s3 : ∀ a b c : PV, a.cells.length = 1 → b.cells.length = 1 → c.cells.length = 1 → sizeOK [a, b, c] 1 := fun a b c h1 h2 h3 => by simp [sizeOK, h1, h2, h3]
  refine PFn.of_body hΓ Tryz.func31 (by kernel_rfl) rfl (AWp.of_awpD [(10, 40)] hΓ hmix (by kernel_rfl) ?_)
  simp -implicitDefEqProofs only [Tryz.ntmps31, Tryz.results31, Nat.reduceAdd, Nat.reduceSub, go_sem]
  refine ⟨⟨s3 _ _ _ rfl rfl rfl, by decide⟩, by decide, ⟨by simp [sizeOK, PV.cells], by decide⟩, by decide, ?_⟩
  refine callK_fn e1 (.owned rfl rfl) ?_
  simp -implicitDefEqProofs only [go_sem]
  refine callK_fn e2 (.owned rfl rfl) ?_
  simp -implicitDefEqProofs only [go_sem]
  refine callK_fn e3 (.owned rfl rfl) ?_
  simp -implicitDefEqProofs only [go_sem]
  refine callK_fn e4 (.owned rfl rfl) ?_
  simp -implicitDefEqProofs only [go_sem]
  refine callK_fn e5 (.owned rfl rfl) ?_
  simp -implicitDefEqProofs only [go_sem]
  have f1 : PFn Tryz.prog 46 [.int .i64 2, .sl [.int .i64 1, .int .i64 2, .int .i64 2]] [.bool true, .int .i64 0] := f1
  have f2 : PFn Tryz.prog 46 [.int .i64 2, .sl [.int .i64 1, .int .i64 1, .int .i64 2]] [.bool false, .int .i64 0] := f2
  refine ⟨⟨s3 _ _ _ rfl rfl rfl, by decide⟩, ?_⟩
  refine callK_fn f1 (.owned rfl rfl) ?_
  simp -implicitDefEqProofs only [go_sem]
  refine ⟨⟨s3 _ _ _ rfl rfl rfl, by decide⟩, ?_⟩
  refine callK_fn f2 (.owned rfl rfl) ?_
  simp -implicitDefEqProofs only [ite_self, Int.lt_irrefl, if_false, go_sem]
  refine callVPK_fn g1 (.still rfl) ?_
  simp -implicitDefEqProofs only [go_sem]
  refine aggR rfl rfl ?_
  simp -implicitDefEqProofs only [go_sem]
  refine callVPK_fn g2 (.still rfl) ?_
  simp -implicitDefEqProofs only [go_sem]
  refine aggR rfl rfl ?_
  simp -implicitDefEqProofs only [go_sem]
end Go.Proofs.YtpljmccnfmkmfaaGreat
end

section
namespace Go.Proofs.YtpljmccnfmkmfaaGreat
open Go Go.AM
set_option maxRecDepth 100000
set_option linter.unusedSimpArgs false

theorem u52 (w x : List UInt8) : PFn Tryz.prog 187 [.str w, .str x] [.bool (x.isPrefixOf w)] := by
  refine PFn.of_body hΓ Tryz.func187 (by kernel_rfl) rfl (AWp.of_awpD [] hΓ hmix (by kernel_rfl) ?_)
  simp +contextual -implicitDefEqProofs only [Tryz.ntmps187, Tryz.results187, Nat.reduceAdd, Nat.reduceSub, go_sem]
  refine ⟨fun h => ?_, fun h => ?_⟩
  · rw [Bool.eq_iff_iff, List.isPrefixOf_iff_prefix, List.prefix_iff_eq_take, decide_eq_true_eq]; exact eq_comm
  · rw [Bool.eq_iff_iff, List.isPrefixOf_iff_prefix]
    exact ⟨fun h => by simp at h, fun h' => absurd h'.length_le (by omega)⟩
end Go.Proofs.YtpljmccnfmkmfaaGreat
end

section
namespace Go.Proofs.YtpljmccnfmkmfaaGreat
open Go Go.AM
set_option maxRecDepth 100000
set_option linter.unusedSimpArgs false

theorem u16 (q : Int) (ws : List (List UInt8)) : PFn Tryz.prog 130 [codeV q ws] [.bool (if codeCheck q ws = 0 then aloneB (fun w x => x.isPrefixOf w) ws else false), .int .i64 (if codeCheck q ws = 0 then 0 else 1)] := by
  refine PFn.of_body hΓ Tryz.func130 (by kernel_rfl) rfl (AWp.of_awpD [] hΓ hmix (by kernel_rfl) ?_)
  simp +contextual -implicitDefEqProofs only [codeV, Tryz.ntmps130, Tryz.results130, Nat.reduceAdd, Nat.reduceSub, go_sem]
  refine callK_fn (t44 q ws) (.still rfl) ?_
  by_cases h : codeCheck q ws = 0
  · have hv := valid_of h
    have hws := hv.len
    rw [h]
    simp -implicitDefEqProofs only [go_sem]
    refine AWp.loopI (fun i : Nat => ⟨mkF 39 [(1, .ptr 0 0), (2, .p (.bool false)), (3, .p (.int .i64 0)), (4, .p (.int .i64 i))], [codeB q ws]⟩)
      (fun i => i ≤ ws.length ∧ aloneN (fun w x => x.isPrefixOf w) ws i = true) (fun i => ws.length - i) 0 (by simp [go_sem, codeB]) ⟨by omega, rfl⟩ ?_
    rintro i ⟨hi, hal⟩
    refine AWp.of_awpD [] hΓ hmix (by kernel_rfl) ?_
    by_cases hlt : i < ws.length
    · simp -implicitDefEqProofs only [hlt, getD_map_lt, ↓reduceIte, codeB, go_sem]
      refine AWp.loopI (fun k : Nat => ⟨mkF 39 [(1, .ptr 0 0), (2, .p (.bool false)), (3, .p (.int .i64 0)), (4, .p (.int .i64 i)), (5, .p (.int .i64 k))], [codeB q ws]⟩)
        (fun k => k ≤ ws.length ∧ aloneTo (fun w x => x.isPrefixOf w) ws i k = true) (fun k => ws.length - k) 0 (by simp [go_sem, codeB]) ⟨by omega, rfl⟩ ?_
      rintro k ⟨hk, hal2⟩
      refine AWp.of_awpD [(9, 16)] hΓ hmix (by kernel_rfl) ?_
      have hwi : ws.getD i [] = ws[i] := by rw [List.getD_eq_getElem?_getD, List.getElem?_eq_getElem hlt, Option.getD_some]
      have hsh : ws[i].length ≤ 9223372036854775807 := by have := hv.short i hlt; rw [hwi] at this; omega
      by_cases hlt2 : k < ws.length
      · have hwk : ws.getD k [] = ws[k] := by rw [List.getD_eq_getElem?_getD, List.getElem?_eq_getElem hlt2, Option.getD_some]
        by_cases he : (i : Int) = k
        · simp -implicitDefEqProofs only [hlt2, he, getD_map_lt, ↓reduceIte, codeB, go_sem]
          refine ⟨by simp only [InR]; omega, k + 1, by omega, ⟨hlt2, ?_⟩, by omega⟩
          rw [aloneTo_succ, hal2, decide_eq_true (by omega)]; rfl
        · simp -implicitDefEqProofs only [hlt, hlt2, he, getD_map_lt, ↓reduceIte, codeB, go_sem]
          refine callVPK_fn (u52 ws[i] ws[k]) (.pures rfl) ?_
          cases hp : ws[k].isPrefixOf ws[i]
          · simp -implicitDefEqProofs only [hlt, hlt2, he, getD_map_lt, ↓reduceIte, codeB, go_sem]
            refine ⟨by simp only [InR]; omega, k + 1, by omega, ⟨hlt2, ?_⟩, by omega⟩
            rw [aloneTo_succ, hal2, hwi, hwk, hp]; simp
          · simp -implicitDefEqProofs only [hlt, hlt2, he, getD_map_lt, ↓reduceIte, codeB, go_sem]
            rw [alone_bad hlt hlt2 (by omega) (by rw [hwi, hwk]; exact hp)]
      · simp -implicitDefEqProofs only [hlt2, codeB, go_sem]
        refine ⟨by simp only [InR]; omega, i + 1, by omega, ⟨hlt, ?_⟩, by omega⟩
        rw [aloneN_succ, hal, show ws.length = k by omega, hal2]; rfl
    · simp -implicitDefEqProofs only [hlt, codeB, go_sem]
      rw [show i = ws.length by omega] at hal; exact hal.symm
  · simp -implicitDefEqProofs only [h, go_sem]

end Go.Proofs.YtpljmccnfmkmfaaGreat
end

section
namespace Go.Proofs.YtpljmccnfmkmfaaGreat
open Go Go.AM
set_option maxRecDepth 100000
set_option maxHeartbeats 4000000
set_option linter.unusedSimpArgs false

def prefB (ws : List (List UInt8)) : Bool := aloneB (fun w x => x.isPrefixOf w) ws
theorem alone_iff {pr : List UInt8 → List UInt8 → Bool} {ws : List (List UInt8)} (hd : ws.Nodup) : aloneB pr ws = true ↔ ∀ x ∈ ws, ∀ y ∈ ws, pr x y = true → x = y := by
  have get : ∀ i (h : i < ws.length), ws.getD i [] = ws[i] := fun i h => by rw [List.getD_eq_getElem?_getD, List.getElem?_eq_getElem h, Option.getD_some]
  unfold aloneB aloneN aloneTo
  simp only [List.all_eq_true, List.mem_range, Bool.or_eq_true, decide_eq_true_eq, Bool.not_eq_true']
  constructor
  · intro h x hx y hy hp
    obtain ⟨i, hi, rfl⟩ := List.getElem_of_mem hx
    obtain ⟨k, hk, rfl⟩ := List.getElem_of_mem hy
    rcases h i hi k hk with e | e
    · subst e; rfl
    · rw [get i hi, get k hk, hp] at e; cases e
  · intro h i hi k hk
    by_cases e : i = k
    · exact .inl e
    · right
      rw [get i hi, get k hk]
      cases hp : pr ws[i] ws[k] with
      | false => rfl
      | true =>
        have := h _ (List.getElem_mem hi) _ (List.getElem_mem hk) hp
        have hp := List.pairwise_iff_getElem.1 (show ws.Pairwise (· ≠ ·) from hd)
        rcases Nat.lt_trichotomy i k with hik | hik | hik
        · exact absurd this (hp i k hi hk hik)
        · exact absurd hik e
        · exact absurd this.symm (hp k i hk hi hik)
theorem strict_nodup {ws : List (List UInt8)} (h : ws.Pairwise ltW) : ws.Nodup := List.Pairwise.imp (fun {a b} (hab : ltW a b) (e : a = b) => ltW_irrefl b (by rw [e] at hab; exact hab)) h
theorem Valid.strict {q : Int} {ws : List (List UInt8)} (hv : Valid q ws) : ws.Pairwise ltW := List.pairwise_iff_getElem.2 fun i j hi hj hij => by
  have := hv.lt i j hij hj
  rwa [List.getD_eq_getElem?_getD, List.getD_eq_getElem?_getD, List.getElem?_eq_getElem hi, List.getElem?_eq_getElem hj, Option.getD_some, Option.getD_some] at this
end Go.Proofs.YtpljmccnfmkmfaaGreat
end

section
namespace Go.Proofs.YtpljmccnfmkmfaaGreat
open Go Go.AM
set_option maxRecDepth 100000
set_option maxHeartbeats 4000000
set_option linter.unusedSimpArgs false

def longW (w : List UInt8) : Bool := decide (5 < w.length) && decide (w.length ≤ 32)
def muchC (q : Int) (ws : List (List UInt8)) : Bool := decide (6 < ws.length) || (decide (3 < q) && decide (q ≤ 16))
def great36 (q : Int) (ws : List (List UInt8)) : Bool := ws.any longW || muchC q ws

theorem gr36 (q : Int) (ws : List (List UInt8)) (hl : ws.length ≤ 9223372036854775807) : PFn Tryz.prog 43 [codeV q ws] [.bool (great36 q ws)] := by
  refine PFn.of_body hΓ Tryz.func43 (by kernel_rfl) rfl (AWp.of_awpD [] hΓ hmix (by kernel_rfl) ?_)
  simp -implicitDefEqProofs only [Tryz.ntmps43, Tryz.results43, Nat.reduceAdd, Nat.reduceSub, codeV, go_sem]
  refine AWp.loopI (fun k : Nat => ⟨mkF 41 [(1, .ptr 0 0), (2, .p (.bool false)), (3, .p (.int .i64 k))], [codeB q ws]⟩)
    (fun k => k ≤ ws.length ∧ (ws.take k).any longW = false) (fun k => ws.length - k) 0 (by simp [go_sem, codeB]) (by simp) ?_
  rintro k ⟨hk, hno⟩
  refine AWp.of_awpD [] hΓ hmix (by kernel_rfl) ?_
  by_cases hlt : k < ws.length
  · by_cases h5 : (5 : Int) < ws[k].length
    · by_cases h32 : (ws[k].length : Int) ≤ 32
      · simp -implicitDefEqProofs only [hlt, h5, h32, getD_map_lt, ↓reduceIte, codeB, go_sem]
        have : ws.any longW = true := List.any_eq_true.2 ⟨_, List.getElem_mem hlt, by unfold longW; simp only [Bool.and_eq_true, decide_eq_true_eq]; omega⟩
        unfold great36
        rw [this]; rfl
      · have hno' : longW ws[k] = false := by unfold longW; simp only [Bool.and_eq_false_iff, decide_eq_false_iff_not]; omega
        simp -implicitDefEqProofs only [hlt, h5, h32, getD_map_lt, ↓reduceIte, codeB, go_sem]
        exact ⟨by simp only [InR]; omega, k + 1, by simp, ⟨hlt, by rw [List.take_succ_eq_append_getElem hlt, List.any_append, hno]; simp [hno']⟩, by omega⟩
    · have hno' : longW ws[k] = false := by unfold longW; simp only [Bool.and_eq_false_iff, decide_eq_false_iff_not]; omega
      simp -implicitDefEqProofs only [hlt, h5, getD_map_lt, ↓reduceIte, codeB, go_sem]
      exact ⟨by simp only [InR]; omega, k + 1, by simp, ⟨hlt, by rw [List.take_succ_eq_append_getElem hlt, List.any_append, hno]; simp [hno']⟩, by omega⟩
  · rw [List.take_of_length_le (by omega)] at hno
    unfold great36 muchC
    rw [hno]
    by_cases h6 : (6 : Int) < ws.length
    · simp -implicitDefEqProofs only [hlt, h6, codeB, go_sem]
      rw [decide_eq_true (by omega : 6 < ws.length)]; rfl
    · by_cases h3 : 3 < q
      · simp -implicitDefEqProofs only [hlt, h6, h3, codeB, go_sem]
        rw [decide_eq_false (by omega : ¬ 6 < ws.length)]; rfl
      · simp -implicitDefEqProofs only [hlt, h6, h3, codeB, go_sem]
        rw [decide_eq_false (by omega : ¬ 6 < ws.length)]; rfl

end Go.Proofs.YtpljmccnfmkmfaaGreat
end

section
namespace Go.Proofs.YtpljmccnfmkmfaaGreat.Kn
open Go Go.AM
set_option maxRecDepth 100000
set_option linter.unusedSimpArgs false

def ltr (a : Nat) : UInt8 := L16.getD a 0
theorem ltr_inj {a b : Nat} (ha : a < 16) (hb : b < 16) (h : ltr a = ltr b) : a = b := by
  have key : ∀ a : Fin 16, ∀ b : Fin 16, L16.getD a.val 0 = L16.getD b.val 0 → a = b := by decide
  have := key ⟨a, ha⟩ ⟨b, hb⟩ h
  exact congrArg Fin.val this
def Alph (q : Nat) (w : List UInt8) : Prop := ∀ b ∈ w, ∃ a, a < q ∧ b = ltr a

def wtN (q : Nat) (w : List UInt8) : Nat := q ^ (32 - w.length)
def taken (q : Nat) (p : List UInt8) : List (List UInt8) → Nat
  | [] => 0
  | w :: ws => (if p.isPrefixOf w then wtN q w else 0) + taken q p ws

theorem pre_iff {p w : List UInt8} : p.isPrefixOf w = true ↔ ∃ t, w = p ++ t := by
  rw [List.isPrefixOf_iff_prefix]
  exact ⟨fun ⟨t, h⟩ => ⟨t, h.symm⟩, fun ⟨t, h⟩ => ⟨t, h.symm⟩⟩
theorem pre_snoc {p w : List UInt8} {b : UInt8} (h : (p ++ [b]).isPrefixOf w = true) : p.isPrefixOf w = true := by
  obtain ⟨t, ht⟩ := pre_iff.1 h
  exact pre_iff.2 ⟨[b] ++ t, by rw [ht, List.append_assoc]⟩
theorem pre_uniq {p w : List UInt8} {b c : UInt8} (h1 : (p ++ [b]).isPrefixOf w = true) (h2 : (p ++ [c]).isPrefixOf w = true) : b = c := by
  obtain ⟨t, ht⟩ := pre_iff.1 h1
  obtain ⟨s, hs⟩ := pre_iff.1 h2
  rw [ht, List.append_assoc, List.append_assoc] at hs
  have := List.append_cancel_left hs
  simp at this
  exact this.1
theorem pre_more {p w : List UInt8} (h : p.isPrefixOf w = true) (hne : w ≠ p) : ∃ b, b ∈ w ∧ (p ++ [b]).isPrefixOf w = true := by
  obtain ⟨t, ht⟩ := pre_iff.1 h
  cases t with
  | nil => exact absurd (by simpa using ht) hne
  | cons b t => exact ⟨b, by rw [ht]; simp, pre_iff.2 ⟨t, by rw [ht]; simp⟩⟩

theorem sumN_add (F G : Nat → Nat) : ∀ n, sumN (fun j => F j + G j) n = sumN F n + sumN G n
  | 0 => rfl
  | n + 1 => by
    have ih := sumN_add F G n
    have e1 : sumN (fun j => F j + G j) (n + 1) = sumN (fun j => F j + G j) n + (F n + G n) := rfl
    have e2 : sumN F (n + 1) = sumN F n + F n := rfl
    have e3 : sumN G (n + 1) = sumN G n + G n := rfl
    omega
theorem sumN_one {F : Nat → Nat} {k c : Nat} : ∀ {n : Nat}, k < n → F k = c → (∀ j, j < n → j ≠ k → F j = 0) → sumN F n = c
  | 0, h, _, _ => by omega
  | n + 1, h, hc, h0 => by
    have e : sumN F (n + 1) = sumN F n + F n := rfl
    by_cases hk : k = n
    · subst hk
      rw [e, sumN_zero (fun j hj => h0 j (by omega) (by omega)), hc, Nat.zero_add]
    · rw [e, sumN_one (n := n) (by omega) hc (fun j hj hne => h0 j (by omega) hne), h0 n (by omega) (fun h => hk h.symm), Nat.add_zero]
theorem sumN_le {F : Nat → Nat} {B : Nat} : ∀ {n : Nat}, (∀ j, j < n → F j ≤ B) → sumN F n ≤ n * B
  | 0, _ => Nat.zero_le _
  | n + 1, h => by
    have e : sumN F (n + 1) = sumN F n + F n := rfl
    have := sumN_le (n := n) (fun j hj => h j (by omega))
    have := h n (by omega)
    rw [e, Nat.succ_mul]; omega
theorem sumN_full {F : Nat → Nat} {B : Nat} : ∀ {n : Nat}, (∀ j, j < n → F j ≤ B) → sumN F n = n * B → ∀ j, j < n → F j = B
  | 0, _, _ => fun j hj => by omega
  | n + 1, h, hs => by
    have e : sumN F (n + 1) = sumN F n + F n := rfl
    have h1 := sumN_le (n := n) (fun j hj => h j (by omega))
    have h2 := h n (by omega)
    rw [e, Nat.succ_mul] at hs
    have ih := sumN_full (n := n) (fun j hj => h j (by omega)) (by omega)
    intro j hj
    by_cases hjn : j = n
    · subst hjn; omega
    · exact ih j (by omega)
theorem taken_split {q : Nat} (hq : q ≤ 16) (p : List UInt8) : ∀ {ws : List (List UInt8)}, (∀ w ∈ ws, Alph q w) → (∀ w ∈ ws, w ≠ p) → taken q p ws = sumN (fun a => taken q (p ++ [ltr a]) ws) q
  | [], _, _ => by
    symm
    exact sumN_zero fun _ _ => rfl
  | w :: ws, hA, hne => by
    have ih := taken_split hq p (ws := ws) (fun x hx => hA x (by simp [hx])) (fun x hx => hne x (by simp [hx]))
    show (if p.isPrefixOf w then wtN q w else 0) + taken q p ws = sumN (fun a => (if (p ++ [ltr a]).isPrefixOf w then wtN q w else 0) + taken q (p ++ [ltr a]) ws) q
    rw [sumN_add, ← ih]
    congr 1
    by_cases hp : p.isPrefixOf w = true
    · obtain ⟨b, hb, hbw⟩ := pre_more hp (hne w (by simp))
      obtain ⟨a, ha, rfl⟩ := hA w (by simp) b hb
      rw [if_pos hp]
      symm
      refine sumN_one ha (by simp only [hbw, if_true]) fun j hj hja => ?_
      rw [if_neg]
      intro hjw
      exact hja (ltr_inj (by omega) (by omega) (pre_uniq hjw hbw))
    · rw [if_neg hp]
      symm
      refine sumN_zero fun j hj => ?_
      rw [if_neg]
      exact fun h => hp (pre_snoc h)

structure PCode (q : Nat) (ws : List (List UInt8)) : Prop where
  q0 : 0 < q
  q16 : q ≤ 16
  nodup : ws.Nodup
  free : ∀ x ∈ ws, ∀ y ∈ ws, y.isPrefixOf x = true → x = y
  alph : ∀ w ∈ ws, Alph q w
  short : ∀ w ∈ ws, w.length ≤ 32

theorem taken_none {q : Nat} {p : List UInt8} : ∀ {ws : List (List UInt8)}, (∀ w ∈ ws, ¬ p.isPrefixOf w = true) → taken q p ws = 0
  | [], _ => rfl
  | w :: ws, h => by
    show (if p.isPrefixOf w then wtN q w else 0) + taken q p ws = 0
    rw [if_neg (h w (by simp)), taken_none (fun x hx => h x (by simp [hx]))]
theorem taken_word {q : Nat} {p : List UInt8} : ∀ {ws : List (List UInt8)}, p ∈ ws → ws.Nodup → (∀ x ∈ ws, p.isPrefixOf x = true → x = p) → taken q p ws = wtN q p
  | w :: ws, hp, hd, hf => by
    show (if p.isPrefixOf w then wtN q w else 0) + taken q p ws = _
    have hd' := List.nodup_cons.1 hd
    by_cases hw : p.isPrefixOf w = true
    · have e := hf w (by simp) hw
      subst e
      rw [if_pos hw, taken_none (fun x hx h => ?_), Nat.add_zero]
      have := hf x (by simp [hx]) h
      subst this
      exact hd'.1 hx
    · rw [if_neg hw, Nat.zero_add]
      have hne : p ≠ w := fun e => hw (by rw [e]; exact List.isPrefixOf_iff_prefix.2 (List.prefix_refl _))
      exact taken_word (by simpa [hne] using hp) hd'.2 (fun x hx => hf x (by simp [hx]))
theorem PCode.word {q : Nat} {ws : List (List UInt8)} (h : PCode q ws) {p : List UInt8} (hp : p ∈ ws) : taken q p ws = wtN q p :=
  taken_word hp h.nodup fun x hx hpx => h.free x hx p hp hpx

theorem PCode.le {q : Nat} {ws : List (List UInt8)} (h : PCode q ws) : ∀ (d : Nat) (p : List UInt8), p.length + d = 32 → taken q p ws ≤ q ^ d
  | d, p, hl => by
    by_cases hp : p ∈ ws
    · rw [h.word hp]
      unfold wtN
      rw [show 32 - p.length = d by omega]
      exact Nat.le_refl _
    · have hne : ∀ w ∈ ws, w ≠ p := fun w hw e => hp (e ▸ hw)
      cases d with
      | zero =>
        rw [taken_none fun w hw hpw => ?_]
        · exact Nat.zero_le _
        · obtain ⟨b, _, hb⟩ := pre_more hpw (hne w hw)
          have h1 := (List.isPrefixOf_iff_prefix.1 hb).length_le
          have h2 := h.short w hw
          simp at h1
          omega
      | succ d =>
        rw [taken_split h.q16 p h.alph hne, Nat.pow_succ, Nat.mul_comm]
        exact sumN_le fun a _ => PCode.le h d (p ++ [ltr a]) (by simp; omega)

def Inner (ws : List (List UInt8)) (p : List UInt8) : Prop := ∃ w ∈ ws, p.isPrefixOf w = true ∧ p.length < w.length
theorem PCode.outer {q : Nat} {ws : List (List UInt8)} (h : PCode q ws) {p : List UInt8} (hp : Inner ws p) : p ∉ ws := fun hm => by
  obtain ⟨w, hw, hpw, hl⟩ := hp
  have := h.free w hw p hm hpw
  rw [this] at hl
  omega

theorem inner_init {ws : List (List UInt8)} {p : List UInt8} {b : UInt8} (h : Inner ws (p ++ [b])) : Inner ws p := by
  obtain ⟨w, h1, h2, h3⟩ := h
  exact ⟨w, h1, pre_snoc h2, by simp at h3; omega⟩

theorem PCode.full {q : Nat} {ws : List (List UInt8)} (h : PCode q ws) (hT : taken q [] ws = q ^ 32) : ∀ (n : Nat) (p : List UInt8), p.length = n → Inner ws p → taken q p ws = q ^ (32 - n) ∧ ∀ a, a < q → taken q (p ++ [ltr a]) ws = q ^ (32 - (n + 1))
  | n, p, hn, hi => by
    have hm := h.outer hi
    have hne : ∀ w ∈ ws, w ≠ p := fun w hw e => hm (e ▸ hw)
    have hlen : n + 1 ≤ 32 := by
      obtain ⟨w, h1, h2, h3⟩ := hi
      have := h.short w h1
      omega
    have hfull : taken q p ws = q ^ (32 - n) := by
      cases n with
      | zero =>
        have : p = [] := List.length_eq_zero_iff.1 hn
        subst this
        exact hT
      | succ n =>
        obtain ⟨x, b, rfl⟩ : ∃ x b, p = x ++ [b] := by
          have hp0 : p ≠ [] := fun e => by subst e; simp at hn
          exact ⟨p.dropLast, p.getLast hp0, (List.dropLast_concat_getLast hp0).symm⟩
        have hxl : x.length = n := by simpa using hn
        have ih := PCode.full h hT n x hxl (inner_init hi)
        obtain ⟨w, h1, h2, h3⟩ := hi
        have hbw : b ∈ w := by
          obtain ⟨t, rfl⟩ := pre_iff.1 h2
          simp
        obtain ⟨a, ha, rfl⟩ := h.alph w h1 b hbw
        exact ih.2 a ha
    refine ⟨hfull, ?_⟩
    rw [taken_split h.q16 p h.alph hne, show 32 - n = (32 - (n + 1)) + 1 by omega, Nat.pow_succ, Nat.mul_comm] at hfull
    exact sumN_full (fun a _ => h.le (32 - (n + 1)) (p ++ [ltr a]) (by simp; omega)) hfull

theorem PCode.one_le {q : Nat} {ws : List (List UInt8)} (h : PCode q ws) : taken q [] ws ≤ q ^ 32 := h.le 32 [] rfl

theorem taken_sum (q : Nat) : ∀ ws : List (List UInt8), taken q [] ws = ((ws.map List.length).map fun n => q ^ (32 - n)).sum
  | [] => rfl
  | w :: ws => by
    show (if ([] : List UInt8).isPrefixOf w then wtN q w else 0) + taken q [] ws = _
    rw [if_pos (by simp [List.isPrefixOf]), taken_sum q ws]
    simp [wtN]
end Go.Proofs.YtpljmccnfmkmfaaGreat.Kn
end

section
namespace Go.Proofs.YtpljmccnfmkmfaaGreat
open Go Go.AM
set_option maxRecDepth 100000
set_option linter.unusedSimpArgs false

theorem ixB_hit (c : UInt8) : ∀ (l : List UInt8) (n : Nat), 0 ≤ ixB c l n → ∃ k : Nat, ixB c l n = ((n + k : Nat) : Int) ∧ l.getD k 0 = c
  | [], n, h => by simp [ixB] at h
  | a :: l, n, h => by
    unfold ixB at h ⊢
    cases hb : Nat.beq a.toNat c.toNat with
    | true =>
      rw [hb] at h
      exact ⟨0, by simp, by simpa using UInt8.toNat_inj.1 (Nat.eq_of_beq_eq_true hb)⟩
    | false =>
      rw [hb] at h
      obtain ⟨k, h1, h2⟩ := ixB_hit c l (n + 1) h
      exact ⟨k + 1, by simp only [h1]; omega, by simpa using h2⟩
theorem alph_of {q : Int} {w : List UInt8} (h : wordCheck q w = 0) : Kn.Alph q.toNat w := fun b hb => by
  have hw : okW q w = true := by
    unfold wordCheck at h
    split at h
    · cases h
    · split at h
      · cases h
      · split at h
        · assumption
        · cases h
  have h1 := List.all_eq_true.1 hw b hb
  unfold okB at h1
  simp only [Bool.and_eq_true, decide_eq_true_eq] at h1
  obtain ⟨k, h3, h4⟩ := ixB_hit b L16 0 h1.1
  exact ⟨k, by omega, h4.symm⟩
theorem free_of {ws : List (List UInt8)} (hn : ws.Nodup) (hp : prefB ws = true) : ∀ x ∈ ws, ∀ y ∈ ws, y.isPrefixOf x = true → x = y := fun x hx y hy h => (alone_iff (pr := fun w x => x.isPrefixOf w) hn).1 hp x hx y hy h
theorem pcode_of {q : Int} {ws : List (List UInt8)} (hv : Valid q ws) (hp : prefB ws = true) : Kn.PCode q.toNat ws := by
  have h2 := hv.q2
  have h16 := hv.q16
  exact { q0 := by omega, q16 := by omega, nodup := strict_nodup hv.strict, free := free_of (strict_nodup hv.strict) hp, alph := fun w hw => alph_of (hv.words w hw).2.2, short := fun w hw => (hv.words w hw).2.1 }

end Go.Proofs.YtpljmccnfmkmfaaGreat
end

section
namespace Go.Proofs.YtpljmccnfmkmfaaGreat
open Go Go.AM Go.RowKit
set_option maxRecDepth 100000
set_option maxHeartbeats 4000000
set_option linter.unusedSimpArgs false

theorem rat_eq {q a b : Nat} (hq : q ≠ 0) : Kn.ratV a (q ^ 32) = Kn.ratV b (q ^ 32) ↔ a = b := by
  have h := Kn.low_eq (n := a) (d := q ^ 32) (m := b) (e := q ^ 32) (Nat.pos_iff_ne_zero.1 (Nat.pow_pos (Nat.pos_of_ne_zero hq))) (Nat.pos_iff_ne_zero.1 (Nat.pow_pos (Nat.pos_of_ne_zero hq)))
  rw [h]
  exact ⟨fun e => Nat.eq_of_mul_eq_mul_right (Nat.pow_pos (Nat.pos_of_ne_zero hq)) e, fun e => by rw [e]⟩
theorem made_permA {l : List (List UInt8)} (h : l.Nodup) : (made l).Perm l := by
  have e : made l = sortW l := strict_unique (made_strict l) (sortW_strict h) fun x => by
    rw [mem_made]
    exact (List.mergeSort_perm l _).mem_iff.symm
  rw [e]
  exact List.mergeSort_perm l _
theorem krS_permA {q : Nat} {a b : List Nat} (h : a.Perm b) : Kn.krS q a = Kn.krS q b := by
  unfold Kn.krS
  exact (h.map _).sum_nat
theorem aggN55 {A B C D : List UInt8} {x y : AV} {K : AV → Prop} (hx : x.pure = some (.agg [.bool false, .str A, .bool false, .str B])) (hy : y.pure = some (.agg [.bool false, .str C, .bool false, .str D]))
    (hK : K (.p (.bool (!(decide (A = C) && decide (B = D)))))) : aggK Γ .neq 55 x y K := by
  have he : ∃ te fs, Γ 55 = some te ∧ te.td = .struct fs ∧ te.eqs = true ∧ eqAgg Γ fs [.bool false, .str A, .bool false, .str B] [.bool false, .str C, .bool false, .str D] =
      some (((false == false) && (decide (A = C) && true)) && (((false == false) && (decide (B = D) && true)) && true)) := ⟨_, _, rfl, rfl, rfl, rfl⟩
  obtain ⟨te, fs, h1, h2, h3, h4⟩ := he
  have e : (((false == false) && (decide (A = C) && true)) && (((false == false) && (decide (B = D) && true)) && true)) = (decide (A = C) && decide (B = D)) := by simp
  rw [e] at h4
  unfold aggK
  rw [hx, hy]
  simp only [tyAt, h1, h2, h3, h4]
  exact ⟨⟨trivial, rfl, rfl⟩, hK⟩

theorem added_made {q : Int} {ws : List (List UInt8)} {w : List UInt8} (hv : Valid q ws) (qn : Nat) :
    (w ∈ ws → made (ws ++ [w]) = ws) ∧ (w ∉ ws → (made (ws ++ [w])).length = ws.length + 1 ∧ Kn.krS qn ((made (ws ++ [w])).map List.length) = Kn.krS qn (ws.map List.length) + qn ^ (32 - w.length)) := by
  have hnd : ws.Nodup := hv.strict.imp fun {a b} h e => by subst e; exact ltW_irrefl _ h
  refine ⟨fun hw => ?_, fun hw => ?_⟩
  · refine made_of hv.strict fun x => ?_
    rw [List.mem_append, List.mem_singleton]
    exact ⟨fun h => h.elim id fun e => e ▸ hw, .inl⟩
  · have hn : (ws ++ [w]).Nodup := List.nodup_append.2 ⟨hnd, by simp, fun a ha b hb e => by
      rw [List.mem_singleton.1 hb] at e; subst e; exact hw ha⟩
    have hp := made_permA hn
    refine ⟨by rw [hp.length_eq, List.length_append]; rfl, ?_⟩
    rw [krS_permA (hp.map List.length), List.map_append]
    exact Kn.krS_snoc _ _ _
theorem b7 (q : Int) (ws : List (List UInt8)) (w : List UInt8) (hws : ws.length ≤ 9223372036854775807) : PFn Tryz.prog 7 [codeV q ws, .str w] [.bool true] := by
  have e43 := gr36 q ws hws
  have e40 := t44 q ws
  unfold codeV at e43 e40
  refine PFn.of_body hΓ Tryz.func7 (by kernel_rfl) rfl (AWp.seq (AWp.of_awpD [] hΓ hmix (by kernel_rfl) ?_))
  simp -implicitDefEqProofs only [Tryz.ntmps7, Tryz.results7, Nat.reduceAdd, Nat.reduceSub, codeV, go_sem]
  cases hg : great36 q ws
  rotate_left
  · rw [hg] at e43
    refine AWp.seq ?_
    refine AWp.of_awpD [] hΓ hmix (by kernel_rfl) ?_
    simp -implicitDefEqProofs only [go_sem]
    refine callK_fn e43 (.still rfl) ?_
    simp -implicitDefEqProofs only [go_sem]
    refine callK_fn awake36 (.pures rfl) ?_
    simp -implicitDefEqProofs only [go_sem]
  rw [hg] at e43
  by_cases hc : codeCheck q ws = 0
  rotate_left
  · refine AWp.seq ?_
    refine AWp.of_awpD [] hΓ hmix (by kernel_rfl) ?_
    simp -implicitDefEqProofs only [go_sem]
    refine callK_fn e43 (.still rfl) ?_
    simp -implicitDefEqProofs only [go_sem]
    refine callK_fn e40 (.still rfl) ?_
    simp -implicitDefEqProofs only [hc, go_sem]
    refine callK_fn awake36 (.pures rfl) ?_
    simp -implicitDefEqProofs only [go_sem]
  rw [hc] at e40
  by_cases h5 : (5 : Int) < (w.length : Int)
  · refine AWp.seq ?_
    refine AWp.of_awpD [] hΓ hmix (by kernel_rfl) ?_
    simp -implicitDefEqProofs only [go_sem]
    refine callK_fn e43 (.still rfl) ?_
    simp -implicitDefEqProofs only [go_sem]
    refine callK_fn e40 (.still rfl) ?_
    simp -implicitDefEqProofs only [h5, go_sem]
    refine callK_fn awake36 (.pures rfl) ?_
    simp -implicitDefEqProofs only [go_sem]
  have hv := valid_of hc
  have h2 := hv.q2
  have h16 := hv.q16
  have hq : ((q.toNat : Nat) : Int) = q := by omega
  have hq0 : q.toNat ≠ 0 := by omega
  have hl6 : ws.length ≤ 6 := by
    unfold great36 muchC at hg
    simp only [Bool.or_eq_false_iff, decide_eq_false_iff_not] at hg
    omega
  have e44 := cm28 q ws hc
  obtain ⟨A, B, hAB⟩ : ∃ A B, Kn.ratV (Kn.krS q.toNat (ws.map List.length)) (q.toNat ^ 32) = .agg [.bool false, .str A, .bool false, .str B] := ⟨_, _, rfl⟩
  rw [hAB] at e44
  have e45 := t38 q ws
  rw [if_pos hc, if_pos hc] at e45
  have h32 : ∀ n ∈ ws.map List.length, 1 ≤ n ∧ n ≤ 32 := fun n hn => by
    obtain ⟨x, hx, rfl⟩ := List.mem_map.1 hn
    obtain ⟨i1, i2, _⟩ := hv.words x hx
    exact ⟨List.length_pos_iff.2 i1, i2⟩
  have e46 := cm14 q.toNat (ws.map List.length) (by omega) (by omega) (by rw [List.length_map]; omega) h32
  have e47 := Kn.v50 q.toNat (ws.map List.length) (by omega) (by omega) (by rw [List.length_map]; omega) h32
  rw [hAB] at e47
  rw [hq] at e46 e47
  unfold codeV at e44 e45
  refine AWp.seq ?_
  refine AWp.of_awpD [] hΓ hmix (by kernel_rfl) ?_
  simp -implicitDefEqProofs only [go_sem]
  refine callK_fn e43 (.still rfl) ?_
  simp -implicitDefEqProofs only [go_sem]
  refine callK_fn e40 (.still rfl) ?_
  simp -implicitDefEqProofs only [h5, go_sem]
  refine AWp.seq (AWp.of_awpD [] hΓ hmix (by kernel_rfl) ?_)
  simp -implicitDefEqProofs only [go_sem]
  refine callK_fn e44 (.still rfl) ?_
  simp -implicitDefEqProofs only [go_sem]
  refine AWp.seq (AWp.of_awpD [] hΓ hmix (by kernel_rfl) ?_)
  simp -implicitDefEqProofs only [go_sem]
  refine AWp.seqT ⟨mkF 135 [(1, .p (.str w)), (2, .ptr 0 0), (4, .p (.bool false)), (5, .ptr 1 0)], [.box [.p (.int .i64 q), .p (.sl (ws.map .str))], .box [.p (.bool false), .p (.str A), .p (.bool false), .p (.str B)]]⟩ ?_ fun rest => ?_
  rotate_left
  · cases hp : aloneB (fun w x => x.isPrefixOf w) ws
    · rw [hp] at e45
      refine AWp.of_awpD [] hΓ hmix (by kernel_rfl) ?_
      simp -implicitDefEqProofs only [go_sem]
      refine callK_fn e45 (.still rfl) ?_
      simp -implicitDefEqProofs only [go_sem]
      exact AWp.weak (by simp [go_sem]) rest
    have hone : Kn.krS q.toNat (ws.map List.length) ≤ q.toNat ^ 32 := by
      have h := (pcode_of hv (show prefB ws = true from hp)).one_le
      rw [Kn.taken_sum] at h
      exact h
    rw [decide_eq_true hone] at e46
    rw [hp] at e45
    refine AWp.of_awpD [] hΓ hmix (by kernel_rfl) ?_
    simp -implicitDefEqProofs only [go_sem]
    refine callK_fn e45 (.still rfl) ?_
    simp -implicitDefEqProofs only [go_sem]
    refine AWp.adopt (l := []) 9 3 1 (by rfl) (by simp) ?_
    simp -implicitDefEqProofs only [List.length_map, go_sem]
    refine AWp.loopI (fun i : Nat => ⟨mkF 135 [(1, .p (.str w)), (2, .ptr 0 0), (4, .p (.bool false)), (5, .ptr 1 0), (9, .own 2 ((ws.take i).map List.length).length), (51, .p (.sl (ws.map .str))), (52, .p (.int .i64 ws.length)), (53, .p (.int .i64 i))],
        [.box [.p (.int .i64 q), .p (.sl (ws.map .str))], .box [.p (.bool false), .p (.str A), .p (.bool false), .p (.str B)], .row 3 1 (((ws.take i).map List.length).map Kn.nV) .lax]⟩)
      (fun i => i ≤ ws.length) (fun i => ws.length - i) 0 (by simp [go_sem]) (by omega) ?_
    intro i hi
    refine AWp.of_awpD [] hΓ hmix (by kernel_rfl) ?_
    by_cases hlt : i < ws.length
    · have hgi : (ws.map PV.str).getD i default = .str ws[i] := getD_map_lt _ _ _ _ hlt
      have hil : ((ws.take i).map List.length).length = i := by rw [List.length_map, List.length_take]; omega
      have hs1 : sizeOK [PV.int .i64 (ws[i].length : Int)] 1 := by simp [sizeOK, PV.cells]
      have ho1 : oneOK [PV.int .i64 (ws[i].length : Int)] := by simp [oneOK, PV.cells, PV.isAgg]
      have hsu : (ws.take (i + 1)).map List.length = (ws.take i).map List.length ++ [ws[i].length] := by rw [List.take_succ_eq_append_getElem hlt, List.map_append]; rfl
      simp -implicitDefEqProofs only [hlt, hgi, Int.toNat_natCast, go_sem]
      have hil2 : (ws.take i).length = i := by rw [List.length_take]; omega
      refine ⟨⟨hs1, by omega⟩, ⟨hs1, ho1⟩, ⟨.inl (Nat.zero_le _), by omega, by omega⟩, by simp only [InR]; omega, i + 1, ?_, by omega, by omega⟩
      exact ⟨⟨by rw [List.length_take, List.length_take]; omega, rfl⟩, .inr (.inl (by rw [hsu, List.map_append]; rfl))⟩
    have hiL : i = ws.length := by omega
    subst hiL
    simp -implicitDefEqProofs only [Nat.lt_irrefl, Int.lt_irrefl, go_sem]
    rw [List.take_length]
    refine callK_fn e46 (.owned rfl rfl) ?_
    simp -implicitDefEqProofs only [go_sem]
    refine callK_fn e47 (.owned rfl rfl) ?_
    simp -implicitDefEqProofs only [go_sem]
    refine aggN55 rfl rfl ?_
    simp -implicitDefEqProofs only [go_sem]
    refine AWp.weak (st' := ⟨mkF 135 [(1, .p (.str w)), (2, .ptr 0 0), (4, .p (.bool false)), (5, .ptr 1 0)], [.box [.p (.int .i64 q), .p (.sl (ws.map .str))], .box [.p (.bool false), .p (.str A), .p (.bool false), .p (.str B)], .row 3 1 (List.map Kn.nV (List.map List.length ws)) .lax, .box [.p (.bool false), .p (.str A), .p (.bool false), .p (.str B)]]⟩) (by simp [go_sem]) ?_
    refine AWp.trimN 2 (by simp) (by simp [mkF, AV.blw, AV.blw.blwL]) (by simp [blwH, AObj.blw, AV.blw, AV.blw.blwL]) ?_
    exact rest
  have e48 := t71 q (ws ++ [w]) (by rw [List.length_append]; simp; omega)
  have hsz1 : sizeOK ([] : List PV) 1 := by simp [sizeOK]
  have hszW : sizeOK (ws.map PV.str) 1 := by simp [sizeOK, PV.cells]
  have honW : oneOK (ws.map PV.str) := by simp [oneOK, PV.cells, PV.isAgg]
  have hszw : sizeOK [PV.str w] 1 := by simp [sizeOK, PV.cells]
  have honw : oneOK [PV.str w] := by simp [oneOK, PV.cells, PV.isAgg]
  have hisE : (ws.map PV.str).isEmpty = false := by
    have := hv.pos
    cases ws with
    | nil => simp at this
    | cons a l => rfl
  have hz1 : ws.length * 16 ≤ 140737488355328 := by omega
  have hz2 : ws.length ≤ 9223372036854775807 := hws
  have hz3 : (ws.length + 1) * 16 ≤ 140737488355328 := by omega
  have hz4 : ws.length + 1 ≤ 9223372036854775807 := by omega
  have hz5 : 0 * 1 ≤ 16777216 := by omega
  have hz6 : 1 * 1 ≤ 16777216 := by omega
  obtain ⟨q1, l1, E1, e48, hE1⟩ : ∃ (q1 : Int) (l1 : List (List UInt8)) (E1 : Int), PFn Tryz.prog 48 [.int .i64 q, .sl ((ws ++ [w]).map .str)] [.agg [.int .i64 q1, .sl (l1.map .str)], .int .i64 E1] ∧ (E1 = 0 → q1 = q ∧ l1 = made (ws ++ [w]) ∧ codeCheck q (made (ws ++ [w])) = 0) := by
    by_cases hm : codeCheck q (made (ws ++ [w])) = 0
    · rw [if_pos hm] at e48
      exact ⟨_, _, _, e48, fun _ => ⟨rfl, rfl, hm⟩⟩
    · rw [if_neg hm] at e48
      exact ⟨_, _, _, e48, fun h => absurd h hm⟩
  refine AWp.seqM (fun o : Bool => match o with
    | true => ⟨mkF 135 [(1, .p (.str w)), (2, .ptr 0 0), (4, .p (.bool false)), (5, .ptr 1 0), (16, .ptr 2 0), (17, .p (.int .i64 E1))], [.box [.p (.int .i64 q), .p (.sl (ws.map .str))], .box [.p (.bool false), .p (.str A), .p (.bool false), .p (.str B)], .box [.p (.int .i64 q1), .p (.sl (l1.map .str))], .dead]⟩
    | false => ⟨mkF 135 [(1, .p (.str w)), (2, .ptr 0 0), (4, .p (.bool false)), (5, .ptr 1 0), (16, .ptr 3 0), (17, .p (.int .i64 E1))], [.box [.p (.int .i64 q), .p (.sl (ws.map .str))], .box [.p (.bool false), .p (.str A), .p (.bool false), .p (.str B)], .dead, .box [.p (.int .i64 q1), .p (.sl (l1.map .str))]]⟩)
    (fun _ => True) (AWp.of_awpD [(18, 1000)] hΓ hmix (by kernel_rfl) ?_) ?_
  · simp -implicitDefEqProofs only [go_sem]
    refine AWp.planL (.q 0 (.q 1 (.q 2 (.q 3 (.q 4 (.q 6 (.q 7 (.e 5 (.s 0 (.s 1 (.s 6 (.s 7 (.e 8 (.s 0 (.s 1 (.e 9 (.q 10 (.q 11 (.q 12 (.e 13 (.s 0 (.s 1 (.s 2 (.s 3 (.s 4 (.s 6 (.s 7 (.s 10 (.s 11 (.s 12 (.e 14 (.s 12 (.q 15 .fin)) .nil))))))))))) .nil)))) (.e 13 (.s 0 (.s 1 (.s 2 (.s 3 (.s 4 (.s 6 (.s 7 (.e 9 (.q 10 (.q 11 (.q 12 (.e 14 (.s 12 (.q 15 .fin)) .nil)))) .nil)))))))) .nil)))) (.e 13 (.s 0 (.s 1 (.s 2 (.s 3 (.s 4 (.s 6 (.s 7 (.e 8 (.s 0 (.s 1 (.e 9 (.q 10 (.q 11 (.q 12 (.e 14 (.s 12 (.q 15 .fin)) .nil)))) .nil))) .nil)))))))) .nil)))))) (.e 13 (.s 0 (.s 1 (.s 2 (.s 3 (.s 4 (.s 6 (.s 7 (.e 5 (.s 0 (.s 1 (.s 6 (.s 7 (.e 8 (.s 0 (.s 1 (.e 9 (.q 10 (.q 11 (.q 12 (.e 14 (.s 12 (.q 15 .fin)) .nil)))) .nil))) .nil))))) .nil)))))))) .nil))))))))) hΓ hmix (by kernel_rfl) ?_
    simp -implicitDefEqProofs only [hsz1, hszW, honW, hszw, honw, hisE, hz1, hz2, hz3, hz4, hz5, hz6, Nat.zero_le, Bool.false_eq_true, if_false, List.isEmpty_cons, true_or, not_false_iff, go_sem]
    refine ⟨⟨⟨?_, ?_⟩, ?_⟩, ?_⟩
    · refine callK_give 2 e48 rfl (by simp [AV.thaw, AV.purL, AV.pur, AV.pur1]) ?_
      simp -implicitDefEqProofs only [AObj.thaw, AV.thaw, List.map_cons, List.map_nil, List.set_cons_zero, List.set_cons_succ, hsz1, hszw, hz5, hz6, go_sem]
      exact ⟨false, by simp [go_sem], by simp [go_sem]⟩
    · refine callK_give 2 e48 rfl (by simp [AV.thaw, AV.purL, AV.pur, AV.pur1]) ?_
      simp -implicitDefEqProofs only [AObj.thaw, AV.thaw, List.map_cons, List.map_nil, List.set_cons_zero, List.set_cons_succ, hsz1, hszw, hz5, hz6, go_sem]
      exact ⟨false, by simp [go_sem], by simp [go_sem]⟩
    · refine callK_give 2 e48 rfl (by simp [AV.thaw, AV.purL, AV.pur, AV.pur1]) ?_
      simp -implicitDefEqProofs only [AObj.thaw, AV.thaw, List.map_cons, List.map_nil, List.set_cons_zero, List.set_cons_succ, hsz1, hszw, hz5, hz6, go_sem]
      exact ⟨false, by simp [go_sem], by simp [go_sem]⟩
    · refine callK_give 3 e48 rfl (by simp [AV.thaw, AV.purL, AV.pur, AV.pur1]) ?_
      simp -implicitDefEqProofs only [AObj.thaw, AV.thaw, List.map_cons, List.map_nil, List.set_cons_zero, List.set_cons_succ, hsz1, hszw, hz5, hz6, go_sem]
      exact ⟨true, by simp [go_sem], by simp [go_sem]⟩
  intro o _
  by_cases hE : E1 = 0
  rotate_left
  · cases o
    · refine AWp.of_awpD [(24, 21)] hΓ hmix (by kernel_rfl) ?_
      simp -implicitDefEqProofs only [hE, go_sem]
      refine callK_fn awake36 (.pures rfl) ?_
      simp -implicitDefEqProofs only [go_sem]
    · refine AWp.of_awpD [(24, 21)] hΓ hmix (by kernel_rfl) ?_
      simp -implicitDefEqProofs only [hE, go_sem]
      refine callK_fn awake36 (.pures rfl) ?_
      simp -implicitDefEqProofs only [go_sem]
  obtain ⟨e1, e2, hm⟩ := hE1 hE
  subst e1 e2 hE
  have hq16 : q1.toNat ≤ 16 := by omega
  obtain ⟨ad1, ad2⟩ := added_made (w := w) hv q1.toNat
  have hvm := valid_of hm
  have hml : (made (ws ++ [w])).length ≤ 64 := hvm.len
  generalize hM : made (ws ++ [w]) = M at *
  have e44m := cm28 q1 M hm
  obtain ⟨C, D, hCD⟩ : ∃ C D, Kn.ratV (Kn.krS q1.toNat (M.map List.length)) (q1.toNat ^ 32) = .agg [.bool false, .str C, .bool false, .str D] := ⟨_, _, rfl⟩
  rw [hCD] at e44m
  have k1 := Kn.krS_le hq16 (M.map List.length)
  have k2 := Kn.krS_le hq16 (ws.map List.length)
  rw [List.length_map] at k1 k2
  have k3 : M.length * 16 ^ 32 ≤ 64 * 16 ^ 32 := Nat.mul_le_mul_right _ hml
  have k4 : ws.length * 16 ^ 32 ≤ 64 * 16 ^ 32 := Nat.mul_le_mul_right _ (by omega)
  have k5 : q1.toNat ^ 32 ≤ 16 ^ 32 := Nat.pow_le_pow_left hq16 _
  have c1 := Kn.krS_cap hq16 (l := M.map List.length) (by rw [List.length_map]; omega)
  have c2 := Kn.krS_cap hq16 (l := ws.map List.length) (by rw [List.length_map]; omega)
  have c3 := Kn.q32_cap hq16
  have c0 : q1.toNat ^ 32 ≠ 0 := Nat.pos_iff_ne_zero.1 (Nat.pow_pos (Nat.pos_of_ne_zero hq0))
  have c4 : Kn.krS q1.toNat (M.map List.length) * q1.toNat ^ 32 < capN :=
    Nat.lt_of_le_of_lt (Nat.mul_le_mul (Nat.le_trans k1 k3) k5) (cap_of (n := 64 * 16 ^ 32 * 16 ^ 32) (k := 40) (by decide) (by decide))
  have c5 : Kn.krS q1.toNat (ws.map List.length) * q1.toNat ^ 32 < capN :=
    Nat.lt_of_le_of_lt (Nat.mul_le_mul (Nat.le_trans k2 k4) k5) (cap_of (n := 64 * 16 ^ 32 * 16 ^ 32) (k := 40) (by decide) (by decide))
  have e51 := Kn.v51 (Kn.krS q1.toNat (M.map List.length)) (q1.toNat ^ 32) (Kn.krS q1.toNat (ws.map List.length)) (q1.toNat ^ 32) c1 c3 c2 c3 c0 c0 c4 c5
  rw [hAB, hCD] at e51
  unfold codeV at e44m
  have fin : (0 : Int) ≤ cmpN (Kn.krS q1.toNat (M.map List.length) * q1.toNat ^ 32) (Kn.krS q1.toNat (ws.map List.length) * q1.toNat ^ 32) ∧ decide ((M.length : Int) = ws.length) = (decide (A = C) && decide (B = D)) := by
    by_cases hw : w ∈ ws
    · have e := ad1 hw
      subst e
      rw [hAB] at hCD
      injection hCD with hCD
      simp only [List.cons.injEq, PV.str.injEq, true_and, and_true] at hCD
      obtain ⟨r1, r2⟩ := hCD
      subst r1 r2
      rw [cmpN_eq]
      simp
    · obtain ⟨a1, a2⟩ := ad2 hw
      have hp : 0 < q1.toNat ^ (32 - w.length) := Nat.pow_pos (Nat.pos_of_ne_zero hq0)
      refine ⟨?_, ?_⟩
      · rw [cmpN_gt (Nat.mul_lt_mul_of_pos_right (by omega) (Nat.pos_of_ne_zero c0))]; omega
      · rw [decide_eq_false (by omega)]
        symm
        rw [Bool.and_eq_false_iff, decide_eq_false_iff_not, decide_eq_false_iff_not]
        apply Classical.byContradiction
        intro h
        rw [not_or, Classical.not_not, Classical.not_not] at h
        obtain ⟨r1, r2⟩ := h
        subst r1 r2
        have := (rat_eq hq0).1 (hAB.trans hCD.symm)
        omega
  obtain ⟨fin1, fin2⟩ := fin
  have fin2 : (decide (M.length = ws.length) == (decide (A = C) && decide (B = D))) = true := by
    rw [← fin2, beq_iff_eq]
    exact decide_eq_decide.2 (by omega)
  cases o
  · refine AWp.of_awpD [(24, 21)] hΓ hmix (by kernel_rfl) ?_
    simp -implicitDefEqProofs only [go_sem]
    refine callK_fn e44m (.owned rfl rfl) ?_
    simp -implicitDefEqProofs only [go_sem]
    refine callVPK_fn e51 (.still rfl) ?_
    simp -implicitDefEqProofs only [fin1, go_sem]
    refine aggR rfl rfl ?_
    simp -implicitDefEqProofs only [fin2, go_sem]
    refine callVPK_fn awake36 (.still rfl) ?_
    simp -implicitDefEqProofs only [go_sem]
  · refine AWp.of_awpD [(24, 21)] hΓ hmix (by kernel_rfl) ?_
    simp -implicitDefEqProofs only [go_sem]
    refine callK_fn e44m (.owned rfl rfl) ?_
    simp -implicitDefEqProofs only [go_sem]
    refine callVPK_fn e51 (.still rfl) ?_
    simp -implicitDefEqProofs only [fin1, go_sem]
    refine aggR rfl rfl ?_
    simp -implicitDefEqProofs only [fin2, go_sem]
    refine callVPK_fn awake36 (.still rfl) ?_
    simp -implicitDefEqProofs only [go_sem]
end Go.Proofs.YtpljmccnfmkmfaaGreat
end

