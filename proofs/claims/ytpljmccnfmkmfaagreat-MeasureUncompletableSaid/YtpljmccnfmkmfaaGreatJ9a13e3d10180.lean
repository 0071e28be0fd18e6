/-
  slices.Sort on an owned row of words, as a contract with the heap.
  Sets of rests: sorted, each once.
  The set at the beginning (measure.begin).
  The set behind a letter (measure.set.read): its closure.
  The set behind a letter (measure.set.read).
  Sorted sets of rests: plain facts, and a form that the kernel can run.
  What the reckoner knows at chapter 36: sums, strings.Join.
  The key of a set (f145): its words, joined. One-to-one on sets that hold something.
  Kraft's sum of a prefix code, plain: at most 1, and 1 exactly if nothing is missing.
  A search in breadth, plain. Words are numbered shortest first: the word u with the letter b behind it has the number u * q + b + 1.
  All words over an alphabet, numbered shortest first: plain.
  Codes without beginnings of others, plain.
  Words over an alphabet, and prefix codes as lists: plain.
  The map of the search: one entry for each set of the queue; plain.
  measure.Factor (f34): whether a word is a part of a message.
  The search of measure: what it holds. Plain.
  The reference's sets (grooveref36): has, same, start, read.
  The reference's Many (grooveref36): whether a code has more than 300 states.
  HasSuffix, Suffix.
  Prefix and Suffix of the reference, Suffix, Longest, Same, Make of the reference.
  The sizes of chapter 36 (Great); prefix codes of these sizes.
  The reference's read and Many (grooveref36), walked; great.
-/
import Derived.Shelf.Slices.In.SortNone
import Derived.Test.YtpljmccnfmkmfaaGreatJ16d257d60e06
import Derived.Test.YtpljmccnfmkmfaaGreatJ6e75561e6ca1
import Derived.Test.YtpljmccnfmkmfaaGreatJ3bf02559cfdf
import Derived.Test.YtpljmccnfmkmfaaGreatJd81475c3444b
import Derived.Test.YtpljmccnfmkmfaaGreatJde6548575735
import Derived.Test.YtpljmccnfmkmfaaGreatJ4fb671369e34
import Derived.Test.YtpljmccnfmkmfaaGreatJ0ceff7c7b780
import Derived.Test.YtpljmccnfmkmfaaGreatJ79a4babdd0a8
import Derived.Test.YtpljmccnfmkmfaaGreatJ26b67e97f059

section
namespace Go.Proofs.YtpljmccnfmkmfaaGreat
open Go Go.AM Go.RowKit Go.Shelf
set_option maxRecDepth 100000
set_option linter.unusedSimpArgs false

def sortL (l : List (List UInt8)) : List (List UInt8) := l.mergeSort fun x y => decide (x ≤ y)
theorem sortL_length (l : List (List UInt8)) : (sortL l).length = l.length := by unfold sortL; simp
theorem mem_sortL {l : List (List UInt8)} {x : List UInt8} : x ∈ sortL l ↔ x ∈ l := (List.mergeSort_perm l _).mem_iff
theorem sorts197 (d : List (List UInt8)) (blk off cap : Nat) (w : World) (hH : Sort.Holds encW w blk off d.toArray) (hb : blk < w.heap.size) (hd : d.length < 4611686018427387904) :
    Calls Tryz.prog 197 #[.slice (some ⟨blk, off, none⟩) d.length cap] w fun e w' => e = .returned (.tuple #[]) ∧ ∃ n os, w' = sortWorld encW w blk off n (sortL d).toArray os :=
  Any.slices_Sort_string (ρ := Tryz.sortO_ren) Tryz.sortO blk off cap d w hH hb hd

theorem c197 {h : List AObj} {b : Nat} (l : List (List UInt8)) (hb : h[b]? = some (.row 9 1 (l.map .str) .own)) (hsz : l.length ≤ 1000000) :
    AC Tryz.prog 197 [.own b l.length] h [] (fun v h' => v = .tup [] ∧ h' = h.set b (.row 9 1 ((sortL l).map .str) .own)) := by
  refine ⟨entersF_of Tryz.func197 (by kernel_rfl) rfl, fun X I μ ob w cargs R hlen hargs _ => ?_⟩
  obtain ⟨a0, rfl⟩ : ∃ a, cargs = [a] := by
    match cargs, hlen with
    | [a], _ => exact ⟨a, rfl⟩
  have g0 := hargs 0 (by simp)
  simp only [List.getD_cons_zero] at g0
  obtain ⟨a, c, rfl, hbn, hbm⟩ := g0.own_inv
  obtain ⟨hall, hrow⟩ := R.objs _ _ hb
  rcases hrow with ⟨g, hg, off, cap, cur, fr, vs, e1, e2, e3, e4, e5, e6, e7, e8, e9, e10⟩ | ⟨hk, _⟩
  rotate_left
  · cases hk
  rw [hbm] at e1
  simp only [List.length_map] at e1 e5 e7 e8 e9 e10
  injection e1 with e1a _ e1c
  subst e1a e1c
  have hfr := e3 rfl
  subst hfr
  have hgl := (R.own b g hg).2.2
  have cell : ∀ j (hj : j < l.length), cur[off + j]? = some (encW l[j]) := fun j hj => by
    have h1 := e10 j (by omega)
    rw [flats_str, getD_map_lt _ _ _ _ hj] at h1
    have h2 := encW_of h1
    have h3 : cur.toList[off + j]? = some (vs.getD j undef) := by
      have : vs[j]? = some (vs.getD j undef) := by rw [List.getD_eq_getElem?_getD, List.getElem?_eq_getElem (by omega)]; rfl
      rw [← e8, List.getElem?_take_of_lt (by omega), List.getElem?_drop] at this
      exact this.trans (by rw [e8])
    rw [Array.getElem?_toList, h2] at h3
    exact h3
  have hH : Sort.Holds encW w g off l.toArray := fun j hj => by
    have hj' : j < l.length := by simpa using hj
    refine ⟨?_, ?_⟩
    · unfold World.cell?
      simp only [e2]
      rw [cell j hj', getElem!_pos l.toArray j hj]
      simp
    · unfold World.frozen?
      simp only [e2]
      simp
  have hc := sorts197 l g off c w hH hgl (by omega)
  refine Calls.mono (P := Tryz.prog) hc ?_
  rintro e w' ⟨rfl, n, os, rfl⟩
  have hsl : (sortL l).toArray.size = l.length := by simp [sortL_length]
  -- the world that is left
  have hnew : (sortWorld encW w g off n (sortL l).toArray os).heap[g]? = some (.cells (Sort.putCells encW off (sortL l).toArray cur) 9 (0, 0)) := by
    unfold sortWorld
    rw [Sort.heap_grow_old _ _ (by simp [Sort.ahead]; exact hgl)]
    show (w.heap.modify g _)[g]? = _
    rw [Array.getElem?_modify, if_pos rfl, e2]; rfl
  have hold : ∀ k, k < w.heap.size → k ≠ g → (sortWorld encW w g off n (sortL l).toArray os).heap[k]? = w.heap[k]? := fun k hk hne => by
    unfold sortWorld
    rw [Sort.heap_grow_old _ _ (by simp [Sort.ahead]; exact hk)]
    show (w.heap.modify g _)[k]? = _
    rw [Array.getElem?_modify, if_neg (fun e => hne e.symm)]
  have hgrow : w.grownBy (sortWorld encW w g off n (sortL l).toArray os) (some g) := ⟨rfl, rfl, rfl, by simp [sortWorld, Sort.ahead], fun k hk hk2 => hold k hk (fun e => hk2 (by rw [e]))⟩
  have hput : ∀ j, j < l.length → (Sort.putCells encW off (sortL l).toArray cur)[off + j]? = some (encW ((sortL l).getD j [])) := fun j hj => by
    unfold Sort.putCells
    rw [Array.getElem?_mapIdx, cell j hj]
    simp only [Option.map_some]
    rw [if_pos ⟨Nat.le_add_right _ _, by rw [hsl]; omega⟩, Nat.add_sub_cancel_left, getElem!_pos (sortL l).toArray j (by rw [hsl]; exact hj), List.getD_eq_getElem?_getD, List.getElem?_eq_getElem (by rw [sortL_length]; exact hj)]
    simp
  have hps : (Sort.putCells encW off (sortL l).toArray cur).size = cur.size := by unfold Sort.putCells; rw [Array.size_mapIdx]
  have hpl : (((Sort.putCells encW off (sortL l).toArray cur).toList.drop off).take l.length).length = l.length := by
    have h1 : (Sort.putCells encW off (sortL l).toArray cur).toList.length = cur.size := by simpa using hps
    rw [List.length_take, List.length_drop, h1]; omega
  have R2 := R.write (b0 := b) (g0 := g) (o := .row 9 1 ((sortL l).map .str) .own) hbn hg hgrow ⟨fun x hx => by
      obtain ⟨u, _, rfl⟩ := List.mem_map.1 hx; rfl, .inl ⟨g, hg, off, c, Sort.putCells encW off (sortL l).toArray cur, (0, 0), ((Sort.putCells encW off (sortL l).toArray cur).toList.drop off).take l.length, by rw [hbm, List.length_map, sortL_length], hnew, fun _ => rfl, by simp,
        by rw [List.length_map, sortL_length]; exact e5, e6, by rw [hps]; exact e7, by rw [List.length_map, sortL_length, Nat.mul_one], by
          rw [List.length_map, sortL_length, hpl, Nat.mul_one], fun j hj => ?_⟩⟩
  · exact ⟨_, .tup [], _, I, μ, ob, rfl, R2, .tup [] [] rfl (by simp), fun _ h => h, fun _ _ _ => rfl, by simp, fun g hg => .inl hg, fun b g hb => .inl ⟨b, hb⟩, fun k hk hno => hold k hk (fun e => hno b (by rw [e]; exact hg)), rfl, rfl⟩
  · rw [List.length_map, sortL_length, Nat.mul_one] at hj
    rw [flats_str, getD_map_lt _ _ _ _ (by rw [sortL_length]; exact hj)]
    have : (((Sort.putCells encW off (sortL l).toArray cur).toList.drop off).take l.length).getD j undef = encW ((sortL l).getD j []) := by
      rw [List.getD_eq_getElem?_getD, List.getElem?_take_of_lt hj, List.getElem?_drop, Array.getElem?_toList, hput j hj]; rfl
    rw [this, List.getD_eq_getElem?_getD, List.getElem?_eq_getElem (by rw [sortL_length]; exact hj)]
    exact pr_encW _

theorem c197n {h : List AObj} {b : Nat} : AC Tryz.prog 197 [.own b 0] h [] (fun v h' => v = .tup [] ∧ h' = h) := by
  refine ⟨entersF_of Tryz.func197 (by kernel_rfl) rfl, fun X I μ ob w cargs R hlen hargs _ => ?_⟩
  obtain ⟨a0, rfl⟩ : ∃ a, cargs = [a] := by
    match cargs, hlen with
    | [a], _ => exact ⟨a, rfl⟩
  have g0 := hargs 0 (by simp)
  simp only [List.getD_cons_zero] at g0
  obtain ⟨a, c, rfl, hbn, hbm⟩ := g0.own_inv
  have hc : Calls Tryz.prog 197 #[.slice a 0 c] w fun e w' => e = .returned (.tuple #[]) ∧ w' = w := Any.slices_Sort_string_none (ρ := Tryz.sortO_ren) Tryz.sortO a c w
  refine Calls.mono (P := Tryz.prog) hc ?_
  rintro e w' ⟨rfl, rfl⟩
  exact ⟨_, .tup [], _, I, μ, ob, rfl, R, .tup [] [] rfl (by simp), fun _ h => h, fun _ _ _ => rfl, Nat.le_refl _, fun g hg => .inl hg, fun b g hb => .inl ⟨b, hb⟩, fun k hk hno => rfl, rfl, rfl⟩
end Go.Proofs.YtpljmccnfmkmfaaGreat
end

section
namespace Go.Proofs.YtpljmccnfmkmfaaGreat
open Go Go.AM Go.RowKit
set_option maxRecDepth 100000
set_option linter.unusedSimpArgs false

def canL (l : List (List UInt8)) : List (List UInt8) := Lib.compact (sortL l)
theorem c149 {h : List AObj} {b : Nat} (l : List (List UInt8)) (hb : h[b]? = some (.row 9 1 (l.map .str) .own)) (hsz : l.length ≤ 1000000) :
    AC Tryz.prog 149 [.own b l.length] h [b] (fun v h' => v = .own b (canL l).length ∧ h' = (h.map (AObj.kill b)).set b (.row 9 1 ((canL l).map .str) .own)) := by
  have hbl : b < h.length := (List.getElem?_eq_some_iff.1 hb).1
  refine AC.of_bodyE hΓ Tryz.func149 (by kernel_rfl) rfl (AWp.mono (Q := fun e st => AM.Ends e ∧ st.tmps.getD 2 .junk = .own b (canL l).length ∧ st.h = (h.map (AObj.kill b)).set b (.row 9 1 ((canL l).map .str) .own)) ?_ ?_)
  rotate_left
  · rintro e ⟨tm, h'⟩ ⟨he, h1, h2⟩
    simp only at h1 h2
    subst h2
    refine ⟨he, _, Less.refl _, ?_⟩
    unfold DoneE
    simp +contextual -implicitDefEqProofs only [Tryz.results149, h1, go_sem]
    exact ⟨_, by simp, .inl rfl, List.take_length⟩
  refine AWp.of_awpD [] hΓ hmix (by kernel_rfl) ?_
  simp -implicitDefEqProofs only [Tryz.ntmps149, Nat.reduceAdd, Nat.reduceSub, go_sem]
  refine callK_ac (c197 l hb hsz) (by simp) ?_
  rintro v h' ⟨rfl, rfl⟩
  simp -implicitDefEqProofs only [killAll, List.foldl, go_sem]
  have e := c107 (h := h.set b (.row 9 1 ((sortL l).map .str) .own)) (b := b) (sortL l) (by rw [List.getElem?_set_self hbl]) (by rw [sortL_length]; exact hsz)
  rw [sortL_length] at e
  refine callK_ac e (by simp) ?_
  rintro v h' ⟨rfl, rfl⟩
  simp -implicitDefEqProofs only [killAll, List.foldl, go_sem]
  refine ⟨rfl, ?_⟩
  rw [List.map_set, List.set_set]; rfl
theorem c149n {h : List AObj} {b : Nat} : AC Tryz.prog 149 [.own b 0] h [] (fun v h' => v = .own b 0 ∧ h' = h) := by
  refine AC.of_bodyE hΓ Tryz.func149 (by kernel_rfl) rfl (AWp.mono (Q := fun e st => AM.Ends e ∧ st.tmps.getD 2 .junk = .own b 0 ∧ st.h = h) ?_ ?_)
  rotate_left
  · rintro e ⟨tm, h'⟩ ⟨he, h1, h2⟩
    simp only at h1 h2
    subst h2
    refine ⟨he, _, Less.refl _, ?_⟩
    unfold DoneE
    simp +contextual -implicitDefEqProofs only [Tryz.results149, h1, go_sem]
    exact ⟨_, by simp, .inl rfl, List.take_length⟩
  refine AWp.of_awpD [] hΓ hmix (by kernel_rfl) ?_
  simp -implicitDefEqProofs only [Tryz.ntmps149, Nat.reduceAdd, Nat.reduceSub, go_sem]
  refine callK_ac c197n (by simp) ?_
  rintro v h' ⟨rfl, rfl⟩
  simp -implicitDefEqProofs only [killAll, List.foldl, go_sem]
  refine callK_ac c107n (by simp) ?_
  rintro v h' ⟨rfl, rfl⟩
  simp -implicitDefEqProofs only [killAll, List.foldl, go_sem]
end Go.Proofs.YtpljmccnfmkmfaaGreat
end

section
namespace Go.Proofs.YtpljmccnfmkmfaaGreat
open Go Go.AM Go.Mc
set_option maxRecDepth 100000
set_option maxHeartbeats 4000000
set_option linter.unusedSimpArgs false

def begT (ws : List (List UInt8)) (i : Nat) : List (List UInt8) := (ws.take i).flatMap ends
theorem begT_succ {ws : List (List UInt8)} {i : Nat} (hi : i < ws.length) : begT ws (i + 1) = begT ws i ++ ends ws[i] := by
  unfold begT; rw [List.take_succ_eq_append_getElem hi, List.flatMap_append]; simp
theorem begT_len {ws : List (List UInt8)} (hw : ∀ x ∈ ws, x.length ≤ 32) : ∀ i, i ≤ ws.length → (begT ws i).length ≤ 33 * i
  | 0, _ => by simp [begT]
  | i + 1, hi => by
    have h1 := begT_len hw i (by omega)
    have h2 := hw ws[i] (List.getElem_mem (by omega))
    rw [begT_succ (by omega), List.length_append, ends_len]; omega
theorem rk_begT {ws : List (List UInt8)} {i : Nat} (hi : i < ws.length) : rkOf (begT ws (i + 1)) = .own := by
  unfold rkOf
  rw [if_neg]
  intro e
  have := congrArg List.length e
  rw [begT_succ hi, List.length_append, ends_len] at this
  simp at this
theorem c87 (q : Int) (ws : List (List UInt8)) (hv : Valid q ws) : PFn Tryz.prog 87 [codeV q ws] [.sl ((canL (begL ws)).map .str)] := by
  have hlen := hv.len
  have hw32 : ∀ x ∈ ws, x.length ≤ 32 := fun x hx => (hv.words x hx).2.1
  refine PFn.of_body hΓ Tryz.func87 (by kernel_rfl) rfl (AWp.seq (AWp.of_awpD [] hΓ hmix (by kernel_rfl) ?_))
  simp -implicitDefEqProofs only [Tryz.ntmps87, Tryz.results87, Nat.reduceAdd, Nat.reduceSub, codeV, go_sem]
  refine AWp.seq (AWp.of_awpD [] hΓ hmix (by kernel_rfl) ?_)
  simp -implicitDefEqProofs only [go_sem]
  refine AWp.adopt (l := []) 3 9 1 (by rfl) (by simp) ?_
  simp -implicitDefEqProofs only [go_sem]
  refine AWp.seq (AWp.of_awpD [] hΓ hmix (by kernel_rfl) ?_)
  simp -implicitDefEqProofs only [List.length_map, go_sem]
  refine AWp.loopJ (fun i : Nat => ⟨mkF 20 [(1, .ptr 0 0), (3, .own 1 (begT ws i).length), (7, .p (.sl (ws.map .str))), (8, .p (.int .i64 ws.length)), (9, .p (.int .i64 i))], [.box [.p (.int .i64 q), .p (.sl (ws.map .str))], .row 9 1 ((begT ws i).map .str) (rkOf (begT ws i))]⟩)
    (fun i => i ≤ ws.length) (fun i => ws.length - i) 0 (fun x => by simp [BelowAll, mkF, AV.blw, AV.blw.blwL, blwH, AObj.blw]) (by simp [go_sem, begT, rkOf]) (by omega) ?_
  intro i hi
  refine AWp.of_awpD [] hΓ hmix (by kernel_rfl) ?_
  by_cases hlt : i < ws.length
  · have hg : (ws.map PV.str).getD i default = .str ws[i] := getD_map_lt _ _ _ _ hlt
    have hb := begT_len hw32 i (by omega)
    have hsu := begT_succ hlt
    have hx := hw32 ws[i] (List.getElem_mem hlt)
    simp -implicitDefEqProofs only [hlt, hg, Int.toNat_natCast, go_sem]
    refine callK_ac (c148 _) (by simp) ?_
    rintro v h' ⟨rfl, rfl⟩
    simp -implicitDefEqProofs only [killAll, List.foldl, go_sem]
    refine callK_ac (c147 q ws (begT ws i) ws[i] (by omega) (by omega)) (by simp) ?_
    rintro v h' ⟨rfl, rfl⟩
    simp -implicitDefEqProofs only [killAll, List.foldl, go_sem]
    exact ⟨by simp only [InR]; omega, i + 1, ⟨⟨by rw [hsu], by simp⟩, .inl ⟨by rw [hsu], rk_begT hlt⟩⟩, by omega, by omega⟩
  have hiw : i = ws.length := by omega
  subst hiw
  simp -implicitDefEqProofs only [Nat.lt_irrefl, Int.lt_irrefl, go_sem]
  have hpos := hv.pos
  have hrk : rkOf (begT ws ws.length) = .own := by
    obtain ⟨m, hm⟩ : ∃ m, ws.length = m + 1 := ⟨ws.length - 1, by omega⟩
    rw [hm]; exact rk_begT (by omega)
  have hb := begT_len hw32 ws.length (Nat.le_refl _)
  rw [hrk]
  refine AWp.of_awpD [] hΓ hmix (by kernel_rfl) ?_
  simp -implicitDefEqProofs only [go_sem]
  refine callK_ac (c149 (begT ws ws.length) rfl (by omega)) (by simp) ?_
  rintro v h' ⟨rfl, rfl⟩
  have ht : begT ws ws.length = begL ws := by unfold begT begL; rw [List.take_length]
  simp -implicitDefEqProofs only [killAll, List.foldl, List.set_cons_zero, List.set_cons_succ, ht, go_sem]
end Go.Proofs.YtpljmccnfmkmfaaGreat
end

section
namespace Go.Proofs.YtpljmccnfmkmfaaGreat
open Go Go.AM Go.Mc
set_option maxRecDepth 100000
set_option maxHeartbeats 4000000
set_option linter.unusedSimpArgs false

def rdH (q : Int) (ws : List (List UInt8)) (c : UInt8) (out : List (List UInt8)) : List AObj :=
  [.box [.p (.int .i64 q), .p (.sl (ws.map .str))], .box [.p (.int .u8 c.toNat)], .box [.own 3 out.length], .row 9 1 (out.map .str) (rkOf out)]
theorem tails_succ {c : UInt8} {W : List (List UInt8)} {i : Nat} (hi : i < W.length) : tails c (W.take (i + 1)) = tails c (W.take i) ++ tl1 c W[i] := by
  unfold tails; rw [List.take_succ_eq_append_getElem hi, List.flatMap_append]; simp
theorem tails_len (c : UInt8) : ∀ W : List (List UInt8), (tails c W).length ≤ W.length
  | [] => Nat.le_refl _
  | x :: W => by
    have ih := tails_len c W
    have e : tails c (x :: W) = tl1 c x ++ tails c W := rfl
    rw [e, List.length_append, List.length_cons]
    have : (tl1 c x).length ≤ 1 := by
      cases x with
      | nil => exact Nat.zero_le _
      | cons d y => rw [tl1_cons]; split <;> simp
    omega
theorem c150 (q : Int) (ws : List (List UInt8)) (c : UInt8) (out W : List (List UInt8)) (ho : out.length ≤ 1000000) (hW : W.length ≤ 1000000) :
    AC Tryz.prog 150 [.p (.sl (W.map .str)), .ptr 1 0, .ptr 2 0] (rdH q ws c out) [3] (fun _ h' => h' = rdH q ws c (out ++ tails c W)) := by
  refine AC.of_bodyE hΓ Tryz.func150 (by kernel_rfl) rfl (AWp.mono (Q := fun e st => AM.Ends e ∧ st.h = rdH q ws c (out ++ tails c W)) ?_ ?_)
  rotate_left
  · rintro e ⟨tm, h'⟩ ⟨he, h2⟩
    simp only at h2
    subst h2
    refine ⟨he, _, Less.refl _, ?_⟩
    unfold DoneE
    simp +contextual -implicitDefEqProofs only [Tryz.results150, go_sem]
    exact ⟨4, by simp [rdH], .inl rfl, rfl⟩
  refine AWp.of_awpD [] hΓ hmix (by kernel_rfl) ?_
  simp -implicitDefEqProofs only [Tryz.ntmps150, Nat.reduceAdd, Nat.reduceSub, List.length_map, go_sem]
  refine AWp.loopI (fun i : Nat => ⟨mkF 26 [(1, .ptr 1 0), (2, .ptr 2 0), (6, .p (.sl (W.map .str))), (7, .p (.int .i64 W.length)), (8, .p (.int .i64 i))], rdH q ws c (out ++ tails c (W.take i))⟩)
    (fun i => i ≤ W.length) (fun i => W.length - i) 0 (by simp [go_sem, weakH_self, tails, rdH]) (by omega) ?_
  intro i hi
  have hul : (tails c (W.take i)).length ≤ i := by have := tails_len c (W.take i); rw [List.length_take] at this; omega
  generalize hu : out ++ tails c (W.take i) = u at *
  have hulen : u.length ≤ 2000000 := by rw [← hu, List.length_append]; omega
  unfold rdH
  refine AWp.of_awpD [(3, 8), (4, 1000)] hΓ hmix (by kernel_rfl) ?_
  by_cases hlt : i < W.length
  · have hg : (W.map PV.str).getD i default = .str W[i] := getD_map_lt _ _ _ _ hlt
    have hsu := tails_succ (c := c) hlt
    by_cases hx0 : W[i] = []
    · rw [hx0] at hg hsu
      have hn : tails c (W.take (i + 1)) = tails c (W.take i) := by rw [hsu]; exact List.append_nil _
      simp -implicitDefEqProofs only [hlt, hg, Int.toNat_natCast, go_sem]
      refine ⟨by simp only [InR]; omega, i + 1, ⟨by simp, ?_⟩, by omega, by omega⟩
      rw [hn, hu]
      simp [rdH, weakH_self]
    obtain ⟨d, y, hx⟩ := List.exists_cons_of_ne_nil hx0
    rw [hx] at hg hsu
    rw [tl1_cons] at hsu
    have hg0 : (d :: y).getD (Int.toNat 0) 0 = d := rfl
    have hp : 0 < (((y.length + 1 : Nat)) : Int) := by omega
    by_cases hd : d = c
    · subst hd
      rw [if_pos rfl] at hsu
      simp -implicitDefEqProofs only [hlt, hg, Int.toNat_natCast, List.length_cons, hg0, hp, go_sem]
      refine AWp.planL (.q 0 (.q 1 (.q 2 (.q 3 (.e 4 (.e 5 .fin .nil) .nil))))) hΓ hmix (by kernel_rfl) ?_
      simp -implicitDefEqProofs only [List.length_cons, hp, go_sem]
      have hd1 : List.drop (Int.toNat 1) (d :: y) = y := rfl
      rw [hd1]
      have hs1 : sizeOK [PV.str y] 1 := by simp [sizeOK, PV.cells]
      have ho1 : oneOK [PV.str y] := by simp [oneOK, PV.cells, PV.isAgg]
      refine ⟨⟨by omega, by omega⟩, ⟨hs1, by omega⟩, ⟨hs1, ho1⟩, ⟨by unfold rkOf; split <;> simp, .inr (by simp), by omega, by omega⟩, by simp only [InR]; omega, i + 1, ⟨by simp, ?_⟩, by omega, by omega⟩
      rw [hsu, ← List.append_assoc, hu]
      rw [rkOf_snoc]
      simp
    · rw [if_neg hd, List.append_nil] at hsu
      have hdc : ¬ d.toNat = c.toNat := fun e => hd (UInt8.toNat_inj.1 e)
      simp -implicitDefEqProofs only [hlt, hg, Int.toNat_natCast, List.length_cons, hg0, hp, hdc, go_sem]
      refine ⟨by simp only [InR]; omega, i + 1, ⟨by simp, ?_⟩, by omega, by omega⟩
      rw [hsu, hu]
      simp [rdH, weakH_self]
  have hiw : i = W.length := by omega
  subst hiw
  simp -implicitDefEqProofs only [Nat.lt_irrefl, Int.lt_irrefl, go_sem]
  rw [← hu, List.take_length]
  exact ⟨rfl, rfl, rfl⟩
end Go.Proofs.YtpljmccnfmkmfaaGreat
end

section
namespace Go.Proofs.YtpljmccnfmkmfaaGreat
open Go Go.AM Go.Mc
set_option maxRecDepth 100000
set_option maxHeartbeats 4000000
set_option linter.unusedSimpArgs false

theorem AWp.seqT {E : Env} {r : Option Nat} {Q : Exit → St → Prop} {st : St} {x y : Code} (fr : St) (h2 : AWp E r y Q fr)
    (h1 : AWp E r y Q fr → AWp E r x (thenQ (fun st => AWp E r y Q st) Q) st) : AWp E r (.seq x y) Q st := AWp.seq (h1 h2)
theorem cs198 (a : List (List UInt8)) (x : List UInt8) (hl : a.length ≤ 9223372036854775807) : PFn Tryz.prog 198 [.sl (a.map .str), .str x] [.int .i64 (if x ∈ a then (a.idxOf x : Int) else -1)] := by
  refine PFn.of_body hΓ Tryz.func198 (by kernel_rfl) rfl (AWp.of_awpD [] hΓ hmix (by kernel_rfl) ?_)
  simp -implicitDefEqProofs only [Tryz.ntmps198, Tryz.results198, Nat.reduceAdd, Nat.reduceSub, go_sem]
  refine AWp.loopI (fun k : Nat => ⟨mkF 19 [(0, .p (.sl (a.map .str))), (1, .p (.str x)), (4, .p (.int .i64 0)), (7, .p (.int .i64 a.length)), (8, .p (.int .i64 k))], []⟩)
    (fun k => k ≤ a.length ∧ x ∉ a.take k) (fun k => a.length - k) 0 (by simp [go_sem, weakH_self]) (by simp) ?_
  rintro k ⟨hk, h0⟩
  refine AWp.of_awpD [] hΓ hmix (by kernel_rfl) ?_
  by_cases hlt : k < a.length
  · have hlt' : (k : Int) < (a.length : Int) := by omega
    have hg : (a.map PV.str).getD k default = .str a[k] := getD_map_lt _ _ _ _ hlt
    have htk : a.take (k + 1) = a.take k ++ [a[k]] := by rw [List.take_succ_eq_append_getElem hlt]
    by_cases he : x = a[k]
    · simp -implicitDefEqProofs only [hlt', hg, Int.toNat_natCast, he, List.length_map, go_sem]
      have hx : x ∈ a := he ▸ List.getElem_mem hlt
      have hi : a.idxOf x = k := by
        conv => lhs; rw [← List.take_append_drop k a, List.idxOf_append, if_neg h0]
        rw [List.drop_eq_getElem_cons hlt, he, List.idxOf_cons_self, List.length_take]
        omega
      rw [← he, if_pos hx, hi]
    · simp -implicitDefEqProofs only [hlt', hg, Int.toNat_natCast, he, List.length_map, go_sem]
      have h2 : x ∉ a.take (k + 1) := by
        rw [htk]; simp only [List.mem_append, List.mem_singleton]
        exact fun h => h.elim h0 he
      exact ⟨by simp only [InR]; omega, k + 1, by simp, ⟨hlt, h2⟩, by omega⟩
  · have hlt' : ¬ (k : Int) < (a.length : Int) := by omega
    rw [List.take_of_length_le (by omega)] at h0
    rw [if_neg h0]
    simp -implicitDefEqProofs only [hlt', go_sem]
theorem cs151 (a : List (List UInt8)) (x : List UInt8) (hl : a.length ≤ 9223372036854775807) : PFn Tryz.prog 151 [.sl (a.map .str), .str x] [.bool (decide (x ∈ a))] := by
  have e := cs198 a x hl
  by_cases hx : x ∈ a
  · rw [if_pos hx] at e
    refine PFn.of_body hΓ Tryz.func151 (by kernel_rfl) rfl (AWp.of_awpD [] hΓ hmix (by kernel_rfl) ?_)
    simp -implicitDefEqProofs only [Tryz.ntmps151, Tryz.results151, Nat.reduceAdd, Nat.reduceSub, go_sem]
    refine callK_fn e (.pures rfl) ?_
    simp -implicitDefEqProofs only [hx, go_sem]
    try simp
  · rw [if_neg hx] at e
    refine PFn.of_body hΓ Tryz.func151 (by kernel_rfl) rfl (AWp.of_awpD [] hΓ hmix (by kernel_rfl) ?_)
    simp -implicitDefEqProofs only [Tryz.ntmps151, Tryz.results151, Nat.reduceAdd, Nat.reduceSub, go_sem]
    refine callK_fn e (.pures rfl) ?_
    simp -implicitDefEqProofs only [hx, go_sem]
    try simp

theorem c88 (q : Int) (ws S : List (List UInt8)) (c : UInt8) (hS : S.length ≤ 400000) (hw : ws.length ≤ 400000) :
    PFn Tryz.prog 88 [.sl (S.map .str), codeV q ws, .int .u8 c.toNat] [.sl ((canL (rdS ws S c)).map .str)] := by
  have e151 := cs151 S [] (by omega)
  refine PFn.of_body hΓ Tryz.func88 (by kernel_rfl) rfl (AWp.seq (AWp.of_awpD [] hΓ hmix (by kernel_rfl) ?_))
  simp -implicitDefEqProofs only [Tryz.ntmps88, Tryz.results88, Nat.reduceAdd, Nat.reduceSub, codeV, go_sem]
  refine AWp.seq (AWp.of_awpD [] hΓ hmix (by kernel_rfl) ?_)
  simp -implicitDefEqProofs only [go_sem]
  refine AWp.adoptBox (l := []) 2 9 1 rfl (by simp) ?_
  simp -implicitDefEqProofs only [List.set_cons_zero, List.set_cons_succ, go_sem]
  refine AWp.seq (AWp.of_awpD [] hΓ hmix (by kernel_rfl) ?_)
  simp -implicitDefEqProofs only [go_sem]
  refine AWp.seq (AWp.of_awpD [] hΓ hmix (by kernel_rfl) ?_)
  simp -implicitDefEqProofs only [go_sem]
  refine callK_ac (h := rdH q ws c []) (c150 q ws c [] S (by simp) (by omega)) (by simp) ?_
  rintro v h' rfl
  rw [List.nil_append]
  have ht1 := tails_len c S
  have ht2 := tails_len c ws
  simp -implicitDefEqProofs only [killAll, List.foldl, go_sem]
  refine AWp.seqT ⟨mkF 21 [(7, .ptr 2 0)], rdH q ws c (rdS ws S c)⟩ ?_ fun rest => ?_
  rotate_left
  · unfold rdH
    refine AWp.of_awpD [] hΓ hmix (by kernel_rfl) ?_
    simp -implicitDefEqProofs only [go_sem]
    refine callK_fn e151 (.pures rfl) ?_
    by_cases hm : [] ∈ S
    · have hr : rdS ws S c = tails c S ++ tails c ws := by unfold rdS; rw [if_pos hm]
      simp -implicitDefEqProofs only [hm, decide_true, go_sem]
      refine callK_ac (h := rdH q ws c (tails c S)) (c150 q ws c (tails c S) ws (by omega) (by omega)) (by simp) ?_
      rintro v h' rfl
      simp -implicitDefEqProofs only [killAll, List.foldl, go_sem]
      rw [← hr]
      exact AWp.weak (by simp [go_sem, weakH_self]) rest
    · have hr : rdS ws S c = tails c S := by unfold rdS; rw [if_neg hm, List.append_nil]
      simp -implicitDefEqProofs only [hm, decide_false, go_sem]
      rw [← hr]
      exact AWp.weak (by simp [go_sem, weakH_self, rdH]) rest
  have hrl : (rdS ws S c).length ≤ 1000000 := by
    unfold rdS
    rw [List.length_append]
    split
    · omega
    · simp; omega
  generalize rdS ws S c = u at *
  unfold rdH
  refine AWp.of_awpD [] hΓ hmix (by kernel_rfl) ?_
  simp -implicitDefEqProofs only [go_sem]
  by_cases hu : u = []
  · subst hu
    refine callK_ac (c149n (b := 3)) (by simp) ?_
    rintro v h' ⟨rfl, rfl⟩
    simp -implicitDefEqProofs only [killAll, List.foldl, go_sem]
    have h := compact_le (sortL [])
    rw [sortL_length] at h
    have e : canL [] = [] := List.length_eq_zero_iff.1 (Nat.le_zero.1 h)
    rw [e]; rfl
  · have hrk : rkOf u = .own := by unfold rkOf; rw [if_neg hu]
    rw [hrk]
    refine callK_ac (c149 u rfl (by omega)) (by simp) ?_
    rintro v h' ⟨rfl, rfl⟩
    simp -implicitDefEqProofs only [killAll, List.foldl, List.set_cons_zero, List.set_cons_succ, go_sem]
end Go.Proofs.YtpljmccnfmkmfaaGreat
end

section
namespace Go.Proofs.YtpljmccnfmkmfaaGreat
open Go Go.AM
set_option maxRecDepth 100000
set_option linter.unusedSimpArgs false

theorem blt_iff : ∀ {a b : List UInt8}, bLt a b = true ↔ a < b
  | a, [] => by
    refine ⟨fun h => ?_, fun h => absurd h (List.not_lt_nil a)⟩
    cases a <;> cases h
  | [], y :: b => ⟨fun _ => List.nil_lt_cons y b, fun _ => rfl⟩
  | x :: a, y :: b => by
    rw [bLt_cons, List.cons_lt_cons_iff, blt_iff (a := a) (b := b), UInt8.toNat_inj, UInt8.lt_iff_toNat_lt]
theorem compL_strict {d : List (List UInt8)} (hs : d.Pairwise fun a b => a ≤ b) : ∀ m, m ≤ d.length →
    (Lib.compactUpTo d.toArray m).Pairwise (fun a b => a < b) ∧ (∀ x, x ∈ Lib.compactUpTo d.toArray m ↔ x ∈ d.take m)
  | 0, _ => by simp [Lib.compactUpTo]
  | m + 1, hm => by
    obtain ⟨h1, h2⟩ := compL_strict hs m (by omega)
    have hml : m < d.length := hm
    have get : ∀ j (h : j < d.length), d.toArray[j]! = d[j] := fun j h => by rw [getElem!_pos d.toArray j (by simpa using h)]; simp
    have hle : ∀ i j (hi : i < d.length) (hj : j < d.length), i ≤ j → d[i] ≤ d[j] := fun i j hi hj hij => by
      by_cases e : i = j
      · subst e; exact List.le_refl _
      · exact List.pairwise_iff_getElem.1 hs i j hi hj (by omega)
    rw [Lib.compactUpTo_succ, List.take_succ_eq_append_getElem hml, get m hml]
    by_cases hk : Lib.keeps d.toArray m = true
    · rw [if_pos hk]
      refine ⟨List.pairwise_append.2 ⟨h1, by simp, fun x hx y hy => ?_⟩, fun x => ?_⟩
      · rw [List.mem_singleton] at hy; subst hy
        obtain ⟨j, hj, rfl⟩ := List.mem_take_iff_getElem.1 ((h2 x).1 hx)
        have hjm : j < m := by omega
        apply Classical.byContradiction
        intro hno
        have e : d[j] = d[m] := List.le_antisymm (hle j m (by omega) hml (by omega)) (List.not_lt.1 hno)
        have e2 : d[m - 1] = d[m] := List.le_antisymm (hle (m - 1) m (by omega) hml (by omega)) (by rw [← e]; exact hle j (m - 1) (by omega) (by omega) (by omega))
        have := Lib.keeps_neg (d := d.toArray) (m := m) (by omega) (by rw [get m hml, get (m - 1) (by omega), e2])
        rw [this] at hk; cases hk
      · simp only [List.mem_append, h2 x]
    · rw [if_neg hk, List.append_nil]
      refine ⟨h1, fun x => ?_⟩
      simp only [List.mem_append, h2 x, List.mem_singleton]
      refine ⟨.inl, fun h => h.elim id fun e => ?_⟩
      subst e
      have hm0 : 0 < m := by
        rcases Nat.eq_zero_or_pos m with h | h
        · subst h; exact absurd (Lib.keeps_lt_one _ 0 (by omega)) hk
        · exact h
      have e : d[m] = d[m - 1] := by
        apply Classical.byContradiction
        intro hne
        exact hk (Lib.keeps_pos (by rw [get m hml, get (m - 1) (by omega)]; exact hne))
      rw [e]
      exact List.mem_take_iff_getElem.2 ⟨m - 1, by omega, rfl⟩
theorem sortL_sorted (l : List (List UInt8)) : (sortL l).Pairwise fun a b => a ≤ b := by
  refine List.Pairwise.imp (fun {a b} h => of_decide_eq_true h) (List.pairwise_mergeSort ?_ ?_ l)
  · intro a b c h1 h2
    exact decide_eq_true (List.le_trans (of_decide_eq_true h1) (of_decide_eq_true h2))
  · intro a b
    rcases List.le_total a b with h | h
    · rw [decide_eq_true h]; rfl
    · rw [decide_eq_true h, Bool.or_true]
theorem canL_strict (l : List (List UInt8)) : (canL l).Pairwise fun a b => a < b :=
  (compL_strict (sortL_sorted l) (sortL l).length (Nat.le_refl _)).1
theorem mem_canL {l : List (List UInt8)} {x : List UInt8} : x ∈ canL l ↔ x ∈ l := by
  have := (compL_strict (sortL_sorted l) (sortL l).length (Nat.le_refl _)).2 x
  rw [List.take_length, mem_sortL] at this
  exact this
theorem strictL_unique : ∀ {l m : List (List UInt8)}, (l.Pairwise fun a b => a < b) → (m.Pairwise fun a b => a < b) → (∀ x, x ∈ l ↔ x ∈ m) → l = m
  | [], [], _, _, _ => rfl
  | [], b :: m, _, _, h => absurd ((h b).2 (by simp)) (by simp)
  | a :: l, [], _, _, h => absurd ((h a).1 (by simp)) (by simp)
  | a :: l, b :: m, hl, hm, h => by
    obtain ⟨ha, hl2⟩ := List.pairwise_cons.1 hl
    obtain ⟨hb, hm2⟩ := List.pairwise_cons.1 hm
    have e : a = b := by
      rcases List.mem_cons.1 ((h a).1 (by simp)) with e | e
      · exact e
      · rcases List.mem_cons.1 ((h b).2 (by simp)) with e2 | e2
        · exact e2.symm
        · exact absurd (List.lt_trans (ha b e2) (hb a e)) (List.lt_irrefl a)
    subst e
    refine congrArg (List.cons a) (strictL_unique hl2 hm2 (fun x => ⟨fun hx => ?_, fun hx => ?_⟩))
    · rcases List.mem_cons.1 ((h x).1 (by simp [hx])) with e | e
      · subst e; exact absurd (ha x hx) (List.lt_irrefl x)
      · exact e
    · rcases List.mem_cons.1 ((h x).2 (by simp [hx])) with e | e
      · subst e; exact absurd (hb x hx) (List.lt_irrefl x)
      · exact e
def insE (x : List UInt8) : List (List UInt8) → List (List UInt8)
  | [] => [x]
  | y :: r => match bLt x y with
    | true => x :: y :: r
    | false => match bLt y x with
      | true => y :: insE x r
      | false => y :: r
def canE : List (List UInt8) → List (List UInt8)
  | [] => []
  | x :: r => insE x (canE r)
theorem insE_mem (x : List UInt8) : ∀ (l : List (List UInt8)) (z : List UInt8), z ∈ insE x l ↔ z = x ∨ z ∈ l
  | [], z => by simp [insE]
  | y :: r, z => by
    unfold insE
    split
    · simp
    · rename_i h1
      split
      · rw [List.mem_cons, insE_mem x r z, List.mem_cons]
        exact ⟨fun h => h.elim (fun h => .inr (.inl h)) fun h => h.elim .inl fun h => .inr (.inr h), fun h => h.elim (fun h => .inr (.inl h)) fun h => h.elim .inl fun h => .inr (.inr h)⟩
      · rename_i h2
        have a1 : ¬ x < y := fun h => by rw [blt_iff.2 h] at h1; cases h1
        have a2 : ¬ y < x := fun h => by rw [blt_iff.2 h] at h2; cases h2
        have e : x = y := List.le_antisymm (List.not_lt.1 a2) (List.not_lt.1 a1)
        subst e
        simp
theorem insE_strict (x : List UInt8) : ∀ (l : List (List UInt8)), (l.Pairwise fun a b => a < b) → (insE x l).Pairwise fun a b => a < b
  | [], _ => by simp [insE]
  | y :: r, h => by
    obtain ⟨h1, h2⟩ := List.pairwise_cons.1 h
    unfold insE
    split
    · rename_i e
      refine List.pairwise_cons.2 ⟨fun z hz => ?_, h⟩
      rcases List.mem_cons.1 hz with rfl | hz
      · exact blt_iff.1 e
      · exact List.lt_trans (blt_iff.1 e) (h1 z hz)
    · split
      · rename_i e
        refine List.pairwise_cons.2 ⟨fun z hz => ?_, insE_strict x r h2⟩
        rcases (insE_mem x r z).1 hz with rfl | hz
        · exact blt_iff.1 e
        · exact h1 z hz
      · exact h
theorem canE_mem : ∀ (l : List (List UInt8)) (z : List UInt8), z ∈ canE l ↔ z ∈ l
  | [], _ => Iff.rfl
  | x :: r, z => by rw [show canE (x :: r) = insE x (canE r) from rfl, insE_mem, canE_mem r z, List.mem_cons]
theorem canE_strict : ∀ (l : List (List UInt8)), (canE l).Pairwise fun a b => a < b
  | [] => List.Pairwise.nil
  | x :: r => insE_strict x _ (canE_strict r)
theorem canE_eq (l : List (List UInt8)) : canE l = canL l :=
  strictL_unique (canE_strict l) (canL_strict l) fun x => (canE_mem l x).trans mem_canL.symm
theorem canL_of {l m : List (List UInt8)} (hm : m.Pairwise fun a b => a < b) (h : ∀ x, x ∈ l ↔ x ∈ m) : canL l = m :=
  strictL_unique (canL_strict l) hm fun x => mem_canL.trans (h x)
end Go.Proofs.YtpljmccnfmkmfaaGreat
end

section
namespace Go.Proofs.YtpljmccnfmkmfaaGreat
open Go Go.AM
set_option maxRecDepth 1000000
set_option linter.unusedSimpArgs false

def strsOf : List PV → Option (List (List UInt8))
  | [] => some []
  | .str s :: l => (match strsOf l with
    | some r => some (s :: r)
    | none => none)
  | _ :: _ => none
theorem strsOf_some : ∀ {l : List PV} {r : List (List UInt8)}, strsOf l = some r → l = r.map .str
  | [], r, h => by injection h with h; subst h; rfl
  | .str s :: l, r, h => by
    have e : strsOf (.str s :: l) = (match strsOf l with | some r => some (s :: r) | none => none) := rfl
    rw [e] at h
    cases h2 : strsOf l with
    | none => rw [h2] at h; cases h
    | some r2 =>
      rw [h2] at h
      injection h with h
      subst h
      rw [strsOf_some h2]; rfl
  | .bool _ :: _, _, h => by cases h
  | .int _ _ :: _, _, h => by cases h
  | .sl _ :: _, _, h => by cases h
  | .agg _ :: _, _, h => by cases h
def joinE (l : List (List UInt8)) (s : List UInt8) : List UInt8 := match l with
  | [] => []
  | [x] => x
  | x :: y :: r => x ++ (s ++ joinE (y :: r) s)
theorem joinE_eq : ∀ (l : List (List UInt8)) (s : List UInt8), joinE l s = Lib.join l s
  | [], s => rfl
  | [x], s => (Lib.join_one x s).symm
  | x :: y :: r, s => by
    have ih := joinE_eq (y :: r) s
    have e : joinE (x :: y :: r) s = x ++ (s ++ joinE (y :: r) s) := rfl
    rw [e, ih, Lib.join_cons, Lib.join_cons]
    simp [Lib.joinTail]
def kn : FuncId → List PV → Option AV := fun f args => match f, args with
  | 195, [.sl l, .str s] => (match strsOf l with
    | some xs => if Nat.ble xs.length 1000 && Nat.ble (joinE xs s).length 100000 then some (.p (.str (joinE xs s))) else none
    | none => none)
  | 44, [.agg [.int .i64 2, .sl [.str [48], .str [48, 49], .str [49, 49]]]] => some (.tup [.p (.agg [.bool false, .str [1], .bool false, .str [1]]), .p (.int .i64 0)])
  | 91, [] => some (.p (.agg [.bool false, .str [1], .bool false, .str [1]]))
  | 224, [.int .i64 1] => some (.p (.str [1]))
  | 224, [.int .i64 2] => some (.p (.str [2]))
  | 87, [.agg [.int .i64 q, .sl l]] => (match strsOf l with
    | some ws => (match codeCheck q ws with
      | 0 => some (.p (.sl ((canE (Mc.begL ws)).map .str)))
      | _ => none)
    | none => none)
  | 88, [.sl s, .agg [.int .i64 _, .sl l], .int .u8 (.ofNat c)] => (match strsOf s, strsOf l with
    | some S, some ws => if Nat.ble S.length 1000 && (Nat.ble ws.length 1000 && Nat.blt c 256) then some (.p (.sl ((canE (Mc.rdS ws S (UInt8.ofNat c))).map .str))) else none
    | _, _ => none)
  | _, _ => none
def axA : FuncId → List AV → Option AV := fun f args => match f with
  | 195 => (AV.purL [] args).bind (kn 195)
  | 44 => (AV.purL [] args).bind (kn 44)
  | 91 => (AV.purL [] args).bind (kn 91)
  | 224 => (AV.purL [] args).bind (kn 224)
  | 87 => (AV.purL [] args).bind (kn 87)
  | 88 => (AV.purL [] args).bind (kn 88)
  | f => axT f args
def ptA : Plans := fun id n => match id, n with
  | 6, 18 => some (.q 0 (.q 1 (.q 2 (.q 3 (.q 4 (.q 5 (.q 6 (.q 7 (.q 8 (.q 9 (.q 10 (.q 11 (.q 12 (.q 13 (.q 14 (.e 15 (.s 2 (.s 3 (.s 4 (.q 16 (.e 17 .fin .nil))))) .nil))))))))))))))))
  | 7, 5 => some (.q 0 (.e 1 (.s 0 (.q 2 (.q 3 (.q 4 .fin)))) .nil))
  | 11, 16 => some (.q 0 (.q 1 (.q 2 (.q 3 (.q 4 (.q 6 (.q 7 (.q 8 (.q 9 (.q 10 (.q 11 (.q 12 (.e 5 (.s 6 (.s 7 (.s 8 (.s 9 (.s 10 (.s 11 (.s 12 (.q 13 (.e 14 (.s 0 (.s 1 (.s 2 (.s 3 (.s 4 (.s 6 (.s 7 (.s 8 (.s 9 (.s 10 (.s 11 (.s 12 (.s 13 (.e 15 .fin .nil)))))))))))))) .nil))))))))) (.e 14 (.s 0 (.s 1 (.s 2 (.s 3 (.s 4 (.s 6 (.s 7 (.s 8 (.s 9 (.s 10 (.s 11 (.s 12 (.e 5 (.s 6 (.s 7 (.s 8 (.s 9 (.s 10 (.s 11 (.s 12 (.q 13 (.e 15 .fin .nil))))))))) .nil))))))))))))) .nil))))))))))))))
  | 17, 5 => some (.q 0 (.q 1 (.e 2 (.s 1 (.e 3 (.q 4 .fin) .nil)) .nil)))
  | _, _ => none

theorem magB1 : magB 1 = [1] := by decide +kernel
theorem magB2 : magB 2 = [2] := by decide +kernel
theorem ratV_one : Kn.ratV 1 1 = .agg [.bool false, .str [1], .bool false, .str [1]] := by
  unfold Kn.ratV; rw [show Nat.gcd 1 1 = 1 by decide, Nat.div_one, magB1]
theorem ratV_half : Kn.ratV 1 2 = .agg [.bool false, .str [1], .bool false, .str [2]] := by
  unfold Kn.ratV; rw [show Nat.gcd 1 2 = 1 by decide, Nat.div_one, Nat.div_one, magB1, magB2]
theorem of_c : PFn Tryz.prog 44 [.agg [.int .i64 2, .sl [.str [48], .str [48, 49], .str [49, 49]]]] [.agg [.bool false, .str [1], .bool false, .str [1]], .int .i64 0] := by
  have e := cm28 2 [[48], [48, 49], [49, 49]] (by decide)
  have h : Kn.ratV (Kn.krS 2 [1, 2, 2]) (2 ^ 32) = .agg [.bool false, .str [1], .bool false, .str [1]] := by
    rw [← ratV_one]
    exact (Kn.low_eq (by decide) (by decide)).2 (by decide)
  rw [show ((2 : Int).toNat) = 2 from rfl, show ([[48], [48, 49], [49, 49]] : List (List UInt8)).map List.length = [1, 2, 2] from rfl, h] at e
  exact e
theorem of_d : PFn Tryz.prog 44 [.agg [.int .i64 2, .sl [.str [48, 48], .str [49, 49]]]] [.agg [.bool false, .str [1], .bool false, .str [2]], .int .i64 0] := by
  have e := cm28 2 [[48, 48], [49, 49]] (by decide)
  have h : Kn.ratV (Kn.krS 2 [2, 2]) (2 ^ 32) = .agg [.bool false, .str [1], .bool false, .str [2]] := by
    rw [← ratV_half]
    exact (Kn.low_eq (by decide) (by decide)).2 (by decide)
  rw [show ((2 : Int).toNat) = 2 from rfl, show ([[48, 48], [49, 49]] : List (List UInt8)).map List.length = [2, 2] from rfl, h] at e
  exact e
theorem one91 : PFn Tryz.prog 91 [] [.agg [.bool false, .str [1], .bool false, .str [1]]] := by
  have e := Kn.v58
  rw [ratV_one] at e
  exact e
theorem u224 (n : Nat) (hn : n < 9223372036854775808) : PFn Tryz.prog 224 [.int .i64 n] [.str (magB n)] := by
  refine ⟨entersF_of Tryz.func224 (by kernel_rfl) rfl, fun I w cargs himm hlen hargs => ?_⟩
  obtain ⟨a, rfl⟩ : ∃ a, cargs = [a] := by
    match cargs, hlen with
    | [a], _ => exact ⟨a, rfl⟩
  have h0 := hargs 0 (by simp)
  simp only [List.getD_cons_zero] at h0
  rw [(VR.p (n := 0) (μ := fun _ => undef) _ _ h0).int_inv]
  refine Calls.mono (P := Tryz.prog) (m108 n hn w) ?_
  rintro e w' ⟨rfl, hB⟩
  exact ⟨_, I, rfl, grown_of_below hB, fun _ h => h, fun g h => .inl h, .p _ _ (.str ⟨(magB n).toArray⟩)⟩
theorem kn_ok : ∀ f p v, kn f p = some v → ∃ vs, PFn Tryz.prog f p vs ∧ v = packAV (vs.map .p) := by
  intro f p v h
  unfold kn at h
  split at h
  · rename_i l s
    split at h
    · rename_i xs hx
      split at h
      · rename_i hb
        injection h with h
        simp only [Bool.and_eq_true] at hb
        have h1 := Nat.le_of_ble_eq_true hb.1
        have h2 := Nat.le_of_ble_eq_true hb.2
        have e := join_fn xs s (by omega) (by rw [← joinE_eq]; omega)
        rw [← joinE_eq, ← strsOf_some hx] at e
        exact ⟨_, e, h.symm⟩
      · cases h
    · cases h
  · injection h with h; exact ⟨_, of_c, h.symm⟩
  · injection h with h; exact ⟨_, one91, h.symm⟩
  · injection h with h
    have e := u224 1 (by omega)
    rw [magB1] at e
    exact ⟨_, e, h.symm⟩
  · injection h with h
    have e := u224 2 (by omega)
    rw [magB2] at e
    exact ⟨_, e, h.symm⟩
  · rename_i q l
    split at h
    · rename_i ws hx
      split at h
      · rename_i hc
        injection h with h
        have e := c87 q ws (valid_of hc)
        rw [← canE_eq] at e
        rw [strsOf_some hx]
        exact ⟨_, e, h.symm⟩
      · cases h
    · cases h
  · rename_i s q l c
    split at h
    · rename_i S ws hS hx
      split at h
      · rename_i hb
        injection h with h
        simp only [Bool.and_eq_true] at hb
        have h1 := Nat.le_of_ble_eq_true hb.1
        have h2 := Nat.le_of_ble_eq_true hb.2.1
        have h3 : c < 256 := Nat.le_of_ble_eq_true hb.2.2
        have e := c88 q ws S (UInt8.ofNat c) (by omega) (by omega)
        rw [← canE_eq, UInt8.toNat_ofNat', Nat.mod_eq_of_lt h3] at e
        rw [strsOf_some hS, strsOf_some hx]
        exact ⟨_, e, h.symm⟩
      · cases h
    · cases h
  · cases h
theorem axA_ok : ∀ f args v, axA f args = some v → AX Tryz.prog f args v ∨ ∀ h, AC Tryz.prog f args h [] (fun u h' => u = v ∧ h' = h) := by
  have go : ∀ f args v, (AV.purL [] args).bind (kn f) = some v → ∀ h, AC Tryz.prog f args h [] (fun u h' => u = v ∧ h' = h) := by
    intro f args v h
    obtain ⟨p, h1, h2⟩ := Option.bind_eq_some_iff.1 h
    obtain ⟨vs, h3, h4⟩ := kn_ok f p v h2
    subst h4
    exact fun h => AC.of_fn h3 (.inr h1)
  intro f args v h
  unfold axA at h
  split at h
  · exact .inr (go _ _ _ h)
  · exact .inr (go _ _ _ h)
  · exact .inr (go _ _ _ h)
  · exact .inr (go _ _ _ h)
  · exact .inr (go _ _ _ h)
  · exact .inr (go _ _ _ h)
  · exact .inl (axT_ok _ _ _ h)

theorem hEA : ECOK ⟨Tryz.prog, Γ, axA⟩ := ⟨hΓ, hmix, names_ok (by kernel_rfl), axA_ok⟩
end Go.Proofs.YtpljmccnfmkmfaaGreat
end

section
namespace Go.Proofs.YtpljmccnfmkmfaaGreat
open Go Go.AM Go.RowKit
set_option maxRecDepth 100000
set_option linter.unusedSimpArgs false

def keyS (S : List (List UInt8)) : List UInt8 := joinE S [32] ++ [46]
theorem c145 (S : List (List UInt8)) (h1 : S.length ≤ 1000000) (h2 : (joinE S [32]).length ≤ 1000000000) : PFn Tryz.prog 145 [.sl (S.map .str)] [.str (keyS S)] := by
  have e := join_fn S [32] (by omega) (by rw [← joinE_eq]; omega)
  rw [← joinE_eq] at e
  refine PFn.of_body hΓ Tryz.func145 (by kernel_rfl) rfl (AWp.of_awpD [] hΓ hmix (by kernel_rfl) ?_)
  simp -implicitDefEqProofs only [Tryz.ntmps145, Tryz.results145, Nat.reduceAdd, Nat.reduceSub, go_sem]
  refine callK_fn e (.pures rfl) ?_
  simp -implicitDefEqProofs only [keyS, go_sem]
  omega
theorem joinE_len : ∀ (S : List (List UInt8)), (∀ x ∈ S, x.length ≤ 32) → (joinE S [32]).length ≤ 33 * S.length
  | [], _ => Nat.le_refl _
  | [x], h => by
    have := h x (by simp)
    show x.length ≤ 33 * 1
    omega
  | x :: y :: r, h => by
    have h1 := h x (by simp)
    have h2 := joinE_len (y :: r) fun z hz => h z (List.mem_cons_of_mem _ hz)
    have e : joinE (x :: y :: r) [32] = x ++ ([32] ++ joinE (y :: r) [32]) := rfl
    rw [e, List.length_append, List.length_append, List.length_singleton]
    simp only [List.length_cons] at h2 ⊢
    omega
theorem cut32 : ∀ {x y A B : List UInt8}, 32 ∉ x → 32 ∉ y → x ++ 32 :: A = y ++ 32 :: B → x = y ∧ A = B
  | [], [], A, B, _, _, h => ⟨rfl, by simpa using h⟩
  | [], b :: y, A, B, _, hy, h => by
    rw [List.nil_append, List.cons_append] at h
    injection h with h _
    exact absurd (by rw [← h]; simp) hy
  | a :: x, [], A, B, hx, _, h => by
    rw [List.nil_append, List.cons_append] at h
    injection h with h _
    exact absurd (by rw [h]; simp) hx
  | a :: x, b :: y, A, B, hx, hy, h => by
    rw [List.cons_append, List.cons_append] at h
    injection h with h1 h2
    obtain ⟨h3, h4⟩ := cut32 (fun e => hx (List.mem_cons_of_mem _ e)) (fun e => hy (List.mem_cons_of_mem _ e)) h2
    exact ⟨by rw [h1, h3], h4⟩
theorem join_inj : ∀ {S T : List (List UInt8)}, S ≠ [] → T ≠ [] → (∀ x ∈ S, 32 ∉ x) → (∀ x ∈ T, 32 ∉ x) → joinE S [32] = joinE T [32] → S = T
  | [], _, h, _, _, _, _ => absurd rfl h
  | _ :: _, [], _, h, _, _, _ => absurd rfl h
  | [x], [y], _, _, _, _, h => by rw [show joinE [x] [32] = x from rfl, show joinE [y] [32] = y from rfl] at h; rw [h]
  | [x], y :: z :: r, _, _, hs, _, h => by
    rw [show joinE [x] [32] = x from rfl, show joinE (y :: z :: r) [32] = y ++ 32 :: joinE (z :: r) [32] from rfl] at h
    exact absurd (by rw [h]; simp) (hs x (by simp))
  | x :: z :: r, [y], _, _, _, ht, h => by
    rw [show joinE [y] [32] = y from rfl, show joinE (x :: z :: r) [32] = x ++ 32 :: joinE (z :: r) [32] from rfl] at h
    exact absurd (by rw [← h]; simp) (ht y (by simp))
  | x :: z :: r, y :: u :: v, _, _, hs, ht, h => by
    rw [show joinE (x :: z :: r) [32] = x ++ 32 :: joinE (z :: r) [32] from rfl, show joinE (y :: u :: v) [32] = y ++ 32 :: joinE (u :: v) [32] from rfl] at h
    obtain ⟨h1, h2⟩ := cut32 (hs x (by simp)) (ht y (by simp)) h
    have ih := join_inj (S := z :: r) (T := u :: v) (by simp) (by simp) (fun a ha => hs a (List.mem_cons_of_mem _ ha)) (fun a ha => ht a (List.mem_cons_of_mem _ ha)) h2
    rw [h1, ih]
theorem key_inj {S T : List (List UInt8)} (hS : S ≠ []) (hT : T ≠ []) (h1 : ∀ x ∈ S, 32 ∉ x) (h2 : ∀ x ∈ T, 32 ∉ x) (h : keyS S = keyS T) : S = T :=
  join_inj hS hT h1 h2 (List.append_cancel_right h)
end Go.Proofs.YtpljmccnfmkmfaaGreat
end

section
namespace Go.Proofs.YtpljmccnfmkmfaaGreat.Kn
open Go Go.AM
set_option maxRecDepth 100000
set_option linter.unusedSimpArgs false

def ltr (a : Nat) : UInt8 := L16.getD a 0
def Alph (q : Nat) (w : List UInt8) : Prop := ∀ b ∈ w, ∃ a, a < q ∧ b = ltr a

def wtN (q : Nat) (w : List UInt8) : Nat := q ^ (32 - w.length)
def taken (q : Nat) (p : List UInt8) : List (List UInt8) → Nat
  | [] => 0
  | w :: ws => (if p.isPrefixOf w then wtN q w else 0) + taken q p ws

structure PCode (q : Nat) (ws : List (List UInt8)) : Prop where
  q0 : 0 < q
  q16 : q ≤ 16
  nodup : ws.Nodup
  free : ∀ x ∈ ws, ∀ y ∈ ws, y.isPrefixOf x = true → x = y
  alph : ∀ w ∈ ws, Alph q w
  short : ∀ w ∈ ws, w.length ≤ 32

theorem taken_none {q : Nat} {p : List UInt8} : ∀ {ws : List (List UInt8)}, (∀ w ∈ ws, ¬ p.isPrefixOf w = true) → taken q p ws = 0
  | [], _ => rfl
  | w :: ws, h => by
    show (if p.isPrefixOf w then wtN q w else 0) + taken q p ws = 0
    rw [if_neg (h w (by simp)), taken_none (fun x hx => h x (by simp [hx]))]
theorem taken_word {q : Nat} {p : List UInt8} : ∀ {ws : List (List UInt8)}, p ∈ ws → ws.Nodup → (∀ x ∈ ws, p.isPrefixOf x = true → x = p) → taken q p ws = wtN q p
  | w :: ws, hp, hd, hf => by
    show (if p.isPrefixOf w then wtN q w else 0) + taken q p ws = _
    have hd' := List.nodup_cons.1 hd
    by_cases hw : p.isPrefixOf w = true
    · have e := hf w (by simp) hw
      subst e
      rw [if_pos hw, taken_none (fun x hx h => ?_), Nat.add_zero]
      have := hf x (by simp [hx]) h
      subst this
      exact hd'.1 hx
    · rw [if_neg hw, Nat.zero_add]
      have hne : p ≠ w := fun e => hw (by rw [e]; exact List.isPrefixOf_iff_prefix.2 (List.prefix_refl _))
      exact taken_word (by simpa [hne] using hp) hd'.2 (fun x hx => hf x (by simp [hx]))
theorem PCode.word {q : Nat} {ws : List (List UInt8)} (h : PCode q ws) {p : List UInt8} (hp : p ∈ ws) : taken q p ws = wtN q p :=
  taken_word hp h.nodup fun x hx hpx => h.free x hx p hp hpx

end Go.Proofs.YtpljmccnfmkmfaaGreat.Kn
end

section
namespace Go.Mc
set_option linter.unusedSimpArgs false
set_option linter.unusedVariables false

structure Bfs {S : Type} (q : Nat) (run : Nat → S) (dead : S → Prop) (Q : List Nat) (i a : Nat) : Prop where
  root : 0 ∈ Q
  sorted : Q.Pairwise fun x y => x < y
  dist : Q.Pairwise fun x y => run x ≠ run y
  alive : ∀ x ∈ Q, ¬ dead (run x)
  cov : ∀ k b, (hk : k < Q.length) → b < q → (k < i ∨ k = i ∧ b < a) → ∃ m ∈ Q, run m = run (Q[k] * q + b + 1) ∧ m ≤ Q[k] * q + b + 1
  top : ∀ (hi : i < Q.length), ∀ x ∈ Q, x ≤ Q[i] * q + a

section
variable {S : Type} {q : Nat} {run : Nat → S} {dead : S → Prop} {Q : List Nat} {i a : Nat}

theorem Bfs.start (h : ¬ dead (run 0)) : Bfs q run dead [0] 0 0 where
  root := by simp
  sorted := by simp
  dist := by simp
  alive := fun x hx => by rw [List.mem_singleton.1 hx]; exact h
  cov := fun k b hk hb h => by omega
  top := fun hi x hx => by rw [List.mem_singleton.1 hx]; omega
theorem Bfs.skip (B : Bfs q run dead Q i a) (hi : i < Q.length) (h : ∃ m ∈ Q, run m = run (Q[i] * q + a + 1)) : Bfs q run dead Q i (a + 1) where
  root := B.root
  sorted := B.sorted
  dist := B.dist
  alive := B.alive
  cov := fun k b hk hb h2 => by
    by_cases e : k = i ∧ b = a
    · obtain ⟨e1, e2⟩ := e
      subst e1 e2
      obtain ⟨m, h3, h4⟩ := h
      exact ⟨m, h3, h4, Nat.le_succ_of_le (B.top hi m h3)⟩
    · exact B.cov k b hk hb (by omega)
  top := fun hi x hx => Nat.le_succ_of_le (B.top hi x hx)
theorem Bfs.add (B : Bfs q run dead Q i a) (hi : i < Q.length) (h : ∀ m ∈ Q, run m ≠ run (Q[i] * q + a + 1)) (hd : ¬ dead (run (Q[i] * q + a + 1))) :
    Bfs q run dead (Q ++ [Q[i] * q + a + 1]) i (a + 1) where
  root := List.mem_append_left _ B.root
  sorted := List.pairwise_append.2 ⟨B.sorted, by simp, fun x hx y hy => by rw [List.mem_singleton.1 hy]; have := B.top hi x hx; omega⟩
  dist := List.pairwise_append.2 ⟨B.dist, by simp, fun x hx y hy => by rw [List.mem_singleton.1 hy]; exact h x hx⟩
  alive := fun x hx => by
    rcases List.mem_append.1 hx with hx | hx
    · exact B.alive x hx
    · rw [List.mem_singleton.1 hx]; exact hd
  cov := fun k b hk hb h2 => by
    have hkQ : k < Q.length := by omega
    have e0 : (Q ++ [Q[i] * q + a + 1])[k] = Q[k] := List.getElem_append_left hkQ
    rw [e0]
    by_cases e : k = i ∧ b = a
    · obtain ⟨e1, e2⟩ := e
      subst e1 e2
      exact ⟨_, List.mem_append_right _ (List.mem_singleton.2 rfl), rfl, Nat.le_refl _⟩
    · obtain ⟨m, h3, h4⟩ := B.cov k b hkQ hb (by omega)
      exact ⟨m, List.mem_append_left _ h3, h4⟩
  top := fun hi2 x hx => by
    have e0 : (Q ++ [Q[i] * q + a + 1])[i] = Q[i] := List.getElem_append_left hi
    rw [e0]
    rcases List.mem_append.1 hx with hx | hx
    · exact Nat.le_succ_of_le (B.top hi x hx)
    · rw [List.mem_singleton.1 hx]; omega
theorem Bfs.next (B : Bfs q run dead Q i q) : Bfs q run dead Q (i + 1) 0 where
  root := B.root
  sorted := B.sorted
  dist := B.dist
  alive := B.alive
  cov := fun k b hk hb h2 => B.cov k b hk hb (by omega)
  top := fun hi x hx => by
    have h1 := B.top (by omega) x hx
    have h2 : Q[i] < Q[i + 1] := List.pairwise_iff_getElem.1 B.sorted i (i + 1) (by omega) hi (by omega)
    have h3 : (Q[i] + 1) * q ≤ Q[i + 1] * q := Nat.mul_le_mul_right _ h2
    rw [Nat.add_mul, Nat.one_mul] at h3
    omega
theorem Bfs.cover (hq : 0 < q) (hstep : ∀ u v b, b < q → run u = run v → run (u * q + b + 1) = run (v * q + b + 1)) (B : Bfs q run dead Q i a) (hi : i < Q.length) (ha : a ≤ q) (v : Nat) (hv : v ≤ Q[i] * q + a) :
    ∃ m ∈ Q, run m = run v ∧ m ≤ v := by
  induction v using Nat.strongRecOn with
  | _ v ih =>
    rcases Nat.eq_zero_or_pos v with h0 | h0
    · subst h0
      exact ⟨0, B.root, rfl, Nat.le_refl _⟩
    · have hb : (v - 1) % q < q := Nat.mod_lt _ hq
      have hu : (v - 1) / q * q + (v - 1) % q + 1 = v := by
        have := Nat.div_add_mod (v - 1) q
        rw [Nat.mul_comm] at this
        omega
      generalize (v - 1) / q = u at hu
      generalize (v - 1) % q = b at hb hu
      have huq : u ≤ u * q := Nat.le_mul_of_pos_right _ hq
      obtain ⟨m, h1, h2, h3⟩ := ih u (by omega) (by omega)
      obtain ⟨k, hk, rfl⟩ := List.getElem_of_mem h1
      have hle : Q[k] * q ≤ u * q := Nat.mul_le_mul_right _ h3
      have hki : k < i ∨ k = i ∧ b < a := by
        rcases Nat.lt_trichotomy k i with e | e | e
        · exact .inl e
        · subst e
          exact .inr ⟨rfl, by omega⟩
        · have h4 : Q[i] < Q[k] := List.pairwise_iff_getElem.1 B.sorted i k hi hk e
          have h5 : (Q[i] + 1) * q ≤ Q[k] * q := Nat.mul_le_mul_right _ h4
          rw [Nat.add_mul, Nat.one_mul] at h5
          omega
      obtain ⟨m2, h4, h5, h6⟩ := B.cov k b hk hb hki
      refine ⟨m2, h4, ?_, by omega⟩
      rw [h5, ← hu]
      exact hstep _ _ b hb h2
theorem Bfs.least (hq : 0 < q) (hstep : ∀ u v b, b < q → run u = run v → run (u * q + b + 1) = run (v * q + b + 1)) (B : Bfs q run dead Q i a) (hi : i < Q.length) (ha : a ≤ q) (v : Nat) (hv : v ≤ Q[i] * q + a) : ¬ dead (run v) := by
  obtain ⟨m, h1, h2, _⟩ := B.cover hq hstep hi ha v hv
  rw [← h2]
  exact B.alive m h1
theorem Bfs.done (hq : 0 < q) (hstep : ∀ u v b, b < q → run u = run v → run (u * q + b + 1) = run (v * q + b + 1)) (B : Bfs q run dead Q i 0) (hi : Q.length ≤ i) (v : Nat) : ¬ dead (run v) := by
  have h : ∃ m ∈ Q, run m = run v := by
    induction v using Nat.strongRecOn with
    | _ v ih =>
      rcases Nat.eq_zero_or_pos v with h0 | h0
      · subst h0
        exact ⟨0, B.root, rfl⟩
      · have hb : (v - 1) % q < q := Nat.mod_lt _ hq
        have hu : (v - 1) / q * q + (v - 1) % q + 1 = v := by
          have := Nat.div_add_mod (v - 1) q
          rw [Nat.mul_comm] at this
          omega
        generalize (v - 1) / q = u at hu
        generalize (v - 1) % q = b at hb hu
        have huq : u ≤ u * q := Nat.le_mul_of_pos_right _ hq
        obtain ⟨m, h1, h2⟩ := ih u (by omega)
        obtain ⟨k, hk, rfl⟩ := List.getElem_of_mem h1
        obtain ⟨m2, h4, h5, h6⟩ := B.cov k b hk hb (.inl (by omega))
        refine ⟨m2, h4, ?_⟩
        rw [h5, ← hu]
        exact hstep _ _ b hb h2
  obtain ⟨m, h1, h2⟩ := h
  rw [← h2]
  exact B.alive m h1
end
end Go.Mc
end

section
namespace Go.Proofs.YtpljmccnfmkmfaaGreat
open Go Go.AM
set_option maxRecDepth 100000
set_option linter.unusedSimpArgs false

theorem bltW_left {x y : List UInt8} : ∀ {a b : List UInt8}, a.length = b.length → bLt a b = true → bLt (a ++ x) (b ++ y) = true
  | [], [], _, h => by cases h
  | u :: a, v :: b, hl, h => by
    rw [List.cons_append, List.cons_append, bLt_cons]
    rcases (bLt_cons u v a b).1 h with h1 | ⟨h1, h2⟩
    · exact .inl h1
    · exact .inr ⟨h1, bltW_left (by simpa using hl) h2⟩
theorem bltW_same {x y : List UInt8} (h : bLt x y = true) : ∀ a : List UInt8, bLt (a ++ x) (a ++ y) = true
  | [] => h
  | u :: a => by rw [List.cons_append, List.cons_append, bLt_cons]; exact .inr ⟨rfl, bltW_same h a⟩
theorem ltrW_lt {a b : Nat} (hb : b < 16) (h : a < b) : (Kn.ltr a).toNat < (Kn.ltr b).toNat := by
  have key : ∀ a : Fin 16, ∀ b : Fin 16, a.val < b.val → (L16.getD a.val 0).toNat < (L16.getD b.val 0).toNat := by decide
  exact key ⟨a, by omega⟩ ⟨b, hb⟩ h
def wnF (q : Nat) : Nat → Nat → List UInt8
  | 0, _ => []
  | f + 1, v => if v = 0 then [] else wnF q f ((v - 1) / q) ++ [Kn.ltr ((v - 1) % q)]
def wn (q v : Nat) : List UInt8 := wnF q v v
theorem wnF_eq {q : Nat} (hq : 0 < q) : ∀ (f g v : Nat), v ≤ f → v ≤ g → wnF q f v = wnF q g v
  | 0, 0, v, _, _ => rfl
  | 0, g + 1, v, h, _ => by
    have : v = 0 := by omega
    subst this; rfl
  | f + 1, 0, v, _, h => by
    have : v = 0 := by omega
    subst this; rfl
  | f + 1, g + 1, v, h1, h2 => by
    unfold wnF
    split
    · rfl
    · have h3 : (v - 1) / q ≤ v - 1 := Nat.div_le_self _ _
      rw [wnF_eq hq f g ((v - 1) / q) (by omega) (by omega)]
theorem wn_zero (q : Nat) : wn q 0 = [] := rfl
theorem wn_succ {q : Nat} (hq : 0 < q) (u b : Nat) (hb : b < q) : wn q (u * q + b + 1) = wn q u ++ [Kn.ltr b] := by
  have h1 : (u * q + b) / q = u := by
    rw [Nat.mul_comm, Nat.mul_add_div hq, Nat.div_eq_of_lt hb, Nat.add_zero]
  have h2 : (u * q + b) % q = b := by
    rw [Nat.mul_comm, Nat.mul_add_mod, Nat.mod_eq_of_lt hb]
  have e : wn q (u * q + b + 1) = wnF q (u * q + b) ((u * q + b) / q) ++ [Kn.ltr ((u * q + b) % q)] := by
    have e0 : ∀ v, wn q (v + 1) = if v + 1 = 0 then [] else wnF q v ((v + 1 - 1) / q) ++ [Kn.ltr ((v + 1 - 1) % q)] := fun v => rfl
    rw [e0, if_neg (by omega), Nat.add_sub_cancel]
  rw [e, h1, h2]
  have h3 : u ≤ u * q := Nat.le_mul_of_pos_right _ hq
  rw [wnF_eq hq (u * q + b) u u (by omega) (Nat.le_refl _)]
  rfl
theorem num_cases {q : Nat} (hq : 0 < q) (v : Nat) : v = 0 ∨ ∃ u b, b < q ∧ v = u * q + b + 1 ∧ u < v := by
  rcases Nat.eq_zero_or_pos v with h | h
  · exact .inl h
  · refine .inr ⟨(v - 1) / q, (v - 1) % q, Nat.mod_lt _ hq, ?_, ?_⟩
    · have := Nat.div_add_mod (v - 1) q
      rw [Nat.mul_comm] at this
      omega
    · have := Nat.div_le_self (v - 1) q
      omega
theorem wn_surj {q : Nat} (hq : 0 < q) : ∀ w : List UInt8, (∀ b ∈ w, ∃ a, a < q ∧ b = Kn.ltr a) → ∃ v, wn q v = w := by
  refine Mc.rev_ind (P := fun w => (∀ b ∈ w, ∃ a, a < q ∧ b = Kn.ltr a) → ∃ v, wn q v = w) ?_ ?_
  · intro _; exact ⟨0, rfl⟩
  · intro w c ih h
    obtain ⟨u, hu⟩ := ih fun b hb => h b (List.mem_append_left _ hb)
    obtain ⟨a, ha, rfl⟩ := h c (by simp)
    exact ⟨u * q + a + 1, by rw [wn_succ hq u a ha, hu]⟩
theorem wn_lt {q : Nat} (hq : 0 < q) (hq16 : q ≤ 16) (u : Nat) : ∀ v, v < u → ltW (wn q v) (wn q u) := by
  induction u using Nat.strongRecOn with
  | _ u ih =>
    intro v hv
    rcases num_cases hq u with h | ⟨u', b, hb, rfl, hu⟩
    · omega
    rcases num_cases hq v with h | ⟨v', c, hc, rfl, hv'⟩
    · subst h
      rw [wn_succ hq _ _ hb]
      left
      rw [wn_zero]; simp
    · rw [wn_succ hq _ _ hb, wn_succ hq _ _ hc]
      rcases Nat.lt_trichotomy v' u' with e | e | e
      · rcases ih u' hu v' e with h | ⟨h1, h2⟩
        · left; simp only [List.length_append, List.length_singleton]; omega
        · right
          exact ⟨by simp only [List.length_append, List.length_singleton]; omega, bltW_left h1 h2⟩
      · subst e
        right
        refine ⟨by simp, bltW_same ?_ _⟩
        rw [bLt_cons]
        exact .inl (ltrW_lt (by omega) (by omega))
      · have h5 : (u' + 1) * q ≤ v' * q := Nat.mul_le_mul_right _ e
        rw [Nat.add_mul, Nat.one_mul] at h5
        omega
theorem wn_len {q : Nat} (hq : 0 < q) (hq16 : q ≤ 16) {v u : Nat} (h : v ≤ u) : (wn q v).length ≤ (wn q u).length := by
  rcases Nat.lt_or_ge v u with h1 | h1
  · rcases wn_lt hq hq16 u v h1 with h2 | ⟨h2, _⟩
    · omega
    · omega
  · have : v = u := by omega
    subst this; exact Nat.le_refl _
theorem wn_short {q : Nat} (hq : 0 < q) (hq16 : q ≤ 16) {v u : Nat} (h : (wn q v).length ≤ (wn q u).length) : v ≤ u * q := by
  apply Classical.byContradiction
  intro hn
  have h1 := wn_len hq hq16 (v := u * q + 0 + 1) (u := v) (by omega)
  rw [wn_succ hq u 0 hq, List.length_append, List.length_singleton] at h1
  omega
def stN (ws : List (List UInt8)) (q v : Nat) : List (List UInt8) := Mc.runSt canL ws (wn q v)
theorem stN_succ {ws : List (List UInt8)} {q : Nat} (hq : 0 < q) (u b : Nat) (hb : b < q) : stN ws q (u * q + b + 1) = canL (Mc.rdS ws (stN ws q u) (Kn.ltr b)) := by
  unfold stN
  rw [wn_succ hq u b hb, Mc.runSt_snoc]
theorem stN_step {ws : List (List UInt8)} {q : Nat} (hq : 0 < q) (u v b : Nat) (hb : b < q) (h : stN ws q u = stN ws q v) : stN ws q (u * q + b + 1) = stN ws q (v * q + b + 1) := by
  rw [stN_succ hq u b hb, stN_succ hq v b hb, h]
theorem run_ends {ws : List (List UInt8)} : ∀ (w : List UInt8), ∀ x ∈ Mc.runSt canL ws w, ∃ y ∈ ws, x <:+ y := by
  refine Mc.rev_ind (P := fun w => ∀ x ∈ Mc.runSt canL ws w, ∃ y ∈ ws, x <:+ y) ?_ ?_
  · intro x hx
    have hx : x ∈ Mc.begL ws := mem_canL.1 hx
    obtain ⟨y, hy, h⟩ := List.mem_flatMap.1 hx
    exact ⟨y, hy, Mc.mem_ends.1 h⟩
  · intro w c ih x hx
    rw [Mc.runSt_snoc] at hx
    have hx := mem_canL.1 hx
    unfold Mc.rdS at hx
    rcases List.mem_append.1 hx with h | h
    · obtain ⟨y, hy, hs⟩ := ih _ (Mc.mem_tails.1 h)
      exact ⟨y, hy, (List.suffix_cons c x).trans hs⟩
    · split at h
      · exact ⟨_, Mc.mem_tails.1 h, List.suffix_cons c x⟩
      · cases h
end Go.Proofs.YtpljmccnfmkmfaaGreat
end

section
namespace Go.Proofs.YtpljmccnfmkmfaaGreat
open Go Go.AM
set_option maxRecDepth 100000
set_option maxHeartbeats 4000000
set_option linter.unusedSimpArgs false

end Go.Proofs.YtpljmccnfmkmfaaGreat
end

section
namespace Go.Proofs.YtpljmccnfmkmfaaGreat
open Go Go.AM
set_option maxRecDepth 100000
set_option linter.unusedSimpArgs false

theorem ixB_hit (c : UInt8) : ∀ (l : List UInt8) (n : Nat), 0 ≤ ixB c l n → ∃ k : Nat, ixB c l n = ((n + k : Nat) : Int) ∧ l.getD k 0 = c
  | [], n, h => by simp [ixB] at h
  | a :: l, n, h => by
    unfold ixB at h ⊢
    cases hb : Nat.beq a.toNat c.toNat with
    | true =>
      rw [hb] at h
      exact ⟨0, by simp, by simpa using UInt8.toNat_inj.1 (Nat.eq_of_beq_eq_true hb)⟩
    | false =>
      rw [hb] at h
      obtain ⟨k, h1, h2⟩ := ixB_hit c l (n + 1) h
      exact ⟨k + 1, by simp only [h1]; omega, by simpa using h2⟩
theorem alph_of {q : Int} {w : List UInt8} (h : wordCheck q w = 0) : Kn.Alph q.toNat w := fun b hb => by
  have hw : okW q w = true := by
    unfold wordCheck at h
    split at h
    · cases h
    · split at h
      · cases h
      · split at h
        · assumption
        · cases h
  have h1 := List.all_eq_true.1 hw b hb
  unfold okB at h1
  simp only [Bool.and_eq_true, decide_eq_true_eq] at h1
  obtain ⟨k, h3, h4⟩ := ixB_hit b L16 0 h1.1
  exact ⟨k, by omega, h4.symm⟩
theorem ixB_ltr {a : Nat} (ha : a < 16) : ixB (Kn.ltr a) L16 0 = a := by
  have key : ∀ a : Fin 16, ixB (L16.getD a.val 0) L16 0 = (a.val : Int) := by decide
  exact key ⟨a, ha⟩
end Go.Proofs.YtpljmccnfmkmfaaGreat
end

section
namespace Go.Proofs.YtpljmccnfmkmfaaGreat
open Go Go.AM
set_option maxRecDepth 100000
set_option linter.unusedSimpArgs false

def qmE (kf : Nat → List UInt8) (Q : List Nat) : List (List UInt8 × PV) := Q.map fun v => (kf v, .bool true)
theorem qm_none {kf : Nat → List UInt8} {k : List UInt8} : ∀ {Q : List Nat}, (∀ m ∈ Q, kf m ≠ k) → midx k (qmE kf Q) = none
  | [], _ => rfl
  | m :: Q, h => by
    have e : qmE kf (m :: Q) = (kf m, .bool true) :: qmE kf Q := rfl
    rw [e]
    unfold midx
    rw [if_neg (fun e => h m (by simp) e.symm), qm_none fun x hx => h x (List.mem_cons_of_mem _ hx)]
    rfl
theorem qm_some {kf : Nat → List UInt8} {k : List UInt8} : ∀ {Q : List Nat}, (∃ m ∈ Q, kf m = k) → ∃ j, midx k (qmE kf Q) = some j ∧ (qmE kf Q).getD j default = (k, .bool true)
  | [], h => by obtain ⟨_, h, _⟩ := h; cases h
  | m :: Q, h => by
    have e : qmE kf (m :: Q) = (kf m, .bool true) :: qmE kf Q := rfl
    rw [e]
    unfold midx
    by_cases hk : k = kf m
    · exact ⟨0, if_pos hk, by rw [hk]; rfl⟩
    · rw [if_neg hk]
      obtain ⟨x, hx, hxk⟩ := h
      have hx2 : x ∈ Q := (List.mem_cons.1 hx).resolve_left fun e => hk (by rw [← hxk, e])
      obtain ⟨j, h1, h2⟩ := qm_some ⟨x, hx2, hxk⟩
      refine ⟨j + 1, by rw [h1]; rfl, ?_⟩
      rw [List.getD_cons_succ]
      exact h2
theorem qm_hit {kf : Nat → List UInt8} {k : List UInt8} {Q : List Nat} (h : ∃ m ∈ Q, kf m = k) : mget k (qmE kf Q) = some (.bool true) := by
  obtain ⟨j, h1, h2⟩ := qm_some h
  unfold mget
  rw [h1, Option.map_some, h2]
theorem qm_miss {kf : Nat → List UInt8} {k : List UInt8} {Q : List Nat} (h : ∀ m ∈ Q, kf m ≠ k) : mget k (qmE kf Q) = none := by
  unfold mget
  rw [qm_none h]
  rfl
theorem qm_set {kf : Nat → List UInt8} {v : Nat} {Q : List Nat} (h : ∀ m ∈ Q, kf m ≠ kf v) : mset (kf v) (.bool true) (qmE kf Q) = qmE kf (Q ++ [v]) := by
  unfold mset
  rw [qm_none h]
  unfold qmE
  rw [List.map_append]
  rfl
theorem st_no32 {q : Nat} {ws : List (List UInt8)} (hv : Valid q ws) (v : Nat) : ∀ x ∈ stN ws q v, 32 ∉ x := by
  intro x hx h
  obtain ⟨y, hy, hs⟩ := run_ends _ x hx
  obtain ⟨a, ha, e⟩ := alph_of (hv.words y hy).2.2 32 (hs.subset h)
  have h16 := hv.q16
  have key : ∀ a : Fin 16, L16.getD a.val 0 ≠ 32 := by decide
  exact key ⟨a, by omega⟩ e.symm
theorem key_st {q : Nat} {ws : List (List UInt8)} (hv : Valid q ws) {u v : Nat} (hu : stN ws q u ≠ []) (hw : stN ws q v ≠ []) : keyS (stN ws q u) = keyS (stN ws q v) ↔ stN ws q u = stN ws q v :=
  ⟨key_inj hu hw (st_no32 hv u) (st_no32 hv v), fun e => by rw [e]⟩
end Go.Proofs.YtpljmccnfmkmfaaGreat
end

section
namespace Go.Proofs.YtpljmccnfmkmfaaGreat
open Go Go.AM Go.RowKit
set_option maxRecDepth 100000
set_option linter.unusedSimpArgs false

def facB (ws : List (List UInt8)) (w : List UInt8) : Bool := decide (0 < (Mc.runSt canL ws w).length)
def facE (q : Int) (ws : List (List UInt8)) (w : List UInt8) : Int := if codeCheck q ws = 0 then wordCheck q w else 1
def facR (q : Int) (ws : List (List UInt8)) (w : List UInt8) : Bool := decide (facE q ws w = 0) && facB ws w
theorem canL_le (l : List (List UInt8)) : (canL l).length ≤ l.length := by
  have h := compact_le (sortL l)
  rw [sortL_length] at h
  exact h
theorem tails_le (c : UInt8) : ∀ l : List (List UInt8), (Mc.tails c l).length ≤ l.length
  | [] => Nat.le_refl _
  | a :: l => by
    have ih := tails_le c l
    have e : Mc.tails c (a :: l) = Mc.tl1 c a ++ Mc.tails c l := rfl
    have h : (Mc.tl1 c a).length ≤ 1 := by
      cases a with
      | nil => exact Nat.zero_le _
      | cons d y =>
        rw [Mc.tl1_cons]
        split
        · exact Nat.le_refl _
        · exact Nat.zero_le _
    rw [e, List.length_append, List.length_cons]
    omega
theorem rdS_le (X S : List (List UInt8)) (c : UInt8) : (Mc.rdS X S c).length ≤ S.length + X.length := by
  unfold Mc.rdS
  rw [List.length_append]
  have h1 := tails_le c S
  have h2 := tails_le c X
  split
  · omega
  · simp only [List.length_nil]; omega
theorem begL_le : ∀ {X : List (List UInt8)}, (∀ x ∈ X, x.length ≤ 32) → (Mc.begL X).length ≤ 33 * X.length
  | [], _ => Nat.le_refl _
  | a :: l, h => by
    have ih := begL_le (X := l) fun x hx => h x (List.mem_cons_of_mem _ hx)
    have h1 := h a (by simp)
    have e : Mc.begL (a :: l) = Mc.ends a ++ Mc.begL l := rfl
    have e2 : (Mc.ends a).length = a.length + 1 := by unfold Mc.ends; rw [List.length_map, List.length_range]
    rw [e, List.length_append, List.length_cons, e2]
    omega
theorem run_le {X : List (List UInt8)} (h : ∀ x ∈ X, x.length ≤ 32) : ∀ (w : List UInt8) (i : Nat), i ≤ w.length → (Mc.runSt canL X (w.take i)).length ≤ 33 * X.length + i * X.length
  | w, 0, _ => by
    have e : Mc.runSt canL X (w.take 0) = canL (Mc.begL X) := rfl
    rw [e]
    exact Nat.le_trans (canL_le _) (Nat.le_trans (begL_le h) (by omega))
  | w, i + 1, hi => by
    have ih := run_le h w i (by omega)
    rw [List.take_succ_eq_append_getElem (by omega), Mc.runSt_snoc, Nat.add_mul, Nat.one_mul]
    exact Nat.le_trans (canL_le _) (Nat.le_trans (rdS_le _ _ _) (by omega))

theorem c34 (q : Int) (ws : List (List UInt8)) (w : List UInt8) (hwl : w.length ≤ 4000) : PFn Tryz.prog 34 [codeV q ws, .str w] [.bool (facR q ws w), .int .i64 (facE q ws w)] := by
  have e80 := t45 q ws
  have e86 := t80 q w
  unfold codeV at e80
  refine PFn.of_body hΓ Tryz.func34 (by kernel_rfl) rfl (AWp.seq (AWp.of_awpD [] hΓ hmix (by kernel_rfl) ?_))
  simp -implicitDefEqProofs only [Tryz.ntmps34, Tryz.results34, Nat.reduceAdd, Nat.reduceSub, codeV, go_sem]
  by_cases hc : codeCheck q ws = 0
  rotate_left
  · have r1 : facE q ws w = 1 := if_neg hc
    have r2 : facR q ws w = false := by unfold facR; rw [r1]; rfl
    rw [r1, r2]
    refine AWp.seq (AWp.of_awpD [] hΓ hmix (by kernel_rfl) ?_)
    simp -implicitDefEqProofs only [go_sem]
    refine callK_fn e80 (.still rfl) ?_
    simp -implicitDefEqProofs only [hc, go_sem]
  have r1 : facE q ws w = wordCheck q w := if_pos hc
  rw [hc] at e80
  by_cases hw0 : wordCheck q w = 0
  rotate_left
  · have r2 : facR q ws w = false := by unfold facR; rw [r1, decide_eq_false hw0]; rfl
    rw [r1, r2]
    refine AWp.seq (AWp.of_awpD [] hΓ hmix (by kernel_rfl) ?_)
    simp -implicitDefEqProofs only [go_sem]
    refine callK_fn e80 (.still rfl) ?_
    simp -implicitDefEqProofs only [go_sem]
    refine AWp.seq (AWp.of_awpD [] hΓ hmix (by kernel_rfl) ?_)
    simp -implicitDefEqProofs only [go_sem]
    refine callK_fn e86 (.still rfl) ?_
    simp -implicitDefEqProofs only [hw0, go_sem]
  have hv := valid_of hc
  have e87 := c87 q ws hv
  unfold codeV at e87
  have h32 : ∀ x ∈ ws, x.length ≤ 32 := fun x hx => (hv.words x hx).2.1
  have hlen := hv.len
  have r2 : facR q ws w = facB ws w := by unfold facR; rw [r1, hw0]; rfl
  rw [hw0] at r1 e86
  rw [r1, r2]
  refine AWp.seq (AWp.of_awpD [] hΓ hmix (by kernel_rfl) ?_)
  simp -implicitDefEqProofs only [go_sem]
  refine callK_fn e80 (.still rfl) ?_
  simp -implicitDefEqProofs only [go_sem]
  refine AWp.seq (AWp.of_awpD [] hΓ hmix (by kernel_rfl) ?_)
  simp -implicitDefEqProofs only [go_sem]
  refine callK_fn e86 (.still rfl) ?_
  simp -implicitDefEqProofs only [go_sem]
  refine AWp.seq (AWp.of_awpD [] hΓ hmix (by kernel_rfl) ?_)
  simp -implicitDefEqProofs only [go_sem]
  refine callK_fn e87 (.still rfl) ?_
  simp -implicitDefEqProofs only [go_sem]
  refine AWp.of_awpD [(10, 7)] hΓ hmix (by kernel_rfl) ?_
  simp -implicitDefEqProofs only [go_sem]
  refine AWp.loopI (fun i : Nat => ⟨mkF 36 [(1, .p (.str w)), (2, .ptr 0 0), (7, .p (.sl ((Mc.runSt canL ws (w.take i)).map .str))), (22, .p (.int .i64 w.length)), (23, .p (.int .i64 i))], [.box [.p (.int .i64 q), .p (.sl (ws.map .str))]]⟩)
    (fun i => i ≤ w.length) (fun i => w.length - i) 0 (by simp [go_sem, Mc.runSt]) (by omega) ?_
  intro i hi
  have hb := run_le h32 w i hi
  have hb2 : i * ws.length ≤ 4000 * 64 := Nat.mul_le_mul (by omega) hlen
  refine AWp.of_awpD [(10, 7)] hΓ hmix (by kernel_rfl) ?_
  by_cases hlt : i < w.length
  · have e88 := c88 q ws (Mc.runSt canL ws (w.take i)) w[i] (by omega) (by omega)
    have hrs : Mc.runSt canL ws (w.take (i + 1)) = canL (Mc.rdS ws (Mc.runSt canL ws (w.take i)) w[i]) := by
      rw [List.take_succ_eq_append_getElem hlt, Mc.runSt_snoc]
    rw [← hrs] at e88
    unfold codeV at e88
    have hgi : w.getD i 0 = w[i] := by rw [List.getD_eq_getElem?_getD, List.getElem?_eq_getElem hlt]; rfl
    simp -implicitDefEqProofs only [hlt, hgi, go_sem]
    refine callVPK_fn e88 (.still rfl) ?_
    simp -implicitDefEqProofs only [go_sem]
    exact ⟨by simp only [InR]; omega, i + 1, ⟨by simp, by simp⟩, by omega, by omega⟩
  have hiw : i = w.length := by omega
  subst hiw
  simp -implicitDefEqProofs only [Nat.lt_irrefl, Int.lt_irrefl, go_sem]
  rw [List.take_length]
  unfold facB
  exact decide_eq_decide.2 (by omega)
end Go.Proofs.YtpljmccnfmkmfaaGreat
end

section
namespace Go.Proofs.YtpljmccnfmkmfaaGreat
open Go Go.AM
set_option maxRecDepth 100000

def nodV (S : List (List UInt8)) (w : List UInt8) : PV := .agg [.sl (S.map .str), .str w]
def nodN (ws : List (List UInt8)) (q v : Nat) : PV := nodV (stN ws q v) (wn q v)
def seH (q : Nat) (ws : List (List UInt8)) (Q : List Nat) : List AObj := [.box [.p (.int .i64 q), .p (.sl (ws.map .str))], .mp (qmE (fun v => keyS (stN ws q v)) Q), .row 143 2 (Q.map (nodN ws q)) .lax]
def seR (q : Nat) (r : Option Nat) : List UInt8 := match r with
  | some v => wn q v
  | none => []
theorem st_root {q : Nat} {ws : List (List UInt8)} (hv : Valid q ws) : stN ws q 0 ≠ [] := by
  intro e
  have hp := hv.pos
  have : ws[0] ∈ stN ws q 0 := by
    refine mem_canL.2 (List.mem_flatMap.2 ⟨ws[0], List.getElem_mem hp, Mc.mem_ends.2 (List.suffix_refl _)⟩)
  rw [e] at this
  cases this
end Go.Proofs.YtpljmccnfmkmfaaGreat
end

section
namespace Go.Proofs.YtpljmccnfmkmfaaGreat
open Go Go.AM Go.Mc
set_option maxRecDepth 100000
set_option maxHeartbeats 4000000
set_option linter.unusedSimpArgs false

/-! ### plain: a list without repetitions -/
def addU (o : List (List UInt8)) (s : List UInt8) : List (List UInt8) := if s ∈ o then o else o ++ [s]
theorem addU_mem {o : List (List UInt8)} {s x : List UInt8} : x ∈ addU o s ↔ x ∈ o ∨ x = s := by
  unfold addU
  split
  · rename_i h
    exact ⟨.inl, fun h2 => h2.elim id fun e => e ▸ h⟩
  · simp
theorem addU_nodup {o : List (List UInt8)} {s : List UInt8} (h : o.Nodup) : (addU o s).Nodup := by
  unfold addU
  split
  · exact h
  · rename_i h2
    refine List.nodup_append.2 ⟨h, by simp, fun a ha b hb e => ?_⟩
    rw [List.mem_singleton.1 hb] at e
    exact h2 (e ▸ ha)
theorem addU_len (o : List (List UInt8)) (s : List UInt8) : (addU o s).length ≤ o.length + 1 := by
  unfold addU; split <;> simp
theorem foldU_mem {x : List UInt8} : ∀ {l o : List (List UInt8)}, x ∈ l.foldl addU o ↔ x ∈ o ∨ x ∈ l
  | [], o => by simp
  | s :: l, o => by rw [List.foldl_cons, foldU_mem, addU_mem, List.mem_cons]; simp only [or_assoc]
theorem foldU_nodup : ∀ {l o : List (List UInt8)}, o.Nodup → (l.foldl addU o).Nodup
  | [], _, h => h
  | s :: l, o, h => by rw [List.foldl_cons]; exact foldU_nodup (addU_nodup h)
theorem foldU_len : ∀ (l o : List (List UInt8)), (l.foldl addU o).length ≤ o.length + l.length
  | [], o => by simp
  | s :: l, o => by
    rw [List.foldl_cons]
    have := foldU_len l (addU o s)
    have := addU_len o s
    simp only [List.length_cons]; omega

theorem h152 (a : List (List UInt8)) (x : List UInt8) (hl : a.length ≤ 1000000000) : PFn Tryz.prog 152 [.sl (a.map .str), .str x] [.bool (decide (x ∈ a))] := by
  refine PFn.of_body hΓ Tryz.func152 (by kernel_rfl) rfl (AWp.of_awpD [] hΓ hmix (by kernel_rfl) ?_)
  simp -implicitDefEqProofs only [Tryz.ntmps152, Tryz.results152, Nat.reduceAdd, Nat.reduceSub, go_sem]
  refine AWp.loopI (fun k : Nat => ⟨mkF 18 [(0, .p (.sl (a.map .str))), (1, .p (.str x)), (5, .p (.int .i64 k))], []⟩)
    (fun k => k ≤ a.length ∧ x ∉ a.take k) (fun k => a.length - k) 0 (by simp [go_sem, weakH_self]) (by simp) ?_
  rintro k ⟨hk, h0⟩
  refine AWp.of_awpD [] hΓ hmix (by kernel_rfl) ?_
  by_cases hlt : k < a.length
  · have hlt' : (k : Int) < (a.length : Int) := by omega
    have hg : (a.map PV.str).getD k default = .str a[k] := getD_map_lt _ _ _ _ hlt
    have htk : a.take (k + 1) = a.take k ++ [a[k]] := by rw [List.take_succ_eq_append_getElem hlt]
    by_cases he : a[k] = x
    · simp -implicitDefEqProofs only [hlt', hg, Int.toNat_natCast, he, List.length_map, go_sem]
      have hx : x ∈ a := he ▸ List.getElem_mem hlt
      simp -implicitDefEqProofs only [hx, go_sem]
    · simp -implicitDefEqProofs only [hlt', hg, Int.toNat_natCast, he, List.length_map, go_sem]
      have h2 : x ∉ a.take (k + 1) := by
        rw [htk]; simp only [List.mem_append, List.mem_singleton]
        exact fun h => h.elim h0 fun e => he e.symm
      exact ⟨by simp only [InR]; omega, k + 1, by simp, ⟨hlt, h2⟩, by omega⟩
  · have hlt' : ¬ (k : Int) < (a.length : Int) := by omega
    rw [List.take_of_length_le (by omega)] at h0
    simp -implicitDefEqProofs only [hlt', h0, List.length_map, go_sem]

def SameL (a b : List (List UInt8)) : Prop := a.length = b.length ∧ ∀ x ∈ a, x ∈ b
instance (a b : List (List UInt8)) : Decidable (SameL a b) := by unfold SameL; exact inferInstance
theorem h144 (a b : List (List UInt8)) (ha : a.length ≤ 1000000000) (hb : b.length ≤ 1000000000) : PFn Tryz.prog 144 [.sl (a.map .str), .sl (b.map .str)] [.bool (decide (SameL a b))] := by
  refine PFn.of_body hΓ Tryz.func144 (by kernel_rfl) rfl (AWp.seq (AWp.of_awpD [] hΓ hmix (by kernel_rfl) ?_))
  simp -implicitDefEqProofs only [Tryz.ntmps144, Tryz.results144, Nat.reduceAdd, Nat.reduceSub, go_sem]
  refine AWp.seq (AWp.of_awpD [] hΓ hmix (by kernel_rfl) ?_)
  by_cases hl : a.length = b.length
  rotate_left
  · have hl' : ¬ (a.length : Int) = (b.length : Int) := by omega
    have hn : ¬ SameL a b := fun h => hl h.1
    simp -implicitDefEqProofs only [hl', hn, List.length_map, go_sem]
  have hl' : (a.length : Int) = (b.length : Int) := by omega
  simp -implicitDefEqProofs only [hl', List.length_map, go_sem]
  refine AWp.seq (AWp.of_awpD [] hΓ hmix (by kernel_rfl) ?_)
  simp -implicitDefEqProofs only [go_sem]
  refine AWp.loopI (fun k : Nat => ⟨mkF 24 [(0, .p (.sl (a.map .str))), (1, .p (.sl (b.map .str))), (5, .p (.int .i64 k))], []⟩)
    (fun k => k ≤ a.length ∧ ∀ x ∈ a.take k, x ∈ b) (fun k => a.length - k) 0 (by simp [go_sem, weakH_self]) (by simp) ?_
  rintro k ⟨hk, h0⟩
  refine AWp.of_awpD [] hΓ hmix (by kernel_rfl) ?_
  by_cases hlt : k < a.length
  · have hlt' : (k : Int) < (a.length : Int) := by omega
    have hg : (a.map PV.str).getD k default = .str a[k] := getD_map_lt _ _ _ _ hlt
    simp -implicitDefEqProofs only [hlt', hg, Int.toNat_natCast, List.length_map, go_sem]
    refine callK_fn (h152 b a[k] hb) (.pures rfl) ?_
    by_cases hin : a[k] ∈ b
    · simp -implicitDefEqProofs only [hin, go_sem]
      refine ⟨by simp only [InR]; omega, k + 1, by simp, ⟨hlt, fun x hx => ?_⟩, by omega⟩
      rw [List.take_succ_eq_append_getElem hlt, List.mem_append, List.mem_singleton] at hx
      exact hx.elim (h0 x) fun e => e ▸ hin
    · have hn : ¬ SameL a b := fun h => hin (h.2 _ (List.getElem_mem hlt))
      simp -implicitDefEqProofs only [hin, hn, go_sem]
  · have hlt' : ¬ (k : Int) < (a.length : Int) := by omega
    rw [List.take_of_length_le (by omega)] at h0
    have hs : SameL a b := ⟨hl, h0⟩
    simp -implicitDefEqProofs only [hlt', hs, List.length_map, go_sem]
    refine AWp.of_awpD [] hΓ hmix (by kernel_rfl) ?_
    simp -implicitDefEqProofs only [go_sem]

def dropsW (w : List UInt8) : List (List UInt8) := (List.range w.length).map fun k => w.drop k
def startL (ws : List (List UInt8)) : List (List UInt8) := (ws.flatMap dropsW).foldl addU [[]]
def stI (ws : List (List UInt8)) (i : Nat) : List (List UInt8) := ((ws.take i).flatMap dropsW).foldl addU [[]]
def stK (ws : List (List UInt8)) (i : Nat) (w : List UInt8) (k : Nat) : List (List UInt8) := ((List.range k).map fun j => w.drop j).foldl addU (stI ws i)
theorem stI_succ {ws : List (List UInt8)} {i : Nat} (hi : i < ws.length) : stI ws (i + 1) = stK ws i ws[i] ws[i].length := by
  unfold stI stK dropsW
  rw [List.take_succ_eq_append_getElem hi, List.flatMap_append, List.foldl_append]
  simp only [List.flatMap_cons, List.flatMap_nil, List.append_nil]
  rfl
theorem stK_succ {ws : List (List UInt8)} {i : Nat} (w : List UInt8) (k : Nat) : stK ws i w (k + 1) = addU (stK ws i w k) (w.drop k) := by
  unfold stK
  rw [List.range_succ, List.map_append, List.foldl_append]; rfl
theorem stK_len {ws : List (List UInt8)} {i : Nat} (w : List UInt8) (k : Nat) : (stK ws i w k).length ≤ (stI ws i).length + k := by
  unfold stK
  have := foldU_len ((List.range k).map fun j => w.drop j) (stI ws i)
  simpa using this
theorem stI_len {ws : List (List UInt8)} (hw : ∀ x ∈ ws, x.length ≤ 32) : ∀ i, i ≤ ws.length → (stI ws i).length ≤ 1 + 32 * i
  | 0, _ => by simp [stI]
  | i + 1, h => by
    have h1 := stI_len hw i (by omega)
    have h2 := hw ws[i] (List.getElem_mem (by omega))
    have h3 := stK_len (ws := ws) (i := i) ws[i] ws[i].length
    rw [stI_succ (by omega)]; omega
theorem mem_startL {ws : List (List UInt8)} (hp : ws ≠ []) {x : List UInt8} : x ∈ startL ws ↔ x ∈ begL ws := by
  unfold startL begL
  rw [foldU_mem, List.mem_flatMap, List.mem_flatMap]
  constructor
  · rintro (h | ⟨w, hw, h⟩)
    · obtain ⟨w, r, rfl⟩ := List.exists_cons_of_ne_nil hp
      exact ⟨w, by simp, by rw [List.mem_singleton.1 h]; exact mem_ends.2 (List.nil_suffix)⟩
    · refine ⟨w, hw, mem_ends.2 ?_⟩
      unfold dropsW at h
      obtain ⟨k, _, rfl⟩ := List.mem_map.1 h
      exact List.drop_suffix k w
  · rintro ⟨w, hw, h⟩
    obtain ⟨p, rfl⟩ := mem_ends.1 h
    rcases List.eq_nil_or_concat x with h0 | ⟨y, c, h0⟩
    · left; subst h0; simp
    · right
      refine ⟨_, hw, ?_⟩
      unfold dropsW
      refine List.mem_map.2 ⟨p.length, List.mem_range.2 ?_, List.drop_left⟩
      rw [List.length_append, h0]; simp
theorem startL_nodup (ws : List (List UInt8)) : (startL ws).Nodup := foldU_nodup (by simp)

theorem h89 (q : Int) (ws : List (List UInt8)) (hv : Valid q ws) : PFn Tryz.prog 89 [codeV q ws] [.sl ((startL ws).map .str)] := by
  have hlen := hv.len
  have hw32 : ∀ x ∈ ws, x.length ≤ 32 := fun x hx => (hv.words x hx).2.1
  refine PFn.of_body hΓ Tryz.func89 (by kernel_rfl) rfl (AWp.seq (AWp.of_awpD [] hΓ hmix (by kernel_rfl) ?_))
  simp -implicitDefEqProofs only [Tryz.ntmps89, Tryz.results89, Nat.reduceAdd, Nat.reduceSub, codeV, go_sem]
  refine AWp.seq (AWp.of_awpD [] hΓ hmix (by kernel_rfl) ?_)
  simp -implicitDefEqProofs only [go_sem]
  refine ⟨by simp [sizeOK, PV.cells], ?_⟩
  refine AWp.adopt (l := [.str []]) 3 9 1 (by rfl) (by simp [PV.cells]) ?_
  simp -implicitDefEqProofs only [go_sem]
  refine AWp.seq (AWp.of_awpD [] hΓ hmix (by kernel_rfl) ?_)
  simp -implicitDefEqProofs only [go_sem]
  refine AWp.loopI (fun i : Nat => ⟨mkF 41 [(1, .ptr 0 0), (3, .own 1 (stI ws i).length), (4, .p (.int .i64 i))], [.box [.p (.int .i64 q), .p (.sl (ws.map .str))], .row 9 1 ((stI ws i).map .str) .lax]⟩)
    (fun i => i ≤ ws.length) (fun i => ws.length - i) 0 (by simp [go_sem, stI, weakH_self]) (by simp) ?_
  intro i hi
  have hiL := stI_len hw32 i hi
  refine AWp.of_awpD [] hΓ hmix (by kernel_rfl) ?_
  by_cases hlt : i < ws.length
  rotate_left
  · have hlt' : ¬ (i : Int) < (ws.length : Int) := by omega
    have hst : stI ws i = startL ws := by unfold stI startL; rw [List.take_of_length_le (by omega)]
    simp -implicitDefEqProofs only [hlt', List.length_map, hst, go_sem]
    refine AWp.of_awpD [] hΓ hmix (by kernel_rfl) ?_
    simp -implicitDefEqProofs only [go_sem]
  have hlt' : (i : Int) < (ws.length : Int) := by omega
  have hw := hw32 ws[i] (List.getElem_mem hlt)
  simp -implicitDefEqProofs only [hlt', List.length_map, go_sem]
  refine AWp.loopI (fun k : Nat => ⟨mkF 41 [(1, .ptr 0 0), (3, .own 1 (stK ws i ws[i] k).length), (4, .p (.int .i64 i)), (5, .p (.int .i64 k))], [.box [.p (.int .i64 q), .p (.sl (ws.map .str))], .row 9 1 ((stK ws i ws[i] k).map .str) .lax]⟩)
    (fun k => k ≤ ws[i].length) (fun k => ws[i].length - k) 0 (by simp [go_sem, stK, weakH_self]) (by simp) ?_
  intro k hk
  have hkL := stK_len (ws := ws) (i := i) ws[i] k
  have hg : (ws.map PV.str).getD i default = .str ws[i] := getD_map_lt _ _ _ _ hlt
  refine AWp.of_awpD [] hΓ hmix (by kernel_rfl) ?_
  by_cases hkl : k < ws[i].length
  rotate_left
  · have hkl' : ¬ (k : Int) < (ws[i].length : Int) := by omega
    have hkk : k = ws[i].length := by omega
    subst hkk
    have hs := stI_succ hlt
    simp -implicitDefEqProofs only [hlt', hg, Int.toNat_natCast, hkl', List.length_map, go_sem]
    exact ⟨by simp only [InR]; omega, i + 1, ⟨by rw [hs]; simp, by rw [hs]⟩, by omega, by omega⟩
  have hkl' : (k : Int) < (ws[i].length : Int) := by omega
  have hs := stK_succ (ws := ws) (i := i) ws[i] k
  simp -implicitDefEqProofs only [hlt', hg, Int.toNat_natCast, hkl', List.length_map, go_sem]
  refine ⟨by omega, ?_⟩
  refine callK_fn (h152 (stK ws i ws[i] k) (ws[i].drop k) (by omega)) (.owned rfl rfl) ?_
  by_cases hin : ws[i].drop k ∈ stK ws i ws[i] k
  · have hs : stK ws i ws[i] (k + 1) = stK ws i ws[i] k := by rw [hs]; exact if_pos hin
    simp -implicitDefEqProofs only [hin, go_sem]
    exact ⟨by simp only [InR]; omega, k + 1, ⟨⟨by rw [hs], by simp⟩, by rw [hs]⟩, by omega, by omega⟩
  · have hs : stK ws i ws[i] (k + 1) = stK ws i ws[i] k ++ [ws[i].drop k] := by rw [hs]; exact if_neg hin
    simp -implicitDefEqProofs only [hin, go_sem]
    have hs1 : sizeOK [PV.str (ws[i].drop k)] 1 := by simp [sizeOK, PV.cells]
    have ho1 : oneOK [PV.str (ws[i].drop k)] := by simp [oneOK, PV.cells, PV.isAgg]
    refine ⟨⟨hs1, by omega⟩, ⟨hs1, ho1⟩, ⟨by simp, by omega, by omega⟩, by simp only [InR]; omega, k + 1, ⟨⟨by rw [hs]; simp, by simp⟩, by rw [hs]; simp⟩, by omega, by omega⟩
end Go.Proofs.YtpljmccnfmkmfaaGreat
end

section
namespace Go.Proofs.YtpljmccnfmkmfaaGreat
open Go Go.AM Go.Mc
set_option maxRecDepth 100000
set_option maxHeartbeats 4000000
set_option linter.unusedSimpArgs false

theorem nodup_lenM {α : Type} [DecidableEq α] : ∀ {l m : List α}, l.Nodup → (∀ a ∈ l, a ∈ m) → l.length ≤ m.length
  | [], _, _, _ => by simp
  | a :: l, m, h, hs => by
    rw [List.nodup_cons] at h
    have ha : a ∈ m := hs a (by simp)
    have h2 := nodup_lenM (l := l) (m := m.erase a) h.2 (fun b hb => by
      have hne : b ≠ a := fun e => h.1 (e ▸ hb)
      exact (List.mem_erase_of_ne hne).2 (hs b (by simp [hb])))
    have h3 := List.length_erase_of_mem ha
    have h4 : 0 < m.length := List.length_pos_of_mem ha
    simp; omega
theorem canL_ext {l m : List (List UInt8)} (h : ∀ x, x ∈ l ↔ x ∈ m) : canL l = canL m := canL_of (canL_strict m) fun x => (h x).trans mem_canL.symm
theorem canL_mem {l m : List (List UInt8)} (h : canL l = canL m) (x : List UInt8) : x ∈ l ↔ x ∈ m := by rw [← mem_canL, h, mem_canL]
theorem canL_nil {l : List (List UInt8)} : canL l = [] ↔ l = [] := by
  constructor
  · intro h
    cases l with
    | nil => rfl
    | cons a l => have : a ∈ canL (a :: l) := mem_canL.2 (by simp); rw [h] at this; cases this
  · rintro rfl
    cases h : canL [] with
    | nil => rfl
    | cons a l => have : a ∈ canL [] := by rw [h]; simp
                  cases mem_canL.1 this
theorem same_iff {a b : List (List UInt8)} (ha : a.Nodup) (hb : b.Nodup) : SameL a b ↔ canL a = canL b := by
  constructor
  · rintro ⟨h1, h2⟩
    refine canL_ext fun x => ⟨h2 x, fun hx => Classical.byContradiction fun hn => ?_⟩
    have h3 := nodup_lenM ha (m := b.erase x) fun y hy => (List.mem_erase_of_ne (fun e => hn (by rw [← e]; exact hy))).2 (h2 y hy)
    have h4 := List.length_erase_of_mem hx
    have h5 : 0 < b.length := List.length_pos_of_mem hx
    omega
  · intro h
    have hm := canL_mem h
    exact ⟨Nat.le_antisymm (nodup_lenM ha fun x hx => (hm x).1 hx) (nodup_lenM hb fun x hx => (hm x).2 hx), fun x hx => (hm x).1 hx⟩

def readL (ws S : List (List UInt8)) (c : UInt8) : List (List UInt8) := (rdS ws S c).foldl addU []
theorem mem_readL {ws S : List (List UInt8)} {c : UInt8} {x : List UInt8} : x ∈ readL ws S c ↔ x ∈ rdS ws S c := by unfold readL; rw [foldU_mem]; simp
theorem readL_nodup (ws S : List (List UInt8)) (c : UInt8) : (readL ws S c).Nodup := foldU_nodup (by simp)
theorem rdS_ext {ws S T : List (List UInt8)} (h : ∀ x, x ∈ S ↔ x ∈ T) (c : UInt8) (x : List UInt8) : x ∈ rdS ws S c ↔ x ∈ rdS ws T c := by
  unfold rdS
  rw [List.mem_append, List.mem_append, mem_tails, mem_tails, h]
  simp only [h]
theorem readL_canL {ws S : List (List UInt8)} {c : UInt8} : canL (readL ws S c) = canL (rdS ws (canL S) c) := canL_ext fun x => mem_readL.trans (rdS_ext (fun _ => mem_canL.symm) c x)

def FewS (ws : List (List UInt8)) (q : Nat) : Prop := ∃ T : List (List (List UInt8)), T.length ≤ 300 ∧ ∀ v, stN ws q v = [] ∨ stN ws q v ∈ T

structure ManyI (ws : List (List UInt8)) (q : Nat) (sets : List (List (List UInt8))) (i a : Nat) : Prop where
  nd : ∀ s ∈ sets, s.Nodup
  reach : ∀ s ∈ sets, ∃ v, canL s = stN ws q v ∧ stN ws q v ≠ []
  dist : sets.Pairwise fun s t => canL s ≠ canL t
  root : ∃ s ∈ sets, canL s = stN ws q 0
  closed : ∀ k b, (hk : k < sets.length) → b < q → (k < i ∨ k = i ∧ b < a) → canL (readL ws sets[k] (Kn.ltr b)) = [] ∨ ∃ s ∈ sets, canL s = canL (readL ws sets[k] (Kn.ltr b))
theorem read_st {ws : List (List UInt8)} {q : Nat} (hq : 0 < q) {s : List (List UInt8)} {v b : Nat} (hb : b < q) (h : canL s = stN ws q v) : canL (readL ws s (Kn.ltr b)) = stN ws q (v * q + b + 1) := by
  rw [readL_canL, stN_succ hq v b hb, h]
theorem ManyI.start {ws : List (List UInt8)} {q : Nat} (hp : ws ≠ []) : ManyI ws q [startL ws] 0 0 := by
  have h0 : canL (startL ws) = stN ws q 0 := canL_ext fun x => mem_startL hp
  have hne : stN ws q 0 ≠ [] := by
    rw [← h0]
    intro e
    have h1 := canL_nil.1 e
    have : ([] : List UInt8) ∈ startL ws := foldU_mem.2 (.inl (by simp))
    rw [h1] at this
    cases this
  exact { nd := fun s hs => by rw [List.mem_singleton.1 hs]; exact startL_nodup ws
          reach := fun s hs => ⟨0, by rw [List.mem_singleton.1 hs, h0], hne⟩
          dist := by simp
          root := ⟨_, by simp, h0⟩
          closed := fun k b hk hb h => by omega }
theorem ManyI.skip {ws : List (List UInt8)} {q : Nat} {sets : List (List (List UInt8))} {i a : Nat} (M : ManyI ws q sets i a) (hi : i < sets.length)
    (h : readL ws sets[i] (Kn.ltr a) = [] ∨ ∃ s ∈ sets, SameL s (readL ws sets[i] (Kn.ltr a))) : ManyI ws q sets i (a + 1) :=
  { M with
    closed := fun k b hk hb h2 => by
      by_cases e : k = i ∧ b = a
      · obtain ⟨e1, e2⟩ := e
        subst e1 e2
        rcases h with h | ⟨s, hs, h⟩
        · exact .inl (canL_nil.2 h)
        · exact .inr ⟨s, hs, (same_iff (M.nd s hs) (readL_nodup _ _ _)).1 h⟩
      · exact M.closed k b hk hb (by omega) }
theorem ManyI.add {ws : List (List UInt8)} {q : Nat} (hq : 0 < q) {sets : List (List (List UInt8))} {i a : Nat} (M : ManyI ws q sets i a) (hi : i < sets.length) (ha : a < q)
    (h0 : readL ws sets[i] (Kn.ltr a) ≠ []) (h : ∀ s ∈ sets, ¬ SameL s (readL ws sets[i] (Kn.ltr a))) : ManyI ws q (sets ++ [readL ws sets[i] (Kn.ltr a)]) i (a + 1) where
  nd := fun s hs => by
    rcases List.mem_append.1 hs with hs | hs
    · exact M.nd s hs
    · rw [List.mem_singleton.1 hs]; exact readL_nodup _ _ _
  reach := fun s hs => by
    rcases List.mem_append.1 hs with hs | hs
    · exact M.reach s hs
    · rw [List.mem_singleton.1 hs]
      obtain ⟨v, hv, _⟩ := M.reach _ (List.getElem_mem hi)
      have e := read_st hq ha hv
      exact ⟨_, e, by rw [← e]; exact fun e2 => h0 (canL_nil.1 e2)⟩
  dist := List.pairwise_append.2 ⟨M.dist, by simp, fun x hx y hy => by
    rw [List.mem_singleton.1 hy]
    exact fun e => h x hx ((same_iff (M.nd x hx) (readL_nodup _ _ _)).2 e)⟩
  root := by obtain ⟨s, hs, h⟩ := M.root; exact ⟨s, List.mem_append_left _ hs, h⟩
  closed := fun k b hk hb h2 => by
    have hkQ : k < sets.length := by omega
    have e0 : (sets ++ [readL ws sets[i] (Kn.ltr a)])[k] = sets[k] := List.getElem_append_left hkQ
    rw [e0]
    by_cases e : k = i ∧ b = a
    · obtain ⟨e1, e2⟩ := e
      subst e1 e2
      exact .inr ⟨_, List.mem_append_right _ (List.mem_singleton.2 rfl), rfl⟩
    · rcases M.closed k b hkQ hb (by omega) with h3 | ⟨s, hs, h3⟩
      · exact .inl h3
      · exact .inr ⟨s, List.mem_append_left _ hs, h3⟩
theorem ManyI.next {ws : List (List UInt8)} {q : Nat} {sets : List (List (List UInt8))} {i : Nat} (M : ManyI ws q sets i q) : ManyI ws q sets (i + 1) 0 :=
  { M with closed := fun k b hk hb h2 => M.closed k b hk hb (by omega) }
theorem ManyI.few {ws : List (List UInt8)} {q : Nat} (hq : 0 < q) {sets : List (List (List UInt8))} (M : ManyI ws q sets sets.length 0) (hl : sets.length ≤ 300) : FewS ws q := by
  refine ⟨sets.map canL, by simpa using hl, fun v => ?_⟩
  induction v using Nat.strongRecOn with
  | _ v ih =>
    rcases num_cases hq v with h | ⟨u, b, hb, rfl, hu⟩
    · subst h
      obtain ⟨s, hs, h⟩ := M.root
      exact .inr (List.mem_map.2 ⟨s, hs, h⟩)
    · rcases ih u hu with h | h
      · left
        rw [stN_succ hq u b hb, h]
        exact canL_nil.2 rfl
      · obtain ⟨s, hs, h⟩ := List.mem_map.1 h
        obtain ⟨k, hk, rfl⟩ := List.getElem_of_mem hs
        rw [← read_st hq hb h]
        rcases M.closed k b hk hb (.inl hk) with h2 | ⟨t, ht, h2⟩
        · exact .inl h2
        · exact .inr (List.mem_map.2 ⟨t, ht, h2⟩)
theorem ManyI.many {ws : List (List UInt8)} {q : Nat} {sets : List (List (List UInt8))} {i a : Nat} (M : ManyI ws q sets i a) (hl : 300 < sets.length) : ¬ FewS ws q := by
  rintro ⟨T, hT, h⟩
  have h1 : (sets.map canL).Nodup := List.pairwise_map.2 M.dist
  have h2 := nodup_lenM h1 (m := T) fun s hs => by
    obtain ⟨t, ht, rfl⟩ := List.mem_map.1 hs
    obtain ⟨v, hv, hne⟩ := M.reach t ht
    rw [hv]
    exact (h v).resolve_left hne
  rw [List.length_map] at h2
  omega
theorem few_queue {ws : List (List UInt8)} {q : Nat} (hF : FewS ws q) {Q : List Nat} {i a : Nat} (B : Bfs q (stN ws q) (fun S => S = []) Q i a) : Q.length ≤ 300 := by
  obtain ⟨T, hT, h⟩ := hF
  have h1 : (Q.map (stN ws q)).Nodup := List.pairwise_map.2 B.dist
  have h2 := nodup_lenM h1 (m := T) fun s hs => by
    obtain ⟨v, hv, rfl⟩ := List.mem_map.1 hs
    exact (h v).resolve_left (B.alive v hv)
  rw [List.length_map] at h2
  omega
end Go.Proofs.YtpljmccnfmkmfaaGreat
end

section
namespace Go.Proofs.YtpljmccnfmkmfaaGreat
open Go Go.AM
set_option maxRecDepth 100000
set_option linter.unusedSimpArgs false

end Go.Proofs.YtpljmccnfmkmfaaGreat
end

section
namespace Go.Proofs.YtpljmccnfmkmfaaGreat
open Go Go.AM
set_option maxRecDepth 100000
set_option linter.unusedSimpArgs false

end Go.Proofs.YtpljmccnfmkmfaaGreat
end

section
namespace Go.Proofs.YtpljmccnfmkmfaaGreat
open Go Go.AM
set_option maxRecDepth 100000
set_option maxHeartbeats 4000000
set_option linter.unusedSimpArgs false

def longW (w : List UInt8) : Bool := decide (5 < w.length) && decide (w.length ≤ 32)
def muchC (q : Int) (ws : List (List UInt8)) : Bool := decide (6 < ws.length) || (decide (3 < q) && decide (q ≤ 16))
def great36 (q : Int) (ws : List (List UInt8)) : Bool := ws.any longW || muchC q ws

theorem gr36 (q : Int) (ws : List (List UInt8)) (hl : ws.length ≤ 9223372036854775807) : PFn Tryz.prog 43 [codeV q ws] [.bool (great36 q ws)] := by
  refine PFn.of_body hΓ Tryz.func43 (by kernel_rfl) rfl (AWp.of_awpD [] hΓ hmix (by kernel_rfl) ?_)
  simp -implicitDefEqProofs only [Tryz.ntmps43, Tryz.results43, Nat.reduceAdd, Nat.reduceSub, codeV, go_sem]
  refine AWp.loopI (fun k : Nat => ⟨mkF 41 [(1, .ptr 0 0), (2, .p (.bool false)), (3, .p (.int .i64 k))], [codeB q ws]⟩)
    (fun k => k ≤ ws.length ∧ (ws.take k).any longW = false) (fun k => ws.length - k) 0 (by simp [go_sem, codeB]) (by simp) ?_
  rintro k ⟨hk, hno⟩
  refine AWp.of_awpD [] hΓ hmix (by kernel_rfl) ?_
  by_cases hlt : k < ws.length
  · by_cases h5 : (5 : Int) < ws[k].length
    · by_cases h32 : (ws[k].length : Int) ≤ 32
      · simp -implicitDefEqProofs only [hlt, h5, h32, getD_map_lt, ↓reduceIte, codeB, go_sem]
        have : ws.any longW = true := List.any_eq_true.2 ⟨_, List.getElem_mem hlt, by unfold longW; simp only [Bool.and_eq_true, decide_eq_true_eq]; omega⟩
        unfold great36
        rw [this]; rfl
      · have hno' : longW ws[k] = false := by unfold longW; simp only [Bool.and_eq_false_iff, decide_eq_false_iff_not]; omega
        simp -implicitDefEqProofs only [hlt, h5, h32, getD_map_lt, ↓reduceIte, codeB, go_sem]
        exact ⟨by simp only [InR]; omega, k + 1, by simp, ⟨hlt, by rw [List.take_succ_eq_append_getElem hlt, List.any_append, hno]; simp [hno']⟩, by omega⟩
    · have hno' : longW ws[k] = false := by unfold longW; simp only [Bool.and_eq_false_iff, decide_eq_false_iff_not]; omega
      simp -implicitDefEqProofs only [hlt, h5, getD_map_lt, ↓reduceIte, codeB, go_sem]
      exact ⟨by simp only [InR]; omega, k + 1, by simp, ⟨hlt, by rw [List.take_succ_eq_append_getElem hlt, List.any_append, hno]; simp [hno']⟩, by omega⟩
  · rw [List.take_of_length_le (by omega)] at hno
    unfold great36 muchC
    rw [hno]
    by_cases h6 : (6 : Int) < ws.length
    · simp -implicitDefEqProofs only [hlt, h6, codeB, go_sem]
      rw [decide_eq_true (by omega : 6 < ws.length)]; rfl
    · by_cases h3 : 3 < q
      · simp -implicitDefEqProofs only [hlt, h6, h3, codeB, go_sem]
        rw [decide_eq_false (by omega : ¬ 6 < ws.length)]; rfl
      · simp -implicitDefEqProofs only [hlt, h6, h3, codeB, go_sem]
        rw [decide_eq_false (by omega : ¬ 6 < ws.length)]; rfl

end Go.Proofs.YtpljmccnfmkmfaaGreat
end

section
namespace Go.Proofs.YtpljmccnfmkmfaaGreat
open Go Go.AM Go.Mc
set_option maxRecDepth 100000
set_option maxHeartbeats 4000000
set_option linter.unusedSimpArgs false

def r1S (S : List (List UInt8)) (c : UInt8) (i : Nat) : List (List UInt8) := (tails c (S.take i)).foldl addU []
def r2S (ws S : List (List UInt8)) (c : UInt8) (k : Nat) : List (List UInt8) := (tails c S ++ tails c (ws.take k)).foldl addU []
theorem r1S_succ {S : List (List UInt8)} {c : UInt8} {i : Nat} (hi : i < S.length) : r1S S c (i + 1) = (tl1 c S[i]).foldl addU (r1S S c i) := by
  unfold r1S; rw [tails_succ hi, List.foldl_append]
theorem r2S_succ {ws S : List (List UInt8)} {c : UInt8} {k : Nat} (hk : k < ws.length) : r2S ws S c (k + 1) = (tl1 c ws[k]).foldl addU (r2S ws S c k) := by
  unfold r2S; rw [tails_succ hk, ← List.append_assoc, List.foldl_append]
theorem r1S_len (S : List (List UInt8)) (c : UInt8) (i : Nat) : (r1S S c i).length ≤ S.length := by
  unfold r1S
  have h1 := foldU_len (tails c (S.take i)) []
  have h2 := tails_len c (S.take i)
  rw [List.length_take] at h2
  simp only [List.length_nil] at h1
  omega
theorem r2S_len (ws S : List (List UInt8)) (c : UInt8) (k : Nat) : (r2S ws S c k).length ≤ S.length + ws.length := by
  unfold r2S
  have h1 := foldU_len (tails c S ++ tails c (ws.take k)) []
  have h2 := tails_len c (ws.take k)
  have h3 := tails_len c S
  rw [List.length_take] at h2
  rw [List.length_append] at h1
  simp only [List.length_nil] at h1
  omega

theorem h90 (q : Int) (ws S : List (List UInt8)) (c : UInt8) (hv : Valid q ws) (hS : S.length ≤ 1000000) :
    PFn Tryz.prog 90 [codeV q ws, .sl (S.map .str), .int .u8 c.toNat] [.sl ((readL ws S c).map .str)] := by
  have hlen := hv.len
  have hne : ∀ x ∈ ws, x ≠ [] := fun x hx e => by have := (hv.words x hx).1; rw [e] at this; simp at this
  refine PFn.of_body hΓ Tryz.func90 (by kernel_rfl) rfl (AWp.seq (AWp.of_awpD [] hΓ hmix (by kernel_rfl) ?_))
  simp -implicitDefEqProofs only [Tryz.ntmps90, Tryz.results90, Nat.reduceAdd, Nat.reduceSub, codeV, go_sem]
  refine AWp.seq (AWp.of_awpD [] hΓ hmix (by kernel_rfl) ?_)
  simp -implicitDefEqProofs only [go_sem]
  refine ⟨by simp [sizeOK], ?_⟩
  refine AWp.adopt (l := []) 7 9 1 (by rfl) (by simp) ?_
  simp -implicitDefEqProofs only [go_sem]
  refine AWp.seq (AWp.seq (AWp.of_awpD [] hΓ hmix (by kernel_rfl) ?_))
  simp -implicitDefEqProofs only [go_sem]
  refine AWp.block ?_
  refine AWp.loopI (fun i : Nat => ⟨mkF 89 [(1, .p (.sl (S.map .str))), (2, .p (.int .u8 c.toNat)), (3, .ptr 0 0), (7, .own 1 (r1S S c i).length), (8, .p (.int .i64 i))], [.box [.p (.int .i64 q), .p (.sl (ws.map .str))], .row 9 1 ((r1S S c i).map .str) .lax]⟩)
    (fun i => i ≤ S.length) (fun i => S.length - i) 0 (by simp [go_sem, r1S, tails, weakH_self]) (by simp) ?_
  intro i hi
  have hoL := r1S_len S c i
  refine AWp.of_awpD [] hΓ hmix (by kernel_rfl) ?_
  by_cases hlt : i < S.length
  · have hlt' : (i : Int) < (S.length : Int) := by omega
    have hg : (S.map PV.str).getD i default = .str S[i] := getD_map_lt _ _ _ _ hlt
    have hs := r1S_succ (c := c) hlt
    by_cases hx0 : S[i] = []
    · rw [hx0] at hg hs
      have hs : r1S S c (i + 1) = r1S S c i := hs
      simp -implicitDefEqProofs only [hlt', hg, Int.toNat_natCast, List.length_map, go_sem]
      exact ⟨by simp only [InR]; omega, i + 1, ⟨⟨by rw [hs], by simp⟩, by rw [hs]⟩, by omega, by omega⟩
    obtain ⟨d, y, hx⟩ := List.exists_cons_of_ne_nil hx0
    rw [hx] at hg hs
    rw [tl1_cons] at hs
    have hg0 : (d :: y).getD (Int.toNat 0) 0 = d := rfl
    have hd1 : List.drop (Int.toNat 1) (d :: y) = y := rfl
    have hp : 0 < (((y.length + 1 : Nat)) : Int) := by omega
    by_cases hd : d = c
    · subst hd
      rw [if_pos rfl] at hs
      simp -implicitDefEqProofs only [hlt', hg, Int.toNat_natCast, List.length_cons, hg0, hp, hd1, List.length_map, go_sem]
      refine ⟨⟨by omega, by omega⟩, ?_⟩
      refine callK_fn (h152 (r1S S d i) y (by omega)) (.owned rfl rfl) ?_
      have hs : r1S S d (i + 1) = addU (r1S S d i) y := hs
      by_cases hin : y ∈ r1S S d i
      · have hs : r1S S d (i + 1) = r1S S d i := hs.trans (if_pos hin)
        simp -implicitDefEqProofs only [hin, go_sem]
        exact ⟨by simp only [InR]; omega, i + 1, ⟨⟨by rw [hs], by simp⟩, by rw [hs]⟩, by omega, by omega⟩
      · have hs : r1S S d (i + 1) = r1S S d i ++ [y] := hs.trans (if_neg hin)
        simp -implicitDefEqProofs only [hin, hlt', hg, Int.toNat_natCast, List.length_cons, hp, hd1, List.length_map, go_sem]
        have hs1 : sizeOK [PV.str y] 1 := by simp [sizeOK, PV.cells]
        have ho1 : oneOK [PV.str y] := by simp [oneOK, PV.cells, PV.isAgg]
        exact ⟨⟨by omega, by omega⟩, ⟨hs1, by omega⟩, ⟨hs1, ho1⟩, ⟨by simp, by omega, by omega⟩, by simp only [InR]; omega, i + 1, ⟨⟨by rw [hs]; simp, by simp⟩, by rw [hs]; simp⟩, by omega, by omega⟩
    · rw [if_neg hd] at hs
      have hs : r1S S c (i + 1) = r1S S c i := hs
      have hdc : ¬ d.toNat = c.toNat := fun e => hd (UInt8.toNat_inj.1 e)
      simp -implicitDefEqProofs only [hlt', hg, Int.toNat_natCast, List.length_cons, hg0, hp, hdc, List.length_map, go_sem]
      exact ⟨by simp only [InR]; omega, i + 1, ⟨⟨by rw [hs], by simp⟩, by rw [hs]⟩, by omega, by omega⟩
  have hlt' : ¬ (i : Int) < (S.length : Int) := by omega
  have h0 : r1S S c i = r2S ws S c 0 := by unfold r1S r2S; rw [List.take_of_length_le (by omega)]; simp [tails]
  rw [h0]
  simp -implicitDefEqProofs only [hlt', List.length_map, go_sem]
  refine AWp.seq (AWp.seq (AWp.of_awpD [] hΓ hmix (by kernel_rfl) ?_))
  simp -implicitDefEqProofs only [go_sem]
  refine AWp.block ?_
  refine AWp.loopI (fun k : Nat => ⟨mkF 89 [(1, .p (.sl (S.map .str))), (2, .p (.int .u8 c.toNat)), (3, .ptr 0 0), (7, .own 1 (r2S ws S c k).length), (9, .p (.int .i64 k))], [.box [.p (.int .i64 q), .p (.sl (ws.map .str))], .row 9 1 ((r2S ws S c k).map .str) .lax]⟩)
    (fun k => k ≤ ws.length ∧ ([] ∈ S ∨ k = 0)) (fun k => ws.length - k) 0 (by simp [go_sem, weakH_self]) (by simp) ?_
  rintro k ⟨hk, hin0⟩
  have hoL := r2S_len ws S c k
  have hpos := hv.pos
  refine AWp.of_awpD [] hΓ hmix (by kernel_rfl) ?_
  by_cases hkl : k < ws.length
  rotate_left
  · have hkl' : ¬ (k : Int) < (ws.length : Int) := by omega
    have hkk : k = ws.length := by omega
    have hS0 : [] ∈ S := hin0.resolve_right (by omega)
    have hr : r2S ws S c k = readL ws S c := by unfold r2S readL rdS; rw [if_pos hS0, List.take_of_length_le (by omega)]
    simp -implicitDefEqProofs only [hkl', List.length_map, hr, go_sem]
    refine AWp.of_awpD [] hΓ hmix (by kernel_rfl) ?_
    simp -implicitDefEqProofs only [go_sem]
  have hkl' : (k : Int) < (ws.length : Int) := by omega
  simp -implicitDefEqProofs only [hkl', List.length_map, go_sem]
  refine callK_fn (h152 S [] (by omega)) (.pures rfl) ?_
  by_cases hS0 : [] ∈ S
  rotate_left
  · have hk0 : k = 0 := hin0.resolve_left hS0
    subst hk0
    have hr : r2S ws S c 0 = readL ws S c := by unfold r2S readL rdS; rw [if_neg hS0]; rfl
    simp -implicitDefEqProofs only [hS0, hr, go_sem]
    refine AWp.of_awpD [] hΓ hmix (by kernel_rfl) ?_
    simp -implicitDefEqProofs only [go_sem]
  have hg : (ws.map PV.str).getD k default = .str ws[k] := getD_map_lt _ _ _ _ hkl
  have hs := r2S_succ (S := S) (c := c) hkl
  obtain ⟨d, y, hx⟩ := List.exists_cons_of_ne_nil (hne ws[k] (List.getElem_mem hkl))
  rw [hx] at hg hs
  rw [tl1_cons] at hs
  have hg0 : (d :: y).getD (Int.toNat 0) 0 = d := rfl
  have hd1 : List.drop (Int.toNat 1) (d :: y) = y := rfl
  have hp : 0 < (((y.length + 1 : Nat)) : Int) := by omega
  by_cases hd : d = c
  · subst hd
    rw [if_pos rfl] at hs
    simp -implicitDefEqProofs only [hkl', hS0, hg, Int.toNat_natCast, List.length_cons, hg0, hp, hd1, List.length_map, go_sem]
    refine ⟨⟨by omega, by omega⟩, ?_⟩
    refine callK_fn (h152 (r2S ws S d k) y (by omega)) (.owned rfl rfl) ?_
    have hs : r2S ws S d (k + 1) = addU (r2S ws S d k) y := hs
    by_cases hin : y ∈ r2S ws S d k
    · have hs : r2S ws S d (k + 1) = r2S ws S d k := hs.trans (if_pos hin)
      simp -implicitDefEqProofs only [hin, go_sem]
      exact ⟨by simp only [InR]; omega, k + 1, ⟨⟨by rw [hs], by simp⟩, by rw [hs]⟩, by omega, by omega⟩
    · have hs : r2S ws S d (k + 1) = r2S ws S d k ++ [y] := hs.trans (if_neg hin)
      simp -implicitDefEqProofs only [hin, hkl', hg, Int.toNat_natCast, List.length_cons, hp, hd1, List.length_map, go_sem]
      have hs1 : sizeOK [PV.str y] 1 := by simp [sizeOK, PV.cells]
      have ho1 : oneOK [PV.str y] := by simp [oneOK, PV.cells, PV.isAgg]
      exact ⟨⟨by omega, by omega⟩, ⟨hs1, by omega⟩, ⟨hs1, ho1⟩, ⟨by simp, by omega, by omega⟩, by simp only [InR]; omega, k + 1, ⟨⟨by rw [hs]; simp, by simp⟩, by rw [hs]; simp⟩, by omega, by omega⟩
  · rw [if_neg hd] at hs
    have hs : r2S ws S c (k + 1) = r2S ws S c k := hs
    have hdc : ¬ d.toNat = c.toNat := fun e => hd (UInt8.toNat_inj.1 e)
    simp -implicitDefEqProofs only [hkl', hS0, hg, Int.toNat_natCast, List.length_cons, hg0, hp, hdc, List.length_map, go_sem]
    exact ⟨by simp only [InR]; omega, k + 1, ⟨⟨by rw [hs], by simp⟩, by rw [hs]⟩, by omega, by omega⟩

theorem set_len {ws : List (List UInt8)} (hw : ∀ x ∈ ws, x.length ≤ 32) {q v : Nat} {s : List (List UInt8)} (hs : s.Nodup) (h : canL s = stN ws q v) : s.length ≤ 33 * ws.length := by
  have h1 := nodup_lenM hs (m := begL ws) fun x hx => by
    have hx2 : x ∈ stN ws q v := by rw [← h]; exact mem_canL.2 hx
    obtain ⟨y, hy, h3⟩ := run_ends _ x hx2
    exact List.mem_flatMap.2 ⟨y, hy, mem_ends.2 h3⟩
  have h2 := begT_len hw ws.length (Nat.le_refl _)
  unfold begT at h2
  rw [List.take_length] at h2
  unfold begL at h1
  omega
def slW (l : List (List UInt8)) : PV := .sl (l.map .str)
open Classical in
theorem h83 (q : Nat) (ws : List (List UInt8)) (hv : Valid q ws) : PFn Tryz.prog 83 [codeV q ws] [.bool (decide (¬ FewS ws q))] := by
  have hlen := hv.len
  have h2 := hv.q2
  have h16 := hv.q16
  have hw32 : ∀ x ∈ ws, x.length ≤ 32 := fun x hx => (hv.words x hx).2.1
  have hne : ws ≠ [] := fun e => by have := hv.pos; rw [e] at this; simp at this
  have e89 := h89 q ws hv
  unfold codeV at e89
  refine PFn.of_body hΓ Tryz.func83 (by kernel_rfl) rfl (AWp.seq (AWp.of_awpD [] hΓ hmix (by kernel_rfl) ?_))
  simp -implicitDefEqProofs only [Tryz.ntmps83, Tryz.results83, Nat.reduceAdd, Nat.reduceSub, codeV, go_sem]
  refine AWp.seq (AWp.of_awpD [] hΓ hmix (by kernel_rfl) ?_)
  simp -implicitDefEqProofs only [go_sem]
  refine callK_fn e89 (.still rfl) ?_
  simp -implicitDefEqProofs only [go_sem]
  refine ⟨⟨by simp [sizeOK, PV.cells], by omega⟩, ?_⟩
  refine AWp.adopt (l := [slW (startL ws)]) 3 22 1 (by rfl) (by simp [slW, PV.cells]) ?_
  simp -implicitDefEqProofs only [go_sem]
  refine AWp.seq (AWp.seq (AWp.of_awpD [] hΓ hmix (by kernel_rfl) ?_))
  simp -implicitDefEqProofs only [go_sem]
  refine AWp.block ?_
  refine AWp.loopI (fun x : List (List (List UInt8)) × Nat => ⟨mkF 60 [(1, .ptr 0 0), (3, .own 1 x.1.length), (4, .p (.int .i64 x.2))], [.box [.p (.int .i64 q), .p (.sl (ws.map .str))], .row 22 1 (x.1.map slW) .lax]⟩)
    (fun x => ManyI ws q x.1 x.2 0 ∧ x.2 ≤ x.1.length ∧ x.1.length ≤ 300) (fun x => 300 - x.2) ([startL ws], 0) (by simp [go_sem, slW, weakH_self]) ⟨ManyI.start hne, by simp, by simp⟩ ?_
  rintro ⟨sets, i⟩ ⟨M, hi, hl⟩
  simp only at M hi hl
  refine AWp.of_awpD [] hΓ hmix (by kernel_rfl) ?_
  by_cases hlt : i < sets.length
  rotate_left
  · have hlt' : ¬ (i : Int) < (sets.length : Int) := by omega
    have hii : i = sets.length := by omega
    rw [hii] at M
    have hF := M.few (by omega) hl
    simp -implicitDefEqProofs only [hlt', List.length_map, hF, not_true_eq_false, decide_false, go_sem]
    refine AWp.of_awpD [] hΓ hmix (by kernel_rfl) ?_
    simp -implicitDefEqProofs only [go_sem]
  have hlt' : (i : Int) < (sets.length : Int) := by omega
  simp -implicitDefEqProofs only [hlt', List.length_map, go_sem]
  refine AWp.loopI (fun y : List (List (List UInt8)) × Nat => ⟨mkF 60 [(1, .ptr 0 0), (3, .own 1 y.1.length), (4, .p (.int .i64 i)), (5, .p (.int .i64 y.2))], [.box [.p (.int .i64 q), .p (.sl (ws.map .str))], .row 22 1 (y.1.map slW) .lax]⟩)
    (fun y => ManyI ws q y.1 i y.2 ∧ i < y.1.length ∧ y.1.length ≤ 300 ∧ y.2 ≤ q) (fun y => q - y.2) (sets, 0) (by simp [go_sem, weakH_self]) ⟨M, hlt, hl, by simp⟩ ?_
  clear M hlt hlt' hl hi sets
  rintro ⟨sets, a⟩ ⟨M, hi, hl, ha⟩
  simp only at M hi hl ha
  refine AWp.of_awpD [(8, 1000)] hΓ hmix (by kernel_rfl) ?_
  by_cases hlt : a < q
  rotate_left
  · have hlt' : ¬ (a : Int) < (q : Int) := by omega
    have haa : a = q := by omega
    rw [haa] at M
    simp -implicitDefEqProofs only [hlt', go_sem]
    exact ⟨by simp only [InR]; omega, (sets, i + 1), by simp, ⟨M.next, hi, hl⟩, by simp; omega⟩
  have hlt' : (a : Int) < (q : Int) := by omega
  simp -implicitDefEqProofs only [hlt', List.length_map, go_sem]
  have hg : (sets.map slW).getD i default = slW sets[i] := getD_map_lt _ _ _ _ hi
  have ha16 : a < 16 := by omega
  have ha16' : (a : Int) < 16 := by omega
  have hsl : ∀ s ∈ sets, s.length ≤ 33 * ws.length := fun s hs => by
    obtain ⟨v, hv2, _⟩ := M.reach s hs
    exact set_len hw32 (M.nd s hs) hv2
  have hSl := hsl _ (List.getElem_mem hi)
  have e90 := h90 q ws sets[i] (Kn.ltr a) hv (by omega)
  unfold codeV at e90
  have hL : ([48, 49, 50, 51, 52, 53, 54, 55, 56, 57, 97, 98, 99, 100, 101, 102] : List UInt8).getD a 0 = Kn.ltr a := rfl
  obtain ⟨N, hN⟩ : ∃ N, N = readL ws sets[i] (Kn.ltr a) := ⟨_, rfl⟩
  have hNl : N.length ≤ 100000 := by
    have h1 := tails_len (Kn.ltr a) sets[i]
    have h2 := tails_len (Kn.ltr a) ws
    have h3 := foldU_len (rdS ws sets[i] (Kn.ltr a)) []
    rw [hN]; unfold readL
    simp only [List.length_nil] at h3
    unfold rdS at h3 ⊢
    rw [List.length_append] at h3
    split at h3
    · rename_i h4; rw [if_pos h4]; omega
    · rename_i h4; rw [if_neg h4]; simp only [List.length_nil] at h3; omega
  rw [← hN] at e90
  refine AWp.planL (.q 0 (.q 1 (.q 2 (.q 3 (.q 4 (.q 5 (.q 6 (.e 7 (.q 8 .fin) .nil)))))))) hΓ hmix (by kernel_rfl) ?_
  simp -implicitDefEqProofs only [hg, slW, List.length_map, ha16', Int.toNat_natCast, hL, go_sem]
  refine ⟨hi, hi, by omega, ?_⟩
  refine callK_fn e90 (.still rfl) ?_
  simp -implicitDefEqProofs only [go_sem]
  refine AWp.of_awpD [] hΓ hmix (by kernel_rfl) ?_
  simp -implicitDefEqProofs only [List.length_map, go_sem]
  refine AWp.loopI (fun y : Nat × Bool => ⟨mkF 60 [(1, .ptr 0 0), (3, .own 1 sets.length), (4, .p (.int .i64 i)), (5, .p (.int .i64 a)), (6, .p (.sl (N.map .str))), (7, .p (.bool y.2)), (8, .p (.int .i64 y.1))], [.box [.p (.int .i64 q), .p (.sl (ws.map .str))], .row 22 1 (sets.map slW) .lax]⟩)
    (fun y => y.1 ≤ sets.length ∧ (y.2 = true → N = [] ∨ ∃ s ∈ sets, SameL s N) ∧ (y.2 = false → N ≠ [] ∧ ∀ s ∈ sets.take y.1, ¬ SameL s N)) (fun y => sets.length - y.1) (0, decide ((N.length : Int) = 0)) (by simp [go_sem, weakH_self])
    ⟨by simp, fun h => .inl (by simpa using h), fun h => ⟨by simpa using h, by simp⟩⟩ ?_
  rintro ⟨k, kn⟩ ⟨hk, hk1, hk2⟩
  simp only at hk hk1 hk2
  refine AWp.of_awpD [] hΓ hmix (by kernel_rfl) ?_
  cases kn with
  | true =>
    have hM := M.skip hi (by rw [← hN]; exact hk1 rfl)
    have hno : ¬ (300 : Int) < (sets.length : Int) := by omega
    by_cases hkl : k < sets.length
    · have hkl' : (k : Int) < (sets.length : Int) := by omega
      simp -implicitDefEqProofs only [hkl', hno, List.length_map, go_sem]
      exact ⟨by simp only [InR]; omega, (sets, a + 1), by simp, ⟨hM, hi, hl, hlt⟩, by show q - (a + 1) < q - a; omega⟩
    · have hkl' : ¬ (k : Int) < (sets.length : Int) := by omega
      simp -implicitDefEqProofs only [hkl', hno, List.length_map, go_sem]
      exact ⟨by simp only [InR]; omega, (sets, a + 1), by simp, ⟨hM, hi, hl, hlt⟩, by show q - (a + 1) < q - a; omega⟩
  | false =>
    obtain ⟨hN0, hkn⟩ := hk2 rfl
    by_cases hkl : k < sets.length
    · have hkl' : (k : Int) < (sets.length : Int) := by omega
      have hgk : (sets.map slW).getD k default = slW sets[k] := getD_map_lt _ _ _ _ hkl
      have hskl := hsl _ (List.getElem_mem hkl)
      simp -implicitDefEqProofs only [hkl', hgk, slW, Int.toNat_natCast, List.length_map, go_sem]
      refine ⟨hkl, ?_⟩
      refine callK_fn (h144 sets[k] N (by omega) (by omega)) (.pures rfl) ?_
      simp -implicitDefEqProofs only [go_sem]
      refine ⟨by simp only [InR]; omega, (k + 1, decide (SameL sets[k] N)), by simp, ⟨hkl, fun h => .inr ⟨_, List.getElem_mem hkl, of_decide_eq_true h⟩, fun h => ⟨hN0, fun s hs => ?_⟩⟩, by show sets.length - (k + 1) < sets.length - k; omega⟩
      simp only at hs
      rw [List.take_succ_eq_append_getElem hkl, List.mem_append, List.mem_singleton] at hs
      rcases hs with hs | hs
      · exact hkn s hs
      · rw [hs]; exact of_decide_eq_false h
    · have hkl' : ¬ (k : Int) < (sets.length : Int) := by omega
      rw [List.take_of_length_le (by omega)] at hkn
      have hM := M.add (by omega) hi hlt (by rw [← hN]; exact hN0) (by rw [← hN]; exact hkn)
      rw [← hN] at hM
      have hs1 : sizeOK [PV.sl (List.map PV.str N)] 1 := by simp [sizeOK, PV.cells]
      have ho1 : oneOK [PV.sl (List.map PV.str N)] := by simp [oneOK, PV.cells, PV.isAgg]
      simp -implicitDefEqProofs only [hkl', List.length_map, go_sem]
      refine ⟨⟨hs1, by omega⟩, ⟨hs1, ho1⟩, ⟨by simp, by omega, by omega⟩, fun h300 => ?_, fun h300 => ?_⟩
      · have hF := hM.many (by simp only [List.length_append, List.length_singleton]; omega)
        exact (decide_eq_true hF).symm
      · exact ⟨by simp only [InR]; omega, (sets ++ [N], a + 1), ⟨by simp, by simp [slW]⟩, ⟨hM, by simp only [List.length_append]; omega, by simp only [List.length_append, List.length_singleton]; omega, hlt⟩, by show q - (a + 1) < q - a; omega⟩

open Classical in
theorem h30 (q : Int) (ws : List (List UInt8)) (hl : ws.length ≤ 9223372036854775807) : PFn Tryz.prog 30 [codeV q ws] [.bool (great36 q ws || decide (codeCheck q ws = 0 ∧ ¬ FewS ws q.toNat))] := by
  have e43 := gr36 q ws hl
  have e40 := t44 q ws
  unfold codeV at e43 e40
  refine PFn.of_body hΓ Tryz.func30 (by kernel_rfl) rfl (AWp.seq (AWp.of_awpD [] hΓ hmix (by kernel_rfl) ?_))
  simp -implicitDefEqProofs only [Tryz.ntmps30, Tryz.results30, Nat.reduceAdd, Nat.reduceSub, codeV, go_sem]
  refine AWp.of_awpD [] hΓ hmix (by kernel_rfl) ?_
  simp -implicitDefEqProofs only [go_sem]
  refine callK_fn e43 (.still rfl) ?_
  cases hg : great36 q ws with
  | true => simp -implicitDefEqProofs only [Bool.true_or, go_sem]
  | false =>
    simp -implicitDefEqProofs only [go_sem]
    refine callK_fn e40 (.still rfl) ?_
    by_cases hc : codeCheck q ws = 0
    rotate_left
    · simp -implicitDefEqProofs only [hc, false_and, decide_false, Bool.or_false, go_sem]
    have hv := valid_of hc
    have h2 := hv.q2
    obtain ⟨p, rfl⟩ : ∃ p : Nat, q = p := ⟨q.toNat, by omega⟩
    have e83 := h83 p ws hv
    unfold codeV at e83
    simp -implicitDefEqProofs only [hc, go_sem]
    refine callK_fn e83 (.still rfl) ?_
    simp -implicitDefEqProofs only [hc, true_and, Int.toNat_natCast, Bool.false_or, go_sem]
end Go.Proofs.YtpljmccnfmkmfaaGreat
end

