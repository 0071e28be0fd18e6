/-
  Texts of this claim, joined.
-/
import Derived.Shelf.Slices.In.SortNone
import Derived.Test.YtpljmccnfmkmfaaGreatJ6a4b85533423
import Derived.Test.YtpljmccnfmkmfaaGreatJ1faccba7ec4a
import Derived.Test.YtpljmccnfmkmfaaGreatJ72f161f3b035
import Derived.Test.YtpljmccnfmkmfaaGreatJe7a7d4a1b7e9
import Derived.Test.YtpljmccnfmkmfaaGreatJ3bcda6c5808f

set_option linter.unusedSimpArgs false
set_option maxRecDepth 100000
set_option maxHeartbeats 4000000
section
namespace Go.Proofs.YtpljmccnfmkmfaaGreat
open Go Go.AM Go.RowKit Go.Shelf

def sortL (l : List (List UInt8)) : List (List UInt8) := l.mergeSort fun x y => decide (x ≤ y)
theorem sortL_length (l : List (List UInt8)) : (sortL l).length = l.length := by unfold sortL; simp
theorem mem_sortL {l : List (List UInt8)} {x : List UInt8} : x ∈ sortL l ↔ x ∈ l := (List.mergeSort_perm l _).mem_iff
theorem sorts197 (d : List (List UInt8)) (blk off cap : Nat) (w : World) (hH : Sort.Holds encW w blk off d.toArray) (hb : blk < w.heap.size) (hd : d.length < 4611686018427387904) :
    Calls Tryz.prog 197 #[.slice (some ⟨blk, off, none⟩) d.length cap] w fun e w' => e = .returned (.tuple #[]) ∧ ∃ n os, w' = sortWorld encW w blk off n (sortL d).toArray os :=
  Any.slices_Sort_string (ρ := Tryz.sortO_ren) Tryz.sortO blk off cap d w hH hb hd

theorem c197 {h : List AObj} {b : Nat} (l : List (List UInt8)) (hb : h[b]? = some (.row 9 1 (l.map .str) .own)) (hsz : l.length ≤ 1000000) :
    AC Tryz.prog 197 [.own b l.length] h [] (fun v h' => v = .tup [] ∧ h' = h.set b (.row 9 1 ((sortL l).map .str) .own)) := by
  refine ⟨entersF_of Tryz.func197 (by kernel_rfl) rfl, fun X I μ ob w cargs R hlen hargs _ => ?_⟩
  obtain ⟨a0, rfl⟩ : ∃ a, cargs = [a] := by
    match cargs, hlen with
    | [a], _ => exact ⟨a, rfl⟩
  have g0 := hargs 0 (by simp)
  simp only [List.getD_cons_zero] at g0
  obtain ⟨a, c, rfl, hbn, hbm⟩ := g0.own_inv
  obtain ⟨hall, hrow⟩ := R.objs _ _ hb
  rcases hrow with ⟨g, hg, off, cap, cur, fr, vs, e1, e2, e3, e4, e5, e6, e7, e8, e9, e10⟩ | ⟨hk, _⟩
  rotate_left
  · cases hk
  rw [hbm] at e1
  simp only [List.length_map] at e1 e5 e7 e8 e9 e10
  injection e1 with e1a _ e1c
  subst e1a e1c
  have hfr := e3 rfl
  subst hfr
  have hgl := (R.own b g hg).2.2
  have cell : ∀ j (hj : j < l.length), cur[off + j]? = some (encW l[j]) := fun j hj => by
    have h1 := e10 j (by omega)
    rw [flats_str, getD_map_lt _ _ _ _ hj] at h1
    have h2 := encW_of h1
    have h3 : cur.toList[off + j]? = some (vs.getD j undef) := by
      have : vs[j]? = some (vs.getD j undef) := by rw [List.getD_eq_getElem?_getD, List.getElem?_eq_getElem (by omega)]; rfl
      rw [← e8, List.getElem?_take_of_lt (by omega), List.getElem?_drop] at this
      exact this.trans (by rw [e8])
    rw [Array.getElem?_toList, h2] at h3
    exact h3
  have hH : Sort.Holds encW w g off l.toArray := fun j hj => by
    have hj' : j < l.length := by simpa using hj
    refine ⟨?_, ?_⟩
    · unfold World.cell?
      simp only [e2]
      rw [cell j hj', getElem!_pos l.toArray j hj]
      simp
    · unfold World.frozen?
      simp only [e2]
      simp
  have hc := sorts197 l g off c w hH hgl (by omega)
  refine Calls.mono (P := Tryz.prog) hc ?_
  rintro e w' ⟨rfl, n, os, rfl⟩
  have hsl : (sortL l).toArray.size = l.length := by simp [sortL_length]
  -- the world that is left
  have hnew : (sortWorld encW w g off n (sortL l).toArray os).heap[g]? = some (.cells (Sort.putCells encW off (sortL l).toArray cur) 9 (0, 0)) := by
    unfold sortWorld
    rw [Sort.heap_grow_old _ _ (by simp [Sort.ahead]; exact hgl)]
    show (w.heap.modify g _)[g]? = _
    rw [Array.getElem?_modify, if_pos rfl, e2]; rfl
  have hold : ∀ k, k < w.heap.size → k ≠ g → (sortWorld encW w g off n (sortL l).toArray os).heap[k]? = w.heap[k]? := fun k hk hne => by
    unfold sortWorld
    rw [Sort.heap_grow_old _ _ (by simp [Sort.ahead]; exact hk)]
    show (w.heap.modify g _)[k]? = _
    rw [Array.getElem?_modify, if_neg (fun e => hne e.symm)]
  have hgrow : w.grownBy (sortWorld encW w g off n (sortL l).toArray os) (some g) := ⟨rfl, rfl, rfl, by simp [sortWorld, Sort.ahead], fun k hk hk2 => hold k hk (fun e => hk2 (by rw [e]))⟩
  have hput : ∀ j, j < l.length → (Sort.putCells encW off (sortL l).toArray cur)[off + j]? = some (encW ((sortL l).getD j [])) := fun j hj => by
    unfold Sort.putCells
    rw [Array.getElem?_mapIdx, cell j hj]
    simp only [Option.map_some]
    rw [if_pos ⟨Nat.le_add_right _ _, by rw [hsl]; omega⟩, Nat.add_sub_cancel_left, getElem!_pos (sortL l).toArray j (by rw [hsl]; exact hj), List.getD_eq_getElem?_getD, List.getElem?_eq_getElem (by rw [sortL_length]; exact hj)]
    simp
  have hps : (Sort.putCells encW off (sortL l).toArray cur).size = cur.size := by unfold Sort.putCells; rw [Array.size_mapIdx]
  have hpl : (((Sort.putCells encW off (sortL l).toArray cur).toList.drop off).take l.length).length = l.length := by
    have h1 : (Sort.putCells encW off (sortL l).toArray cur).toList.length = cur.size := by simpa using hps
    rw [List.length_take, List.length_drop, h1]; omega
  have R2 := R.write (b0 := b) (g0 := g) (o := .row 9 1 ((sortL l).map .str) .own) hbn hg hgrow ⟨fun x hx => by
      obtain ⟨u, _, rfl⟩ := List.mem_map.1 hx; rfl, .inl ⟨g, hg, off, c, Sort.putCells encW off (sortL l).toArray cur, (0, 0), ((Sort.putCells encW off (sortL l).toArray cur).toList.drop off).take l.length, by rw [hbm, List.length_map, sortL_length], hnew, fun _ => rfl, by simp,
        by rw [List.length_map, sortL_length]; exact e5, e6, by rw [hps]; exact e7, by rw [List.length_map, sortL_length, Nat.mul_one], by
          rw [List.length_map, sortL_length, hpl, Nat.mul_one], fun j hj => ?_⟩⟩
  · exact ⟨_, .tup [], _, I, μ, ob, rfl, R2, .tup [] [] rfl (by simp), fun _ h => h, fun _ _ _ => rfl, by simp, fun g hg => .inl hg, fun b g hb => .inl ⟨b, hb⟩, fun k hk hno => hold k hk (fun e => hno b (by rw [e]; exact hg)), rfl, rfl⟩
  · rw [List.length_map, sortL_length, Nat.mul_one] at hj
    rw [flats_str, getD_map_lt _ _ _ _ (by rw [sortL_length]; exact hj)]
    have : (((Sort.putCells encW off (sortL l).toArray cur).toList.drop off).take l.length).getD j undef = encW ((sortL l).getD j []) := by
      rw [List.getD_eq_getElem?_getD, List.getElem?_take_of_lt hj, List.getElem?_drop, Array.getElem?_toList, hput j hj]; rfl
    rw [this, List.getD_eq_getElem?_getD, List.getElem?_eq_getElem (by rw [sortL_length]; exact hj)]
    exact pr_encW _

theorem c197n {h : List AObj} {b : Nat} : AC Tryz.prog 197 [.own b 0] h [] (fun v h' => v = .tup [] ∧ h' = h) := by
  refine ⟨entersF_of Tryz.func197 (by kernel_rfl) rfl, fun X I μ ob w cargs R hlen hargs _ => ?_⟩
  obtain ⟨a0, rfl⟩ : ∃ a, cargs = [a] := by
    match cargs, hlen with
    | [a], _ => exact ⟨a, rfl⟩
  have g0 := hargs 0 (by simp)
  simp only [List.getD_cons_zero] at g0
  obtain ⟨a, c, rfl, hbn, hbm⟩ := g0.own_inv
  have hc : Calls Tryz.prog 197 #[.slice a 0 c] w fun e w' => e = .returned (.tuple #[]) ∧ w' = w := Any.slices_Sort_string_none (ρ := Tryz.sortO_ren) Tryz.sortO a c w
  refine Calls.mono (P := Tryz.prog) hc ?_
  rintro e w' ⟨rfl, rfl⟩
  exact ⟨_, .tup [], _, I, μ, ob, rfl, R, .tup [] [] rfl (by simp), fun _ h => h, fun _ _ _ => rfl, Nat.le_refl _, fun g hg => .inl hg, fun b g hb => .inl ⟨b, hb⟩, fun k hk hno => rfl, rfl, rfl⟩
end Go.Proofs.YtpljmccnfmkmfaaGreat
end

section
namespace Go.Proofs.YtpljmccnfmkmfaaGreat
open Go Go.AM Go.RowKit

def canL (l : List (List UInt8)) : List (List UInt8) := Lib.compact (sortL l)
theorem c149 {h : List AObj} {b : Nat} (l : List (List UInt8)) (hb : h[b]? = some (.row 9 1 (l.map .str) .own)) (hsz : l.length ≤ 1000000) :
    AC Tryz.prog 149 [.own b l.length] h [b] (fun v h' => v = .own b (canL l).length ∧ h' = (h.map (AObj.kill b)).set b (.row 9 1 ((canL l).map .str) .own)) := by
  have hbl : b < h.length := (List.getElem?_eq_some_iff.1 hb).1
  refine AC.of_bodyE hΓ Tryz.func149 (by kernel_rfl) rfl (AWp.mono (Q := fun e st => AM.Ends e ∧ st.tmps.getD 2 .junk = .own b (canL l).length ∧ st.h = (h.map (AObj.kill b)).set b (.row 9 1 ((canL l).map .str) .own)) ?_ ?_)
  rotate_left
  · rintro e ⟨tm, h'⟩ ⟨he, h1, h2⟩
    simp only at h1 h2
    subst h2
    refine ⟨he, _, Less.refl _, ?_⟩
    unfold DoneE
    simp +contextual -implicitDefEqProofs only [Tryz.results149, h1, go_sem]
    exact ⟨_, by simp, .inl rfl, List.take_length⟩
  refine AWp.of_awpD [] hΓ hmix (by kernel_rfl) ?_
  simp -implicitDefEqProofs only [Tryz.ntmps149, Nat.reduceAdd, Nat.reduceSub, go_sem]
  refine callK_ac (c197 l hb hsz) (by simp) ?_
  rintro v h' ⟨rfl, rfl⟩
  simp -implicitDefEqProofs only [killAll, List.foldl, go_sem]
  have e := c107 (h := h.set b (.row 9 1 ((sortL l).map .str) .own)) (b := b) (sortL l) (by rw [List.getElem?_set_self hbl]) (by rw [sortL_length]; exact hsz)
  rw [sortL_length] at e
  refine callK_ac e (by simp) ?_
  rintro v h' ⟨rfl, rfl⟩
  simp -implicitDefEqProofs only [killAll, List.foldl, go_sem]
  refine ⟨rfl, ?_⟩
  rw [List.map_set, List.set_set]; rfl
theorem c149n {h : List AObj} {b : Nat} : AC Tryz.prog 149 [.own b 0] h [] (fun v h' => v = .own b 0 ∧ h' = h) := by
  refine AC.of_bodyE hΓ Tryz.func149 (by kernel_rfl) rfl (AWp.mono (Q := fun e st => AM.Ends e ∧ st.tmps.getD 2 .junk = .own b 0 ∧ st.h = h) ?_ ?_)
  rotate_left
  · rintro e ⟨tm, h'⟩ ⟨he, h1, h2⟩
    simp only at h1 h2
    subst h2
    refine ⟨he, _, Less.refl _, ?_⟩
    unfold DoneE
    simp +contextual -implicitDefEqProofs only [Tryz.results149, h1, go_sem]
    exact ⟨_, by simp, .inl rfl, List.take_length⟩
  refine AWp.of_awpD [] hΓ hmix (by kernel_rfl) ?_
  simp -implicitDefEqProofs only [Tryz.ntmps149, Nat.reduceAdd, Nat.reduceSub, go_sem]
  refine callK_ac c197n (by simp) ?_
  rintro v h' ⟨rfl, rfl⟩
  simp -implicitDefEqProofs only [killAll, List.foldl, go_sem]
  refine callK_ac c107n (by simp) ?_
  rintro v h' ⟨rfl, rfl⟩
  simp -implicitDefEqProofs only [killAll, List.foldl, go_sem]
end Go.Proofs.YtpljmccnfmkmfaaGreat
end

section
namespace Go.Proofs.YtpljmccnfmkmfaaGreat
open Go Go.AM Go.Mc

def begT (ws : List (List UInt8)) (i : Nat) : List (List UInt8) := (ws.take i).flatMap ends
theorem begT_succ {ws : List (List UInt8)} {i : Nat} (hi : i < ws.length) : begT ws (i + 1) = begT ws i ++ ends ws[i] := by
  unfold begT; rw [List.take_succ_eq_append_getElem hi, List.flatMap_append]; simp
theorem begT_len {ws : List (List UInt8)} (hw : ∀ x ∈ ws, x.length ≤ 32) : ∀ i, i ≤ ws.length → (begT ws i).length ≤ 33 * i
  | 0, _ => by simp [begT]
  | i + 1, hi => by
    have h1 := begT_len hw i (by omega)
    have h2 := hw ws[i] (List.getElem_mem (by omega))
    rw [begT_succ (by omega), List.length_append, ends_len]; omega
theorem rk_begT {ws : List (List UInt8)} {i : Nat} (hi : i < ws.length) : rkOf (begT ws (i + 1)) = .own := by
  unfold rkOf
  rw [if_neg]
  intro e
  have := congrArg List.length e
  rw [begT_succ hi, List.length_append, ends_len] at this
  simp at this
theorem c87 (q : Int) (ws : List (List UInt8)) (hv : Valid q ws) : PFn Tryz.prog 87 [codeV q ws] [.sl ((canL (begL ws)).map .str)] := by
  have hlen := hv.len
  have hw32 : ∀ x ∈ ws, x.length ≤ 32 := fun x hx => (hv.words x hx).2.1
  refine PFn.of_body hΓ Tryz.func87 (by kernel_rfl) rfl (AWp.seq (AWp.of_awpD [] hΓ hmix (by kernel_rfl) ?_))
  simp -implicitDefEqProofs only [Tryz.ntmps87, Tryz.results87, Nat.reduceAdd, Nat.reduceSub, codeV, go_sem]
  refine AWp.seq (AWp.of_awpD [] hΓ hmix (by kernel_rfl) ?_)
  simp -implicitDefEqProofs only [go_sem]
  refine AWp.adopt (l := []) 3 9 1 (by rfl) (by simp) ?_
  simp -implicitDefEqProofs only [go_sem]
  refine AWp.seq (AWp.of_awpD [] hΓ hmix (by kernel_rfl) ?_)
  simp -implicitDefEqProofs only [List.length_map, go_sem]
  refine AWp.loopJ (fun i : Nat => ⟨mkF 20 [(1, .ptr 0 0), (3, .own 1 (begT ws i).length), (7, .p (.sl (ws.map .str))), (8, .p (.int .i64 ws.length)), (9, .p (.int .i64 i))], [.box [.p (.int .i64 q), .p (.sl (ws.map .str))], .row 9 1 ((begT ws i).map .str) (rkOf (begT ws i))]⟩)
    (fun i => i ≤ ws.length) (fun i => ws.length - i) 0 (fun x => by simp [BelowAll, mkF, AV.blw, AV.blw.blwL, blwH, AObj.blw]) (by simp [go_sem, begT, rkOf]) (by omega) ?_
  intro i hi
  refine AWp.of_awpD [] hΓ hmix (by kernel_rfl) ?_
  by_cases hlt : i < ws.length
  · have hg : (ws.map PV.str).getD i default = .str ws[i] := getD_map_lt _ _ _ _ hlt
    have hb := begT_len hw32 i (by omega)
    have hsu := begT_succ hlt
    have hx := hw32 ws[i] (List.getElem_mem hlt)
    simp -implicitDefEqProofs only [hlt, hg, Int.toNat_natCast, go_sem]
    refine callK_ac (c148 _) (by simp) ?_
    rintro v h' ⟨rfl, rfl⟩
    simp -implicitDefEqProofs only [killAll, List.foldl, go_sem]
    refine callK_ac (c147 q ws (begT ws i) ws[i] (by omega) (by omega)) (by simp) ?_
    rintro v h' ⟨rfl, rfl⟩
    simp -implicitDefEqProofs only [killAll, List.foldl, go_sem]
    exact ⟨by simp only [InR]; omega, i + 1, ⟨⟨by rw [hsu], by simp⟩, .inl ⟨by rw [hsu], rk_begT hlt⟩⟩, by omega, by omega⟩
  have hiw : i = ws.length := by omega
  subst hiw
  simp -implicitDefEqProofs only [Nat.lt_irrefl, Int.lt_irrefl, go_sem]
  have hpos := hv.pos
  have hrk : rkOf (begT ws ws.length) = .own := by
    obtain ⟨m, hm⟩ : ∃ m, ws.length = m + 1 := ⟨ws.length - 1, by omega⟩
    rw [hm]; exact rk_begT (by omega)
  have hb := begT_len hw32 ws.length (Nat.le_refl _)
  rw [hrk]
  refine AWp.of_awpD [] hΓ hmix (by kernel_rfl) ?_
  simp -implicitDefEqProofs only [go_sem]
  refine callK_ac (c149 (begT ws ws.length) rfl (by omega)) (by simp) ?_
  rintro v h' ⟨rfl, rfl⟩
  have ht : begT ws ws.length = begL ws := by unfold begT begL; rw [List.take_length]
  simp -implicitDefEqProofs only [killAll, List.foldl, List.set_cons_zero, List.set_cons_succ, ht, go_sem]
end Go.Proofs.YtpljmccnfmkmfaaGreat
end

section
namespace Go.Proofs.YtpljmccnfmkmfaaGreat
open Go Go.AM Go.Mc

def rdH (q : Int) (ws : List (List UInt8)) (c : UInt8) (out : List (List UInt8)) : List AObj :=
  [.box [.p (.int .i64 q), .p (.sl (ws.map .str))], .box [.p (.int .u8 c.toNat)], .box [.own 3 out.length], .row 9 1 (out.map .str) (rkOf out)]
theorem tails_succ {c : UInt8} {W : List (List UInt8)} {i : Nat} (hi : i < W.length) : tails c (W.take (i + 1)) = tails c (W.take i) ++ tl1 c W[i] := by
  unfold tails; rw [List.take_succ_eq_append_getElem hi, List.flatMap_append]; simp
theorem tails_len (c : UInt8) : ∀ W : List (List UInt8), (tails c W).length ≤ W.length
  | [] => Nat.le_refl _
  | x :: W => by
    have ih := tails_len c W
    have e : tails c (x :: W) = tl1 c x ++ tails c W := rfl
    rw [e, List.length_append, List.length_cons]
    have : (tl1 c x).length ≤ 1 := by
      cases x with
      | nil => exact Nat.zero_le _
      | cons d y => rw [tl1_cons]; split <;> simp
    omega
theorem c150 (q : Int) (ws : List (List UInt8)) (c : UInt8) (out W : List (List UInt8)) (ho : out.length ≤ 1000000) (hW : W.length ≤ 1000000) :
    AC Tryz.prog 150 [.p (.sl (W.map .str)), .ptr 1 0, .ptr 2 0] (rdH q ws c out) [3] (fun _ h' => h' = rdH q ws c (out ++ tails c W)) := by
  refine AC.of_bodyE hΓ Tryz.func150 (by kernel_rfl) rfl (AWp.mono (Q := fun e st => AM.Ends e ∧ st.h = rdH q ws c (out ++ tails c W)) ?_ ?_)
  rotate_left
  · rintro e ⟨tm, h'⟩ ⟨he, h2⟩
    simp only at h2
    subst h2
    refine ⟨he, _, Less.refl _, ?_⟩
    unfold DoneE
    simp +contextual -implicitDefEqProofs only [Tryz.results150, go_sem]
    exact ⟨4, by simp [rdH], .inl rfl, rfl⟩
  refine AWp.of_awpD [] hΓ hmix (by kernel_rfl) ?_
  simp -implicitDefEqProofs only [Tryz.ntmps150, Nat.reduceAdd, Nat.reduceSub, List.length_map, go_sem]
  refine AWp.loopI (fun i : Nat => ⟨mkF 26 [(1, .ptr 1 0), (2, .ptr 2 0), (6, .p (.sl (W.map .str))), (7, .p (.int .i64 W.length)), (8, .p (.int .i64 i))], rdH q ws c (out ++ tails c (W.take i))⟩)
    (fun i => i ≤ W.length) (fun i => W.length - i) 0 (by simp [go_sem, weakH_self, tails, rdH]) (by omega) ?_
  intro i hi
  have hul : (tails c (W.take i)).length ≤ i := by have := tails_len c (W.take i); rw [List.length_take] at this; omega
  generalize hu : out ++ tails c (W.take i) = u at *
  have hulen : u.length ≤ 2000000 := by rw [← hu, List.length_append]; omega
  unfold rdH
  refine AWp.of_awpD [(3, 8), (4, 1000)] hΓ hmix (by kernel_rfl) ?_
  by_cases hlt : i < W.length
  · have hg : (W.map PV.str).getD i default = .str W[i] := getD_map_lt _ _ _ _ hlt
    have hsu := tails_succ (c := c) hlt
    by_cases hx0 : W[i] = []
    · rw [hx0] at hg hsu
      have hn : tails c (W.take (i + 1)) = tails c (W.take i) := by rw [hsu]; exact List.append_nil _
      simp -implicitDefEqProofs only [hlt, hg, Int.toNat_natCast, go_sem]
      refine ⟨by simp only [InR]; omega, i + 1, ⟨by simp, ?_⟩, by omega, by omega⟩
      rw [hn, hu]
      simp [rdH, weakH_self]
    obtain ⟨d, y, hx⟩ := List.exists_cons_of_ne_nil hx0
    rw [hx] at hg hsu
    rw [tl1_cons] at hsu
    have hg0 : (d :: y).getD (Int.toNat 0) 0 = d := rfl
    have hp : 0 < (((y.length + 1 : Nat)) : Int) := by omega
    by_cases hd : d = c
    · subst hd
      rw [if_pos rfl] at hsu
      simp -implicitDefEqProofs only [hlt, hg, Int.toNat_natCast, List.length_cons, hg0, hp, go_sem]
      refine AWp.planL (.q 0 (.q 1 (.q 2 (.q 3 (.e 4 (.e 5 .fin .nil) .nil))))) hΓ hmix (by kernel_rfl) ?_
      simp -implicitDefEqProofs only [List.length_cons, hp, go_sem]
      have hd1 : List.drop (Int.toNat 1) (d :: y) = y := rfl
      rw [hd1]
      have hs1 : sizeOK [PV.str y] 1 := by simp [sizeOK, PV.cells]
      have ho1 : oneOK [PV.str y] := by simp [oneOK, PV.cells, PV.isAgg]
      refine ⟨⟨by omega, by omega⟩, ⟨hs1, by omega⟩, ⟨hs1, ho1⟩, ⟨by unfold rkOf; split <;> simp, .inr (by simp), by omega, by omega⟩, by simp only [InR]; omega, i + 1, ⟨by simp, ?_⟩, by omega, by omega⟩
      rw [hsu, ← List.append_assoc, hu]
      rw [rkOf_snoc]
      simp
    · rw [if_neg hd, List.append_nil] at hsu
      have hdc : ¬ d.toNat = c.toNat := fun e => hd (UInt8.toNat_inj.1 e)
      simp -implicitDefEqProofs only [hlt, hg, Int.toNat_natCast, List.length_cons, hg0, hp, hdc, go_sem]
      refine ⟨by simp only [InR]; omega, i + 1, ⟨by simp, ?_⟩, by omega, by omega⟩
      rw [hsu, hu]
      simp [rdH, weakH_self]
  have hiw : i = W.length := by omega
  subst hiw
  simp -implicitDefEqProofs only [Nat.lt_irrefl, Int.lt_irrefl, go_sem]
  rw [← hu, List.take_length]
  exact ⟨rfl, rfl, rfl⟩
end Go.Proofs.YtpljmccnfmkmfaaGreat
end

section
namespace Go.Proofs.YtpljmccnfmkmfaaGreat
open Go Go.AM Go.Mc

theorem AWp.seqT {E : Env} {r : Option Nat} {Q : Exit → St → Prop} {st : St} {x y : Code} (fr : St) (h2 : AWp E r y Q fr)
    (h1 : AWp E r y Q fr → AWp E r x (thenQ (fun st => AWp E r y Q st) Q) st) : AWp E r (.seq x y) Q st := AWp.seq (h1 h2)
theorem cs198 (a : List (List UInt8)) (x : List UInt8) (hl : a.length ≤ 9223372036854775807) : PFn Tryz.prog 198 [.sl (a.map .str), .str x] [.int .i64 (if x ∈ a then (a.idxOf x : Int) else -1)] := by
  refine PFn.of_body hΓ Tryz.func198 (by kernel_rfl) rfl (AWp.of_awpD [] hΓ hmix (by kernel_rfl) ?_)
  simp -implicitDefEqProofs only [Tryz.ntmps198, Tryz.results198, Nat.reduceAdd, Nat.reduceSub, go_sem]
  refine AWp.loopI (fun k : Nat => ⟨mkF 19 [(0, .p (.sl (a.map .str))), (1, .p (.str x)), (4, .p (.int .i64 0)), (7, .p (.int .i64 a.length)), (8, .p (.int .i64 k))], []⟩)
    (fun k => k ≤ a.length ∧ x ∉ a.take k) (fun k => a.length - k) 0 (by simp [go_sem, weakH_self]) (by simp) ?_
  rintro k ⟨hk, h0⟩
  refine AWp.of_awpD [] hΓ hmix (by kernel_rfl) ?_
  by_cases hlt : k < a.length
  · have hlt' : (k : Int) < (a.length : Int) := by omega
    have hg : (a.map PV.str).getD k default = .str a[k] := getD_map_lt _ _ _ _ hlt
    have htk : a.take (k + 1) = a.take k ++ [a[k]] := by rw [List.take_succ_eq_append_getElem hlt]
    by_cases he : x = a[k]
    · simp -implicitDefEqProofs only [hlt', hg, Int.toNat_natCast, he, List.length_map, go_sem]
      have hx : x ∈ a := he ▸ List.getElem_mem hlt
      have hi : a.idxOf x = k := by
        conv => lhs; rw [← List.take_append_drop k a, List.idxOf_append, if_neg h0]
        rw [List.drop_eq_getElem_cons hlt, he, List.idxOf_cons_self, List.length_take]
        omega
      rw [← he, if_pos hx, hi]
    · simp -implicitDefEqProofs only [hlt', hg, Int.toNat_natCast, he, List.length_map, go_sem]
      have h2 : x ∉ a.take (k + 1) := by
        rw [htk]; simp only [List.mem_append, List.mem_singleton]
        exact fun h => h.elim h0 he
      exact ⟨by simp only [InR]; omega, k + 1, by simp, ⟨hlt, h2⟩, by omega⟩
  · have hlt' : ¬ (k : Int) < (a.length : Int) := by omega
    rw [List.take_of_length_le (by omega)] at h0
    rw [if_neg h0]
    simp -implicitDefEqProofs only [hlt', go_sem]
theorem cs151 (a : List (List UInt8)) (x : List UInt8) (hl : a.length ≤ 9223372036854775807) : PFn Tryz.prog 151 [.sl (a.map .str), .str x] [.bool (decide (x ∈ a))] := by
  have e := cs198 a x hl
  by_cases hx : x ∈ a
  · rw [if_pos hx] at e
    refine PFn.of_body hΓ Tryz.func151 (by kernel_rfl) rfl (AWp.of_awpD [] hΓ hmix (by kernel_rfl) ?_)
    simp -implicitDefEqProofs only [Tryz.ntmps151, Tryz.results151, Nat.reduceAdd, Nat.reduceSub, go_sem]
    refine callK_fn e (.pures rfl) ?_
    simp -implicitDefEqProofs only [hx, go_sem]
    try simp
  · rw [if_neg hx] at e
    refine PFn.of_body hΓ Tryz.func151 (by kernel_rfl) rfl (AWp.of_awpD [] hΓ hmix (by kernel_rfl) ?_)
    simp -implicitDefEqProofs only [Tryz.ntmps151, Tryz.results151, Nat.reduceAdd, Nat.reduceSub, go_sem]
    refine callK_fn e (.pures rfl) ?_
    simp -implicitDefEqProofs only [hx, go_sem]
    try simp

theorem c88 (q : Int) (ws S : List (List UInt8)) (c : UInt8) (hS : S.length ≤ 400000) (hw : ws.length ≤ 400000) :
    PFn Tryz.prog 88 [.sl (S.map .str), codeV q ws, .int .u8 c.toNat] [.sl ((canL (rdS ws S c)).map .str)] := by
  have e151 := cs151 S [] (by omega)
  refine PFn.of_body hΓ Tryz.func88 (by kernel_rfl) rfl (AWp.seq (AWp.of_awpD [] hΓ hmix (by kernel_rfl) ?_))
  simp -implicitDefEqProofs only [Tryz.ntmps88, Tryz.results88, Nat.reduceAdd, Nat.reduceSub, codeV, go_sem]
  refine AWp.seq (AWp.of_awpD [] hΓ hmix (by kernel_rfl) ?_)
  simp -implicitDefEqProofs only [go_sem]
  refine AWp.adoptBox (l := []) 2 9 1 rfl (by simp) ?_
  simp -implicitDefEqProofs only [List.set_cons_zero, List.set_cons_succ, go_sem]
  refine AWp.seq (AWp.of_awpD [] hΓ hmix (by kernel_rfl) ?_)
  simp -implicitDefEqProofs only [go_sem]
  refine AWp.seq (AWp.of_awpD [] hΓ hmix (by kernel_rfl) ?_)
  simp -implicitDefEqProofs only [go_sem]
  refine callK_ac (h := rdH q ws c []) (c150 q ws c [] S (by simp) (by omega)) (by simp) ?_
  rintro v h' rfl
  rw [List.nil_append]
  have ht1 := tails_len c S
  have ht2 := tails_len c ws
  simp -implicitDefEqProofs only [killAll, List.foldl, go_sem]
  refine AWp.seqT ⟨mkF 21 [(7, .ptr 2 0)], rdH q ws c (rdS ws S c)⟩ ?_ fun rest => ?_
  rotate_left
  · unfold rdH
    refine AWp.of_awpD [] hΓ hmix (by kernel_rfl) ?_
    simp -implicitDefEqProofs only [go_sem]
    refine callK_fn e151 (.pures rfl) ?_
    by_cases hm : [] ∈ S
    · have hr : rdS ws S c = tails c S ++ tails c ws := by unfold rdS; rw [if_pos hm]
      simp -implicitDefEqProofs only [hm, decide_true, go_sem]
      refine callK_ac (h := rdH q ws c (tails c S)) (c150 q ws c (tails c S) ws (by omega) (by omega)) (by simp) ?_
      rintro v h' rfl
      simp -implicitDefEqProofs only [killAll, List.foldl, go_sem]
      rw [← hr]
      exact AWp.weak (by simp [go_sem, weakH_self]) rest
    · have hr : rdS ws S c = tails c S := by unfold rdS; rw [if_neg hm, List.append_nil]
      simp -implicitDefEqProofs only [hm, decide_false, go_sem]
      rw [← hr]
      exact AWp.weak (by simp [go_sem, weakH_self, rdH]) rest
  have hrl : (rdS ws S c).length ≤ 1000000 := by
    unfold rdS
    rw [List.length_append]
    split
    · omega
    · simp; omega
  generalize rdS ws S c = u at *
  unfold rdH
  refine AWp.of_awpD [] hΓ hmix (by kernel_rfl) ?_
  simp -implicitDefEqProofs only [go_sem]
  by_cases hu : u = []
  · subst hu
    refine callK_ac (c149n (b := 3)) (by simp) ?_
    rintro v h' ⟨rfl, rfl⟩
    simp -implicitDefEqProofs only [killAll, List.foldl, go_sem]
    have h := compact_le (sortL [])
    rw [sortL_length] at h
    have e : canL [] = [] := List.length_eq_zero_iff.1 (Nat.le_zero.1 h)
    rw [e]; rfl
  · have hrk : rkOf u = .own := by unfold rkOf; rw [if_neg hu]
    rw [hrk]
    refine callK_ac (c149 u rfl (by omega)) (by simp) ?_
    rintro v h' ⟨rfl, rfl⟩
    simp -implicitDefEqProofs only [killAll, List.foldl, List.set_cons_zero, List.set_cons_succ, go_sem]
end Go.Proofs.YtpljmccnfmkmfaaGreat
end

section
namespace Go.Proofs.YtpljmccnfmkmfaaGreat
open Go Go.AM

theorem blt_iff : ∀ {a b : List UInt8}, bLt a b = true ↔ a < b
  | a, [] => by
    refine ⟨fun h => ?_, fun h => absurd h (List.not_lt_nil a)⟩
    cases a <;> cases h
  | [], y :: b => ⟨fun _ => List.nil_lt_cons y b, fun _ => rfl⟩
  | x :: a, y :: b => by
    rw [bLt_cons, List.cons_lt_cons_iff, blt_iff (a := a) (b := b), UInt8.toNat_inj, UInt8.lt_iff_toNat_lt]
theorem compL_strict {d : List (List UInt8)} (hs : d.Pairwise fun a b => a ≤ b) : ∀ m, m ≤ d.length →
    (Lib.compactUpTo d.toArray m).Pairwise (fun a b => a < b) ∧ (∀ x, x ∈ Lib.compactUpTo d.toArray m ↔ x ∈ d.take m)
  | 0, _ => by simp [Lib.compactUpTo]
  | m + 1, hm => by
    obtain ⟨h1, h2⟩ := compL_strict hs m (by omega)
    have hml : m < d.length := hm
    have get : ∀ j (h : j < d.length), d.toArray[j]! = d[j] := fun j h => by rw [getElem!_pos d.toArray j (by simpa using h)]; simp
    have hle : ∀ i j (hi : i < d.length) (hj : j < d.length), i ≤ j → d[i] ≤ d[j] := fun i j hi hj hij => by
      by_cases e : i = j
      · subst e; exact List.le_refl _
      · exact List.pairwise_iff_getElem.1 hs i j hi hj (by omega)
    rw [Lib.compactUpTo_succ, List.take_succ_eq_append_getElem hml, get m hml]
    by_cases hk : Lib.keeps d.toArray m = true
    · rw [if_pos hk]
      refine ⟨List.pairwise_append.2 ⟨h1, by simp, fun x hx y hy => ?_⟩, fun x => ?_⟩
      · rw [List.mem_singleton] at hy; subst hy
        obtain ⟨j, hj, rfl⟩ := List.mem_take_iff_getElem.1 ((h2 x).1 hx)
        have hjm : j < m := by omega
        apply Classical.byContradiction
        intro hno
        have e : d[j] = d[m] := List.le_antisymm (hle j m (by omega) hml (by omega)) (List.not_lt.1 hno)
        have e2 : d[m - 1] = d[m] := List.le_antisymm (hle (m - 1) m (by omega) hml (by omega)) (by rw [← e]; exact hle j (m - 1) (by omega) (by omega) (by omega))
        have := Lib.keeps_neg (d := d.toArray) (m := m) (by omega) (by rw [get m hml, get (m - 1) (by omega), e2])
        rw [this] at hk; cases hk
      · simp only [List.mem_append, h2 x]
    · rw [if_neg hk, List.append_nil]
      refine ⟨h1, fun x => ?_⟩
      simp only [List.mem_append, h2 x, List.mem_singleton]
      refine ⟨.inl, fun h => h.elim id fun e => ?_⟩
      subst e
      have hm0 : 0 < m := by
        rcases Nat.eq_zero_or_pos m with h | h
        · subst h; exact absurd (Lib.keeps_lt_one _ 0 (by omega)) hk
        · exact h
      have e : d[m] = d[m - 1] := by
        apply Classical.byContradiction
        intro hne
        exact hk (Lib.keeps_pos (by rw [get m hml, get (m - 1) (by omega)]; exact hne))
      rw [e]
      exact List.mem_take_iff_getElem.2 ⟨m - 1, by omega, rfl⟩
theorem sortL_sorted (l : List (List UInt8)) : (sortL l).Pairwise fun a b => a ≤ b := by
  refine List.Pairwise.imp (fun {a b} h => of_decide_eq_true h) (List.pairwise_mergeSort ?_ ?_ l)
  · intro a b c h1 h2
    exact decide_eq_true (List.le_trans (of_decide_eq_true h1) (of_decide_eq_true h2))
  · intro a b
    rcases List.le_total a b with h | h
    · rw [decide_eq_true h]; rfl
    · rw [decide_eq_true h, Bool.or_true]
theorem canL_strict (l : List (List UInt8)) : (canL l).Pairwise fun a b => a < b :=
  (compL_strict (sortL_sorted l) (sortL l).length (Nat.le_refl _)).1
theorem mem_canL {l : List (List UInt8)} {x : List UInt8} : x ∈ canL l ↔ x ∈ l := by
  have := (compL_strict (sortL_sorted l) (sortL l).length (Nat.le_refl _)).2 x
  rw [List.take_length, mem_sortL] at this
  exact this
theorem strictL_unique : ∀ {l m : List (List UInt8)}, (l.Pairwise fun a b => a < b) → (m.Pairwise fun a b => a < b) → (∀ x, x ∈ l ↔ x ∈ m) → l = m
  | [], [], _, _, _ => rfl
  | [], b :: m, _, _, h => absurd ((h b).2 (by simp)) (by simp)
  | a :: l, [], _, _, h => absurd ((h a).1 (by simp)) (by simp)
  | a :: l, b :: m, hl, hm, h => by
    obtain ⟨ha, hl2⟩ := List.pairwise_cons.1 hl
    obtain ⟨hb, hm2⟩ := List.pairwise_cons.1 hm
    have e : a = b := by
      rcases List.mem_cons.1 ((h a).1 (by simp)) with e | e
      · exact e
      · rcases List.mem_cons.1 ((h b).2 (by simp)) with e2 | e2
        · exact e2.symm
        · exact absurd (List.lt_trans (ha b e2) (hb a e)) (List.lt_irrefl a)
    subst e
    refine congrArg (List.cons a) (strictL_unique hl2 hm2 (fun x => ⟨fun hx => ?_, fun hx => ?_⟩))
    · rcases List.mem_cons.1 ((h x).1 (by simp [hx])) with e | e
      · subst e; exact absurd (ha x hx) (List.lt_irrefl x)
      · exact e
    · rcases List.mem_cons.1 ((h x).2 (by simp [hx])) with e | e
      · subst e; exact absurd (hb x hx) (List.lt_irrefl x)
      · exact e
def insE (x : List UInt8) : List (List UInt8) → List (List UInt8)
  | [] => [x]
  | y :: r => match bLt x y with
    | true => x :: y :: r
    | false => match bLt y x with
      | true => y :: insE x r
      | false => y :: r
def canE : List (List UInt8) → List (List UInt8)
  | [] => []
  | x :: r => insE x (canE r)
theorem insE_mem (x : List UInt8) : ∀ (l : List (List UInt8)) (z : List UInt8), z ∈ insE x l ↔ z = x ∨ z ∈ l
  | [], z => by simp [insE]
  | y :: r, z => by
    unfold insE
    split
    · simp
    · rename_i h1
      split
      · rw [List.mem_cons, insE_mem x r z, List.mem_cons]
        exact ⟨fun h => h.elim (fun h => .inr (.inl h)) fun h => h.elim .inl fun h => .inr (.inr h), fun h => h.elim (fun h => .inr (.inl h)) fun h => h.elim .inl fun h => .inr (.inr h)⟩
      · rename_i h2
        have a1 : ¬ x < y := fun h => by rw [blt_iff.2 h] at h1; cases h1
        have a2 : ¬ y < x := fun h => by rw [blt_iff.2 h] at h2; cases h2
        have e : x = y := List.le_antisymm (List.not_lt.1 a2) (List.not_lt.1 a1)
        subst e
        simp
theorem insE_strict (x : List UInt8) : ∀ (l : List (List UInt8)), (l.Pairwise fun a b => a < b) → (insE x l).Pairwise fun a b => a < b
  | [], _ => by simp [insE]
  | y :: r, h => by
    obtain ⟨h1, h2⟩ := List.pairwise_cons.1 h
    unfold insE
    split
    · rename_i e
      refine List.pairwise_cons.2 ⟨fun z hz => ?_, h⟩
      rcases List.mem_cons.1 hz with rfl | hz
      · exact blt_iff.1 e
      · exact List.lt_trans (blt_iff.1 e) (h1 z hz)
    · split
      · rename_i e
        refine List.pairwise_cons.2 ⟨fun z hz => ?_, insE_strict x r h2⟩
        rcases (insE_mem x r z).1 hz with rfl | hz
        · exact blt_iff.1 e
        · exact h1 z hz
      · exact h
theorem canE_mem : ∀ (l : List (List UInt8)) (z : List UInt8), z ∈ canE l ↔ z ∈ l
  | [], _ => Iff.rfl
  | x :: r, z => by rw [show canE (x :: r) = insE x (canE r) from rfl, insE_mem, canE_mem r z, List.mem_cons]
theorem canE_strict : ∀ (l : List (List UInt8)), (canE l).Pairwise fun a b => a < b
  | [] => List.Pairwise.nil
  | x :: r => insE_strict x _ (canE_strict r)
theorem canE_eq (l : List (List UInt8)) : canE l = canL l :=
  strictL_unique (canE_strict l) (canL_strict l) fun x => (canE_mem l x).trans mem_canL.symm
theorem canL_of {l m : List (List UInt8)} (hm : m.Pairwise fun a b => a < b) (h : ∀ x, x ∈ l ↔ x ∈ m) : canL l = m :=
  strictL_unique (canL_strict l) hm fun x => mem_canL.trans (h x)
end Go.Proofs.YtpljmccnfmkmfaaGreat
end

section
namespace Go.Proofs.YtpljmccnfmkmfaaGreat
open Go Go.AM Go.RowKit

def facB (ws : List (List UInt8)) (w : List UInt8) : Bool := decide (0 < (Mc.runSt canL ws w).length)
theorem canL_le (l : List (List UInt8)) : (canL l).length ≤ l.length := by
  have h := compact_le (sortL l)
  rw [sortL_length] at h
  exact h
theorem tails_le (c : UInt8) : ∀ l : List (List UInt8), (Mc.tails c l).length ≤ l.length
  | [] => Nat.le_refl _
  | a :: l => by
    have ih := tails_le c l
    have e : Mc.tails c (a :: l) = Mc.tl1 c a ++ Mc.tails c l := rfl
    have h : (Mc.tl1 c a).length ≤ 1 := by
      cases a with
      | nil => exact Nat.zero_le _
      | cons d y =>
        rw [Mc.tl1_cons]
        split
        · exact Nat.le_refl _
        · exact Nat.zero_le _
    rw [e, List.length_append, List.length_cons]
    omega
theorem rdS_le (X S : List (List UInt8)) (c : UInt8) : (Mc.rdS X S c).length ≤ S.length + X.length := by
  unfold Mc.rdS
  rw [List.length_append]
  have h1 := tails_le c S
  have h2 := tails_le c X
  split
  · omega
  · simp only [List.length_nil]; omega
theorem begL_le : ∀ {X : List (List UInt8)}, (∀ x ∈ X, x.length ≤ 32) → (Mc.begL X).length ≤ 33 * X.length
  | [], _ => Nat.le_refl _
  | a :: l, h => by
    have ih := begL_le (X := l) fun x hx => h x (List.mem_cons_of_mem _ hx)
    have h1 := h a (by simp)
    have e : Mc.begL (a :: l) = Mc.ends a ++ Mc.begL l := rfl
    have e2 : (Mc.ends a).length = a.length + 1 := by unfold Mc.ends; rw [List.length_map, List.length_range]
    rw [e, List.length_append, List.length_cons, e2]
    omega
theorem run_le {X : List (List UInt8)} (h : ∀ x ∈ X, x.length ≤ 32) : ∀ (w : List UInt8) (i : Nat), i ≤ w.length → (Mc.runSt canL X (w.take i)).length ≤ 33 * X.length + i * X.length
  | w, 0, _ => by
    have e : Mc.runSt canL X (w.take 0) = canL (Mc.begL X) := rfl
    rw [e]
    exact Nat.le_trans (canL_le _) (Nat.le_trans (begL_le h) (by omega))
  | w, i + 1, hi => by
    have ih := run_le h w i (by omega)
    rw [List.take_succ_eq_append_getElem (by omega), Mc.runSt_snoc, Nat.add_mul, Nat.one_mul]
    exact Nat.le_trans (canL_le _) (Nat.le_trans (rdS_le _ _ _) (by omega))

end Go.Proofs.YtpljmccnfmkmfaaGreat
end

section
namespace Go.Proofs.YtpljmccnfmkmfaaGreat
open Go Go.AM

theorem cm28 (q : Int) (ws : List (List UInt8)) (hc : codeCheck q ws = 0) : PFn Tryz.prog 44 [codeV q ws] [Kn.ratV (Kn.krS q.toNat (ws.map List.length)) (q.toNat ^ 32), .int .i64 0] := by
  have hv := valid_of hc
  have h2 := hv.q2
  have h16 := hv.q16
  have hq : ((q.toNat : Nat) : Int) = q := by omega
  have hlen := hv.len
  have e45 := t45 q ws
  rw [hc] at e45
  have hz : ((0 : Int) = 0) = True := by simp
  have ek := Kn.v50 q.toNat (ws.map List.length) (by omega) (by omega) (by simp; omega) (fun n hn => by
    obtain ⟨w, hw, rfl⟩ := List.mem_map.1 hn
    obtain ⟨h1, h3, _⟩ := hv.words w hw
    have := List.length_pos_iff.2 h1
    omega)
  rw [hq] at ek
  refine PFn.of_body hΓ Tryz.func44 (by kernel_rfl) rfl (AWp.of_awpD [] hΓ hmix (by kernel_rfl) ?_)
  simp -implicitDefEqProofs only [Tryz.ntmps44, Tryz.results44, Nat.reduceAdd, Nat.reduceSub, codeV, go_sem]
  refine callK_fn e45 (.still rfl) ?_
  simp -implicitDefEqProofs only [go_sem]
  refine AWp.adopt (l := []) 4 3 1 (by rfl) (by simp) ?_
  simp -implicitDefEqProofs only [go_sem]
  refine AWp.loopI (fun i : Nat => ⟨mkF 30 [(1, .ptr 0 0), (2, .ptr 1 0), (4, .own 2 ((ws.map List.length).take i).length), (12, .p (.sl (ws.map .str))), (13, .p (.int .i64 ws.length)), (14, .p (.int .i64 i))], [codeB q ws, .box [.p (.bool false), .p (.str []), .p (.bool false), .p (.str [])], .row 3 1 (((ws.map List.length).take i).map Kn.nV) .lax]⟩)
    (fun i => i ≤ ws.length) (fun i => ws.length - i) 0 (by simp [go_sem, codeB]) (by simp) ?_
  intro i hi
  refine AWp.of_awpD [] hΓ hmix (by kernel_rfl) ?_
  by_cases hlt : i < ws.length
  · have hlt' : (i : Int) < (ws.length : Int) := by omega
    have hgi : (ws.map PV.str).getD i default = .str ws[i] := getD_map_lt _ _ _ _ hlt
    have htk : (ws.map List.length).take (i + 1) = (ws.map List.length).take i ++ [ws[i].length] := by
      rw [List.take_succ_eq_append_getElem (by simpa using hlt), List.getElem_map]
    have hli : ((ws.map List.length).take i).length = i := by simp; omega
    have hs1 : sizeOK [PV.int .i64 (ws[i].length : Int)] 1 := by simp [sizeOK, PV.cells]
    have ho1 : oneOK [PV.int .i64 (ws[i].length : Int)] := by simp [oneOK, PV.cells, PV.isAgg]
    simp -implicitDefEqProofs only [hlt', hgi, codeB, Int.toNat_natCast, go_sem]
    refine ⟨⟨hs1, by omega⟩, ⟨hs1, ho1⟩, ⟨by simp, by rw [hli]; omega, by rw [hli]; omega⟩, by simp only [InR]; omega, i + 1, ⟨⟨by rw [htk]; simp, by simp⟩, .inr ?_⟩, hlt, by omega⟩
    rw [htk]
    simp [Kn.nV]
  · have hlt' : ¬ (i : Int) < (ws.length : Int) := by omega
    have : i = ws.length := by omega
    subst this
    rw [List.take_of_length_le (by simp)]
    simp -implicitDefEqProofs only [Int.lt_irrefl, Nat.lt_irrefl, codeB, go_sem]
    refine callK_fn ek (.owned rfl rfl) ?_
    simp -implicitDefEqProofs only [Kn.ratV, go_sem]

theorem aggR {A B C D : List UInt8} {x y : AV} {K : AV → Prop} (hx : x.pure = some (.agg [.bool false, .str A, .bool false, .str B])) (hy : y.pure = some (.agg [.bool false, .str C, .bool false, .str D]))
    (hK : K (.p (.bool (decide (A = C) && decide (B = D))))) : aggK Γ .eql 55 x y K := by
  have he : ∃ te fs, Γ 55 = some te ∧ te.td = .struct fs ∧ te.eqs = true ∧ eqAgg Γ fs [.bool false, .str A, .bool false, .str B] [.bool false, .str C, .bool false, .str D] =
      some (((false == false) && (decide (A = C) && true)) && (((false == false) && (decide (B = D) && true)) && true)) := ⟨_, _, rfl, rfl, rfl, rfl⟩
  obtain ⟨te, fs, h1, h2, h3, h4⟩ := he
  have e : (((false == false) && (decide (A = C) && true)) && (((false == false) && (decide (B = D) && true)) && true)) = (decide (A = C) && decide (B = D)) := by simp
  rw [e] at h4
  unfold aggK
  rw [hx, hy]
  simp only [tyAt, h1, h2, h3, h4]
  exact ⟨⟨trivial, rfl, rfl⟩, hK⟩
end Go.Proofs.YtpljmccnfmkmfaaGreat
end

section
namespace Go.Proofs.YtpljmccnfmkmfaaGreat
open Go Go.AM

theorem pow_capF {q : Nat} (hq : q ≤ 16) : q ^ 32 < capN := by
  have h1 : q ^ 32 ≤ 16 ^ 32 := Nat.pow_le_pow_left hq 32
  have h2 : 16 ^ 32 < capN := Nat.lt_of_lt_of_le (by decide : 16 ^ 32 < 256 ^ 17) (Nat.pow_le_pow_right (by decide) (by decide))
  omega

theorem cm14 (q : Nat) (ns : List Nat) (hq : 2 ≤ q) (hq16 : q ≤ 16) (hn : ns.length < 20) (h32 : ∀ n ∈ ns, 1 ≤ n ∧ n ≤ 32) :
    PFn Tryz.prog 46 [.int .i64 q, .sl (ns.map Kn.nV)] [.bool (decide (Kn.krS q ns ≤ q ^ 32)), .int .i64 0] := by
  have e50 := Kn.v50 q ns hq hq16 (by omega) h32
  have hkl := Kn.krS_le hq16 ns
  have hc1 := pow_capF hq16
  have hcap : (ns.length * 16 ^ 32) * 1 < capN := by
    have h2 : ns.length * 16 ^ 32 ≤ 20 * 16 ^ 32 := Nat.mul_le_mul_right _ (by omega)
    have h3 : 20 * 16 ^ 32 < capN := Nat.lt_of_lt_of_le (by decide : 20 * 16 ^ 32 < 256 ^ 18) (Nat.pow_le_pow_right (by decide) (by decide))
    omega
  have hq0 : q ^ 32 ≠ 0 := Nat.pos_iff_ne_zero.1 (Nat.pow_pos (by omega))
  have h1c := Kn.one_cap
  have e58 := Kn.v58
  have e51 := Kn.v51 (Kn.krS q ns) (q ^ 32) 1 1 (by omega) hc1 h1c h1c hq0 (by omega) (by omega) (by omega)
  rw [Nat.mul_one, Nat.one_mul] at e51
  unfold Kn.ratV at e50 e51 e58
  refine PFn.of_body hΓ Tryz.func46 (by kernel_rfl) rfl (AWp.seq (AWp.of_awpD [] hΓ hmix (by kernel_rfl) ?_))
  simp -implicitDefEqProofs only [Tryz.ntmps46, Tryz.results46, Nat.reduceAdd, Nat.reduceSub, go_sem]
  refine AWp.seq (AWp.of_awpD [] hΓ hmix (by kernel_rfl) ?_)
  simp -implicitDefEqProofs only [go_sem]
  refine callK_fn e50 (.pures rfl) ?_
  simp -implicitDefEqProofs only [go_sem]
  refine AWp.of_awpD [(2, 11)] hΓ hmix (by kernel_rfl) ?_
  simp -implicitDefEqProofs only [go_sem]
  refine callVPK_fn e58 (.pures rfl) ?_
  simp -implicitDefEqProofs only [go_sem]
  refine callVPK_fn e51 (.still rfl) ?_
  simp -implicitDefEqProofs only [go_sem]
  by_cases h : Kn.krS q ns ≤ q ^ 32
  · have hc : cmpN (Kn.krS q ns) (q ^ 32) ≤ 0 := by
      by_cases he : Kn.krS q ns = q ^ 32
      · rw [he, cmpN_eq]; decide
      · rw [cmpN_lt (by omega)]; decide
    rw [decide_eq_true h, decide_eq_true hc]
  · rw [cmpN_gt (by omega), decide_eq_false h]
    rfl

end Go.Proofs.YtpljmccnfmkmfaaGreat
end

