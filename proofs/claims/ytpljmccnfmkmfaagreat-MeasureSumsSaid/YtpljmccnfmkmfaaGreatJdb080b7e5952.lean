/-
  Texts of this claim, joined.
-/
import Derived.Shelf.Slices.In.SortNone
import Derived.Test.YtpljmccnfmkmfaaGreatJ6a4b85533423
import Derived.Test.YtpljmccnfmkmfaaGreatJ314b3bde5c70
import Derived.Test.YtpljmccnfmkmfaaGreatJ85e9d9b12164
import Derived.Test.YtpljmccnfmkmfaaGreatJ74fcf531d424
import Derived.Test.YtpljmccnfmkmfaaGreatJ7cb4b7e9e247
import Derived.Test.YtpljmccnfmkmfaaGreatJd16cf1e4a705
import Derived.Test.YtpljmccnfmkmfaaGreatJb14288946cc8
import Derived.Test.YtpljmccnfmkmfaaGreatJf769cdf4d129

set_option linter.unusedSimpArgs false
set_option maxRecDepth 1000000
set_option maxHeartbeats 4000000
section
namespace Go.Proofs.YtpljmccnfmkmfaaGreat
open Go Go.AM Go.RowKit Go.Shelf

def Z0t (l : List (List UInt8)) : List (List UInt8) := l.mergeSort fun x y => decide (x ≤ y)
theorem Zr (l : List (List UInt8)) : (Z0t l).length = l.length := by unfold Z0t; simp
theorem Zf3 {l : List (List UInt8)} {x : List UInt8} : x ∈ Z0t l ↔ x ∈ l := (List.mergeSort_perm l _).mem_iff
theorem Zhr (d : List (List UInt8)) (blk off cap : Nat) (w : World) (hH : Sort.Holds encW w blk off d.toArray) (hb : blk < w.heap.size) (hd : d.length < 4611686018427387904) :
    Calls Tryz.prog 197 #[.slice (some ⟨blk, off, none⟩) d.length cap] w fun e w' => e = .returned (.tuple #[]) ∧ ∃ n os, w' = sortWorld encW w blk off n (Z0t d).toArray os :=
  Any.slices_Sort_string (ρ := Tryz.sortO_ren) Tryz.sortO blk off cap d w hH hb hd

theorem c197 {h : List AObj} {b : Nat} (l : List (List UInt8)) (hb : h[b]? = some (.row 9 1 (l.map .str) .own)) (hsz : l.length ≤ 1000000) :
    AC Tryz.prog 197 [.own b l.length] h [] (fun v h' => v = .tup [] ∧ h' = h.set b (.row 9 1 ((Z0t l).map .str) .own)) := by
  refine ⟨Z05 Tryz.func197 (by kernel_rfl) rfl, fun X I μ ob w cargs R hlen hargs _ => ?_⟩; obtain ⟨a0, rfl⟩ : ∃ a, cargs = [a] := by
    match cargs, hlen with
    | [a], _ => exact ⟨a, rfl⟩
  have g0 := hargs 0 (by simp); simp only [List.getD_cons_zero] at g0; obtain ⟨a, c, rfl, hbn, hbm⟩ := g0.own_inv; obtain ⟨hall, hrow⟩ := R.objs _ _ hb; rcases hrow with ⟨g, hg, off, cap, cur, fr, vs, e1, e2, e3, e4, e5, e6, e7, e8, e9, e10⟩ | ⟨hk, _⟩
  rotate_left
  · cases hk
  rw [hbm] at e1; simp only [List.length_map] at e1 e5 e7 e8 e9 e10
  injection e1 with e1a _ e1c
  subst e1a e1c; have hfr := e3 rfl; subst hfr; have hgl := (R.own b g hg).2.2; have cell : ∀ j (hj : j < l.length), cur[off + j]? = some (encW l[j]) := fun j hj => by
    have h1 := e10 j (by omega); rw [Z4l, Z5 _ _ _ _ hj] at h1; have h2 := Zg9 h1; have h3 : cur.toList[off + j]? = some (vs.getD j undef) := by
      have : vs[j]? = some (vs.getD j undef) := by rw [List.getD_eq_getElem?_getD, List.getElem?_eq_getElem (by omega)]; rfl
      rw [← e8, List.getElem?_take_of_lt (by omega), List.getElem?_drop] at this; exact this.trans (by rw [e8])
    rw [Array.getElem?_toList, h2] at h3; exact h3
  have hH : Sort.Holds encW w g off l.toArray := fun j hj => by
    have hj' : j < l.length := by simpa using hj
    refine ⟨?_, ?_⟩
    · unfold World.cell?
      simp only [e2]; rw [cell j hj', getElem!_pos l.toArray j hj]; simp
    · unfold World.frozen?
      simp only [e2]; simp
  have hc := Zhr l g off c w hH hgl (by omega); refine Calls.mono (P := Tryz.prog) hc ?_; rintro e w' ⟨rfl, n, os, rfl⟩; have hsl : (Z0t l).toArray.size = l.length := by simp [Zr]
  -- the world that is left
  have hnew : (sortWorld encW w g off n (Z0t l).toArray os).heap[g]? = some (.cells (Sort.putCells encW off (Z0t l).toArray cur) 9 (0, 0)) := by
    unfold sortWorld; rw [Sort.heap_grow_old _ _ (by simp [Sort.ahead]; exact hgl)]; show (w.heap.modify g _)[g]? = _; rw [Array.getElem?_modify, if_pos rfl, e2]; rfl
  have hold : ∀ k, k < w.heap.size → k ≠ g → (sortWorld encW w g off n (Z0t l).toArray os).heap[k]? = w.heap[k]? := fun k hk hne => by
    unfold sortWorld; rw [Sort.heap_grow_old _ _ (by simp [Sort.ahead]; exact hk)]; show (w.heap.modify g _)[k]? = _; rw [Array.getElem?_modify, if_neg (fun e => hne e.symm)]
  have hgrow : w.grownBy (sortWorld encW w g off n (Z0t l).toArray os) (some g) := ⟨rfl, rfl, rfl, by simp [sortWorld, Sort.ahead], fun k hk hk2 => hold k hk (fun e => hk2 (by rw [e]))⟩; have hput : ∀ j, j < l.length → (Sort.putCells encW off (Z0t l).toArray cur)[off + j]? = some (encW ((Z0t l).getD j [])) := fun j hj => by
    unfold Sort.putCells; rw [Array.getElem?_mapIdx, cell j hj]; simp only [Option.map_some]; rw [if_pos ⟨Nat.le_add_right _ _, by rw [hsl]; omega⟩, Nat.add_sub_cancel_left, getElem!_pos (Z0t l).toArray j (by rw [hsl]; exact hj), List.getD_eq_getElem?_getD, List.getElem?_eq_getElem (by rw [Zr]; exact hj)]; simp
  have hps : (Sort.putCells encW off (Z0t l).toArray cur).size = cur.size := by unfold Sort.putCells; rw [Array.size_mapIdx]
  have hpl : (((Sort.putCells encW off (Z0t l).toArray cur).toList.drop off).take l.length).length = l.length := by
    have h1 : (Sort.putCells encW off (Z0t l).toArray cur).toList.length = cur.size := by simpa using hps
    rw [List.length_take, List.length_drop, h1]; omega
  have R2 := R.write (b0 := b) (g0 := g) (o := .row 9 1 ((Z0t l).map .str) .own) hbn hg hgrow ⟨fun x hx => by
      obtain ⟨u, _, rfl⟩ := List.mem_map.1 hx; rfl, .inl ⟨g, hg, off, c, Sort.putCells encW off (Z0t l).toArray cur, (0, 0), ((Sort.putCells encW off (Z0t l).toArray cur).toList.drop off).take l.length, by rw [hbm, List.length_map, Zr], hnew, fun _ => rfl, by simp,
        by rw [List.length_map, Zr]; exact e5, e6, by rw [hps]; exact e7, by rw [List.length_map, Zr, Nat.mul_one], by
          rw [List.length_map, Zr, hpl, Nat.mul_one], fun j hj => ?_⟩⟩
  · exact ⟨_, .tup [], _, I, μ, ob, rfl, R2, .tup [] [] rfl (by simp), fun _ h => h, fun _ _ _ => rfl, by simp, fun g hg => .inl hg, fun b g hb => .inl ⟨b, hb⟩, fun k hk hno => hold k hk (fun e => hno b (by rw [e]; exact hg)), rfl, rfl⟩
  · rw [List.length_map, Zr, Nat.mul_one] at hj
    rw [Z4l, Z5 _ _ _ _ (by rw [Zr]; exact hj)]; have : (((Sort.putCells encW off (Z0t l).toArray cur).toList.drop off).take l.length).getD j undef = encW ((Z0t l).getD j []) := by
      rw [List.getD_eq_getElem?_getD, List.getElem?_take_of_lt hj, List.getElem?_drop, Array.getElem?_toList, hput j hj]; rfl
    rw [this, List.getD_eq_getElem?_getD, List.getElem?_eq_getElem (by rw [Zr]; exact hj)]; exact Zem _

theorem c197n {h : List AObj} {b : Nat} : AC Tryz.prog 197 [.own b 0] h [] (fun v h' => v = .tup [] ∧ h' = h) := by
  refine ⟨Z05 Tryz.func197 (by kernel_rfl) rfl, fun X I μ ob w cargs R hlen hargs _ => ?_⟩; obtain ⟨a0, rfl⟩ : ∃ a, cargs = [a] := by
    match cargs, hlen with
    | [a], _ => exact ⟨a, rfl⟩
  have g0 := hargs 0 (by simp); simp only [List.getD_cons_zero] at g0; obtain ⟨a, c, rfl, hbn, hbm⟩ := g0.own_inv; have hc : Calls Tryz.prog 197 #[.slice a 0 c] w fun e w' => e = .returned (.tuple #[]) ∧ w' = w := Any.slices_Sort_string_none (ρ := Tryz.sortO_ren) Tryz.sortO a c w
  refine Calls.mono (P := Tryz.prog) hc ?_; rintro e w' ⟨rfl, rfl⟩; exact ⟨_, .tup [], _, I, μ, ob, rfl, R, .tup [] [] rfl (by simp), fun _ h => h, fun _ _ _ => rfl, Nat.le_refl _, fun g hg => .inl hg, fun b g hb => .inl ⟨b, hb⟩, fun k hk hno => rfl, rfl, rfl⟩
end Go.Proofs.YtpljmccnfmkmfaaGreat
end

section
namespace Go.Proofs.YtpljmccnfmkmfaaGreat
open Go Go.AM Go.RowKit

def canL (l : List (List UInt8)) : List (List UInt8) := Lib.compact (Z0t l)
theorem c149 {h : List AObj} {b : Nat} (l : List (List UInt8)) (hb : h[b]? = some (.row 9 1 (l.map .str) .own)) (hsz : l.length ≤ 1000000) :
    AC Tryz.prog 149 [.own b l.length] h [b] (fun v h' => v = .own b (canL l).length ∧ h' = (h.map (AObj.kill b)).set b (.row 9 1 ((canL l).map .str) .own)) := by
  have hbl : b < h.length := (List.getElem?_eq_some_iff.1 hb).1; refine AC.of_bodyE hΓ Tryz.func149 (by kernel_rfl) rfl (AWp.mono (Q := fun e st => AM.Ends e ∧ st.tmps.getD 2 .junk = .own b (canL l).length ∧ st.h = (h.map (AObj.kill b)).set b (.row 9 1 ((canL l).map .str) .own)) ?_ ?_)
  rotate_left
  · rintro e ⟨tm, h'⟩ ⟨he, h1, h2⟩
    simp only at h1 h2; subst h2; refine ⟨he, _, Less.refl _, ?_⟩; unfold Z4q; simp +contextual -implicitDefEqProofs only [Tryz.results149, h1, go_sem]; exact ⟨_, by simp, .inl rfl, List.take_length⟩
  refine Wd [] ?_; simp -implicitDefEqProofs only [Tryz.ntmps149, Nat.reduceAdd, Nat.reduceSub, go_sem]; refine Zl (c197 l hb hsz) (by simp) ?_; rintro v h' ⟨rfl, rfl⟩; simp -implicitDefEqProofs only [Za, List.foldl, go_sem]; have e := c107 (h := h.set b (.row 9 1 ((Z0t l).map .str) .own)) (b := b) (Z0t l) (by rw [List.getElem?_set_self hbl]) (by rw [Zr]; exact hsz); rw [Zr] at e; refine Zl e (by simp) ?_; rintro v h' ⟨rfl, rfl⟩; simp -implicitDefEqProofs only [Za, List.foldl, go_sem]; refine ⟨rfl, ?_⟩; rw [List.map_set, List.set_set]; rfl
theorem c149n {h : List AObj} {b : Nat} : AC Tryz.prog 149 [.own b 0] h [] (fun v h' => v = .own b 0 ∧ h' = h) := by
  refine AC.of_bodyE hΓ Tryz.func149 (by kernel_rfl) rfl (AWp.mono (Q := fun e st => AM.Ends e ∧ st.tmps.getD 2 .junk = .own b 0 ∧ st.h = h) ?_ ?_)
  rotate_left
  · rintro e ⟨tm, h'⟩ ⟨he, h1, h2⟩
    simp only at h1 h2; subst h2; refine ⟨he, _, Less.refl _, ?_⟩; unfold Z4q; simp +contextual -implicitDefEqProofs only [Tryz.results149, h1, go_sem]; exact ⟨_, by simp, .inl rfl, List.take_length⟩
  refine Wd [] ?_; simp -implicitDefEqProofs only [Tryz.ntmps149, Nat.reduceAdd, Nat.reduceSub, go_sem]; refine Zl c197n (by simp) ?_; rintro v h' ⟨rfl, rfl⟩; simp -implicitDefEqProofs only [Za, List.foldl, go_sem]; refine Zl c107n (by simp) ?_; rintro v h' ⟨rfl, rfl⟩; simp -implicitDefEqProofs only [Za, List.foldl, go_sem]
end Go.Proofs.YtpljmccnfmkmfaaGreat
end

section
namespace Go.Proofs.YtpljmccnfmkmfaaGreat
open Go Go.AM Go.Mc

def begT (ws : List (List UInt8)) (i : Nat) : List (List UInt8) := (ws.take i).flatMap ends
theorem Z76 {ws : List (List UInt8)} {i : Nat} (hi : i < ws.length) : begT ws (i + 1) = begT ws i ++ ends ws[i] := by
  unfold begT; rw [List.take_succ_eq_append_getElem hi, List.flatMap_append]; simp
theorem Z94 {ws : List (List UInt8)} (hw : ∀ x ∈ ws, x.length ≤ 32) : ∀ i, i ≤ ws.length → (begT ws i).length ≤ 33 * i
  | 0, _ => by simp [begT]
  | i + 1, hi => by
    have h1 := Z94 hw i (by omega); have h2 := hw ws[i] (List.getElem_mem (by omega)); rw [Z76 (by omega), List.length_append, Z5z]; omega
theorem Zee {ws : List (List UInt8)} {i : Nat} (hi : i < ws.length) : rkOf (begT ws (i + 1)) = .own := by
  unfold rkOf; rw [if_neg]; intro e; have := congrArg List.length e; rw [Z76 hi, List.length_append, Z5z] at this; simp at this
theorem c87 (q : Int) (ws : List (List UInt8)) (hv : Valid q ws) : PFn Tryz.prog 87 [Zz q ws] [.sl ((canL (begL ws)).map .str)] := by
  have hlen := hv.len; have hw32 : ∀ x ∈ ws, x.length ≤ 32 := fun x hx => (hv.words x hx).2.1
  refine PFn.of_body hΓ Tryz.func87 (by kernel_rfl) rfl (AWp.seq (Wd [] ?_)); simp -implicitDefEqProofs only [Tryz.ntmps87, Tryz.results87, Nat.reduceAdd, Nat.reduceSub, Zz, go_sem]; refine AWp.seq (Wd [] ?_); simp -implicitDefEqProofs only [go_sem]; refine AWp.adopt (l := []) 3 9 1 (by rfl) (by simp) ?_; simp -implicitDefEqProofs only [go_sem]; refine AWp.seq (Wd [] ?_); simp -implicitDefEqProofs only [List.length_map, go_sem]
  refine AWp.loopJ (fun i : Nat => ⟨mkF 20 [(1, .ptr 0 0), (3, .own 1 (begT ws i).length), (7, .p (.sl (ws.map .str))), (8, .p (.int .i64 ws.length)), (9, .p (.int .i64 i))], [.box [.p (.int .i64 q), .p (.sl (ws.map .str))], .row 9 1 ((begT ws i).map .str) (rkOf (begT ws i))]⟩)
    (fun i => i ≤ ws.length) (fun i => ws.length - i) 0 (fun x => by simp [Z15, mkF, AV.blw, AV.blw.blwL, blwH, AObj.blw]) (by simp [go_sem, begT, rkOf]) (by omega) ?_
  intro i hi; refine Wd [] ?_; by_cases hlt : i < ws.length
  · have hg : (ws.map PV.str).getD i default = .str ws[i] := Z5 _ _ _ _ hlt
    have hb := Z94 hw32 i (by omega); have hsu := Z76 hlt; have hx := hw32 ws[i] (List.getElem_mem hlt); simp -implicitDefEqProofs only [hlt, hg, Int.toNat_natCast, go_sem]; refine Zl (c148 _) (by simp) ?_; rintro v h' ⟨rfl, rfl⟩; simp -implicitDefEqProofs only [Za, List.foldl, go_sem]; refine Zl (c147 q ws (begT ws i) ws[i] (by omega) (by omega)) (by simp) ?_; rintro v h' ⟨rfl, rfl⟩; simp -implicitDefEqProofs only [Za, List.foldl, go_sem]; exact ⟨by simp only [InR]; omega, i + 1, ⟨⟨by rw [hsu], by simp⟩, .inl ⟨by rw [hsu], Zee hlt⟩⟩, by omega, by omega⟩
  have hiw : i = ws.length := by omega
  subst hiw; simp -implicitDefEqProofs only [Nat.lt_irrefl, Int.lt_irrefl, go_sem]; have hpos := hv.pos; have hrk : rkOf (begT ws ws.length) = .own := by
    obtain ⟨m, hm⟩ : ∃ m, ws.length = m + 1 := ⟨ws.length - 1, by omega⟩; rw [hm]; exact Zee (by omega)
  have hb := Z94 hw32 ws.length (Nat.le_refl _); rw [hrk]; refine Wd [] ?_; simp -implicitDefEqProofs only [go_sem]; refine Zl (c149 (begT ws ws.length) rfl (by omega)) (by simp) ?_; rintro v h' ⟨rfl, rfl⟩; have ht : begT ws ws.length = begL ws := by unfold begT begL; rw [List.take_length]
  simp -implicitDefEqProofs only [Za, List.foldl, List.set_cons_zero, List.set_cons_succ, ht, go_sem]

def rdH (q : Int) (ws : List (List UInt8)) (c : UInt8) (out : List (List UInt8)) : List AObj :=
  [.box [.p (.int .i64 q), .p (.sl (ws.map .str))], .box [.p (.int .u8 c.toNat)], .box [.own 3 out.length], .row 9 1 (out.map .str) (rkOf out)]
theorem Zd0 {c : UInt8} {W : List (List UInt8)} {i : Nat} (hi : i < W.length) : Z1y c (W.take (i + 1)) = Z1y c (W.take i) ++ tl1 c W[i] := by
  unfold Z1y; rw [List.take_succ_eq_append_getElem hi, List.flatMap_append]; simp
theorem Z46 (c : UInt8) : ∀ W : List (List UInt8), (Z1y c W).length ≤ W.length
  | [] => Nat.le_refl _
  | x :: W => by
    have ih := Z46 c W; have e : Z1y c (x :: W) = tl1 c x ++ Z1y c W := rfl; rw [e, List.length_append, List.length_cons]; have : (tl1 c x).length ≤ 1 := by
      cases x with
      | nil => exact Nat.zero_le _
      | cons d y => rw [Zbq]; split <;> simp
    omega
theorem c150 (q : Int) (ws : List (List UInt8)) (c : UInt8) (out W : List (List UInt8)) (ho : out.length ≤ 1000000) (hW : W.length ≤ 1000000) :
    AC Tryz.prog 150 [.p (.sl (W.map .str)), .ptr 1 0, .ptr 2 0] (rdH q ws c out) [3] (fun _ h' => h' = rdH q ws c (out ++ Z1y c W)) := by
  refine AC.of_bodyE hΓ Tryz.func150 (by kernel_rfl) rfl (AWp.mono (Q := fun e st => AM.Ends e ∧ st.h = rdH q ws c (out ++ Z1y c W)) ?_ ?_)
  rotate_left
  · rintro e ⟨tm, h'⟩ ⟨he, h2⟩
    simp only at h2; subst h2; refine ⟨he, _, Less.refl _, ?_⟩; unfold Z4q; simp +contextual -implicitDefEqProofs only [Tryz.results150, go_sem]; exact ⟨4, by simp [rdH], .inl rfl, rfl⟩
  refine Wd [] ?_; simp -implicitDefEqProofs only [Tryz.ntmps150, Nat.reduceAdd, Nat.reduceSub, List.length_map, go_sem]
  refine AWp.loopI (fun i : Nat => ⟨mkF 26 [(1, .ptr 1 0), (2, .ptr 2 0), (6, .p (.sl (W.map .str))), (7, .p (.int .i64 W.length)), (8, .p (.int .i64 i))], rdH q ws c (out ++ Z1y c (W.take i))⟩)
    (fun i => i ≤ W.length) (fun i => W.length - i) 0 (by simp [go_sem, Zy, Z1y, rdH]) (by omega) ?_
  intro i hi; have hul : (Z1y c (W.take i)).length ≤ i := by have := Z46 c (W.take i); rw [List.length_take] at this; omega
  generalize hu : out ++ Z1y c (W.take i) = u at *; have hulen : u.length ≤ 2000000 := by rw [← hu, List.length_append]; omega
  unfold rdH; refine Wd [(3, 8), (4, 1000)] ?_; by_cases hlt : i < W.length
  · have hg : (W.map PV.str).getD i default = .str W[i] := Z5 _ _ _ _ hlt
    have hsu := Zd0 (c := c) hlt; by_cases hx0 : W[i] = []
    · rw [hx0] at hg hsu
      have hn : Z1y c (W.take (i + 1)) = Z1y c (W.take i) := by rw [hsu]; exact List.append_nil _
      simp -implicitDefEqProofs only [hlt, hg, Int.toNat_natCast, go_sem]; refine ⟨by simp only [InR]; omega, i + 1, ⟨by simp, ?_⟩, by omega, by omega⟩; rw [hn, hu]; simp [rdH, Zy]
    obtain ⟨d, y, hx⟩ := List.exists_cons_of_ne_nil hx0; rw [hx] at hg hsu; rw [Zbq] at hsu; have hg0 : (d :: y).getD (Int.toNat 0) 0 = d := rfl; have hp : 0 < (((y.length + 1 : Nat)) : Int) := by omega
    by_cases hd : d = c
    · subst hd
      rw [if_pos rfl] at hsu; simp -implicitDefEqProofs only [hlt, hg, Int.toNat_natCast, List.length_cons, hg0, hp, go_sem]; refine AWp.planL (.q 0 (.q 1 (.q 2 (.q 3 (.e 4 (.e 5 .fin .nil) .nil))))) hΓ hmix (by kernel_rfl) ?_; simp -implicitDefEqProofs only [List.length_cons, hp, go_sem]; have hd1 : List.drop (Int.toNat 1) (d :: y) = y := rfl; rw [hd1]; have hs1 : Zu [PV.str y] 1 := by simp [Zu, PV.cells]
      have ho1 : Z4z [PV.str y] := by simp [Z4z, PV.cells, PV.isAgg]
      refine ⟨⟨by omega, by omega⟩, ⟨hs1, by omega⟩, ⟨hs1, ho1⟩, ⟨by unfold rkOf; split <;> simp, .inr (by simp), by omega, by omega⟩, by simp only [InR]; omega, i + 1, ⟨by simp, ?_⟩, by omega, by omega⟩; rw [hsu, ← List.append_assoc, hu]; rw [Z9p]; simp
    · rw [if_neg hd, List.append_nil] at hsu
      have hdc : ¬ d.toNat = c.toNat := fun e => hd (UInt8.toNat_inj.1 e)
      simp -implicitDefEqProofs only [hlt, hg, Int.toNat_natCast, List.length_cons, hg0, hp, hdc, go_sem]; refine ⟨by simp only [InR]; omega, i + 1, ⟨by simp, ?_⟩, by omega, by omega⟩; rw [hsu, hu]; simp [rdH, Zy]
  have hiw : i = W.length := by omega
  subst hiw; simp -implicitDefEqProofs only [Nat.lt_irrefl, Int.lt_irrefl, go_sem]; rw [← hu, List.take_length]; exact ⟨rfl, rfl, rfl⟩

theorem AWp.seqT {E : Env} {r : Option Nat} {Q : Exit → St → Prop} {st : St} {x y : Code} (fr : St) (h2 : AWp E r y Q fr)
    (h1 : AWp E r y Q fr → AWp E r x (Z5h (fun st => AWp E r y Q st) Q) st) : AWp E r (.seq x y) Q st := AWp.seq (h1 h2)
theorem cs198 (a : List (List UInt8)) (x : List UInt8) (hl : a.length ≤ 9223372036854775807) : PFn Tryz.prog 198 [.sl (a.map .str), .str x] [.int .i64 (if x ∈ a then (a.idxOf x : Int) else -1)] := by
  refine PFn.of_body hΓ Tryz.func198 (by kernel_rfl) rfl (Wd [] ?_); simp -implicitDefEqProofs only [Tryz.ntmps198, Tryz.results198, Nat.reduceAdd, Nat.reduceSub, go_sem]
  refine AWp.loopI (fun k : Nat => ⟨mkF 19 [(0, .p (.sl (a.map .str))), (1, .p (.str x)), (4, .p (.int .i64 0)), (7, .p (.int .i64 a.length)), (8, .p (.int .i64 k))], []⟩)
    (fun k => k ≤ a.length ∧ x ∉ a.take k) (fun k => a.length - k) 0 (by simp [go_sem, Zy]) (by simp) ?_
  rintro k ⟨hk, h0⟩; refine Wd [] ?_; by_cases hlt : k < a.length
  · have hlt' : (k : Int) < (a.length : Int) := by omega
    have hg : (a.map PV.str).getD k default = .str a[k] := Z5 _ _ _ _ hlt; have htk : a.take (k + 1) = a.take k ++ [a[k]] := by rw [List.take_succ_eq_append_getElem hlt]
    by_cases he : x = a[k]
    · simp -implicitDefEqProofs only [hlt', hg, Int.toNat_natCast, he, List.length_map, go_sem]
      have hx : x ∈ a := he ▸ List.getElem_mem hlt; have hi : a.idxOf x = k := by
        conv => lhs; rw [← List.take_append_drop k a, List.idxOf_append, if_neg h0]
        rw [List.drop_eq_getElem_cons hlt, he, List.idxOf_cons_self, List.length_take]; omega
      rw [← he, if_pos hx, hi]
    · simp -implicitDefEqProofs only [hlt', hg, Int.toNat_natCast, he, List.length_map, go_sem]
      have h2 : x ∉ a.take (k + 1) := by
        rw [htk]; simp only [List.mem_append, List.mem_singleton]; exact fun h => h.elim h0 he
      exact ⟨by simp only [InR]; omega, k + 1, by simp, ⟨hlt, h2⟩, by omega⟩
  · have hlt' : ¬ (k : Int) < (a.length : Int) := by omega
    rw [List.take_of_length_le (by omega)] at h0; rw [if_neg h0]; simp -implicitDefEqProofs only [hlt', go_sem]
theorem cs151 (a : List (List UInt8)) (x : List UInt8) (hl : a.length ≤ 9223372036854775807) : PFn Tryz.prog 151 [.sl (a.map .str), .str x] [.bool (decide (x ∈ a))] := by
  have e := cs198 a x hl; by_cases hx : x ∈ a
  · rw [if_pos hx] at e
    refine PFn.of_body hΓ Tryz.func151 (by kernel_rfl) rfl (Wd [] ?_); simp -implicitDefEqProofs only [Tryz.ntmps151, Tryz.results151, Nat.reduceAdd, Nat.reduceSub, go_sem]; refine Z0 e (.pures rfl) ?_; simp -implicitDefEqProofs only [hx, go_sem]
    try simp
  · rw [if_neg hx] at e
    refine PFn.of_body hΓ Tryz.func151 (by kernel_rfl) rfl (Wd [] ?_); simp -implicitDefEqProofs only [Tryz.ntmps151, Tryz.results151, Nat.reduceAdd, Nat.reduceSub, go_sem]; refine Z0 e (.pures rfl) ?_; simp -implicitDefEqProofs only [hx, go_sem]
    try simp

theorem c88 (q : Int) (ws S : List (List UInt8)) (c : UInt8) (hS : S.length ≤ 400000) (hw : ws.length ≤ 400000) :
    PFn Tryz.prog 88 [.sl (S.map .str), Zz q ws, .int .u8 c.toNat] [.sl ((canL (rdS ws S c)).map .str)] := by
  have e151 := cs151 S [] (by omega); refine PFn.of_body hΓ Tryz.func88 (by kernel_rfl) rfl (AWp.seq (Wd [] ?_)); simp -implicitDefEqProofs only [Tryz.ntmps88, Tryz.results88, Nat.reduceAdd, Nat.reduceSub, Zz, go_sem]; refine AWp.seq (Wd [] ?_); simp -implicitDefEqProofs only [go_sem]; refine AWp.adoptBox (l := []) 2 9 1 rfl (by simp) ?_; simp -implicitDefEqProofs only [List.set_cons_zero, List.set_cons_succ, go_sem]; refine AWp.seq (Wd [] ?_); simp -implicitDefEqProofs only [go_sem]; refine AWp.seq (Wd [] ?_); simp -implicitDefEqProofs only [go_sem]; refine Zl (h := rdH q ws c []) (c150 q ws c [] S (by simp) (by omega)) (by simp) ?_; rintro v h' rfl; rw [List.nil_append]; have ht1 := Z46 c S; have ht2 := Z46 c ws; simp -implicitDefEqProofs only [Za, List.foldl, go_sem]; refine AWp.seqT ⟨mkF 21 [(7, .ptr 2 0)], rdH q ws c (rdS ws S c)⟩ ?_ fun rest => ?_
  rotate_left
  · unfold rdH
    refine Wd [] ?_; simp -implicitDefEqProofs only [go_sem]; refine Z0 e151 (.pures rfl) ?_; by_cases hm : [] ∈ S
    · have hr : rdS ws S c = Z1y c S ++ Z1y c ws := by unfold rdS; rw [if_pos hm]
      simp -implicitDefEqProofs only [hm, decide_true, go_sem]; refine Zl (h := rdH q ws c (Z1y c S)) (c150 q ws c (Z1y c S) ws (by omega) (by omega)) (by simp) ?_; rintro v h' rfl; simp -implicitDefEqProofs only [Za, List.foldl, go_sem]; rw [← hr]; exact AWp.weak (by simp [go_sem, Zy]) rest
    · have hr : rdS ws S c = Z1y c S := by unfold rdS; rw [if_neg hm, List.append_nil]
      simp -implicitDefEqProofs only [hm, decide_false, go_sem]; rw [← hr]; exact AWp.weak (by simp [go_sem, Zy, rdH]) rest
  have hrl : (rdS ws S c).length ≤ 1000000 := by
    unfold rdS; rw [List.length_append]
    split
    · omega
    · simp; omega
  generalize rdS ws S c = u at *; unfold rdH; refine Wd [] ?_; simp -implicitDefEqProofs only [go_sem]; by_cases hu : u = []
  · subst hu
    refine Zl (c149n (b := 3)) (by simp) ?_; rintro v h' ⟨rfl, rfl⟩; simp -implicitDefEqProofs only [Za, List.foldl, go_sem]; have h := Z81 (Z0t []); rw [Zr] at h; have e : canL [] = [] := List.length_eq_zero_iff.1 (Nat.le_zero.1 h); rw [e]; rfl
  · have hrk : rkOf u = .own := by unfold rkOf; rw [if_neg hu]
    rw [hrk]; refine Zl (c149 u rfl (by omega)) (by simp) ?_; rintro v h' ⟨rfl, rfl⟩; simp -implicitDefEqProofs only [Za, List.foldl, List.set_cons_zero, List.set_cons_succ, go_sem]
end Go.Proofs.YtpljmccnfmkmfaaGreat
end

section
namespace Go.Proofs.YtpljmccnfmkmfaaGreat
open Go Go.AM

theorem Z57 : ∀ {a b : List UInt8}, bLt a b = true ↔ a < b
  | a, [] => by
    refine ⟨fun h => ?_, fun h => absurd h (List.not_lt_nil a)⟩
    cases a <;> cases h
  | [], y :: b => ⟨fun _ => List.nil_lt_cons y b, fun _ => rfl⟩
  | x :: a, y :: b => by
    rw [Z63, List.cons_lt_cons_iff, Z57 (a := a) (b := b), UInt8.toNat_inj, UInt8.lt_iff_toNat_lt]
theorem Z36 {d : List (List UInt8)} (hs : d.Pairwise fun a b => a ≤ b) : ∀ m, m ≤ d.length →
    (Lib.compactUpTo d.toArray m).Pairwise (fun a b => a < b) ∧ (∀ x, x ∈ Lib.compactUpTo d.toArray m ↔ x ∈ d.take m)
  | 0, _ => by simp [Lib.compactUpTo]
  | m + 1, hm => by
    obtain ⟨h1, h2⟩ := Z36 hs m (by omega); have hml : m < d.length := hm; have get : ∀ j (h : j < d.length), d.toArray[j]! = d[j] := fun j h => by rw [getElem!_pos d.toArray j (by simpa using h)]; simp
    have hle : ∀ i j (hi : i < d.length) (hj : j < d.length), i ≤ j → d[i] ≤ d[j] := fun i j hi hj hij => by
      by_cases e : i = j
      · subst e; exact List.le_refl _
      · exact List.pairwise_iff_getElem.1 hs i j hi hj (by omega)
    rw [Lib.compactUpTo_succ, List.take_succ_eq_append_getElem hml, get m hml]; by_cases hk : Lib.keeps d.toArray m = true
    · rw [if_pos hk]
      refine ⟨List.pairwise_append.2 ⟨h1, by simp, fun x hx y hy => ?_⟩, fun x => ?_⟩
      · rw [List.mem_singleton] at hy; subst hy
        obtain ⟨j, hj, rfl⟩ := List.mem_take_iff_getElem.1 ((h2 x).1 hx); have hjm : j < m := by omega
        apply Classical.byContradiction
        intro hno; have e : d[j] = d[m] := List.le_antisymm (hle j m (by omega) hml (by omega)) (List.not_lt.1 hno); have e2 : d[m - 1] = d[m] := List.le_antisymm (hle (m - 1) m (by omega) hml (by omega)) (by rw [← e]; exact hle j (m - 1) (by omega) (by omega) (by omega)); have := Lib.keeps_neg (d := d.toArray) (m := m) (by omega) (by rw [get m hml, get (m - 1) (by omega), e2]); rw [this] at hk; cases hk
      · simp only [List.mem_append, h2 x]
    · rw [if_neg hk, List.append_nil]
      refine ⟨h1, fun x => ?_⟩; simp only [List.mem_append, h2 x, List.mem_singleton]; refine ⟨.inl, fun h => h.elim id fun e => ?_⟩; subst e; have hm0 : 0 < m := by
        rcases Nat.eq_zero_or_pos m with h | h
        · subst h; exact absurd (Lib.keeps_lt_one _ 0 (by omega)) hk
        · exact h
      have e : d[m] = d[m - 1] := by
        apply Classical.byContradiction
        intro hne; exact hk (Lib.keeps_pos (by rw [get m hml, get (m - 1) (by omega)]; exact hne))
      rw [e]; exact List.mem_take_iff_getElem.2 ⟨m - 1, by omega, rfl⟩
theorem Z59 (l : List (List UInt8)) : (Z0t l).Pairwise fun a b => a ≤ b := by
  refine List.Pairwise.imp (fun {a b} h => of_decide_eq_true h) (List.pairwise_mergeSort ?_ ?_ l)
  · intro a b c h1 h2
    exact decide_eq_true (List.le_trans (of_decide_eq_true h1) (of_decide_eq_true h2))
  · intro a b
    rcases List.le_total a b with h | h
    · rw [decide_eq_true h]; rfl
    · rw [decide_eq_true h, Bool.or_true]
theorem Zbh (l : List (List UInt8)) : (canL l).Pairwise fun a b => a < b :=
  (Z36 (Z59 l) (Z0t l).length (Nat.le_refl _)).1
theorem mem_canL {l : List (List UInt8)} {x : List UInt8} : x ∈ canL l ↔ x ∈ l := by
  have := (Z36 (Z59 l) (Z0t l).length (Nat.le_refl _)).2 x; rw [List.take_length, Zf3] at this; exact this
theorem Z3n : ∀ {l m : List (List UInt8)}, (l.Pairwise fun a b => a < b) → (m.Pairwise fun a b => a < b) → (∀ x, x ∈ l ↔ x ∈ m) → l = m
  | [], [], _, _, _ => rfl
  | [], b :: m, _, _, h => absurd ((h b).2 (by simp)) (by simp)
  | a :: l, [], _, _, h => absurd ((h a).1 (by simp)) (by simp)
  | a :: l, b :: m, hl, hm, h => by
    obtain ⟨ha, hl2⟩ := List.pairwise_cons.1 hl; obtain ⟨hb, hm2⟩ := List.pairwise_cons.1 hm; have e : a = b := by
      rcases List.mem_cons.1 ((h a).1 (by simp)) with e | e
      · exact e
      · rcases List.mem_cons.1 ((h b).2 (by simp)) with e2 | e2
        · exact e2.symm
        · exact absurd (List.lt_trans (ha b e2) (hb a e)) (List.lt_irrefl a)
    subst e; refine congrArg (List.cons a) (Z3n hl2 hm2 (fun x => ⟨fun hx => ?_, fun hx => ?_⟩))
    · rcases List.mem_cons.1 ((h x).1 (by simp [hx])) with e | e
      · subst e; exact absurd (ha x hx) (List.lt_irrefl x)
      · exact e
    · rcases List.mem_cons.1 ((h x).2 (by simp [hx])) with e | e
      · subst e; exact absurd (hb x hx) (List.lt_irrefl x)
      · exact e
def insE (x : List UInt8) : List (List UInt8) → List (List UInt8)
  | [] => [x]
  | y :: r => match bLt x y with
    | true => x :: y :: r
    | false => match bLt y x with
      | true => y :: insE x r
      | false => y :: r
def canE : List (List UInt8) → List (List UInt8)
  | [] => []
  | x :: r => insE x (canE r)
theorem Z8u (x : List UInt8) : ∀ (l : List (List UInt8)) (z : List UInt8), z ∈ insE x l ↔ z = x ∨ z ∈ l
  | [], z => by simp [insE]
  | y :: r, z => by
    unfold insE
    split
    · simp
    · rename_i h1
      split
      · rw [List.mem_cons, Z8u x r z, List.mem_cons]
        exact ⟨fun h => h.elim (fun h => .inr (.inl h)) fun h => h.elim .inl fun h => .inr (.inr h), fun h => h.elim (fun h => .inr (.inl h)) fun h => h.elim .inl fun h => .inr (.inr h)⟩
      · rename_i h2
        have a1 : ¬ x < y := fun h => by rw [Z57.2 h] at h1; cases h1
        have a2 : ¬ y < x := fun h => by rw [Z57.2 h] at h2; cases h2
        have e : x = y := List.le_antisymm (List.not_lt.1 a2) (List.not_lt.1 a1); subst e; simp
theorem Z6r (x : List UInt8) : ∀ (l : List (List UInt8)), (l.Pairwise fun a b => a < b) → (insE x l).Pairwise fun a b => a < b
  | [], _ => by simp [insE]
  | y :: r, h => by
    obtain ⟨h1, h2⟩ := List.pairwise_cons.1 h; unfold insE
    split
    · rename_i e
      refine List.pairwise_cons.2 ⟨fun z hz => ?_, h⟩; rcases List.mem_cons.1 hz with rfl | hz
      · exact Z57.1 e
      · exact List.lt_trans (Z57.1 e) (h1 z hz)
    · split
      · rename_i e
        refine List.pairwise_cons.2 ⟨fun z hz => ?_, Z6r x r h2⟩; rcases (Z8u x r z).1 hz with rfl | hz
        · exact Z57.1 e
        · exact h1 z hz
      · exact h
theorem Zcp : ∀ (l : List (List UInt8)) (z : List UInt8), z ∈ canE l ↔ z ∈ l
  | [], _ => Iff.rfl
  | x :: r, z => by rw [show canE (x :: r) = insE x (canE r) from rfl, Z8u, Zcp r z, List.mem_cons]
theorem Z72 : ∀ (l : List (List UInt8)), (canE l).Pairwise fun a b => a < b
  | [] => List.Pairwise.nil
  | x :: r => Z6r x _ (Z72 r)
theorem Zgl (l : List (List UInt8)) : canE l = canL l :=
  Z3n (Z72 l) (Zbh l) fun x => (Zcp l x).trans mem_canL.symm

def Z47 : List PV → Option (List (List UInt8))
  | [] => some []
  | .str s :: l => (match Z47 l with
    | some r => some (s :: r)
    | none => none)
  | _ :: _ => none
theorem Z1f : ∀ {l : List PV} {r : List (List UInt8)}, Z47 l = some r → l = r.map .str
  | [], r, h => by injection h with h; subst h; rfl
  | .str s :: l, r, h => by
    have e : Z47 (.str s :: l) = (match Z47 l with | some r => some (s :: r) | none => none) := rfl; rw [e] at h
    cases h2 : Z47 l with
    | none => rw [h2] at h; cases h
    | some r2 =>
      rw [h2] at h
      injection h with h
      subst h; rw [Z1f h2]; rfl
  | .bool _ :: _, _, h => by cases h
  | .int _ _ :: _, _, h => by cases h
  | .sl _ :: _, _, h => by cases h
  | .agg _ :: _, _, h => by cases h
def Zdc (l : List (List UInt8)) (s : List UInt8) : List UInt8 := match l with
  | [] => []
  | [x] => x
  | x :: y :: r => x ++ (s ++ Zdc (y :: r) s)
theorem Z8s : ∀ (l : List (List UInt8)) (s : List UInt8), Zdc l s = Lib.join l s
  | [], s => rfl
  | [x], s => (Lib.join_one x s).symm
  | x :: y :: r, s => by
    have ih := Z8s (y :: r) s; have e : Zdc (x :: y :: r) s = x ++ (s ++ Zdc (y :: r) s) := rfl; rw [e, ih, Lib.join_cons, Lib.join_cons]; simp [Lib.joinTail]
def kn : FuncId → List PV → Option AV := fun f args => match f, args with
  | 195, [.sl l, .str s] => (match Z47 l with
    | some xs => if Nat.ble xs.length 1000 && Nat.ble (Zdc xs s).length 100000 then some (.p (.str (Zdc xs s))) else none
    | none => none)
  | 44, [.agg [.int .i64 2, .sl [.str [48], .str [48, 49], .str [49, 49]]]] => some (.tup [.p (.agg [.bool false, .str [1], .bool false, .str [1]]), .p (.int .i64 0)])
  | 91, [] => some (.p (.agg [.bool false, .str [1], .bool false, .str [1]]))
  | 224, [.int .i64 1] => some (.p (.str [1]))
  | 224, [.int .i64 2] => some (.p (.str [2]))
  | 87, [.agg [.int .i64 q, .sl l]] => (match Z47 l with
    | some ws => (match Zb q ws with
      | 0 => some (.p (.sl ((canE (Mc.begL ws)).map .str)))
      | _ => none)
    | none => none)
  | 88, [.sl s, .agg [.int .i64 _, .sl l], .int .u8 (.ofNat c)] => (match Z47 s, Z47 l with
    | some S, some ws => if Nat.ble S.length 1000 && (Nat.ble ws.length 1000 && Nat.blt c 256) then some (.p (.sl ((canE (Mc.rdS ws S (UInt8.ofNat c))).map .str))) else none
    | _, _ => none)
  | _, _ => none
def axA : FuncId → List AV → Option AV := fun f args => match f with
  | 195 => (AV.purL [] args).bind (kn 195)
  | 44 => (AV.purL [] args).bind (kn 44)
  | 91 => (AV.purL [] args).bind (kn 91)
  | 224 => (AV.purL [] args).bind (kn 224)
  | 87 => (AV.purL [] args).bind (kn 87)
  | 88 => (AV.purL [] args).bind (kn 88)
  | f => axT f args
def ptA : Zbj := fun id n => match id, n with
  | 6, 18 => some (.q 0 (.q 1 (.q 2 (.q 3 (.q 4 (.q 5 (.q 6 (.q 7 (.q 8 (.q 9 (.q 10 (.q 11 (.q 12 (.q 13 (.q 14 (.e 15 (.s 2 (.s 3 (.s 4 (.q 16 (.e 17 .fin .nil))))) .nil))))))))))))))))
  | 7, 5 => some (.q 0 (.e 1 (.s 0 (.q 2 (.q 3 (.q 4 .fin)))) .nil))
  | 11, 16 => some (.q 0 (.q 1 (.q 2 (.q 3 (.q 4 (.q 6 (.q 7 (.q 8 (.q 9 (.q 10 (.q 11 (.q 12 (.e 5 (.s 6 (.s 7 (.s 8 (.s 9 (.s 10 (.s 11 (.s 12 (.q 13 (.e 14 (.s 0 (.s 1 (.s 2 (.s 3 (.s 4 (.s 6 (.s 7 (.s 8 (.s 9 (.s 10 (.s 11 (.s 12 (.s 13 (.e 15 .fin .nil)))))))))))))) .nil))))))))) (.e 14 (.s 0 (.s 1 (.s 2 (.s 3 (.s 4 (.s 6 (.s 7 (.s 8 (.s 9 (.s 10 (.s 11 (.s 12 (.e 5 (.s 6 (.s 7 (.s 8 (.s 9 (.s 10 (.s 11 (.s 12 (.q 13 (.e 15 .fin .nil))))))))) .nil))))))))))))) .nil))))))))))))))
  | 17, 5 => some (.q 0 (.q 1 (.e 2 (.s 1 (.e 3 (.q 4 .fin) .nil)) .nil)))
  | _, _ => none

theorem Zm3 : magB 1 = [1] := by decide +kernel
theorem Zqt : magB 2 = [2] := by decide +kernel
theorem Zc1 : Kn.ratV 1 1 = .agg [.bool false, .str [1], .bool false, .str [1]] := by
  unfold Kn.ratV; rw [show Nat.gcd 1 1 = 1 by decide, Nat.div_one, Zm3]
theorem Zef : Kn.ratV 1 2 = .agg [.bool false, .str [1], .bool false, .str [2]] := by
  unfold Kn.ratV; rw [show Nat.gcd 1 2 = 1 by decide, Nat.div_one, Nat.div_one, Zm3, Zqt]
theorem of_c : PFn Tryz.prog 44 [.agg [.int .i64 2, .sl [.str [48], .str [48, 49], .str [49, 49]]]] [.agg [.bool false, .str [1], .bool false, .str [1]], .int .i64 0] := by
  have e := cm28 2 [[48], [48, 49], [49, 49]] (by decide); have h : Kn.ratV (Kn.krS 2 [1, 2, 2]) (2 ^ 32) = .agg [.bool false, .str [1], .bool false, .str [1]] := by
    rw [← Zc1]; exact (Kn.low_eq (by decide) (by decide)).2 (by decide)
  rw [show ((2 : Int).toNat) = 2 from rfl, show ([[48], [48, 49], [49, 49]] : List (List UInt8)).map List.length = [1, 2, 2] from rfl, h] at e; exact e
theorem of_d : PFn Tryz.prog 44 [.agg [.int .i64 2, .sl [.str [48, 48], .str [49, 49]]]] [.agg [.bool false, .str [1], .bool false, .str [2]], .int .i64 0] := by
  have e := cm28 2 [[48, 48], [49, 49]] (by decide); have h : Kn.ratV (Kn.krS 2 [2, 2]) (2 ^ 32) = .agg [.bool false, .str [1], .bool false, .str [2]] := by
    rw [← Zef]; exact (Kn.low_eq (by decide) (by decide)).2 (by decide)
  rw [show ((2 : Int).toNat) = 2 from rfl, show ([[48, 48], [49, 49]] : List (List UInt8)).map List.length = [2, 2] from rfl, h] at e; exact e
theorem Zqk : PFn Tryz.prog 91 [] [.agg [.bool false, .str [1], .bool false, .str [1]]] := by
  have e := Kn.v58; rw [Zc1] at e; exact e
theorem u224 (n : Nat) (hn : n < 9223372036854775808) : PFn Tryz.prog 224 [.int .i64 n] [.str (magB n)] := by
  refine ⟨Z05 Tryz.func224 (by kernel_rfl) rfl, fun I w cargs himm hlen hargs => ?_⟩; obtain ⟨a, rfl⟩ : ∃ a, cargs = [a] := by
    match cargs, hlen with
    | [a], _ => exact ⟨a, rfl⟩
  have h0 := hargs 0 (by simp); simp only [List.getD_cons_zero] at h0; rw [(VR.p (n := 0) (μ := fun _ => undef) _ _ h0).int_inv]; refine Calls.mono (P := Tryz.prog) (m108 n hn w) ?_; rintro e w' ⟨rfl, hB⟩; exact ⟨_, I, rfl, Z0m hB, fun _ h => h, fun g h => .inl h, .p _ _ (.str ⟨(magB n).toArray⟩)⟩
theorem kn_ok : ∀ f p v, kn f p = some v → ∃ vs, PFn Tryz.prog f p vs ∧ v = Z06 (vs.map .p) := by
  intro f p v h; unfold kn at h
  split at h
  · rename_i l s
    split at h
    · rename_i xs hx
      split at h
      · rename_i hb
        injection h with h
        simp only [Bool.and_eq_true] at hb; have h1 := Nat.le_of_ble_eq_true hb.1; have h2 := Nat.le_of_ble_eq_true hb.2; have e := Zmh xs s (by omega) (by rw [← Z8s]; omega); rw [← Z8s, ← Z1f hx] at e; exact ⟨_, e, h.symm⟩
      · cases h
    · cases h
  · injection h with h; exact ⟨_, of_c, h.symm⟩
  · injection h with h; exact ⟨_, Zqk, h.symm⟩
  · injection h with h
    have e := u224 1 (by omega); rw [Zm3] at e; exact ⟨_, e, h.symm⟩
  · injection h with h
    have e := u224 2 (by omega); rw [Zqt] at e; exact ⟨_, e, h.symm⟩
  · rename_i q l
    split at h
    · rename_i ws hx
      split at h
      · rename_i hc
        injection h with h
        have e := c87 q ws (Z2b hc); rw [← Zgl] at e; rw [Z1f hx]; exact ⟨_, e, h.symm⟩
      · cases h
    · cases h
  · rename_i s q l c
    split at h
    · rename_i S ws hS hx
      split at h
      · rename_i hb
        injection h with h
        simp only [Bool.and_eq_true] at hb; have h1 := Nat.le_of_ble_eq_true hb.1; have h2 := Nat.le_of_ble_eq_true hb.2.1; have h3 : c < 256 := Nat.le_of_ble_eq_true hb.2.2; have e := c88 q ws S (UInt8.ofNat c) (by omega) (by omega); rw [← Zgl, UInt8.toNat_ofNat', Nat.mod_eq_of_lt h3] at e; rw [Z1f hS, Z1f hx]; exact ⟨_, e, h.symm⟩
      · cases h
    · cases h
  · cases h
theorem Zrz : ∀ f args v, axA f args = some v → AX Tryz.prog f args v ∨ ∀ h, AC Tryz.prog f args h [] (fun u h' => u = v ∧ h' = h) := by
  have go : ∀ f args v, (AV.purL [] args).bind (kn f) = some v → ∀ h, AC Tryz.prog f args h [] (fun u h' => u = v ∧ h' = h) := by
    intro f args v h; obtain ⟨p, h1, h2⟩ := Option.bind_eq_some_iff.1 h; obtain ⟨vs, h3, h4⟩ := kn_ok f p v h2; subst h4; exact fun h => AC.of_fn h3 (.inr h1)
  intro f args v h; unfold axA at h
  split at h
  · exact .inr (go _ _ _ h)
  · exact .inr (go _ _ _ h)
  · exact .inr (go _ _ _ h)
  · exact .inr (go _ _ _ h)
  · exact .inr (go _ _ _ h)
  · exact .inr (go _ _ _ h)
  · exact .inl (Zh1 _ _ _ h)

theorem hEA : ECOK ⟨Tryz.prog, Γ, axA⟩ := ⟨hΓ, hmix, Zic (by kernel_rfl), Zrz⟩
end Go.Proofs.YtpljmccnfmkmfaaGreat
end

