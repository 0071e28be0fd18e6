/-
  DERIVED: THE SHELF's CONTRACTS AT THIS DUMP, IN PLAIN WORDS (tools/lay-plain.mjs out of 'YtnaekjbbakofdaaGreatTmpSd.lean', which tools/lay-shelf.mjs wrote): THE SAME DECLARATIONS UNDER THE SAME NAMES: 'import', 'namespace', 'open', 'def', 'theorem' AND NOTHING ELSE: no command of the shelf's: FOR A HAND-IN. Each laying: the table of numbers ('.._ren') and one theorem, a field a fact of the dump's own or the kernel's comparison; each contract: ONE APPLICATION.
  slices.Delete on an owned row of words, as a contract with the heap.
  lettercost.given.
  lettercost.trees: the loop over a function that calls itself.
  slices.Concat of empty lists; slices.Contains of numbers; Prune's test of indices.
  lettercost.optimal.
  lettercost.optimal: a variable that is nil at first.
  lettercost.optimal.
  lettercost.optimal: the walk.
  lettercost.Check, Optimal, Least, Word for valid costs and weights.
  groovelaw41.of, numbers.
  What a parameter that fits the shape of a case is.
-/
import Derived.Shelf.SlicesG.Delete
import Derived.Shelf.SlGeneric
import Derived.Ground.SlgnProg
import Derived.Test.YtnaekjbbakofdaaGreatProg
import Derived.Test.YtnaekjbbakofdaaGreatJ7520744bc5ab
import Derived.Test.YtnaekjbbakofdaaGreatJd4e4e49d03c5
import Derived.Test.YtnaekjbbakofdaaGreatJ75d8ba1040fe
import Derived.Test.YtnaekjbbakofdaaGreatJ55c5db00ba4b
import Derived.Test.YtnaekjbbakofdaaGreatJ841ece3106d2
import Derived.Test.YtnaekjbbakofdaaGreatJb66f8f526fa3

section
namespace Go.Proofs
open Go.Shelf
def Tryz.delS_ren : Go.Shelf.Ren := ⟨fun | 46 => 100 | n => n, fun | 25 => 26 | 26 => 9 | 3 => 3 | 4 => 4 | 0 => 0 | n => n, fun | n => n⟩
theorem Tryz.delS : Go.Proofs.SlLaysN.n46 Tryz.prog Tryz.delS_ren := {
  mixed := by kernel_rfl
  f46 := ⟨Tryz.f100.name, by decide, Tryz.func100.trans (congrArg some (by kernel_rfl))⟩
  t0 := Tryz.underlying0
  a0 := Tryz.isAgg0
  z0 := Tryz.sizeOf0
  v0 := Tryz.zeroValue0
  t3 := Tryz.underlying3
  a3 := Tryz.isAgg3
  z3 := Tryz.sizeOf3
  v3 := Tryz.zeroValue3
  t4 := Tryz.underlying4
  a4 := Tryz.isAgg4
  z4 := Tryz.sizeOf4
  v4 := Tryz.zeroValue4
  t25 := Tryz.underlying26
  a25 := Tryz.isAgg26
  z25 := Tryz.sizeOf26
  v25 := Tryz.zeroValue26
  t26 := Tryz.underlying9
  a26 := Tryz.isAgg9
  z26 := Tryz.sizeOf9
  v26 := Tryz.zeroValue9
  i26 := by kernel_rfl }
end Go.Proofs
end

section
namespace Go.Proofs.YtnaekjbbakofdaaGreat
open Go Go.AM Go.RowKit
set_option maxRecDepth 100000
set_option linter.unusedSimpArgs false

def cutOut (l : List (List UInt8)) (i j : Nat) : List (List UInt8) := l.take i ++ l.drop j
theorem cutOut_le (l : List (List UInt8)) (i j : Nat) (hij : i ≤ j := by omega) : (cutOut l i j).length ≤ l.length := by
  unfold cutOut; simp; omega

theorem c21 {h : List AObj} {b : Nat} (l : List (List UInt8)) (lo hi : Nat) (hij : lo ≤ hi) (hhi : hi ≤ l.length) (hb : h[b]? = some (.row 9 1 (l.map .str) .own)) (_ : l.length ≤ 1000000) :
    AC Tryz.prog 100 [.own b l.length, .p (.int .i64 lo), .p (.int .i64 hi)] h [b] (fun v h' => v = .own b (cutOut l lo hi).length ∧ h' = (h.map (AObj.kill b)).set b (.row 9 1 ((cutOut l lo hi).map .str) .own)) := by
  refine ⟨entersF_of Tryz.func100 (by kernel_rfl) rfl, fun X I μ ob w cargs R hlen hargs hmay => ?_⟩
  obtain ⟨a0, a1, a2, rfl⟩ : ∃ a x y, cargs = [a, x, y] := by
    match cargs, hlen with
    | [a, x, y], _ => exact ⟨a, x, y, rfl⟩
  have g0 := hargs 0 (by simp)
  have g1 := hargs 1 (by simp)
  have g2 := hargs 2 (by simp)
  simp only [List.getD_cons_zero, List.getD_cons_succ] at g0 g1 g2
  have g1 := g1.int_inv
  have g2 := g2.int_inv
  subst g1 g2
  obtain ⟨a, c, rfl, hbn, hbm⟩ := g0.own_inv
  obtain ⟨hall, hrow⟩ := R.objs _ _ hb
  rcases hrow with ⟨g, hg, off, cap, cur, fr, vs, e1, e2, e3, e4, e5, e6, e7, e8, e9, e10⟩ | ⟨hk, _⟩
  rotate_left
  · cases hk
  rw [hbm] at e1
  simp only [List.length_map] at e1 e5 e7 e8 e9 e10
  injection e1 with e1a _ e1c
  subst e1a e1c
  have hfr := e3 rfl
  subst hfr
  have hgl := (R.own b g hg).2.2
  have cell : ∀ j (hj : j < l.length), cur[off + j]? = some (encW l[j]) := fun j hj => by
    have h1 := e10 j (by omega)
    rw [flats_str, getD_map_lt _ _ _ _ hj] at h1
    have h2 := encW_of h1
    have h3 : cur.toList[off + j]? = some (vs.getD j undef) := by
      have : vs[j]? = some (vs.getD j undef) := by rw [List.getD_eq_getElem?_getD, List.getElem?_eq_getElem (by omega)]; rfl
      rw [← e8, List.getElem?_take_of_lt (by omega), List.getElem?_drop] at this
      exact this.trans (by rw [e8])
    rw [Array.getElem?_toList, h2] at h3
    exact h3
  have hH : Sort.Holds encW w g off l.toArray := fun j hj => by
    have hj' : j < l.length := by simpa using hj
    refine ⟨?_, ?_⟩
    · unfold World.cell?
      simp only [e2]
      rw [cell j hj', getElem!_pos l.toArray j hj]
      simp
    · unfold World.frozen?
      simp only [e2]
      simp
  have hc : Calls Tryz.prog 100 #[.slice (some ⟨g, off, none⟩) l.length c, .int .i64 lo, .int .i64 hi] w fun e w' => e = .returned (.slice (some ⟨g, off, none⟩) (cutOut l lo hi).length c) ∧ ∃ q, w' = Sort.putRow encW (Sort.ahead w q) g off (cutOut l lo hi ++ List.replicate (l.length - (cutOut l lo hi).length) []).toArray :=
    by
    have h := AnyG.slices_Delete_string (ρ := Tryz.delS_ren) Tryz.delS g off c lo hi l w hH e5 (by simp only [maxLen] at e6; omega) hij hhi
    have e1 : (cutOut l lo hi).length = l.length - (hi - lo) := by unfold cutOut; simp; omega
    have e2 : l.length - (cutOut l lo hi).length = hi - lo := by omega
    rw [e2, e1]; exact h
  refine Calls.mono (P := Tryz.prog) hc ?_
  rintro e w' ⟨rfl, n, rfl⟩
  have hcl := cutOut_le l lo hi
  generalize hlf : cutOut l lo hi ++ List.replicate (l.length - (cutOut l lo hi).length) [] = lf
  have hsl : lf.toArray.size = l.length := by rw [← hlf]; simp; omega
  have hlfl : lf.length = l.length := by simpa using hsl
  -- the world that is left
  have hnew : (Sort.putRow encW (Sort.ahead w n) g off lf.toArray).heap[g]? = some (.cells (Sort.putCells encW off lf.toArray cur) 9 (0, 0)) := by
    show (w.heap.modify g _)[g]? = _
    rw [Array.getElem?_modify, if_pos rfl, e2]; rfl
  have hold : ∀ k, k < w.heap.size → k ≠ g → (Sort.putRow encW (Sort.ahead w n) g off lf.toArray).heap[k]? = w.heap[k]? := fun k hk hne => by
    show (w.heap.modify g _)[k]? = _
    rw [Array.getElem?_modify, if_neg (fun e => hne e.symm)]
  have hsize : (Sort.putRow encW (Sort.ahead w n) g off lf.toArray).heap.size = w.heap.size := by
    show (w.heap.modify g _).size = _
    simp
  have hgrow : w.grownBy (Sort.putRow encW (Sort.ahead w n) g off lf.toArray) (ob b) := ⟨rfl, rfl, rfl, by rw [hsize]; exact Nat.le_refl _, fun k hk hk2 => hold k hk (fun e => hk2 (by rw [e, hg]))⟩
  have hput : ∀ j, j < (cutOut l lo hi).length → (Sort.putCells encW off lf.toArray cur)[off + j]? = some (encW ((cutOut l lo hi).getD j [])) := fun j hj => by
    have hj2 : j < l.length := by omega
    unfold Sort.putCells
    rw [Array.getElem?_mapIdx, cell j hj2]
    simp only [Option.map_some]
    rw [if_pos ⟨Nat.le_add_right _ _, by rw [hsl]; omega⟩, Nat.add_sub_cancel_left, getElem!_pos lf.toArray j (by rw [hsl]; exact hj2)]
    have : lf[j]'(by omega) = (cutOut l lo hi).getD j [] := by
      subst hlf
      rw [List.getElem_append_left hj, List.getD_eq_getElem?_getD, List.getElem?_eq_getElem hj]; rfl
    simp only [List.getElem_toArray, this]
  have hps : (Sort.putCells encW off lf.toArray cur).size = cur.size := by unfold Sort.putCells; rw [Array.size_mapIdx]
  have hpl : (((Sort.putCells encW off lf.toArray cur).toList.drop off).take (cutOut l lo hi).length).length = (cutOut l lo hi).length := by
    have h1 : (Sort.putCells encW off lf.toArray cur).toList.length = cur.size := by simpa using hps
    rw [List.length_take, List.length_drop, h1]; omega
  have R2 := R.move (b0 := b) (v := .slice (some ⟨g, off, none⟩) (cutOut l lo hi).length c) (g := some g) (o := .row 9 1 ((cutOut l lo hi).map .str) .own) hbn (hmay b (by simp)) hgrow
    (fun k e => by injection e with e; subst e; exact ⟨.inl hg, by rw [hsize]; exact hgl⟩) ⟨fun x hx => by
      obtain ⟨u, _, rfl⟩ := List.mem_map.1 hx; rfl, .inl ⟨g, by simp, off, c, Sort.putCells encW off lf.toArray cur, (0, 0), ((Sort.putCells encW off lf.toArray cur).toList.drop off).take (cutOut l lo hi).length, by rw [upd_same, List.length_map], hnew, fun _ => rfl, by simp,
        by rw [List.length_map]; omega, e6, by rw [hps]; exact e7, by rw [List.length_map, Nat.mul_one], by
          rw [List.length_map, hpl, Nat.mul_one], fun j hj => ?_⟩⟩
  · exact ⟨_, .own b (cutOut l lo hi).length, _, I, upd μ b (.slice (some ⟨g, off, none⟩) (cutOut l lo hi).length c), upd ob b (some g), rfl, R2, .own _ _ _ _ (by simpa using hbn) (by simp), fun _ h => h, fun k _ hk => upd_other _ _ (by simpa using hk), by simp, fun g hg => .inl hg,
      fun k g2 hk => by
        by_cases e : k = b
        · subst e; rw [upd_same] at hk; injection hk with hk; subst hk; exact .inl ⟨k, hg⟩
        · rw [upd_other _ _ e] at hk; exact .inl ⟨k, hk⟩,
      fun k hk hno => hold k hk (fun e => hno b (by rw [e]; exact hg)), rfl, rfl⟩
  · rw [List.length_map, Nat.mul_one] at hj
    rw [flats_str, getD_map_lt _ _ _ _ hj]
    have : (((Sort.putCells encW off lf.toArray cur).toList.drop off).take (cutOut l lo hi).length).getD j undef = encW ((cutOut l lo hi).getD j []) := by
      rw [List.getD_eq_getElem?_getD, List.getElem?_take_of_lt hj, List.getElem?_drop, Array.getElem?_toList, hput j hj]; rfl
    rw [this, List.getD_eq_getElem?_getD, List.getElem?_eq_getElem hj]
    exact pr_encW _

end Go.Proofs.YtnaekjbbakofdaaGreat
end

section
namespace Go.Proofs.YtnaekjbbakofdaaGreat
open Go Go.AM
set_option maxRecDepth 100000
set_option maxHeartbeats 4000000
set_option linter.unusedSimpArgs false

def goodK (cs : List Nat) (x : Nat) (W : List Nat) (left : Nat) (L : List Wd) (k : Nat) : Bool := decide (x * costW cs (L.getD k []) + matchN cs W (cutOut L k (k + 1)) = left)
def firstK (p : Nat → Bool) : Nat → Nat → Nat
  | 0, k => k
  | f + 1, k => if p k = true then k else firstK p f (k + 1)
theorem firstK_spec {p : Nat → Bool} : ∀ {f lo k : Nat}, lo ≤ k → k < lo + f → p k = true → lo ≤ firstK p f lo ∧ firstK p f lo < lo + f ∧ p (firstK p f lo) = true ∧ ∀ j, lo ≤ j → j < firstK p f lo → p j = false
  | 0, lo, k, h1, h2, _ => by omega
  | f + 1, lo, k, h1, h2, h3 => by
    unfold firstK
    by_cases hp : p lo = true
    · rw [if_pos hp]; exact ⟨Nat.le_refl _, by omega, hp, fun j h4 h5 => by omega⟩
    · rw [if_neg hp]
      have hne : lo ≠ k := fun e => hp (by rw [e]; exact h3)
      obtain ⟨q1, q2, q3, q4⟩ := firstK_spec (f := f) (lo := lo + 1) (k := k) (by omega) (by omega) h3
      refine ⟨by omega, by omega, q3, fun j h4 h5 => ?_⟩
      by_cases he : j = lo
      · subst he; simpa using hp
      · exact q4 j (by omega) h5
def givenL (cs : List Nat) : List Nat → List Wd → Nat → List Wd
  | [], _, _ => []
  | x :: W, L, left => L.getD (firstK (goodK cs x W left L) L.length 0) [] ::
      givenL cs W (cutOut L (firstK (goodK cs x W left L) L.length 0) (firstK (goodK cs x W left L) L.length 0 + 1)) (left - x * costW cs (L.getD (firstK (goodK cs x W left L) L.length 0) []))
theorem givenL_cons (cs : List Nat) (x : Nat) (W : List Nat) (L : List Wd) (left : Nat) {k : Nat} (hk : firstK (goodK cs x W left L) L.length 0 = k) :
    givenL cs (x :: W) L left = L.getD k [] :: givenL cs W (cutOut L k (k + 1)) (left - x * costW cs (L.getD k [])) := by subst hk; rfl
theorem good_ex (cs : List Nat) (x : Nat) (W : List Nat) (L : List Wd) (hl : W.length + 1 = L.length) : ∃ k, k < L.length ∧ goodK cs x W (matchN cs (x :: W) L) L k = true := by
  obtain ⟨k, hk, h⟩ := match_step cs x W L hl
  refine ⟨k, hk, ?_⟩
  unfold goodK cutOut
  rw [List.getD_eq_getElem?_getD, List.getElem?_eq_getElem hk, Option.getD_some, decide_eq_true_eq]
  exact h

theorem matchN_cap {cs W : List Nat} {L : List Wd} (hB : ∀ c ∈ cs, c ≤ 1000) (hW : ∀ w ∈ W, w < 256 ^ 100) (hl : W.length ≤ 12) (hL : ∀ x ∈ L, x.length ≤ 1000) : matchN cs W L < 256 ^ 104 := by
  rw [matchN_eq]
  have h1 := dotN_le (a := dn W) (b := up (L.map (costW cs))) (B := 256 ^ 100) (C := 1000000) (fun x hx => Nat.le_of_lt (hW x ((dn_perm W).mem_iff.1 hx))) (fun y hy => by
    obtain ⟨x, hx, rfl⟩ := List.mem_map.1 ((up_perm _).mem_iff.1 hy)
    have h1 := costW_le hB x
    have h3 : x.length * 1000 ≤ 1000 * 1000 := Nat.mul_le_mul_right _ (hL x hx)
    omega)
  have h3 : (dn W).length * (256 ^ 100 * 1000000) ≤ 12 * (256 ^ 100 * 1000000) := Nat.mul_le_mul_right _ (by rw [dn_len]; exact hl)
  have h4 : 12 * (256 ^ 100 * 1000000) < 256 ^ 104 := by decide
  omega
theorem cap104 {n : Nat} (h : n < 256 ^ 104) : n < capN := cap_of h (by decide)
theorem aggI {A C : List UInt8} {x y : AV} {K : AV → Prop} (hx : x.pure = some (.agg [.bool false, .str A])) (hy : y.pure = some (.agg [.bool false, .str C]))
    (hK : K (.p (.bool (decide (A = C))))) : aggK Γ .eql 31 x y K := by
  have he : ∃ te fs, Γ 31 = some te ∧ te.td = .struct fs ∧ te.eqs = true ∧ eqAgg Γ fs [.bool false, .str A] [.bool false, .str C] = some ((false == false) && (decide (A = C) && true)) := ⟨_, _, rfl, rfl, rfl, rfl⟩
  obtain ⟨te, fs, h1, h2, h3, h4⟩ := he
  have e : ((false == false) && (decide (A = C) && true)) = decide (A = C) := by simp
  rw [e] at h4
  unfold aggK
  rw [hx, hy]
  simp only [tyAt, h1, h2, h3, h4]
  exact ⟨⟨trivial, rfl, rfl⟩, hK⟩
theorem magB_inj {a b : Nat} (h : magB a = magB b) : a = b := by rw [← magNat_magB a, h, magNat_magB]

theorem c67 (cs W : List Nat) (L : List Wd) (hB : ∀ c ∈ cs, c ≤ 1000) (hcl : cs.length ≤ 1000) (hW : ∀ w ∈ W, w < 256 ^ 100) (hl : W.length = L.length) (hl0 : 0 < L.length) (hl12 : L.length ≤ 12) (hL : ∀ x ∈ L, x.length ≤ 1000 ∧ okW cs.length x = true) :
    PFn Tryz.prog 67 [.sl (cs.map Kn.nV), .sl (W.map (intN false)), .sl (L.map .str), intN false (matchN cs W L)] [.sl ((givenL cs W (sortW L) (matchN cs W L)).map .str)] := by
  rw [intN_pos]
  refine PFn.of_body hΓ Tryz.func67 (by kernel_rfl) rfl (AWp.seq (AWp.of_awpD [] hΓ hmix (by kernel_rfl) ?_))
  simp -implicitDefEqProofs only [Tryz.ntmps67, Tryz.results67, Nat.reduceAdd, Nat.reduceSub, go_sem]
  refine AWp.seq (AWp.of_awpD [] hΓ hmix (by kernel_rfl) ?_)
  simp -implicitDefEqProofs only [go_sem]
  refine callK_ac (c22 L (by omega)) (by simp) ?_
  rintro v h' (⟨rfl, _⟩ | ⟨rk, hrk, hrk2, rfl, rfl⟩)
  · simp at hl0
  have hrk3 := hrk2 (fun e => by rw [e] at hl0; simp at hl0)
  subst hrk3
  simp -implicitDefEqProofs only [killAll, List.foldl, go_sem]
  refine AWp.seq (AWp.of_awpD [] hΓ hmix (by kernel_rfl) ?_)
  simp -implicitDefEqProofs only [go_sem]
  refine callK_ac (c83b (b := 1) L rfl (by omega)) (by simp) ?_
  rintro v h' ⟨rfl, rfl⟩
  simp -implicitDefEqProofs only [killAll, List.foldl, List.set_cons_zero, List.set_cons_succ, go_sem]
  have hLlen : L.length = (sortW L).length := (List.mergeSort_perm L _).length_eq.symm
  have hm : matchN cs W L = matchN cs W (sortW L) := (matchN_perm (List.mergeSort_perm L _)).symm
  have hLs : ∀ x ∈ sortW L, x.length ≤ 1000 ∧ okW cs.length x = true := fun x hx => hL x ((List.mergeSort_perm L _).mem_iff.1 hx)
  rw [hLlen] at hl hl0 hl12
  rw [hm, hLlen]
  generalize sortW L = L0 at *
  refine AWp.freeze 1 rfl ?_
  refine AWp.seq (AWp.of_awpD [] hΓ hmix (by kernel_rfl) ?_)
  simp -implicitDefEqProofs only [Frozen, go_sem]
  refine AWp.seq (AWp.of_awpD [] hΓ hmix (by kernel_rfl) ?_)
  simp -implicitDefEqProofs only [go_sem]
  refine AWp.adopt (l := []) 9 9 1 (by rfl) (by simp) ?_
  simp -implicitDefEqProofs only [go_sem]
  refine AWp.seq (AWp.seq (AWp.of_awpD [] hΓ hmix (by kernel_rfl) ?_))
  simp -implicitDefEqProofs only [go_sem]
  refine AWp.block ?_
  generalize hgt : givenL cs W L0 (matchN cs W L0) = G
  refine AWp.loopJ (fun a : Nat × List Wd × List Wd => ⟨mkF 70 [(0, .p (.sl (cs.map Kn.nV))), (1, .p (.sl (W.map (intN false)))), (2, .p (.sl (a.2.1.map .str))), (9, .own 3 a.2.2.length), (10, .ptr 2 0), (22, .p (.sl (W.map (intN false)))), (23, .p (.int .i64 W.length)), (24, .p (.int .i64 a.1))],
      [.dead, .dead, .box [.p (.bool false), .p (.str (magB (matchN cs (W.drop a.1) a.2.1)))], .row 9 1 (a.2.2.map .str) (if a.1 = 0 then .lax else .own)]⟩)
    (fun a => a.1 ≤ W.length ∧ a.2.1.length + a.1 = W.length ∧ a.2.2 ++ givenL cs (W.drop a.1) a.2.1 (matchN cs (W.drop a.1) a.2.1) = G ∧ a.2.2.length = a.1 ∧ ∀ x ∈ a.2.1, x.length ≤ 1000 ∧ okW cs.length x = true) (fun a => W.length - a.1) (0, L0, [])
    (fun a => ⟨by simp, by simp [mkF, AV.blw, AV.blw.blwL], by simp [blwH, AObj.blw, AV.blw, AV.blw.blwL]⟩) (by simp [go_sem]) ⟨by omega, by simp [hl], by simpa using hgt, rfl, hLs⟩ ?_
  rintro ⟨i, L', out⟩ ⟨hi, hil, hG, hol, hLs'⟩
  simp only at hi hil hG hol hLs'
  simp -implicitDefEqProofs only [go_sem]
  by_cases hlt : i < W.length
  rotate_left
  · have hiW : i = W.length := by omega
    subst hiW
    refine AWp.of_awpD [(12, 7), (13, 1000), (14, 2)] hΓ hmix (by kernel_rfl) ?_
    simp -implicitDefEqProofs only [Nat.lt_irrefl, Int.lt_irrefl, go_sem]
    have hd : W.drop W.length = [] := List.drop_length
    rw [hd] at hG
    have hg0 : givenL cs [] L' (matchN cs [] L') = [] := rfl
    rw [hg0, List.append_nil] at hG
    subst hG
    refine AWp.of_awpD [] hΓ hmix (by kernel_rfl) ?_
    simp -implicitDefEqProofs only [go_sem]
  have hlt' : (i : Int) < (W.length : Int) := by omega
  have hgW : (W.map (intN false)).getD i default = intN false W[i] := getD_map_lt _ _ _ _ hlt
  have hdrop : W.drop i = W[i] :: W.drop (i + 1) := List.drop_eq_getElem_cons hlt
  have hWi := hW _ (List.getElem_mem hlt)
  rw [hdrop] at hG ⊢
  generalize hx : W[i] = x at *
  refine AWp.seq (AWp.of_awpD [] hΓ hmix (by kernel_rfl) ?_)
  simp -implicitDefEqProofs only [hlt', go_sem]
  refine AWp.seq (AWp.of_awpD [] hΓ hmix (by kernel_rfl) ?_)
  simp -implicitDefEqProofs only [hlt', go_sem]
  refine AWp.seq (AWp.block ?_)
  refine AWp.seq (AWp.of_awpD [] hΓ hmix (by kernel_rfl) ?_)
  simp -implicitDefEqProofs only [hlt', hgW, Int.toNat_natCast, List.length_map, intN_pos, go_sem]
  obtain ⟨V, hV⟩ : ∃ V, V = W.drop (i + 1) := ⟨_, rfl⟩
  have hVl : V.length + 1 = L'.length := by rw [hV, List.length_drop]; omega
  have hVb : ∀ w ∈ V, w < 256 ^ 100 := fun w hw => hW w (List.mem_of_mem_drop (hV ▸ hw))
  rw [← hV] at hG ⊢
  obtain ⟨k0, hk0, hg0⟩ := good_ex cs x V L' hVl
  obtain ⟨_, hkl, hkg, hkf⟩ := firstK_spec (p := goodK cs x V (matchN cs (x :: V) L') L') (f := L'.length) (lo := 0) (Nat.zero_le k0) (by omega) hg0
  generalize hkk : firstK (goodK cs x V (matchN cs (x :: V) L') L') L'.length 0 = kk at *
  rw [givenL_cons cs x V L' _ hkk] at hG
  rw [Nat.zero_add] at hkl
  refine AWp.seq (AWp.of_awpD [] hΓ hmix (by kernel_rfl) ?_)
  simp -implicitDefEqProofs only [go_sem]
  refine AWp.block ?_
  generalize hlf : matchN cs (x :: V) L' = left at *
  refine AWp.loopJ (fun k : Nat => ⟨mkF 70 [(0, .p (.sl (cs.map Kn.nV))), (1, .p (.sl (W.map (intN false)))), (2, .p (.sl (L'.map .str))), (9, .own 3 out.length), (10, .ptr 2 0), (11, .p (.int .i64 i)), (12, .ptr 4 0), (22, .p (.sl (W.map (intN false)))), (23, .p (.int .i64 W.length)), (24, .p (.int .i64 i)), (29, .p (.sl (L'.map .str))), (30, .p (.int .i64 L'.length)), (31, .p (.int .i64 k))],
      [.dead, .dead, .box [.p (.bool false), .p (.str (magB left))], .row 9 1 (out.map .str) (if i = 0 then .lax else .own), .box [.p (.bool false), .p (.str (magB x))]]⟩)
    (fun k => k ≤ kk) (fun k => kk - k) 0
    (fun a => ⟨by simp, by simp [mkF, AV.blw, AV.blw.blwL], by simp [blwH, AObj.blw, AV.blw, AV.blw.blwL]⟩) (by simp [go_sem]) (Nat.zero_le _) ?_
  intro k hk
  simp -implicitDefEqProofs only [go_sem]
  have hkL : k < L'.length := by omega
  have hkL' : (k : Int) < (L'.length : Int) := by omega
  have hgL : (L'.map PV.str).getD k default = .str L'[k] := getD_map_lt _ _ _ _ hkL
  refine AWp.seq (AWp.of_awpD [] hΓ hmix (by kernel_rfl) ?_)
  simp -implicitDefEqProofs only [hkL', go_sem]
  refine AWp.seq (AWp.of_awpD [] hΓ hmix (by kernel_rfl) ?_)
  simp -implicitDefEqProofs only [hkL', go_sem]
  refine AWp.seq (AWp.block ?_)
  refine AWp.seq (AWp.of_awpD [] hΓ hmix (by kernel_rfl) ?_)
  simp -implicitDefEqProofs only [hkL, hkL', hgL, Int.toNat_natCast, List.length_map, go_sem]
  refine AWp.seq (AWp.of_awpD [] hΓ hmix (by kernel_rfl) ?_)
  simp -implicitDefEqProofs only [go_sem]
  refine callK_ac (c22 L' (by omega)) (by simp) ?_
  rintro v h' (⟨e0, _⟩ | ⟨rk, hrk, hrk2, rfl, rfl⟩)
  · rw [e0] at hkL; simp at hkL
  have hrk3 := hrk2 (fun e => by rw [e] at hkL; simp at hkL)
  subst hrk3
  simp -implicitDefEqProofs only [killAll, List.foldl, List.length_cons, List.length_nil, Nat.reduceAdd, go_sem]
  have hc21 := fun o0 o1 o2 o3 o4 : AObj => c21 (h := [o0, o1, o2, o3, o4, .row 9 1 (L'.map .str) .own]) (b := 5) L' k (k + 1) (by omega) (by omega) rfl (by omega)
  rw [show ((k + 1 : Nat) : Int) = (k : Int) + 1 by omega] at hc21
  refine ⟨by simp only [InR]; omega, callK_ac (hc21 _ _ _ _ _) (by simp) ?_⟩
  rintro v h' ⟨rfl, rfl⟩
  simp -implicitDefEqProofs only [killAll, List.foldl, AV.kill, AV.kill.killL, AObj.kill, List.map_cons, List.map_nil, List.set_cons_zero, List.set_cons_succ, Nat.reduceEqDiff, Nat.reduceAdd, go_sem]
  refine AWp.freeze 5 rfl ?_
  simp -implicitDefEqProofs only [Frozen, AV.thaw, AObj.thaw, AV.thaw.thawL, List.map_cons, List.map_nil, List.set_cons_zero, List.set_cons_succ, Nat.reduceEqDiff, go_sem]
  have hLk := hLs' _ (List.getElem_mem hkL)
  have e56 := c56 cs L'[k] hB hcl (by omega) hLk.2
  have hco : costW cs L'[k] ≤ 1000000 := by
    have h1 := costW_le hB L'[k]
    have h3 : L'[k].length * 1000 ≤ 1000 * 1000 := Nat.mul_le_mul_right _ hLk.1
    omega
  have e23 := u34 (costW cs L'[k]) (by omega)
  have e22 := Kn.u36 x (costW cs L'[k]) (cap_of hWi (by decide)) (cap_of (k := 3) (by omega) (by decide))
  have hmul : x * costW cs L'[k] ≤ 256 ^ 100 * 1000000 := Nat.mul_le_mul (Nat.le_of_lt hWi) hco
  have hmc : x * costW cs L'[k] < capN := Nat.lt_of_le_of_lt hmul (by unfold capN; decide)
  rw [intN_pos (x * costW cs L'[k])] at e22
  refine AWp.seqM (fun _ : Unit => ⟨mkF 70 [(0, .p (.sl (cs.map Kn.nV))), (1, .p (.sl (W.map (intN false)))), (2, .p (.sl (L'.map .str))), (9, .own 3 out.length), (10, .ptr 2 0), (11, .p (.int .i64 i)), (12, .ptr 4 0), (14, .p (.str L'[k])), (15, .p (.sl ((cutOut L' k (k + 1)).map .str))), (16, .ptr 6 0), (22, .p (.sl (W.map (intN false)))), (23, .p (.int .i64 W.length)), (24, .p (.int .i64 i)), (29, .p (.sl (L'.map .str))), (30, .p (.int .i64 L'.length)), (31, .p (.int .i64 k))],
      [.dead, .dead, .box [.p (.bool false), .p (.str (magB left))], .row 9 1 (out.map .str) (if i = 0 then .lax else .own), .box [.p (.bool false), .p (.str (magB x))], .dead, .box [.p (.bool false), .p (.str (magB (x * costW cs L'[k])))]]⟩) (fun _ => True) ?_ ?_
  · refine AWp.planL (.q 0 (.q 1 (.q 2 (.e 3 (.s 0 (.e 4 (.s 0 (.e 5 (.e 6 (.s 0 (.s 1 (.s 2 (.e 7 .fin .nil)))) .nil) (.e 6 (.s 0 (.s 1 (.s 2 (.e 5 (.e 7 .fin .nil) .nil)))) .nil))) (.e 6 (.s 0 (.s 1 (.s 2 (.e 4 (.s 0 (.e 5 (.e 7 .fin .nil) .nil)) .nil)))) .nil))) (.e 6 (.s 0 (.s 1 (.s 2 (.e 3 (.s 0 (.e 4 (.s 0 (.e 5 (.e 7 .fin .nil) .nil)) .nil)) .nil)))) .nil))))) hΓ hmix (by kernel_rfl) ?_
    simp -implicitDefEqProofs only [go_sem]
    refine ⟨callK_fn e56 (.still rfl) ?_, callK_fn e56 (.still rfl) ?_⟩
    · simp -implicitDefEqProofs only [go_sem]
      refine ⟨callK_fn e23 (.still rfl) ?_, callK_fn e23 (.still rfl) ?_⟩
      · simp -implicitDefEqProofs only [go_sem]
        refine ⟨callK_fn e22 (.still rfl) ?_, callK_fn e22 (.still rfl) ?_⟩
        · simp -implicitDefEqProofs only [go_sem]
          exact ⟨(), trivial⟩
        · simp -implicitDefEqProofs only [go_sem]
          exact ⟨(), trivial⟩
      · simp -implicitDefEqProofs only [go_sem]
        refine callK_fn e22 (.still rfl) ?_
        simp -implicitDefEqProofs only [go_sem]
        exact ⟨(), trivial⟩
    · simp -implicitDefEqProofs only [go_sem]
      refine callK_fn e23 (.still rfl) ?_
      simp -implicitDefEqProofs only [go_sem]
      refine callK_fn e22 (.still rfl) ?_
      simp -implicitDefEqProofs only [go_sem]
      exact ⟨(), trivial⟩
  rintro _ -
  simp -implicitDefEqProofs only [go_sem]
  have hcutl : (cutOut L' k (k + 1)).length = V.length := by unfold cutOut; simp; omega
  have e66 := c66 cs V (cutOut L' k (k + 1)) hB hcl hVb hcutl.symm (by omega) (fun y hy => hLs' y (by unfold cutOut at hy; rcases List.mem_append.1 hy with h | h; exact List.mem_of_mem_take h; exact List.mem_of_mem_drop h))
  have hmb : matchN cs V (cutOut L' k (k + 1)) < capN := cap104 (matchN_cap hB hVb (by omega) (fun y hy => (hLs' y (by unfold cutOut at hy; rcases List.mem_append.1 hy with h | h; exact List.mem_of_mem_take h; exact List.mem_of_mem_drop h)).1))
  have e59 := u89 (x * costW cs L'[k]) (matchN cs V (cutOut L' k (k + 1))) hmc hmb
  have hdW : (W.map (intN false)).drop ((i : Int) + 1).toNat = V.map (intN false) := by
    rw [show ((i : Int) + 1).toNat = i + 1 by omega, hV, List.map_drop]
  have hszW := size_c24 W
  have hini : InR .i64 ((i : Int) + 1) := by simp only [InR]; omega
  refine AWp.seq (AWp.of_awpD [(13, 11), (14, 1000)] hΓ hmix (by kernel_rfl) ?_)
  simp -implicitDefEqProofs only [hszW, hdW, hini, List.length_map, go_sem]
  refine ⟨⟨by omega, by omega⟩, callVPK_fn e66 (.still rfl) ?_⟩
  simp -implicitDefEqProofs only [go_sem]
  refine callVPK_fn e59 (.still rfl) ?_
  rw [intN_pos (x * costW cs L'[k] + matchN cs V (cutOut L' k (k + 1)))]
  simp -implicitDefEqProofs only [go_sem]
  refine aggI rfl rfl ?_
  have hgD : L'.getD k [] = L'[k] := by rw [List.getD_eq_getElem?_getD, List.getElem?_eq_getElem hkL, Option.getD_some]
  by_cases hgood : x * costW cs L'[k] + matchN cs V (cutOut L' k (k + 1)) = left
  rotate_left
  · have hne : ¬ magB (x * costW cs L'[k] + matchN cs V (cutOut L' k (k + 1))) = magB left := fun h => hgood (magB_inj h)
    simp -implicitDefEqProofs only [hne, go_sem]
    refine AWp.of_awpD [(14, 1000)] hΓ hmix (by kernel_rfl) ?_
    simp -implicitDefEqProofs only [go_sem]
    refine AWp.of_awpD [] hΓ hmix (by kernel_rfl) ?_
    simp -implicitDefEqProofs only [go_sem]
    have hkk2 : k ≠ kk := fun e => by
      subst e
      unfold goodK at hkg
      rw [decide_eq_true_eq, hgD] at hkg
      exact hgood hkg
    exact ⟨by simp only [InR]; omega, k + 1, by omega, by omega, by omega⟩
  have hkk2 : kk = k := by
    by_cases h : k < kk
    · have := hkf k (Nat.zero_le _) h
      unfold goodK at this
      rw [decide_eq_false_iff_not, hgD] at this
      exact absurd hgood this
    · omega
  subst hkk2
  rw [hgD] at hG
  have e65 := u65 left (x * costW cs L'[kk]) (by rw [← hlf]; exact cap104 (matchN_cap hB (fun w hw => by rcases List.mem_cons.1 hw with rfl | h; exact hWi; exact hVb w h) (by simp only [List.length_cons]; omega) (fun y hy => (hLs' y hy).1))) hmc
  rw [if_neg (by omega), show left - x * costW cs L'[kk] = matchN cs V (cutOut L' kk (kk + 1)) by omega, intN_pos (matchN cs V (cutOut L' kk (kk + 1)))] at e65
  rw [show left - x * costW cs L'[kk] = matchN cs V (cutOut L' kk (kk + 1)) by omega] at hG
  rw [hgood]
  simp -implicitDefEqProofs only [go_sem]
  refine AWp.of_awpD [(14, 1000)] hΓ hmix (by kernel_rfl) ?_
  simp -implicitDefEqProofs only [go_sem]
  refine AWp.planL (.q 0 (.q 1 (.q 2 (.q 4 (.q 5 (.q 6 (.e 3 (.s 4 (.s 5 (.s 6 (.e 7 (.s 4 (.q 8 (.q 9 (.e 10 .fin .nil)))) .nil)))) .nil))))))) hΓ hmix (by kernel_rfl) ?_
  have hs1 : sizeOK [PV.str L'[kk]] 1 := by simp [sizeOK, PV.cells]
  have ho1 : oneOK [PV.str L'[kk]] := by simp [oneOK, PV.cells, PV.isAgg]
  simp -implicitDefEqProofs only [go_sem]
  refine ⟨⟨hs1, by omega⟩, ⟨hs1, ho1⟩, ⟨by split <;> simp, by simp, by omega, by omega⟩, callK_fn e65 (.still rfl) ?_⟩
  simp -implicitDefEqProofs only [go_sem]
  refine AWp.of_awpD [] hΓ hmix (by kernel_rfl) ?_
  simp -implicitDefEqProofs only [go_sem]
  refine ⟨by simp only [InR]; omega, (i + 1, cutOut L' kk (kk + 1), out ++ [L'[kk]]), ?_, ⟨by omega, by simp only; omega, ?_, by simp [hol], fun y hy => ?_⟩, by simp only; omega⟩
  · simp only [← hV]
    refine ⟨⟨trivial, by simp, by omega⟩, trivial, .inl ⟨by simp, ?_⟩⟩
    rw [if_neg (by omega)]
    simp
  · simp only [← hV, List.append_assoc, List.cons_append, List.nil_append]
    exact hG
  · simp only at hy
    exact hLs' y (by unfold cutOut at hy; rcases List.mem_append.1 hy with h | h; exact List.mem_of_mem_take h; exact List.mem_of_mem_drop h)
end Go.Proofs.YtnaekjbbakofdaaGreat
end

section
namespace Go.AM
open Go.RowKit
mutual
theorem AV.under_le {n m : Nat} (h : n ≤ m) : ∀ v : AV, v.under n = true → v.under m = true
  | .junk, _ => rfl
  | .cell, _ => rfl
  | .p _, _ => rfl
  | .full _, _ => rfl
  | .ipt _, _ => rfl
  | .nil, _ => rfl
  | .own c _, hv => by have h1 := Nat.le_of_ble_eq_true hv; exact Nat.ble_eq_true_of_le (Nat.le_trans h1 h)
  | .ptr c _, hv => by have h1 := Nat.le_of_ble_eq_true hv; exact Nat.ble_eq_true_of_le (Nat.le_trans h1 h)
  | .eptr c _ _ _, hv => by have h1 := Nat.le_of_ble_eq_true hv; exact Nat.ble_eq_true_of_le (Nat.le_trans h1 h)
  | .map c, hv => by have h1 := Nat.le_of_ble_eq_true hv; exact Nat.ble_eq_true_of_le (Nat.le_trans h1 h)
  | .yld c, hv => by have h1 := Nat.le_of_ble_eq_true hv; exact Nat.ble_eq_true_of_le (Nat.le_trans h1 h)
  | .fn _ l, hv => AV.underL_le h l hv
  | .agg l, hv => AV.underL_le h l hv
  | .tup l, hv => AV.underL_le h l hv
theorem AV.underL_le {n m : Nat} (h : n ≤ m) : ∀ l : List AV, AV.under.underL n l = true → AV.under.underL m l = true
  | [], _ => rfl
  | v :: l, hv => by
    simp only [AV.under.underL, Bool.and_eq_true] at hv ⊢
    exact ⟨AV.under_le h v hv.1, AV.underL_le h l hv.2⟩
end
theorem AObj.under_le {n m : Nat} (h : n ≤ m) : ∀ o : AObj, o.under n = true → o.under m = true
  | .dead, _ => rfl
  | .row .., _ => rfl
  | .mp _, _ => rfl
  | .box cs, ho => by
    simp only [AObj.under, List.all_eq_true] at ho ⊢
    exact fun v hv => AV.under_le h v (ho v hv)
  | .lp tm _ _ _ _, ho => by
    simp only [AObj.under, List.all_eq_true] at ho ⊢
    exact fun v hv => AV.under_le h v (ho v hv)
  | .it c _ _ _, ho => by have h1 := Nat.le_of_ble_eq_true ho; exact Nat.ble_eq_true_of_le (Nat.le_trans h1 h)
theorem all_under_le {n m : Nat} (h : n ≤ m) {l : List AObj} (hl : l.all (AObj.under n) = true) : l.all (AObj.under m) = true := by
  simp only [List.all_eq_true] at hl ⊢
  exact fun o ho => AObj.under_le h o (hl o ho)

theorem YC.monoR {P : Program} {b : Nat} {args : List AV} {h : List AObj} {ks : List Nat} {R R' : AV → List AObj → Prop} (hy : YC P b args h ks R) (hR : ∀ v h', R v h' → R' v h') : YC P b args h ks R' := by
  intro X I μ ob w cargs RH hlen hargs hks
  obtain ⟨l, fn, tmps, assign, body, e1, e2, e3⟩ := hy X I μ ob w cargs RH hlen hargs hks
  refine ⟨l, fn, tmps, assign, body, e1, e2, RoundIn.mono e3 ?_⟩
  rintro e w' ⟨cv, v, h', I', μ', ob', z0, z1, z2, z3, z4, z5, z6, z7, z8, z9⟩
  exact ⟨cv, v, h', I', μ', ob', z0, z1, z2, z3, z4, z5, z6, z7, z8, hR _ _ z9⟩
theorem YC.args {P : Program} {b : Nat} {args args' : List AV} {h : List AObj} {ks : List Nat} {R : AV → List AObj → Prop} (hl : args'.length = args.length)
    (ha : ∀ i (n : Nat) (μ : Nat → Value) (I : Nat → Prop) (w : World) (v : Value), i < args'.length → VR n μ I w (args'.getD i .junk) v → VR n μ I w (args.getD i .junk) v) (hc : YC P b args h ks R) : YC P b args' h ks R :=
  fun X I μ ob w cargs RH hlen hargs hks => hc X I μ ob w cargs RH (by omega) (fun i hi => ha i _ _ _ _ _ (by omega) (hargs i (by omega))) hks
theorem VR.full_p {n : Nat} {μ : Nat → Value} {I : Nat → Prop} {w : World} {l : List PV} {v : Value} (h : VR n μ I w (.full l) v) : VR n μ I w (.p (.sl l)) v := by
  cases h with
  | full _ a h => exact .p _ _ h
theorem AC.args {P : Program} {f : FuncId} {args args' : List AV} {h : List AObj} {ks : List Nat} {R : AV → List AObj → Prop} (hl : args'.length = args.length)
    (ha : ∀ i (n : Nat) (μ : Nat → Value) (I : Nat → Prop) (w : World) (v : Value), i < args'.length → VR n μ I w (args'.getD i .junk) v → VR n μ I w (args.getD i .junk) v) (hc : AC P f args h ks R) : AC P f args' h ks R :=
  ⟨hc.1, fun X I μ ob w cargs RH hlen hargs hks => hc.2 X I μ ob w cargs RH (by omega) (fun i hi => ha i _ _ _ _ _ (by omega) (hargs i (by omega))) hks⟩
theorem AWp.rangeFuncR {E : Env} {Q : Exit → St → Prop} {f : Operand} {ps : List Nat} {assign body : Code} {tm : List AV} {h : List AObj} {g : FuncId} {caps : List AV} (R : AObj → AV → List AObj → Prop) (hf : ev tm f = .fn g caps)
    (hac : AC E.P g (.yld h.length :: caps) (h ++ [.lp tm ps assign body .ready]) [] (R (.lp tm ps assign body .ready)))
    (hR : ∀ v h', R (.lp tm ps assign body .ready) v h' → RangeK h.length tm Q h') : AWp E none (.rangeFunc f ps.toArray assign body) Q ⟨tm, h⟩ :=
  AWp.rangeFunc hf hac (by simp) (by simp) hR
theorem weakH_pre {a b : List AObj} (h : weakH a b) : ∀ l : List AObj, weakH (l ++ a) (l ++ b)
  | [] => h
  | _ :: l => ⟨.inr (.inl rfl), weakH_pre h l⟩
mutual
theorem AV.blw_of {n : Nat} : ∀ v : AV, v.under n = true → v.blw n = true
  | .junk, _ => rfl
  | .cell, _ => rfl
  | .p _, _ => rfl
  | .full _, _ => rfl
  | .ipt _, _ => rfl
  | .nil, _ => rfl
  | .own _ _, hv => decide_eq_true (Nat.le_of_ble_eq_true hv)
  | .ptr _ _, hv => decide_eq_true (Nat.le_of_ble_eq_true hv)
  | .eptr _ _ _ _, hv => decide_eq_true (Nat.le_of_ble_eq_true hv)
  | .map _, hv => decide_eq_true (Nat.le_of_ble_eq_true hv)
  | .yld _, hv => decide_eq_true (Nat.le_of_ble_eq_true hv)
  | .fn _ l, hv => AV.blwL_of l hv
  | .agg l, hv => AV.blwL_of l hv
  | .tup l, hv => AV.blwL_of l hv
theorem AV.blwL_of {n : Nat} : ∀ l : List AV, AV.under.underL n l = true → AV.blw.blwL n l = true
  | [], _ => rfl
  | v :: l, hv => by
    simp only [AV.under.underL, AV.blw.blwL, Bool.and_eq_true] at hv ⊢
    exact ⟨AV.blw_of v hv.1, AV.blwL_of l hv.2⟩
end
theorem blwL_all {n : Nat} : ∀ l : List AV, l.all (AV.under n) = true → AV.blw.blwL n l = true
  | [], _ => rfl
  | v :: l, hv => by
    simp only [List.all_cons, AV.blw.blwL, Bool.and_eq_true] at hv ⊢
    exact ⟨AV.blw_of v hv.1, blwL_all l hv.2⟩
theorem AObj.blw_of {n : Nat} : ∀ o : AObj, o.under n = true → o.blw n = true
  | .dead, _ => rfl
  | .row .., _ => rfl
  | .mp _, _ => rfl
  | .box cs, ho => blwL_all cs ho
  | .lp tm _ _ _ _, ho => blwL_all tm ho
  | .it _ _ _ _, ho => decide_eq_true (Nat.le_of_ble_eq_true ho)
theorem blwH_of {n : Nat} : ∀ l : List AObj, l.all (AObj.under n) = true → blwH n l = true
  | [], _ => rfl
  | o :: l, hl => by
    simp only [List.all_cons, blwH, Bool.and_eq_true] at hl ⊢
    exact ⟨AObj.blw_of o hl.1, blwH_of l hl.2⟩
theorem blwH_append {n : Nat} : ∀ l m : List AObj, blwH n (l ++ m) = (blwH n l && blwH n m)
  | [], m => by simp [blwH]
  | o :: l, m => by simp only [List.cons_append, blwH, blwH_append l m, Bool.and_assoc]
theorem swN_far {b c x n : Nat} (hb : n ≤ b) (hc : n ≤ c) (hx : x < n) : swN b c x = x := by unfold swN; rw [if_neg (by omega), if_neg (by omega)]
mutual
theorem AV.sw_far {n b c : Nat} (hb : n ≤ b) (hc : n ≤ c) : ∀ v : AV, v.under n = true → v.sw b c = v
  | .junk, _ => rfl
  | .cell, _ => rfl
  | .p _, _ => rfl
  | .full _, _ => rfl
  | .ipt _, _ => rfl
  | .nil, _ => rfl
  | .own _ _, hv => by simp only [AV.sw, swN_far hb hc (Nat.le_of_ble_eq_true hv)]
  | .ptr _ _, hv => by simp only [AV.sw, swN_far hb hc (Nat.le_of_ble_eq_true hv)]
  | .eptr _ _ _ _, hv => by simp only [AV.sw, swN_far hb hc (Nat.le_of_ble_eq_true hv)]
  | .map _, hv => by simp only [AV.sw, swN_far hb hc (Nat.le_of_ble_eq_true hv)]
  | .yld _, hv => by simp only [AV.sw, swN_far hb hc (Nat.le_of_ble_eq_true hv)]
  | .fn _ l, hv => by simp only [AV.sw, AV.swL_far hb hc l hv]
  | .agg l, hv => by simp only [AV.sw, AV.swL_far hb hc l hv]
  | .tup l, hv => by simp only [AV.sw, AV.swL_far hb hc l hv]
theorem AV.swL_far {n b c : Nat} (hb : n ≤ b) (hc : n ≤ c) : ∀ l : List AV, AV.under.underL n l = true → AV.sw.swL b c l = l
  | [], _ => rfl
  | v :: l, hv => by
    simp only [AV.under.underL, AV.sw.swL, Bool.and_eq_true] at hv ⊢
    rw [AV.sw_far hb hc v hv.1, AV.swL_far hb hc l hv.2]
end
theorem map_sw_far {n b c : Nat} (hb : n ≤ b) (hc : n ≤ c) : ∀ l : List AV, l.all (AV.under n) = true → l.map (AV.sw b c) = l
  | [], _ => rfl
  | v :: l, hv => by
    simp only [List.all_cons, Bool.and_eq_true] at hv
    rw [List.map_cons, AV.sw_far hb hc v hv.1, map_sw_far hb hc l hv.2]
theorem AObj.sw_far {n b c : Nat} (hb : n ≤ b) (hc : n ≤ c) : ∀ o : AObj, o.under n = true → o.sw b c = o
  | .dead, _ => rfl
  | .row .., _ => rfl
  | .mp _, _ => rfl
  | .box cs, ho => by simp only [AObj.sw]; rw [map_sw_far hb hc cs ho]
  | .lp tm _ _ _ _, ho => by simp only [AObj.sw]; rw [map_sw_far hb hc tm ho]
  | .it _ _ _ _, ho => by simp only [AObj.sw, swN_far hb hc (Nat.le_of_ble_eq_true ho)]
theorem heap_sw_far {n b c : Nat} (hb : n ≤ b) (hc : n ≤ c) : ∀ l : List AObj, l.all (AObj.under n) = true → l.map (AObj.sw b c) = l
  | [], _ => rfl
  | v :: l, hv => by
    simp only [List.all_cons, Bool.and_eq_true] at hv
    rw [List.map_cons, AObj.sw_far hb hc v hv.1, heap_sw_far hb hc l hv.2]
end Go.AM
namespace Go.Proofs.YtnaekjbbakofdaaGreat
open Go Go.AM
set_option maxRecDepth 100000
set_option maxHeartbeats 4000000
set_option linter.unusedSimpArgs false

theorem trK_yc {E : Env} {tm : List AV} {h : List AObj} {KS : St → Prop} {d : Option Nat} {b : Nat} {args : List AV} {ks : List Nat} {R : AV → List AObj → Prop} (hf : YC E.P b args h ks R) (hks : ∀ k ∈ ks, E.n0 ≤ k ∨ k ∈ E.ks)
    (hk : ∀ v h', R v h' → KS ⟨putD (killAll ks tm) d v, h'⟩) : callK E ⟨tm, h⟩ d (.yld b) args KS := ⟨ks, R, hf, hks, hk⟩

structure Tree (Good : List Wd → Prop) (b q n : Nat) (pre : Wd) (cq cn cp : Nat) (F : List (List Wd) → List AObj) (M : Nat) : Prop where
  len : ∀ xs, (F xs).length = M
  und : ∀ xs, (F xs).all (AObj.under M) = true
  bl : b < M
  q : ∀ xs, (F xs)[cq]? = some (.box [.p (.int .i64 q)])
  n : ∀ xs, (F xs)[cn]? = some (.box [.p (.int .i64 n)])
  p : ∀ xs, (F xs)[cp]? = some (.box [.p (.str pre)])
  round : ∀ xs x, Good x → YC Tryz.prog b [.p (.sl (x.map .str))] (F xs) [] (fun v h' => v = .p (.bool true) ∧ h' = F (xs ++ [x]))

structure Grow (Good : List Wd → Prop) (b q n : Nat) (pre : Wd) (cq cy cg cn cp : Nat) (F : List (List Wd) → List AObj) (M : Nat) : Prop extends Tree Good b q n pre cq cn cp F M where
  y : ∀ xs, (F xs)[cy]? = some (.box [.yld b])
  g : ∀ xs, (F xs)[cg]? = some (.box [.fn 93 [.ptr cq 0, .ptr cy 0, .ptr cg 0, .ptr cn 0, .ptr cp 0]])

section
variable {Good : List Wd → Prop} {b q n : Nat} {pre : Wd} {cq cy cg cn cp : Nat} {F : List (List Wd) → List AObj} {M : Nat}
theorem at_app {h : List AObj} {c : Nat} {o : AObj} (e : List AObj) (hc : h[c]? = some o) : (h ++ e)[c]? = some o := by
  rw [List.getElem?_append_left (List.getElem?_eq_some_iff.1 hc).1]; exact hc
theorem Tree.ext (h : Tree Good b q n pre cq cn cp F M) {e : List AObj} (he : e.all (AObj.under (M + e.length)) = true) : Tree Good b q n pre cq cn cp (fun xs => F xs ++ e) (M + e.length) where
  len xs := by rw [List.length_append, h.len]
  und xs := by rw [List.all_append, Bool.and_eq_true]; exact ⟨all_under_le (by omega) (h.und xs), he⟩
  bl := by have := h.bl; omega
  q xs := at_app e (h.q xs)
  n xs := at_app e (h.n xs)
  p xs := at_app e (h.p xs)
  round xs x hx := by
    refine (YC.frame (e := e) (by rw [h.len]; exact h.und xs) (fun i hi => ?_) ?_ (h.round xs x hx)).monoR ?_
    · have : i = 0 := by simpa using hi
      subst this; rfl
    · rintro v h' ⟨rfl, rfl⟩
      exact ⟨by rw [h.len, h.len], rfl⟩
    · rintro v h' ⟨h0, ⟨rfl, rfl⟩, rfl⟩
      exact ⟨rfl, rfl⟩
theorem Grow.ext (h : Grow Good b q n pre cq cy cg cn cp F M) {e : List AObj} (he : e.all (AObj.under (M + e.length)) = true) : Grow Good b q n pre cq cy cg cn cp (fun xs => F xs ++ e) (M + e.length) where
  toTree := h.toTree.ext he
  y xs := at_app e (h.y xs)
  g xs := at_app e (h.g xs)

theorem c65 {h : List AObj} (q n : Int) (w : Wd) :
    AC Tryz.prog 65 [.p (.int .i64 q), .p (.str w), .p (.int .i64 n)] h [] (fun v h' => v = .fn 92 [.ptr (h.length + 2) 0, .ptr (h.length + 1) 0, .ptr h.length 0] ∧ h' = h ++ [.box [.p (.int .i64 q)], .box [.p (.str w)], .box [.p (.int .i64 n)]]) := by
  refine AC.of_bodyE hΓ Tryz.func65 (by kernel_rfl) rfl (AWp.mono (Q := fun e st => AM.Ends e ∧ st.tmps.getD 6 .junk = .fn 92 [.ptr (h.length + 2) 0, .ptr (h.length + 1) 0, .ptr h.length 0] ∧ st.h = h ++ [.box [.p (.int .i64 q)], .box [.p (.str w)], .box [.p (.int .i64 n)]]) ?_ ?_)
  rotate_left
  · rintro e ⟨tm, h'⟩ ⟨he, h1, h2⟩
    simp only at h1 h2
    subst h2
    refine ⟨he, _, Less.refl _, ?_⟩
    unfold DoneE
    simp +contextual -implicitDefEqProofs only [Tryz.results65, h1, go_sem]
    exact ⟨_, by simp, .inl rfl, List.take_length⟩
  refine AWp.of_awpD [] hΓ hmix (by kernel_rfl) ?_
  simp -implicitDefEqProofs only [Tryz.ntmps65, Nat.reduceAdd, Nat.reduceSub, go_sem]
  try simp

def GrowT (q : Nat) (T : Nat → Wd → List (List Wd)) (n : Nat) : Prop :=
  ∀ (k : Nat) (pre : Wd) (Good : List Wd → Prop) (b cq cn cp : Nat) (F : List (List Wd) → List AObj) (M : Nat) (xs : List (List Wd)), 1 ≤ k → k < n → pre.length + k ≤ 1000 → Tree Good b q k pre cq cn cp F M → (∀ x ∈ T k pre, Good x) →
    AC Tryz.prog 92 [.yld b, .ptr cn 0, .ptr cp 0, .ptr cq 0] (F xs) [] (fun _ h' => h' = F (xs ++ T k pre))

theorem c93 {T : Nat → Wd → List (List Wd)} (hTl : ∀ k w x, x ∈ T k w → x.length = k) (hq : q ≤ 16) (hn : n ≤ 64) (hn1 : 1 ≤ n) (hpl : pre.length + n ≤ 1000) (hT : GrowT q T n)
    (hcl : ∀ ws : List Wd, ws ≠ [] → ws.length ≤ 64 → PFn Tryz.prog 94 [.sl (ws.map .str)] [.sl (ws.map .str)])
    (hcc : ∀ A B : List Wd, (A ++ B).length ≤ 64 → PFn Tryz.prog 95 [.sl [.sl (A.map .str), .sl (B.map .str)]] [.sl ((A ++ B).map .str)]) :
    ∀ (d a left ch : Nat) (leaves : List Wd) (F : List (List Wd) → List AObj) (M : Nat) (xs : List (List Wd)), Grow Good b q n pre cq cy cg cn cp F M → a + d = q → ch ≤ a → leaves.length + left = n → (∀ x ∈ growL T n pre d a left ch leaves, Good x) →
      AC Tryz.prog 93 [.p (.int .i64 a), .p (.int .i64 left), .p (.int .i64 ch), .p (.sl (leaves.map .str)), .ptr cq 0, .ptr cy 0, .ptr cg 0, .ptr cn 0, .ptr cp 0] (F xs) []
        (fun v h' => v = .p (.bool true) ∧ h' = F (xs ++ growL T n pre d a left ch leaves)) := by
  intro d
  induction d with
  | zero =>
    intro a left ch leaves F M xs hG had hch hll hgood
    have fL := hG.len
    have fU := hG.und
    refine AC.of_bodyE hΓ Tryz.func93 (by kernel_rfl) rfl (AWp.mono (Q := fun e st => AM.Ends e ∧ st.tmps.getD 13 .junk = .ptr (M + 4) 0 ∧ ∃ x0 x1 x2 x3 e', st.h = F (xs ++ growL T n pre 0 a left ch leaves) ++ (x0 :: x1 :: x2 :: x3 :: .box [.p (.bool true)] :: e')) ?_ ?_)
    rotate_left
    · rintro e ⟨tm, h'⟩ ⟨he, h1, x0, x1, x2, x3, e', h2⟩
      simp only at h1 h2
      subst h2
      refine ⟨he, _, Less.refl _, ?_⟩
      unfold DoneE
      generalize xs ++ growL T n pre 0 a left ch leaves = ys
      have g4 : (F ys ++ x0 :: x1 :: x2 :: x3 :: AObj.box [.p (.bool true)] :: e')[M + 4]? = some (.box [.p (.bool true)]) := by
        rw [List.getElem?_append_right (by rw [fL]; omega), fL, Nat.add_sub_cancel_left]; rfl
      simp +contextual -implicitDefEqProofs only [Tryz.results93, h1, g4, go_sem]
      have tk : ∀ e0, (F ys ++ e0).take M = F ys := fun e0 => by rw [← fL ys]; exact List.take_left
      refine ⟨M, by rw [fL]; exact Nat.le_refl _, .inr ⟨rfl, by rw [tk]; exact fU _, by rw [List.length_append, fL]; omega⟩, tk _⟩
    refine AWp.of_awpD [(2, 10), (8, 8), (10, 12)] hΓ hmix (by kernel_rfl) ?_
    have gF : ∀ (xs : List (List Wd)) (e : List AObj) (j : Nat), (F xs ++ e)[M + j]? = e[j]? := fun xs e j => by rw [List.getElem?_append_right (by rw [fL]; omega), fL, Nat.add_sub_cancel_left]
    have g0 : ∀ (xs : List (List Wd)) (e : List AObj), (F xs ++ e)[M]? = e[0]? := fun xs e => gF xs e 0
    have sF : ∀ (xs : List (List Wd)) (e : List AObj) (j : Nat) (o : AObj), (F xs ++ e).set (M + j) o = F xs ++ e.set j o := fun xs e j o => by rw [List.set_append_right _ _ (by rw [fL]; omega), fL, Nat.add_sub_cancel_left]
    have gq : ∀ e, (F xs ++ e)[cq]? = some (.box [.p (.int .i64 q)]) := fun e => at_app e (hG.q xs)
    have gy : ∀ e, (F xs ++ e)[cy]? = some (.box [.yld b]) := fun e => at_app e (hG.y xs)
    have haq : a = q := by omega
    subst haq
    by_cases h1 : 0 < left
    · have h1' : (0 : Int) < (left : Int) := by omega
      simp -implicitDefEqProofs only [Tryz.ntmps93, Nat.reduceAdd, Nat.reduceSub, fL, List.append_assoc, gF, g0, sF, gq, gy, List.length_append, List.length_cons, List.length_nil, Nat.zero_add, h1', go_sem]
      have e0 : growL T n pre 0 a left ch leaves = [] := by unfold growL; rw [if_pos (.inl h1)]
      rw [e0, List.append_nil]
      exact ⟨_, _, _, _, _, rfl⟩
    have h1' : ¬ (0 : Int) < (left : Int) := by omega
    by_cases h2 : ch < 2
    · have h2' : (ch : Int) < (2 : Int) := by omega
      simp -implicitDefEqProofs only [Tryz.ntmps93, Nat.reduceAdd, Nat.reduceSub, fL, List.append_assoc, gF, g0, sF, gq, gy, List.length_append, List.length_cons, List.length_nil, Nat.zero_add, h1', h2', go_sem]
      have e0 : growL T n pre 0 a left ch leaves = [] := by unfold growL; rw [if_pos (.inr h2)]
      rw [e0, List.append_nil]
      exact ⟨_, _, _, _, _, rfl⟩
    have h2' : ¬ (ch : Int) < (2 : Int) := by omega
    have e0 : growL T n pre 0 a left ch leaves = [leaves] := by unfold growL; rw [if_neg (by omega)]
    have hle : leaves.length = n := by omega
    have hcl' := hcl leaves (fun h => by rw [h] at hle; simp at hle; omega) (by omega)
    simp -implicitDefEqProofs only [Tryz.ntmps93, Nat.reduceAdd, Nat.reduceSub, fL, List.append_assoc, gF, g0, sF, gq, gy, List.length_append, List.length_cons, List.length_nil, Nat.zero_add, h1', h2', go_sem]
    refine callVPK_fn hcl' (.still rfl) ?_
    simp -implicitDefEqProofs only [fL, List.append_assoc, gF, g0, sF, gq, gy, List.length_append, List.length_cons, List.length_nil, Nat.zero_add, go_sem]
    have hr := (hG.ext (e := [.box [.p (.int .i64 a)], .box [.p (.int .i64 left)], .box [.p (.int .i64 ch)], .box [.p (.sl (leaves.map .str))], .box [.p (.bool false)]]) (by simp [AObj.under, AV.under])).round xs leaves (hgood _ (by rw [e0]; simp))
    refine trK_yc hr (by simp) ?_
    rintro v h' ⟨rfl, rfl⟩
    simp -implicitDefEqProofs only [killAll, List.foldl, fL, List.append_assoc, gF, g0, sF, gq, gy, List.length_append, List.length_cons, List.length_nil, Nat.zero_add, go_sem]
    rw [e0]
    exact ⟨_, _, _, _, _, rfl⟩
  | succ d ih =>
    intro a left ch leaves F M xs hG had hch hll hgood
    have fL := hG.len
    have fU := hG.und
    have hgs := growL_succ T n pre d a left ch leaves
    refine AC.of_bodyE hΓ Tryz.func93 (by kernel_rfl) rfl (AWp.mono (Q := fun e st => AM.Ends e ∧ st.tmps.getD 13 .junk = .ptr (M + 4) 0 ∧ ∃ x0 x1 x2 x3 e', st.h = F (xs ++ growL T n pre (d + 1) a left ch leaves) ++ (x0 :: x1 :: x2 :: x3 :: .box [.p (.bool true)] :: e')) ?_ ?_)
    rotate_left
    · rintro e ⟨tm, h'⟩ ⟨he, h1, x0, x1, x2, x3, e', h2⟩
      simp only at h1 h2
      subst h2
      refine ⟨he, _, Less.refl _, ?_⟩
      unfold DoneE
      generalize xs ++ growL T n pre (d + 1) a left ch leaves = ys
      have g4 : (F ys ++ x0 :: x1 :: x2 :: x3 :: AObj.box [.p (.bool true)] :: e')[M + 4]? = some (.box [.p (.bool true)]) := by
        rw [List.getElem?_append_right (by rw [fL]; omega), fL, Nat.add_sub_cancel_left]; rfl
      simp +contextual -implicitDefEqProofs only [Tryz.results93, h1, g4, go_sem]
      have tk : ∀ e0, (F ys ++ e0).take M = F ys := fun e0 => by rw [← fL ys]; exact List.take_left
      refine ⟨M, by rw [fL]; exact Nat.le_refl _, .inr ⟨rfl, by rw [tk]; exact fU _, by rw [List.length_append, fL]; omega⟩, tk _⟩
    rw [hgs]
    generalize hg1 : growL T n pre d (a + 1) left ch leaves = g1 at *
    have gF : ∀ (xs : List (List Wd)) (e : List AObj) (j : Nat), (F xs ++ e)[M + j]? = e[j]? := fun xs e j => by rw [List.getElem?_append_right (by rw [fL]; omega), fL, Nat.add_sub_cancel_left]
    have g0 : ∀ (xs : List (List Wd)) (e : List AObj), (F xs ++ e)[M]? = e[0]? := fun xs e => gF xs e 0
    have sF : ∀ (xs : List (List Wd)) (e : List AObj) (j : Nat) (o : AObj), (F xs ++ e).set (M + j) o = F xs ++ e.set j o := fun xs e j o => by rw [List.set_append_right _ _ (by rw [fL]; omega), fL, Nat.add_sub_cancel_left]
    have gq : ∀ xs e, (F xs ++ e)[cq]? = some (.box [.p (.int .i64 q)]) := fun xs e => at_app e (hG.q xs)
    have gy : ∀ xs e, (F xs ++ e)[cy]? = some (.box [.yld b]) := fun xs e => at_app e (hG.y xs)
    have gg : ∀ xs e, (F xs ++ e)[cg]? = some (.box [.fn 93 [.ptr cq 0, .ptr cy 0, .ptr cg 0, .ptr cn 0, .ptr cp 0]]) := fun xs e => at_app e (hG.g xs)
    have gn : ∀ xs e, (F xs ++ e)[cn]? = some (.box [.p (.int .i64 n)]) := fun xs e => at_app e (hG.n xs)
    have gp : ∀ xs e, (F xs ++ e)[cp]? = some (.box [.p (.str pre)]) := fun xs e => at_app e (hG.p xs)
    have haq : ¬ a = q := by omega
    have haq' : ¬ (a : Int) = (q : Int) := by omega
    have hin : InR .i64 ((a : Int) + 1) := by simp only [InR]; omega
    have hc := ih (a + 1) left ch leaves _ _ xs (hG.ext (e := [.box [.p (.int .i64 a)], .box [.p (.int .i64 left)], .box [.p (.int .i64 ch)], .box [.p (.sl (leaves.map .str))], .box [.p (.bool false)]]) (by simp [AObj.under, AV.under])) (by omega) (by omega) hll (fun x hx => hgood x (by rw [hgs]; rw [hg1] at hx; simp [hx]))
    rw [hg1, show (((a + 1 : Nat)) : Int) = (a : Int) + 1 by omega] at hc
    refine AWp.seq (AWp.of_awpD [(2, 10), (8, 8), (10, 12)] hΓ hmix (by kernel_rfl) ?_)
    simp -implicitDefEqProofs only [Tryz.ntmps93, Nat.reduceAdd, Nat.reduceSub, fL, List.append_assoc, gF, g0, sF, gq, gy, List.length_append, List.length_cons, List.length_nil, Nat.zero_add, gg, gn, gp, haq, haq', go_sem]
    refine AWp.seq (AWp.of_awpD [(2, 10), (8, 8), (10, 12)] hΓ hmix (by kernel_rfl) ?_)
    simp -implicitDefEqProofs only [fL, List.append_assoc, gF, g0, sF, gq, gy, List.length_append, List.length_cons, List.length_nil, Nat.zero_add, gg, gn, gp, haq, haq', go_sem]
    refine AWp.seq (AWp.of_awpD [(2, 10), (8, 8), (10, 12)] hΓ hmix (by kernel_rfl) ?_)
    simp -implicitDefEqProofs only [fL, List.append_assoc, gF, g0, sF, gq, gy, List.length_append, List.length_cons, List.length_nil, Nat.zero_add, gg, gn, gp, hin, go_sem]
    refine callK_ac hc (by simp) ?_
    rintro v h' ⟨rfl, rfl⟩
    simp -implicitDefEqProofs only [killAll, List.foldl, fL, List.append_assoc, gF, g0, sF, gq, gy, List.length_append, List.length_cons, List.length_nil, Nat.zero_add, go_sem]
    refine AWp.seq (AWp.seq (AWp.of_awpD [(2, 10), (8, 8), (10, 12)] hΓ hmix (by kernel_rfl) ?_))
    simp -implicitDefEqProofs only [fL, List.append_assoc, gF, g0, sF, gq, gy, List.length_append, List.length_cons, List.length_nil, Nat.zero_add, go_sem]
    refine AWp.block ?_
    have lq : cq < M := by have := (List.getElem?_eq_some_iff.1 (hG.q [])).1; rwa [fL] at this
    have ly : cy < M := by have := (List.getElem?_eq_some_iff.1 (hG.y [])).1; rwa [fL] at this
    have lg : cg < M := by have := (List.getElem?_eq_some_iff.1 (hG.g [])).1; rwa [fL] at this
    have ln : cn < M := by have := (List.getElem?_eq_some_iff.1 (hG.n [])).1; rwa [fL] at this
    have lp : cp < M := by have := (List.getElem?_eq_some_iff.1 (hG.p [])).1; rwa [fL] at this
    refine AWp.loopJ (fun k : Nat => ⟨mkF 72 [(4, .ptr cq 0), (5, .ptr cy 0), (6, .ptr cg 0), (7, .ptr cn 0), (8, .ptr cp 0), (9, .ptr M 0), (10, .ptr (M + 1) 0), (11, .ptr (M + 2) 0), (12, .ptr (M + 3) 0), (13, .ptr (M + 4) 0), (14, .ptr (M + 5) 0)],
        F (xs ++ (g1 ++ kidsL T n pre d a left ch leaves k)) ++ [.box [.p (.int .i64 a)], .box [.p (.int .i64 left)], .box [.p (.int .i64 ch)], .box [.p (.sl (leaves.map .str))], .box [.p (.bool false)], .box [.p (.int .i64 ((k + 1 : Nat) : Int))]]⟩)
      (fun k => k ≤ min left (n - 1)) (fun k => min left (n - 1) - k) 0 (fun k => ?_) ⟨?_, ?_⟩ (Nat.zero_le _) ?_
    · refine ⟨by simp [fL], ?_, ?_⟩
      · simp [mkF, AV.blw, AV.blw.blwL, fL]
        omega
      · rw [blwH_append]
        simp only [List.length_append, fL, List.length_cons, List.length_nil]
        rw [blwH_of _ (all_under_le (by omega) (fU _))]
        simp [blwH, AObj.blw, AV.blw, AV.blw.blwL]
    · simp [go_sem]
    · have e0 : kidsL T n pre d a left ch leaves 0 = [] := rfl
      rw [e0, List.append_nil]
      exact weakD_refl _
    intro k hk
    refine AWp.seq (AWp.of_awpD [(2, 10), (8, 8), (10, 12)] hΓ hmix (by kernel_rfl) ?_)
    have hmin : (if (n : Int) - 1 < (left : Int) then (n : Int) - 1 else (left : Int)) = ((min left (n - 1) : Nat) : Int) := by split <;> omega
    have hin1 : InR .i64 ((n : Int) - 1) := by simp only [InR]; omega
    by_cases hlt : k < min left (n - 1)
    rotate_left
    · have hkm : k = min left (n - 1) := by omega
      have hk' : ¬ ((k + 1 : Nat) : Int) ≤ ((min left (n - 1) : Nat) : Int) := by omega
      simp -implicitDefEqProofs only [fL, List.append_assoc, gF, g0, sF, gq, gy, List.length_append, List.length_cons, List.length_nil, Nat.zero_add, gn, hin1, hmin, hk', go_sem]
      refine AWp.of_awpD [(2, 10), (8, 8), (10, 12)] hΓ hmix (by kernel_rfl) ?_
      simp -implicitDefEqProofs only [fL, List.append_assoc, gF, g0, sF, gq, gy, List.length_append, List.length_cons, List.length_nil, Nat.zero_add, gn, hin1, hmin, hk', go_sem]
      rw [hkm]
      exact ⟨_, _, _, _, _, rfl⟩
    have hk' : ((k + 1 : Nat) : Int) ≤ ((min left (n - 1) : Nat) : Int) := by omega
    simp -implicitDefEqProofs only [fL, List.append_assoc, gF, g0, sF, gq, gy, List.length_append, List.length_cons, List.length_nil, Nat.zero_add, gn, hin1, hmin, hk', go_sem]
    refine AWp.seq (AWp.block ?_)
    have h16 : a < 16 := by omega
    have ha1 : ((a : Int) + 1).toNat - a = 1 := by omega
    have hin0 : InR .i64 (a : Int) := by simp only [InR]; omega
    refine AWp.seq (AWp.of_awpD [(2, 10), (8, 8), (10, 12)] hΓ hmix (by kernel_rfl) ?_)
    simp -implicitDefEqProofs only [fL, List.append_assoc, gF, g0, sF, gq, gy, List.length_append, List.length_cons, List.length_nil, Nat.zero_add, gn, gp, hin, Int.toNat_natCast, ha1, sub_letters h16, go_sem]
    refine ⟨⟨by omega, by omega⟩, by omega, callK_ac (c65 (q : Int) ((k + 1 : Nat) : Int) (pre ++ [letA a])) (by simp) ?_⟩
    rintro v h' ⟨rfl, rfl⟩
    simp -implicitDefEqProofs only [killAll, List.foldl, fL, List.append_assoc, gF, g0, sF, gq, gy, List.length_append, List.length_cons, List.length_nil, Nat.zero_add, go_sem]
    refine AWp.block ?_
    generalize hzs : xs ++ (g1 ++ kidsL T n pre d a left ch leaves k) = zs
    obtain ⟨e9, he9⟩ : ∃ e9 : List AObj, e9 = [.box [.p (.int .i64 a)], .box [.p (.int .i64 left)], .box [.p (.int .i64 ch)], .box [.p (.sl (leaves.map .str))], .box [.p (.bool false)], .box [.p (.int .i64 ((k + 1 : Nat) : Int))],
        .box [.p (.int .i64 q)], .box [.p (.str (pre ++ [letA a]))], .box [.p (.int .i64 ((k + 1 : Nat) : Int))]] := ⟨_, rfl⟩
    obtain ⟨G, hGG⟩ : ∃ G : List Wd → List (List Wd), G = fun part => growL T n pre d (a + 1) (left - (k + 1)) (ch + 1) (leaves ++ part) := ⟨_, rfl⟩
    have key : ∀ (tm : List AV) (pa : List Nat) (asg bd : Code), tm.all (AV.under (M + 9)) = true →
        (∀ (ps : List (List Wd)) (part : List Wd), part ∈ T (k + 1) (pre ++ [letA a]) → YC Tryz.prog (M + 9) [.p (.sl (part.map .str))] ((F (zs ++ ps.flatMap G) ++ e9) ++ [.lp tm pa asg bd .ready]) [] (fun v h' => v = .p (.bool true) ∧ h' = (F (zs ++ (ps ++ [part]).flatMap G) ++ e9) ++ [.lp tm pa asg bd .ready])) →
        AC Tryz.prog 92 [.yld (M + 9), .ptr (M + 8) 0, .ptr (M + 7) 0, .ptr (M + 6) 0] ((F zs ++ e9) ++ [.lp tm pa asg bd .ready]) [] (fun _ h' => h' = (F (zs ++ (T (k + 1) (pre ++ [letA a])).flatMap G) ++ e9) ++ [.lp tm pa asg bd .ready]) := by
      intro tm pa asg bd htm hrd
      have h9 : ∀ ps : List (List Wd), ((F (zs ++ ps.flatMap G) ++ e9) ++ [AObj.lp tm pa asg bd .ready]).length = M + 10 := fun ps => by rw [he9]; simp [fL]
      have hc := hT (k + 1) (pre ++ [letA a]) (fun x => x ∈ T (k + 1) (pre ++ [letA a])) (M + 9) (M + 6) (M + 8) (M + 7) (fun ps : List (List Wd) => (F (zs ++ ps.flatMap G) ++ e9) ++ [.lp tm pa asg bd .ready]) (M + 10) [] (by omega) (by omega) (by rw [List.length_append]; simp; omega)
        ⟨h9, fun ps => ?_, by omega, fun ps => ?_, fun ps => ?_, fun ps => ?_, hrd⟩ (fun x hx => hx)
      · simpa using hc
      · rw [List.all_append, List.all_append, Bool.and_eq_true, Bool.and_eq_true]
        refine ⟨⟨all_under_le (by omega) (fU _), by rw [he9]; simp [AObj.under, AV.under]⟩, ?_⟩
        simp only [List.all_cons, List.all_nil, Bool.and_true, AObj.under]
        simp only [List.all_eq_true] at htm ⊢
        exact fun v hv => AV.under_le (by omega) v (htm v hv)
      · rw [List.append_assoc, gF, he9]; rfl
      · rw [List.append_assoc, gF, he9]; rfl
      · rw [List.append_assoc, gF, he9]; rfl
    have hl9 : (F zs ++ e9).length = M + 9 := by rw [he9]; simp [fL]
    refine AWp.weak (st' := ⟨mkF 72 [(4, .ptr cq 0), (5, .ptr cy 0), (6, .ptr cg 0), (7, .ptr cn 0), (8, .ptr cp 0), (9, .ptr M 0), (10, .ptr (M + 1) 0), (11, .ptr (M + 2) 0), (12, .ptr (M + 3) 0), (13, .ptr (M + 4) 0), (14, .ptr (M + 5) 0), (55, .fn 92 [.ptr (M + 8) 0, .ptr (M + 7) 0, .ptr (M + 6) 0])], F zs ++ e9⟩) ?_ ?_
    · refine ⟨by simp [go_sem], ?_⟩
      rw [he9]; exact weakH_refl _
    rw [show (#[56] : Array Nat) = [56].toArray from rfl]
    refine AWp.rangeFuncR (fun rec _ h' => h' = (F (zs ++ (T (k + 1) (pre ++ [letA a])).flatMap G) ++ e9) ++ [rec]) rfl ?_ ?_
    · rw [hl9]
      refine key _ _ _ _ ?_ ?_
      · simp [mkF, AV.under, AV.under.underL]
        omega
      intro ps part hpart
      generalize hz4 : zs ++ ps.flatMap G = z4
      have hz5 : zs ++ (ps ++ [part]).flatMap G = z4 ++ G part := by rw [← hz4]; simp
      rw [hz5, he9]
      refine YC.of_body (Γ := Γ) (by rw [List.append_assoc, gF]; rfl) rfl (by simp) ?_
      intro rr
      refine AWp.of_awpD [(2, 10), (8, 8), (10, 12)] hΓ hmix (by kernel_rfl) ?_
      simp -implicitDefEqProofs only [setP, fL, List.append_assoc, gF, g0, sF, gq, gy, List.length_append, List.length_cons, List.length_nil, Nat.zero_add, go_sem]
      unfold BeginE
      refine ⟨rfl, ?_⟩
      simp -implicitDefEqProofs only [fL, List.append_assoc, gF, g0, sF, gq, gy, List.length_append, List.length_cons, List.length_nil, Nat.zero_add, go_sem]
      have hpl2 := hTl _ _ _ hpart
      have hc2 : ∀ rec : AObj, rec.under (M + 10) = true → AC Tryz.prog 93 [.p (.int .i64 ((a : Int) + 1)), .p (.int .i64 ((left : Int) - ((k + 1 : Nat) : Int))), .p (.int .i64 ((ch : Int) + 1)), .p (.sl ((leaves ++ part).map .str)), .ptr cq 0, .ptr cy 0, .ptr cg 0, .ptr cn 0, .ptr cp 0]
          (F z4 ++ [.box [.p (.int .i64 a)], .box [.p (.int .i64 left)], .box [.p (.int .i64 ch)], .box [.p (.sl (leaves.map .str))], .box [.p (.bool false)], .box [.p (.int .i64 ((k + 1 : Nat) : Int))], .box [.p (.int .i64 q)], .box [.p (.str (pre ++ [letA a]))], .box [.p (.int .i64 ((k + 1 : Nat) : Int))], rec]) []
          (fun v h' => v = .p (.bool true) ∧ h' = F (z4 ++ G part) ++ [.box [.p (.int .i64 a)], .box [.p (.int .i64 left)], .box [.p (.int .i64 ch)], .box [.p (.sl (leaves.map .str))], .box [.p (.bool false)], .box [.p (.int .i64 ((k + 1 : Nat) : Int))], .box [.p (.int .i64 q)], .box [.p (.str (pre ++ [letA a]))], .box [.p (.int .i64 ((k + 1 : Nat) : Int))], rec]) := by
        intro rec hrec
        have h1 := ih (a + 1) (left - (k + 1)) (ch + 1) (leaves ++ part) _ _ z4 (hG.ext (e := [.box [.p (.int .i64 a)], .box [.p (.int .i64 left)], .box [.p (.int .i64 ch)], .box [.p (.sl (leaves.map .str))], .box [.p (.bool false)], .box [.p (.int .i64 ((k + 1 : Nat) : Int))], .box [.p (.int .i64 q)], .box [.p (.str (pre ++ [letA a]))], .box [.p (.int .i64 ((k + 1 : Nat) : Int))], rec]) (by simp only [List.length_cons, List.length_nil, Nat.reduceAdd, List.all_cons, List.all_nil, Bool.and_true, hrec]; simp [AObj.under, AV.under])) (by omega) (by omega) (by rw [List.length_append]; omega)
          (fun x hx => hgood x (by rw [growL_succ, List.mem_append]; exact .inr (mem_kidsL.2 ⟨k, hlt, part, hpart, hx⟩)))
        rw [show (((a + 1 : Nat)) : Int) = (a : Int) + 1 by omega, show (((ch + 1 : Nat)) : Int) = (ch : Int) + 1 by omega, show (((left - (k + 1) : Nat)) : Int) = (left : Int) - ((k + 1 : Nat) : Int) by omega] at h1
        rw [hGG]
        exact h1
      have hin3 : InR .i64 ((ch : Int) + 1) := by simp only [InR]; omega
      have hin4 : InR .i64 ((left : Int) - ((k + 1 : Nat) : Int)) := by simp only [InR]; omega
      have hcc2 := hcc leaves part (by rw [List.length_append]; omega)
      refine AWp.of_awpD [(2, 10), (8, 8), (10, 12)] hΓ hmix (by kernel_rfl) ?_
      simp -implicitDefEqProofs only [fL, List.append_assoc, gF, g0, sF, gq, gy, List.length_append, List.length_cons, List.length_nil, Nat.zero_add, gg, hin, hin3, hin4, go_sem]
      refine ⟨⟨by intro x hx; simp only [List.mem_cons, List.not_mem_nil, or_false] at hx; rcases hx with rfl | rfl <;> rfl, by omega⟩, callVPK_fn hcc2 (.still rfl) ?_⟩
      simp -implicitDefEqProofs only [fL, List.append_assoc, gF, g0, sF, gq, gy, List.length_append, List.length_cons, List.length_nil, Nat.zero_add, go_sem]
      refine callK_ac (hc2 _ ?_) (by simp) ?_
      · simp [AObj.under, AV.under, AV.under.underL]
        omega
      rintro v h' ⟨rfl, rfl⟩
      simp -implicitDefEqProofs only [killAll, List.foldl, fL, List.append_assoc, gF, g0, sF, gq, gy, List.length_append, List.length_cons, List.length_nil, Nat.zero_add, go_sem]
      unfold RoundE
      simp -implicitDefEqProofs only [fL, List.append_assoc, gF, g0, sF, gq, gy, List.length_append, List.length_cons, List.length_nil, Nat.zero_add, go_sem]
      refine ⟨_, ?_, .inl rfl, List.take_length⟩
      simp [fL]
    · rintro v h' rfl
      generalize hz2 : zs ++ (T (k + 1) (pre ++ [letA a])).flatMap G = z2
      rw [hl9, he9]
      unfold RangeK
      simp -implicitDefEqProofs only [fL, List.append_assoc, gF, g0, sF, gq, gy, List.length_append, List.length_cons, List.length_nil, Nat.zero_add, go_sem]
      refine AWp.seq (AWp.seq (AWp.of_awpD [(2, 10), (8, 8), (10, 12)] hΓ hmix (by kernel_rfl) ?_))
      simp -implicitDefEqProofs only [fL, List.append_assoc, gF, g0, sF, gq, gy, List.length_append, List.length_cons, List.length_nil, Nat.zero_add, go_sem]
      refine AWp.of_awpD [(2, 10), (8, 8), (10, 12)] hΓ hmix (by kernel_rfl) ?_
      simp -implicitDefEqProofs only [fL, List.append_assoc, gF, g0, sF, gq, gy, List.length_append, List.length_cons, List.length_nil, Nat.zero_add, go_sem]
      refine AWp.weak (st' := ⟨mkF 72 [(4, .ptr cq 0), (5, .ptr cy 0), (6, .ptr cg 0), (7, .ptr cn 0), (8, .ptr cp 0), (9, .ptr M 0), (10, .ptr (M + 1) 0), (11, .ptr (M + 2) 0), (12, .ptr (M + 3) 0), (13, .ptr (M + 4) 0), (14, .ptr (M + 10) 0)],
        F z2 ++ [.box [.p (.int .i64 a)], .box [.p (.int .i64 left)], .box [.p (.int .i64 ch)], .box [.p (.sl (leaves.map .str))], .box [.p (.bool false)], .box [.p (.int .i64 ((k + 1 : Nat) : Int))], .dead, .dead, .dead, .dead, .box [.p (.int .i64 ((k + 1 : Nat) : Int))]]⟩) ⟨by simp [go_sem], weakH_pre (by simp [go_sem, weakH]) _⟩ ?_
      refine AWp.swap (M + 5) (M + 10) (gF _ _ 5) (gF _ _ 10) (by show M ≤ _; omega) (by show M ≤ _; omega) ?_
      have sw : ∀ x, x < M + 5 → swN (M + 5) (M + 10) x = x := fun x hx => swN_far (n := M + 5) (Nat.le_refl _) (by omega) hx
      have sw0 : swN (M + 5) (M + 10) (M + 10) = M + 5 := by unfold swN; rw [if_neg (by omega), if_pos rfl]
      have fS := heap_sw_far (n := M) (b := M + 5) (c := M + 10) (by omega) (by omega) _ (fU z2)
      simp -implicitDefEqProofs only [List.map_append, fS, List.map_cons, List.map_nil, AObj.sw, AV.sw, sw cq (by omega), sw cy (by omega), sw cg (by omega), sw cn (by omega), sw cp (by omega), sw M (by omega), sw (M + 1) (by omega), sw (M + 2) (by omega), sw (M + 3) (by omega), sw (M + 4) (by omega), sw0, sF, List.set_cons_succ, List.set_cons_zero, go_sem]
      have hin2 : InR .i64 (((k + 1 : Nat) : Int) + 1) := by simp only [InR]; omega
      refine AWp.of_awpD [(2, 10), (8, 8), (10, 12)] hΓ hmix (by kernel_rfl) ?_
      simp -implicitDefEqProofs only [fL, List.append_assoc, gF, g0, sF, gq, gy, List.length_append, List.length_cons, List.length_nil, Nat.zero_add, hin2, go_sem]
      have hk2 : (((k + 1 : Nat) : Int) + 1) = ((k + 1 + 1 : Nat) : Int) := by omega
      have hz3 : z2 = xs ++ (g1 ++ kidsL T n pre d a left ch leaves (k + 1)) := by
        rw [← hz2, ← hzs, kidsL_succ, hGG]; simp [List.append_assoc]
      refine ⟨k + 1, ?_, by omega, by omega⟩
      rw [← hz3, hk2]
      have e := weakD_app (F z2 ++ [.box [.p (.int .i64 a)], .box [.p (.int .i64 left)], .box [.p (.int .i64 ch)], .box [.p (.sl (leaves.map .str))], .box [.p (.bool false)], .box [.p (.int .i64 ((k + 1 + 1 : Nat) : Int))]]) [.dead, .dead, .dead, .dead, .box [.p (.int .i64 ((k + 1 : Nat) : Int))]]
      rw [List.append_assoc] at e
      exact e

theorem c92 (hcl : ∀ ws : List Wd, ws ≠ [] → ws.length ≤ 64 → PFn Tryz.prog 94 [.sl (ws.map .str)] [.sl (ws.map .str)])
    (hcc : ∀ A B : List Wd, (A ++ B).length ≤ 64 → PFn Tryz.prog 95 [.sl [.sl (A.map .str), .sl (B.map .str)]] [.sl ((A ++ B).map .str)]) {q : Nat} (hq : q ≤ 16) :
    ∀ (f n : Nat) (pre : Wd) (Good : List Wd → Prop) (b cq cn cp : Nat) (F : List (List Wd) → List AObj) (M : Nat) (xs : List (List Wd)), 1 ≤ n → n ≤ f → n ≤ 64 → pre.length + n ≤ 1000 → Tree Good b q n pre cq cn cp F M → (∀ x ∈ treesF q f n pre, Good x) →
      AC Tryz.prog 92 [.yld b, .ptr cn 0, .ptr cp 0, .ptr cq 0] (F xs) [] (fun _ h' => h' = F (xs ++ treesF q f n pre)) := by
  intro f
  induction f with
  | zero => intro n _ _ _ _ _ _ _ _ _ h1 h2; omega
  | succ f ihf =>
    intro n pre Good b cq cn cp F M xs hn1 hnf hn hpl hT hgood
    have fL := hT.len
    have fU := hT.und
    have lb := hT.bl
    have gF : ∀ (xs : List (List Wd)) (e : List AObj) (j : Nat), (F xs ++ e)[M + j]? = e[j]? := fun xs e j => by rw [List.getElem?_append_right (by rw [fL]; omega), fL, Nat.add_sub_cancel_left]
    have g0 : ∀ (xs : List (List Wd)) (e : List AObj), (F xs ++ e)[M]? = e[0]? := fun xs e => gF xs e 0
    have sF : ∀ (xs : List (List Wd)) (e : List AObj) (j : Nat) (o : AObj), (F xs ++ e).set (M + j) o = F xs ++ e.set j o := fun xs e j o => by rw [List.set_append_right _ _ (by rw [fL]; omega), fL, Nat.add_sub_cancel_left]
    have gq : ∀ xs e, (F xs ++ e)[cq]? = some (.box [.p (.int .i64 q)]) := fun xs e => at_app e (hT.q xs)
    have gn : ∀ xs e, (F xs ++ e)[cn]? = some (.box [.p (.int .i64 n)]) := fun xs e => at_app e (hT.n xs)
    have gp : ∀ xs e, (F xs ++ e)[cp]? = some (.box [.p (.str pre)]) := fun xs e => at_app e (hT.p xs)
    have lq : cq < M := by have := (List.getElem?_eq_some_iff.1 (hT.q [])).1; rwa [fL] at this
    have ln : cn < M := by have := (List.getElem?_eq_some_iff.1 (hT.n [])).1; rwa [fL] at this
    have lp : cp < M := by have := (List.getElem?_eq_some_iff.1 (hT.p [])).1; rwa [fL] at this
    refine AC.of_bodyE hΓ Tryz.func92 (by kernel_rfl) rfl (AWp.mono (Q := fun e st => AM.Ends e ∧ ∃ e', st.h = F (xs ++ treesF q (f + 1) n pre) ++ e') ?_ ?_)
    rotate_left
    · rintro e ⟨tm, h'⟩ ⟨he, e', h2⟩
      simp only at h2
      subst h2
      refine ⟨he, _, Less.refl _, ?_⟩
      unfold DoneE
      generalize xs ++ treesF q (f + 1) n pre = ys
      simp +contextual -implicitDefEqProofs only [Tryz.results92, go_sem]
      have tk : ∀ e0, (F ys ++ e0).take M = F ys := fun e0 => by rw [← fL ys]; exact List.take_left
      refine ⟨M, by rw [fL]; exact Nat.le_refl _, .inr ⟨rfl, by rw [tk]; exact fU _, by rw [List.length_append, fL]; omega⟩, tk _⟩
    refine AWp.of_awpD [] hΓ hmix (by kernel_rfl) ?_
    by_cases h1 : n = 1
    · subst h1
      have hg1 : Good [pre] := hgood _ (by rw [treesF_one]; simp)
      have hr := (hT.ext (e := [.box [.yld b]]) (by simp [AObj.under, AV.under]; omega)).round xs [pre] hg1
      have h11 : ((1 : Nat) : Int) = 1 := rfl
      simp -implicitDefEqProofs only [Tryz.ntmps92, Nat.reduceAdd, Nat.reduceSub, fL, List.append_assoc, gF, g0, sF, gq, gn, gp, List.length_append, List.length_cons, List.length_nil, Nat.zero_add, h11, go_sem]
      have hr2 : YC Tryz.prog b [.full [.str pre]] (F xs ++ [.box [.yld b]]) [] (fun v h' => v = .p (.bool true) ∧ h' = F (xs ++ [[pre]]) ++ [.box [.yld b]]) :=
        YC.args (args := [.p (.sl ([pre].map .str))]) rfl (fun i n μ I w v hi hv => by
          have : i = 0 := by simpa using hi
          subst this; exact hv.full_p) hr
      refine ⟨⟨by intro x hx; simp only [List.mem_cons, List.not_mem_nil, or_false] at hx; rcases hx with rfl; rfl, by omega⟩, trK_yc hr2 (by simp) ?_⟩
      rintro v h' ⟨rfl, rfl⟩
      simp -implicitDefEqProofs only [killAll, List.foldl, go_sem]
      exact ⟨_, rfl⟩
    · have h11 : ¬ ((n : Nat) : Int) = 1 := by omega
      rw [treesF_more h1] at hgood ⊢
      have hG : Grow Good b q n pre cq M (M + 1) cn cp (fun xs => F xs ++ [.box [.yld b], .box [.fn 93 [.ptr cq 0, .ptr M 0, .ptr (M + 1) 0, .ptr cn 0, .ptr cp 0]]]) (M + 2) :=
        { hT.ext (e := [.box [.yld b], .box [.fn 93 [.ptr cq 0, .ptr M 0, .ptr (M + 1) 0, .ptr cn 0, .ptr cp 0]]]) (by simp [AObj.under, AV.under, AV.under.underL]; omega) with
          y := fun xs => g0 _ _
          g := fun xs => gF _ _ 1 }
      have hc := c93 (Good := Good) (b := b) (pre := pre) (cq := cq) (cy := M) (cg := M + 1) (cn := cn) (cp := cp) (T := fun k w => treesF q f k w) (fun k w x hx => treesF_len hx) hq hn hn1 hpl (fun k pre' Good' b' cq' cn' cp' F' M' xs' g1 g2 g3 g4 g5 => ihf k pre' Good' b' cq' cn' cp' F' M' xs' g1 (by omega) (by omega) g3 g4 g5) hcl hcc
        q 0 n 0 [] _ _ xs hG (by omega) (by omega) (by simp) hgood
      have hc2 : AC Tryz.prog 93 [.p (.int .i64 0), .p (.int .i64 n), .p (.int .i64 0), .full [], .ptr cq 0, .ptr M 0, .ptr (M + 1) 0, .ptr cn 0, .ptr cp 0] (F xs ++ [.box [.yld b], .box [.fn 93 [.ptr cq 0, .ptr M 0, .ptr (M + 1) 0, .ptr cn 0, .ptr cp 0]]]) []
          (fun v h' => v = .p (.bool true) ∧ h' = F (xs ++ growL (fun k w => treesF q f k w) n pre q 0 n 0 []) ++ [.box [.yld b], .box [.fn 93 [.ptr cq 0, .ptr M 0, .ptr (M + 1) 0, .ptr cn 0, .ptr cp 0]]]) :=
        AC.args (args := [.p (.int .i64 (0 : Nat)), .p (.int .i64 n), .p (.int .i64 (0 : Nat)), .p (.sl (([] : List Wd).map .str)), .ptr cq 0, .ptr M 0, .ptr (M + 1) 0, .ptr cn 0, .ptr cp 0]) rfl (fun i n μ I w v hi hv => by
          match i, hv with
          | 0, hv => exact hv
          | 1, hv => exact hv
          | 2, hv => exact hv
          | 3, hv => exact hv.full_p
          | k + 4, hv => exact hv) hc
      simp -implicitDefEqProofs only [Tryz.ntmps92, Nat.reduceAdd, Nat.reduceSub, fL, List.append_assoc, gF, g0, sF, gq, gn, gp, List.length_append, List.length_cons, List.length_nil, Nat.zero_add, h11, go_sem]
      refine callK_ac hc2 (by simp) ?_
      rintro v h' ⟨rfl, rfl⟩
      simp -implicitDefEqProofs only [killAll, List.foldl, go_sem]
      exact ⟨_, rfl⟩
end
end Go.Proofs.YtnaekjbbakofdaaGreat
end

section
namespace Go.Proofs.YtnaekjbbakofdaaGreat
open Go Go.AM Go.RowKit
set_option maxRecDepth 100000
set_option linter.unusedSimpArgs false

theorem c61z {h : List AObj} : AC Tryz.prog 114 [.full [], .p (.int .i64 (0 : Nat))] h [] (fun v h' => v = .full [] ∧ h' = h) := by
  refine ⟨entersF_of Tryz.func114 (by kernel_rfl) rfl, fun X I μ ob w cargs R hlen hargs _ => ?_⟩
  obtain ⟨a0, b0, rfl⟩ : ∃ a b, cargs = [a, b] := by
    match cargs, hlen with
    | [a, b], _ => exact ⟨a, b, rfl⟩
  have g0 := hargs 0 (by simp)
  have g1 := hargs 1 (by simp)
  simp only [List.getD_cons_zero, List.getD_cons_succ] at g0 g1
  obtain ⟨a, rfl, hp⟩ : ∃ a, a0 = .slice a 0 0 ∧ PR I w (.sl []) (.slice a 0 0) := by
    cases g0 with
    | full l a hp => exact ⟨a, rfl, hp⟩
  rw [g1.int_inv]
  have hc := Any8.slices_Grow_room (ρ := Tryz.growS_ren) Tryz.growS a 0 0 0 w (by omega) (by omega) (by omega) (by omega)
  refine Calls.mono (P := Tryz.prog) hc ?_
  rintro e w' ⟨rfl, rfl⟩
  exact ⟨_, .full [], h, I, μ, ob, rfl, R, .full [] a hp, fun _ h => h, fun _ _ _ => rfl, Nat.le_refl _, fun g hg => .inl hg, fun b g hb => .inl ⟨b, hb⟩, fun _ _ _ => rfl, rfl, rfl⟩

theorem c29z {h : List AObj} (hK : h.map (AObj.kill h.length) = h) : AC Tryz.prog 95 [.p (.sl (wssV [[], []]))] h [] (fun v h' => v = .own h.length 0 ∧ h' = h ++ [.row 9 1 [] .lax]) := by
  refine AC.of_bodyE hΓ Tryz.func95 (by kernel_rfl) rfl (AWp.mono (Q := fun e st => AM.Ends e ∧ st.tmps.getD 2 .junk = .own h.length 0 ∧ st.h = h ++ [.row 9 1 [] .lax]) ?_ ?_)
  rotate_left
  · rintro e ⟨tm, h'⟩ ⟨he, h1, h2⟩
    simp only at h1 h2
    subst h2
    refine ⟨he, _, Less.refl _, ?_⟩
    unfold DoneE
    simp +contextual -implicitDefEqProofs only [Tryz.results95, h1, go_sem]
    exact ⟨h.length + 1, by omega, .inl (by simp), List.take_of_length_le (by simp)⟩
  have hw : wssV [[], []] = [.sl [], .sl []] := rfl
  rw [hw]
  refine AWp.of_awpD [] hΓ hmix (by kernel_rfl) ?_
  simp -implicitDefEqProofs only [Tryz.ntmps95, Nat.reduceAdd, Nat.reduceSub, go_sem]
  refine AWp.loopI (fun k : Nat => ⟨mkF 36 [(0, .p (.sl [.sl [], .sl []])), (2, .full []), (3, .p (.int .i64 (0 : Nat))), (9, .p (.sl [.sl [], .sl []])), (10, .p (.int .i64 2)), (11, .p (.int .i64 k))], h⟩)
    (fun k => k ≤ 2) (fun k => 2 - k) 0 (by simp [go_sem, weakH_self]) (by omega) ?_
  intro k hk
  refine AWp.of_awpD [] hΓ hmix (by kernel_rfl) ?_
  by_cases hlt : k < 2
  · have hlt' : (k : Int) < 2 := by omega
    have hg : ([PV.sl [], PV.sl []] : List PV).getD k default = .sl [] := by
      match k, hlt with
      | 0, _ => rfl
      | 1, _ => rfl
    have h6 : ¬ ((0 : Nat) : Int) + ((0 : Nat) : Int) < 0 := by omega
    simp -implicitDefEqProofs only [hlt', hg, Int.toNat_natCast, h6, ↓reduceIte, go_sem]
    exact ⟨by omega, by simp only [InR]; omega, by simp only [InR]; omega, k + 1, ⟨⟨by omega, by omega⟩, weakH_self _⟩, hlt, by omega⟩
  · have hlt' : ¬ (k : Int) < 2 := by omega
    simp -implicitDefEqProofs only [hlt', go_sem]
    refine callK_ac c61z (by simp) ?_
    rintro v h' ⟨rfl, rfl⟩
    have gL : ∀ o : AObj, (h' ++ [o])[h'.length]? = some o := fun o => by simp
    have sL : ∀ o o' : AObj, (h' ++ [o]).set h'.length o' = h' ++ [o'] := fun o o' => by simp
    simp -implicitDefEqProofs only [killAll, List.foldl, go_sem]
    refine AWp.adopt (l := []) 6 9 1 (by rfl) (by simp) ?_
    simp -implicitDefEqProofs only [go_sem]
    refine AWp.loopI (fun j : Nat => ⟨mkF 36 [(0, .p (.sl [.sl [], .sl []])), (6, .own h'.length 0), (25, .p (.sl [.sl [], .sl []])), (26, .p (.int .i64 2)), (27, .p (.int .i64 j))], h' ++ [.row 9 1 [] .lax]⟩)
      (fun j => j ≤ 2) (fun j => 2 - j) 0 (by simp [go_sem, weakH_self]) (by omega) ?_
    intro j hj
    refine AWp.of_awpD [] hΓ hmix (by kernel_rfl) ?_
    by_cases hlt2 : j < 2
    · have hlt2' : (j : Int) < 2 := by omega
      have hg : ([PV.sl [], PV.sl []] : List PV).getD j default = .sl [] := by
        match j, hlt2 with
        | 0, _ => rfl
        | 1, _ => rfl
      simp -implicitDefEqProofs only [hlt2', hg, Int.toNat_natCast, gL, sL, hK, List.append_nil, go_sem]
      refine ⟨by omega, ⟨by simp [sizeOK], by simp [oneOK]⟩, ⟨by omega, by omega⟩, by simp only [InR]; omega, j + 1, ⟨by omega, ?_⟩, by omega, by omega⟩
      simp only [List.map_append, hK, List.map_cons, List.map_nil, sL, List.isEmpty_nil, ↓reduceIte]
      exact weakH_self _
    · have hlt2' : ¬ (j : Int) < 2 := by omega
      simp -implicitDefEqProofs only [hlt2', go_sem]

theorem c29b {h : List AObj} (hK : h.map (AObj.kill h.length) = h) (A B : List (List UInt8)) (hn : (A ++ B).length ≤ 1000000) :
    AC Tryz.prog 95 [.p (.sl (wssV [A, B]))] h [] (fun v h' => ∃ rk, rk ≠ .raw ∧ v = .own h.length (A ++ B).length ∧ h' = h ++ [.row 9 1 ((A ++ B).map .str) rk]) := by
  have hf : [A, B].flatten = A ++ B := by simp
  by_cases h0 : 0 < (A ++ B).length
  · have hc := c29 hK [A, B] (by rw [hf]; exact h0) (by rw [hf]; exact hn) (by simp)
    rw [hf] at hc
    exact hc.monoR fun v h' ⟨h1, h2⟩ => ⟨.own, by simp, h1, h2⟩
  · have hA : A = [] := List.length_eq_zero_iff.1 (by rw [List.length_append] at h0; omega)
    have hB : B = [] := List.length_eq_zero_iff.1 (by rw [List.length_append] at h0; omega)
    subst hA hB
    exact (c29z hK).monoR fun v h' ⟨h1, h2⟩ => ⟨.lax, by simp, h1, h2⟩

end Go.Proofs.YtnaekjbbakofdaaGreat
end

section
namespace Go.Proofs.YtnaekjbbakofdaaGreat
open Go Go.AM
set_option maxRecDepth 100000
set_option maxHeartbeats 4000000
set_option linter.unusedSimpArgs false

def cmpWs : List Wd → List Wd → Int
  | [], [] => 0
  | [], _ :: _ => -1
  | _ :: _, [] => 1
  | x :: a, y :: b => if cmpW x y ≠ 0 then cmpW x y else cmpWs a b

theorem cmpWs_ne {a b : List Wd} {i : Nat} (h : ∀ j, j < i → ∃ (h1 : j < a.length) (h2 : j < b.length), cmpW a[j] b[j] = 0) : cmpWs a b = cmpWs (a.drop i) (b.drop i) := by
  induction i generalizing a b with
  | zero => rfl
  | succ i ih =>
    obtain ⟨h1, h2, h3⟩ := h 0 (by omega)
    cases a with
    | nil => simp at h1
    | cons x a =>
      cases b with
      | nil => simp at h2
      | cons y b =>
        simp only [List.getElem_cons_zero] at h3
        rw [cmpWs, h3, if_neg (by simp), List.drop_succ_cons, List.drop_succ_cons]
        exact ih fun j hj => by
          obtain ⟨q1, q2, q3⟩ := h (j + 1) (by omega)
          exact ⟨by simpa using q1, by simpa using q2, by simpa using q3⟩

theorem c68 {h : List AObj} (a b : List Wd) (ha : a.length ≤ 1000000) (hb : b.length ≤ 1000000) :
    AC Tryz.prog 68 [.p (.sl (a.map .str)), .p (.sl (b.map .str)), .fn 69 []] h [] (fun v h' => v = .p (.int .i64 (cmpWs a b)) ∧ h' = h) := by
  refine AC.of_bodyE hΓ Tryz.func68 (by kernel_rfl) rfl (AWp.mono (Q := fun e st => AM.Ends e ∧ st.tmps.getD 6 .junk = .p (.int .i64 (cmpWs a b)) ∧ st.h = h) ?_ ?_)
  rotate_left
  · rintro e ⟨tm, h'⟩ ⟨he, h1, h2⟩
    simp only at h1 h2
    subst h2
    refine ⟨he, _, Less.refl _, ?_⟩
    unfold DoneE
    simp +contextual -implicitDefEqProofs only [Tryz.results68, h1, go_sem]
    exact ⟨_, Nat.le_refl _, .inl rfl, List.take_length⟩
  refine AWp.of_awpD [] hΓ hmix (by kernel_rfl) ?_
  simp -implicitDefEqProofs only [Tryz.ntmps68, Nat.reduceAdd, Nat.reduceSub, List.length_map, go_sem]
  refine AWp.loopI (fun i : Nat => ⟨mkF 39 [(0, .p (.sl (a.map .str))), (1, .p (.sl (b.map .str))), (2, .fn 69 []), (6, .p (.int .i64 0)), (11, .p (.sl (a.map .str))), (12, .p (.int .i64 a.length)), (13, .p (.int .i64 i))], h⟩)
    (fun i => i ≤ a.length ∧ ∀ j, j < i → ∃ (h1 : j < a.length) (h2 : j < b.length), cmpW a[j] b[j] = 0) (fun i => a.length - i) 0 (by simp [go_sem, weakH_self]) ⟨Nat.zero_le _, by omega⟩ ?_
  rintro i ⟨hi, hI⟩
  simp -implicitDefEqProofs only [go_sem]
  refine AWp.of_awpD [] hΓ hmix (by kernel_rfl) ?_
  have hcut := cmpWs_ne hI
  have hib : i ≤ b.length := by
    cases i with
    | zero => omega
    | succ i => obtain ⟨_, h2, _⟩ := hI i (by omega); omega
  by_cases hlt : i < a.length
  · have hlt' : (i : Int) < (a.length : Int) := by omega
    have hga : (a.map PV.str).getD i default = .str a[i] := getD_map_lt _ _ _ _ hlt
    by_cases hlb : i < b.length
    rotate_left
    · have hbi : (b.length : Int) ≤ (i : Int) := by omega
      simp -implicitDefEqProofs only [hlt, hlt', hga, hbi, Int.toNat_natCast, List.length_map, go_sem]
      rw [hcut, List.drop_eq_getElem_cons hlt, List.drop_eq_nil_of_le (by omega : b.length ≤ i)]
      try rfl
    have hbi : ¬ (b.length : Int) ≤ (i : Int) := by omega
    have hgb : (b.map PV.str).getD i default = .str b[i] := getD_map_lt _ _ _ _ hlb
    have e69 := t81 a[i] b[i]
    simp -implicitDefEqProofs only [hlt, hlt', hga, hbi, hlb, hgb, Int.toNat_natCast, List.length_map, go_sem]
    refine callK_fn e69 (.pures rfl) ?_
    by_cases hz : cmpW a[i] b[i] = 0
    · rw [hz]
      simp -implicitDefEqProofs only [go_sem]
      refine ⟨by simp only [InR]; omega, i + 1, ⟨by omega, weakH_self _⟩, ⟨by omega, fun j hj => ?_⟩, by omega⟩
      by_cases he : j = i
      · subst he; exact ⟨hlt, hlb, hz⟩
      · exact hI j (by omega)
    · simp -implicitDefEqProofs only [hz, go_sem]
      rw [hcut, List.drop_eq_getElem_cons hlt, List.drop_eq_getElem_cons hlb, cmpWs, if_pos hz]
      try rfl
  · have hia : i = a.length := by omega
    subst hia
    rw [List.drop_length] at hcut
    by_cases hlb : a.length < b.length
    · have hlb' : (a.length : Int) < (b.length : Int) := by omega
      simp -implicitDefEqProofs only [Nat.lt_irrefl, Int.lt_irrefl, hlb, hlb', List.length_map, go_sem]
      rw [hcut, List.drop_eq_getElem_cons hlb]
      try rfl
    · have hlb' : ¬ (a.length : Int) < (b.length : Int) := by omega
      simp -implicitDefEqProofs only [Nat.lt_irrefl, Int.lt_irrefl, hlb, hlb', List.length_map, go_sem]
      rw [hcut, List.drop_eq_nil_of_le (by omega : b.length ≤ a.length)]
      try rfl
end Go.Proofs.YtnaekjbbakofdaaGreat
end

section
namespace Go.Proofs.YtnaekjbbakofdaaGreat
open Go Go.AM
set_option maxRecDepth 100000
set_option maxHeartbeats 4000000
set_option linter.unusedSimpArgs false

def ΓN : Gam := fun t => if t = 26 then some { td := .slice 9, cells := 1, bytes := 24, zero := some .nil, isAgg := false } else Γ t
theorem yN26 (f : TE → Prop) : tyAt ΓN 26 f = f { td := .slice 9, cells := 1, bytes := 24, zero := some .nil, isAgg := false } := rfl
theorem hΓN : GamOK Tryz.prog ΓN := by
  intro t te h
  unfold ΓN at h
  split at h
  · rename_i ht
    subst ht
    injection h with h
    subst h
    refine ⟨ty26.desc, ?_, fun h => by cases h⟩
    have h2 : (Tryz.prog.info? 26).map (fun i => (i.size, i.bytes, i.zero)) = some (1, 24, some (.slice none 0 0)) := by kernel_rfl
    cases hi : Tryz.prog.info? 26 with
    | none => rw [hi] at h2; cases h2
    | some i =>
      rw [hi] at h2
      simp only [Option.map_some, Option.some.injEq, Prod.mk.injEq] at h2
      obtain ⟨e1, e2, e3⟩ := h2
      refine ⟨i, rfl, e1, e2, fun z hz => ⟨_, e3, ?_, rfl⟩⟩
      simp only [Option.some.injEq] at hz
      subst hz
      exact fun _ _ _ _ => .nil
  · exact hΓ t te h
theorem AWp.reΓ {P : Program} {Γ Γ' : Gam} {n0 : Nat} {ks : List Nat} {r : Option Nat} {c : Code} {Q : Exit → St → Prop} {st : St} (h : AWp ⟨P, Γ', n0, ks⟩ r c Q st) : AWp ⟨P, Γ, n0, ks⟩ r c Q st := h
end Go.Proofs.YtnaekjbbakofdaaGreat
end

section
namespace Go.Proofs.YtnaekjbbakofdaaGreat
open Go Go.AM
set_option maxRecDepth 100000
set_option maxHeartbeats 4000000
set_option linter.unusedSimpArgs false

/-! ### The words of the trees -/
theorem ix_letA {a : Nat} (h : a < 16) : ixB (letA a) L16 0 = a := by
  have : ∀ a, a < 16 → ixB (letA a) L16 0 = (a : Int) := by decide
  exact this a h
theorem okB_letA {a q : Nat} (h : a < q) (hq : q ≤ 16) : okB q (letA a) = true := by
  unfold okB
  rw [ix_letA (by omega)]
  simp; omega
theorem okW_snoc {q : Int} {w : Wd} {b : UInt8} (h : okW q w = true) (hb : okB q b = true) : okW q (w ++ [b]) = true := by
  unfold okW at h ⊢
  rw [List.all_append, h]; simp [hb]
theorem growL_all {P : Wd → Prop} {T : Nat → Wd → List (List Wd)} {n q : Nat} {pre : Wd} (hT : ∀ k a x w, a < q → x ∈ T k (pre ++ [letA a]) → w ∈ x → P w) :
    ∀ {d a left ch : Nat} {leaves x : List Wd} {w : Wd}, a + d = q → (∀ w ∈ leaves, P w) → x ∈ growL T n pre d a left ch leaves → w ∈ x → P w
  | 0, a, left, ch, leaves, x, w, _, hl, h, hw => by
    unfold growL at h
    split at h
    · cases h
    · have : x = leaves := by simpa using h
      subst this; exact hl w hw
  | d + 1, a, left, ch, leaves, x, w, ha, hl, h, hw => by
    rw [growL_succ, List.mem_append, mem_kidsL] at h
    rcases h with h | ⟨j, hj, part, hp, h⟩
    · exact growL_all hT (by omega) hl h hw
    · refine growL_all hT (by omega) (fun w hw => ?_) h hw
      rcases List.mem_append.1 hw with h1 | h1
      · exact hl w h1
      · exact hT _ _ _ _ (by omega) hp h1
theorem treesF_ok {q : Nat} (hq : q ≤ 16) : ∀ {f n : Nat} {pre : Wd} {x : List Wd} {w : Wd}, okW q pre = true → x ∈ treesF q f n pre → w ∈ x → okW q w = true ∧ w.length ≤ pre.length + f
  | 0, _, _, _, _, _, h, _ => by simp [treesF] at h
  | f + 1, n, pre, x, w, hp, h, hw => by
    by_cases hn : n = 1
    · subst hn
      rw [treesF_one] at h
      have : x = [pre] := by simpa using h
      subst this
      have : w = pre := by simpa using hw
      subst this; exact ⟨hp, by omega⟩
    · rw [treesF_more hn] at h
      refine growL_all (q := q) (P := fun w => okW q w = true ∧ w.length ≤ pre.length + (f + 1)) (fun k a y v ha hy hv => ?_) (by omega) (by simp) h hw
      have := treesF_ok hq (okW_snoc hp (okB_letA ha hq)) hy hv
      refine ⟨this.1, ?_⟩
      have h2 := this.2
      rw [List.length_append] at h2
      simp at h2; omega

/-! ### The best list -/
def goodB (q n : Nat) (x : List Wd) : Bool := decide (x.length = n) && x.all fun w => okW q w && decide (w.length ≤ 1000)
theorem goodB_of {q n : Nat} {x : List Wd} : goodB q n x = true ↔ x.length = n ∧ ∀ w ∈ x, w.length ≤ 1000 ∧ okW q w = true := by
  unfold goodB
  simp only [Bool.and_eq_true, decide_eq_true_eq, List.all_eq_true]
  exact ⟨fun h => ⟨h.1, fun w hw => ⟨(h.2 w hw).2, (h.2 w hw).1⟩⟩, fun h => ⟨h.1, fun w hw => ⟨(h.2 w hw).2, (h.2 w hw).1⟩⟩⟩
theorem trees_good {q n : Nat} (hq : q ≤ 16) (hn : n ≤ 1000) {x : List Wd} (h : x ∈ treesF q n n []) : goodB q n x = true := by
  rw [goodB_of]
  refine ⟨treesF_len h, fun w hw => ?_⟩
  have := treesF_ok hq (pre := []) rfl h hw
  exact ⟨by have := this.2; simp at this; omega, this.1⟩

def listOf (cs W : List Nat) (x : List Wd) : List Wd := givenL cs W (sortW x) (matchN cs W x)
def stepO (cs W : List Nat) (s : Option (List Wd × Nat)) (x : List Wd) : Option (List Wd × Nat) :=
  match s with
  | none => some (listOf cs W x, matchN cs W x)
  | some (b, m) => if m < matchN cs W x then some (b, m) else if matchN cs W x < m ∨ cmpWs (listOf cs W x) b < 0 then some (listOf cs W x, matchN cs W x) else some (b, m)
def stepG (cs W : List Nat) (s : Option (List Wd × Nat)) (x : List Wd) : Option (List Wd × Nat) := if goodB cs.length W.length x = true then stepO cs W s x else s
def runO (cs W : List Nat) (xs : List (List Wd)) : Option (List Wd × Nat) := xs.foldl (stepG cs W) none
theorem runO_snoc (cs W : List Nat) (xs : List (List Wd)) (x : List Wd) : runO cs W (xs ++ [x]) = stepG cs W (runO cs W xs) x := by unfold runO; rw [List.foldl_append]; rfl
def bestA : Option (List Wd × Nat) → AV
  | none => .nil
  | some (b, _) => .p (.sl (b.map .str))
def bestN : Option (List Wd × Nat) → List Wd
  | none => []
  | some (b, _) => b
def leastN : Option (List Wd × Nat) → Nat
  | none => 0
  | some (_, m) => m
def optN (cs W : List Nat) : Option (List Wd × Nat) := runO cs W (treesF cs.length W.length W.length [])

theorem givenL_len (cs : List Nat) : ∀ (W : List Nat) (L : List Wd) (m : Nat), (givenL cs W L m).length = W.length
  | [], _, _ => rfl
  | x :: W, L, m => by unfold givenL; rw [List.length_cons, givenL_len cs W]; rfl
def SOK (W : List Nat) : Option (List Wd × Nat) → Prop
  | none => True
  | some (b, m) => b.length = W.length ∧ m < 256 ^ 104
theorem SOK.step {cs W : List Nat} (hB : ∀ c ∈ cs, c ≤ 1000) (hW : ∀ w ∈ W, w < 256 ^ 100) (hl : W.length ≤ 12) {s : Option (List Wd × Nat)} (h : SOK W s) (x : List Wd) : SOK W (stepG cs W s x) := by
  unfold stepG
  split
  · rename_i hg
    obtain ⟨h1, h2⟩ := goodB_of.1 hg
    have hnew : SOK W (some (listOf cs W x, matchN cs W x)) := ⟨givenL_len _ _ _ _, matchN_cap hB hW hl fun w hw => (h2 w hw).1⟩
    match s, h with
    | none, _ => exact hnew
    | some (b, m), h =>
      unfold stepO
      simp only
      split
      · exact h
      · split
        · exact hnew
        · exact h
  · exact h
theorem runO_ok {cs W : List Nat} (hB : ∀ c ∈ cs, c ≤ 1000) (hW : ∀ w ∈ W, w < 256 ^ 100) (hl : W.length ≤ 12) (xs : List (List Wd)) : SOK W (runO cs W xs) := by
  suffices h : ∀ (xs : List (List Wd)) (s : Option (List Wd × Nat)), SOK W s → SOK W (xs.foldl (stepG cs W) s) from h xs none trivial
  intro xs
  induction xs with
  | nil => exact fun s h => h
  | cons x xs ih => exact fun s h => ih _ (h.step hB hW hl x)
end Go.Proofs.YtnaekjbbakofdaaGreat
end

section
namespace Go.Proofs.YtnaekjbbakofdaaGreat
open Go Go.AM
set_option maxRecDepth 100000
set_option maxHeartbeats 4000000
set_option linter.unusedSimpArgs false

def opH (cs W : List Nat) (s : Option (List Wd × Nat)) (rec : AObj) : List AObj :=
  [.box [.p (.sl (cs.map Kn.nV))], .box [.p (.sl (W.map (intN false)))], .box [.p (.bool false), .p (.str [])], .box [bestA s], .box [.p (.bool false), .p (.str (magB (leastN s)))],
    .box [.p (.int .i64 cs.length)], .box [.p (.str [])], .box [.p (.int .i64 W.length)], rec]

theorem c39 (cs W : List Nat) (hB : ∀ c ∈ cs, c ≤ 1000) (hcl : cs.length ≤ 16) (hW : ∀ w ∈ W, w < 256 ^ 100) (hl0 : 0 < W.length) (hl : W.length ≤ 12) :
    PFn Tryz.prog 39 [.sl (cs.map Kn.nV), .sl (W.map (intN false))] [.sl ((bestN (optN cs W)).map .str), intN false (leastN (optN cs W))] := by
  have hcat : ∀ A B : List Wd, (A ++ B).length ≤ 64 → PFn Tryz.prog 95 [.sl [.sl (A.map .str), .sl (B.map .str)]] [.sl ((A ++ B).map .str)] := fun A B h => by
    refine PFn.of_row (E := 9) (s := 1) (AC.monoR (c29b (h := []) rfl A B (by omega)) ?_)
    rintro v h' ⟨rk, hrk, rfl, rfl⟩
    exact ⟨0, rk, by simp, rfl, hrk⟩
  have hcln : ∀ ws : List Wd, ws ≠ [] → ws.length ≤ 64 → PFn Tryz.prog 94 [.sl (ws.map .str)] [.sl (ws.map .str)] := fun ws hne h => by
    refine PFn.of_row (E := 9) (s := 1) (AC.monoR (c22 (h := []) ws (by omega)) ?_)
    rintro v h' (⟨e, _⟩ | ⟨rk, hrk, _, rfl, rfl⟩)
    · exact absurd e hne
    · exact ⟨0, rk, by simp, rfl, hrk⟩
  have h92 := c92 hcln hcat hcl W.length W.length [] (fun x => goodB cs.length W.length x = true)
  refine PFn.of_body hΓ Tryz.func39 (by kernel_rfl) rfl (AWp.seq (AWp.of_awpD [] hΓ hmix (by kernel_rfl) ?_))
  simp -implicitDefEqProofs only [Tryz.ntmps39, Tryz.results39, Nat.reduceAdd, Nat.reduceSub, go_sem]
  refine AWp.seq (AWp.reΓ (Γ' := ΓN) (AWp.of_awpD [] hΓN hmix (by kernel_rfl) ?_))
  simp -implicitDefEqProofs only [yN26, go_sem]
  refine AWp.seq (AWp.of_awpD [] hΓ hmix (by kernel_rfl) ?_)
  simp -implicitDefEqProofs only [go_sem]
  refine AWp.seq (AWp.seq (AWp.of_awpD [] hΓ hmix (by kernel_rfl) ?_))
  simp -implicitDefEqProofs only [List.length_map, go_sem]
  refine callK_ac (c65 (cs.length : Int) (W.length : Int) []) (by simp) ?_
  rintro v h' ⟨rfl, rfl⟩
  simp -implicitDefEqProofs only [killAll, List.foldl, List.length_cons, List.length_nil, Nat.reduceAdd, go_sem]
  refine AWp.block ?_
  have key : ∀ (tm : List AV) (pa : List Nat) (asg bd : Code), tm.all (AV.under 9) = true →
      (∀ (xs : List (List Wd)) (x : List Wd), goodB cs.length W.length x = true → YC Tryz.prog 8 [.p (.sl (x.map .str))] (opH cs W (runO cs W xs) (.lp tm pa asg bd .ready)) [] (fun v h' => v = .p (.bool true) ∧ h' = opH cs W (runO cs W (xs ++ [x])) (.lp tm pa asg bd .ready))) →
      AC Tryz.prog 92 [.yld 8, .ptr 7 0, .ptr 6 0, .ptr 5 0] (opH cs W none (.lp tm pa asg bd .ready)) [] (fun _ h' => h' = opH cs W (optN cs W) (.lp tm pa asg bd .ready)) := by
    intro tm pa asg bd htm hrd
    refine h92 8 5 7 6 (fun xs => opH cs W (runO cs W xs) (.lp tm pa asg bd .ready)) 9 [] hl0 (Nat.le_refl _) (by omega) (by simp; omega) ⟨fun _ => rfl, fun xs => ?_, by omega, fun _ => rfl, fun _ => rfl, fun _ => rfl, hrd⟩ (fun x hx => trees_good hcl (by omega) hx)
    have hb : ∀ s, (bestA s).under 9 = true := fun s => by cases s <;> rfl
    simp only [opH, List.all_cons, List.all_nil, AObj.under, AV.under, hb, htm, Bool.and_true]
  refine AWp.weak (st' := ⟨mkF 52 [(2, .ptr 0 0), (3, .ptr 1 0), (4, .full []), (5, .ptr 2 0), (6, .ptr 3 0), (7, .ptr 4 0), (15, .fn 92 [.ptr 7 0, .ptr 6 0, .ptr 5 0])],
      [.box [.p (.sl (cs.map Kn.nV))], .box [.p (.sl (W.map (intN false)))], .box [.p (.bool false), .p (.str [])], .box [.nil], .box [.p (.bool false), .p (.str [])], .box [.p (.int .i64 cs.length)], .box [.p (.str [])], .box [.p (.int .i64 W.length)]]⟩) (by simp [go_sem]) ?_
  rw [show (#[16] : Array Nat) = [16].toArray from rfl]
  refine AWp.rangeFuncR (fun rec _ h' => h' = opH cs W (optN cs W) rec) rfl (key _ _ _ _ (by simp [mkF, AV.under, AV.under.underL]) ?_) ?_
  rotate_left
  · rintro v h' rfl
    generalize hs : optN cs W = s
    unfold RangeK opH
    rw [intN_pos]
    cases s with
    | none =>
      simp -implicitDefEqProofs only [bestA, bestN, leastN, go_sem]
      refine AWp.seq (AWp.of_awpD [(10, 3)] hΓ hmix (by kernel_rfl) ?_)
      simp -implicitDefEqProofs only [go_sem]
      refine AWp.of_awpD [] hΓ hmix (by kernel_rfl) ?_
      simp -implicitDefEqProofs only [go_sem]
      rfl
    | some p =>
      obtain ⟨b, m⟩ := p
      simp -implicitDefEqProofs only [bestA, bestN, leastN, go_sem]
      refine AWp.seq (AWp.of_awpD [(10, 3)] hΓ hmix (by kernel_rfl) ?_)
      simp -implicitDefEqProofs only [go_sem]
      refine AWp.of_awpD [] hΓ hmix (by kernel_rfl) ?_
      simp -implicitDefEqProofs only [go_sem]
      exact ⟨rfl, rfl⟩
  · intro xs x hg
    obtain ⟨hgl, hgw⟩ := goodB_of.1 hg
    rw [runO_snoc]
    have hok := runO_ok hB hW hl xs
    generalize hs : runO cs W xs = s at *
    have hst : stepG cs W s x = stepO cs W s x := by unfold stepG; rw [if_pos hg]
    rw [hst]
    unfold opH
    refine YC.of_body (Γ := Γ) rfl rfl (by simp) ?_
    intro rr
    refine AWp.of_awpD [] hΓ hmix (by kernel_rfl) ?_
    simp -implicitDefEqProofs only [setP, go_sem]
    unfold BeginE
    refine ⟨rfl, ?_⟩
    simp -implicitDefEqProofs only [Nat.reduceAdd, go_sem]
    have e66 := c66 cs W x hB (by omega) hW hgl.symm (by omega) hgw
    have hcN : matchN cs W x < capN := cap104 (matchN_cap hB hW hl fun w hw => (hgw w hw).1)
    have e67 := c67 cs W x hB (by omega) hW hgl.symm (by omega) (by omega) hgw
    have hlst : givenL cs W (sortW x) (matchN cs W x) = listOf cs W x := rfl
    have hll : (listOf cs W x).length = W.length := givenL_len _ _ _ _
    have hun : ∀ s, (bestA s).under 9 = true := fun s => by cases s <;> rfl
    rw [hlst] at e67
    rw [intN_pos] at e66 e67
    refine AWp.block ?_
    cases s with
    | none =>
      refine AWp.seq (AWp.of_awpD [(9, 1000)] hΓ hmix (by kernel_rfl) ?_)
      simp -implicitDefEqProofs only [bestA, leastN, go_sem]
      refine callK_fn e66 (.still rfl) ?_
      simp -implicitDefEqProofs only [List.length_cons, List.length_nil, Nat.reduceAdd, go_sem]
      refine AWp.seq (AWp.seq (AWp.of_awpD [(9, 1000)] hΓ hmix (by kernel_rfl) ?_))
      simp -implicitDefEqProofs only [go_sem]
      refine AWp.of_awpD [(9, 1000)] hΓ hmix (by kernel_rfl) ?_
      simp -implicitDefEqProofs only [go_sem]
      refine AWp.seq (AWp.of_awpD [(9, 1000)] hΓ hmix (by kernel_rfl) ?_)
      simp -implicitDefEqProofs only [go_sem]
      refine callK_fn e67 (.still rfl) ?_
      simp -implicitDefEqProofs only [go_sem]
      refine AWp.seq (AWp.of_awpD [(9, 1000)] hΓ hmix (by kernel_rfl) ?_)
      simp -implicitDefEqProofs only [go_sem]
      refine AWp.of_awpD [(9, 1000)] hΓ hmix (by kernel_rfl) ?_
      simp -implicitDefEqProofs only [go_sem]
      refine AWp.planL (.q 0 (.q 1 (.e 2 (.s 1 (.e 3 .fin .nil)) .nil))) hΓ hmix (by kernel_rfl) ?_
      simp -implicitDefEqProofs only [go_sem]
      unfold RoundE stepO
      simp -implicitDefEqProofs only [bestA, leastN, go_sem]
      refine ⟨9, Nat.le_refl _, .inr ⟨rfl, ?_, by simp⟩, rfl⟩
      simp [AObj.under, AV.under, AV.under.underL]
    | some p =>
      obtain ⟨b, m⟩ := p
      obtain ⟨hbl, hm104⟩ := hok
      have e25 := u33 (matchN cs W x) m hcN (cap104 hm104)
      rw [intN_pos, intN_pos] at e25
      have hbne : ∃ y ys, b.map PV.str = y :: ys := by
        cases b with
        | nil => simp at hbl; omega
        | cons y ys => exact ⟨_, _, rfl⟩
      obtain ⟨y, ys, hy⟩ := hbne
      refine AWp.seq (AWp.of_awpD [(9, 1000)] hΓ hmix (by kernel_rfl) ?_)
      simp -implicitDefEqProofs only [bestA, leastN, go_sem]
      refine callK_fn e66 (.still rfl) ?_
      simp -implicitDefEqProofs only [List.length_cons, List.length_nil, Nat.reduceAdd, go_sem]
      refine AWp.seq (AWp.seq (AWp.of_awpD [(9, 1000)] hΓ hmix (by kernel_rfl) ?_))
      simp -implicitDefEqProofs only [hy, go_sem]
      refine callK_fn e25 (.still rfl) ?_
      have h01 : (0 : Int) < 1 := by decide
      have h00 : ¬ (0 : Int) < 0 := by decide
      have hm1 : ¬ (0 : Int) < -1 := by decide
      have hm2 : (-1 : Int) < 0 := by decide
      have hout : stepO cs W (some (b, m)) x = if m < matchN cs W x then some (b, m) else if matchN cs W x < m ∨ cmpWs (listOf cs W x) b < 0 then some (listOf cs W x, matchN cs W x) else some (b, m) := rfl
      rw [hout]
      generalize matchN cs W x = c at *
      generalize listOf cs W x = l at *
      by_cases h1 : m < c
      · rw [cmpN_gt h1, if_pos h1]
        simp -implicitDefEqProofs only [h01, go_sem]
        refine AWp.of_awpD [(9, 1000)] hΓ hmix (by kernel_rfl) ?_
        simp -implicitDefEqProofs only [go_sem]
        unfold RoundE
        simp -implicitDefEqProofs only [bestA, leastN, hy, go_sem]
        refine ⟨9, Nat.le_refl _, .inr ⟨rfl, ?_, by simp⟩, rfl⟩
        simp [AObj.under, AV.under, AV.under.underL]
      rw [if_neg h1]
      have hgt : ¬ (0 : Int) < cmpN c m := by unfold cmpN; split; exact hm1; split; exact h00; omega
      simp -implicitDefEqProofs only [hgt, go_sem]
      refine AWp.of_awpD [(9, 1000)] hΓ hmix (by kernel_rfl) ?_
      simp -implicitDefEqProofs only [go_sem]
      refine AWp.seq (AWp.of_awpD [(9, 1000)] hΓ hmix (by kernel_rfl) ?_)
      simp -implicitDefEqProofs only [go_sem]
      refine callK_fn e67 (.still rfl) ?_
      simp -implicitDefEqProofs only [go_sem]
      refine AWp.seq (AWp.of_awpD [(9, 1000)] hΓ hmix (by kernel_rfl) ?_)
      simp -implicitDefEqProofs only [go_sem]
      refine callK_fn e25 (.still rfl) ?_
      by_cases h2 : c < m
      · rw [cmpN_lt h2, if_pos (.inl h2)]
        simp -implicitDefEqProofs only [hm2, go_sem]
        refine AWp.of_awpD [(9, 1000)] hΓ hmix (by kernel_rfl) ?_
        simp -implicitDefEqProofs only [go_sem]
        refine AWp.planL (.q 0 (.q 1 (.e 2 (.s 1 (.e 3 .fin .nil)) .nil))) hΓ hmix (by kernel_rfl) ?_
        simp -implicitDefEqProofs only [go_sem]
        unfold RoundE
        simp -implicitDefEqProofs only [bestA, leastN, go_sem]
        refine ⟨9, Nat.le_refl _, .inr ⟨rfl, ?_, by simp⟩, rfl⟩
        simp [AObj.under, AV.under, AV.under.underL]
      have hcm : c = m := by omega
      subst hcm
      rw [cmpN_eq]
      simp -implicitDefEqProofs only [h00, go_sem]
      have hc68 := fun h => c68 (h := h) l b (by omega) (by omega)
      rw [hy] at hc68
      refine callK_ac (hc68 _) (by simp) ?_
      rintro v h' ⟨rfl, rfl⟩
      by_cases h3 : cmpWs l b < 0
      · rw [if_pos (.inr h3)]
        simp -implicitDefEqProofs only [killAll, List.foldl, h3, go_sem]
        refine AWp.of_awpD [(9, 1000)] hΓ hmix (by kernel_rfl) ?_
        simp -implicitDefEqProofs only [go_sem]
        refine AWp.planL (.q 0 (.q 1 (.e 2 (.s 1 (.e 3 .fin .nil)) .nil))) hΓ hmix (by kernel_rfl) ?_
        simp -implicitDefEqProofs only [go_sem]
        unfold RoundE
        simp -implicitDefEqProofs only [bestA, leastN, go_sem]
        refine ⟨9, Nat.le_refl _, .inr ⟨rfl, ?_, by simp⟩, rfl⟩
        simp [AObj.under, AV.under, AV.under.underL]
      · rw [if_neg (by rintro (h | h); exact h2 h; exact h3 h)]
        simp -implicitDefEqProofs only [killAll, List.foldl, h3, go_sem]
        refine AWp.of_awpD [(9, 1000)] hΓ hmix (by kernel_rfl) ?_
        simp -implicitDefEqProofs only [go_sem]
        unfold RoundE
        simp -implicitDefEqProofs only [bestA, leastN, hy, go_sem]
        refine ⟨9, Nat.le_refl _, .inr ⟨rfl, ?_, by simp⟩, rfl⟩
        simp [AObj.under, AV.under, AV.under.underL]
end Go.Proofs.YtnaekjbbakofdaaGreat
end

section
namespace Go.Proofs.YtnaekjbbakofdaaGreat
open Go Go.AM
set_option maxRecDepth 100000
set_option maxHeartbeats 4000000
set_option linter.unusedSimpArgs false

theorem aggIn {A C : List UInt8} {x y : AV} {K : AV → Prop} (hx : x.pure = some (.agg [.bool false, .str A])) (hy : y.pure = some (.agg [.bool false, .str C]))
    (hK : K (.p (.bool (!decide (A = C))))) : aggK Γ .neq 31 x y K := by
  have he : ∃ te fs, Γ 31 = some te ∧ te.td = .struct fs ∧ te.eqs = true ∧ eqAgg Γ fs [.bool false, .str A] [.bool false, .str C] = some ((false == false) && (decide (A = C) && true)) := ⟨_, _, rfl, rfl, rfl, rfl⟩
  obtain ⟨te, fs, h1, h2, h3, h4⟩ := he
  have e : ((false == false) && (decide (A = C) && true)) = decide (A = C) := by simp
  rw [e] at h4
  unfold aggK
  rw [hx, hy]
  simp only [tyAt, h1, h2, h3, h4]
  exact ⟨⟨trivial, rfl, rfl⟩, hK⟩

theorem c63 (n : Nat) (hn : n < capN) : PFn Tryz.prog 63 [intN false n] [.int .i64 0] := by
  have e52 := u69n false n hn
  have e50 := u66 false (digD B32 n) (dig_lt n) (by have := cap_dig hn; omega)
  rw [digD_val (by decide)] at e50
  rw [intN_pos] at e52 e50 ⊢
  refine PFn.of_body hΓ Tryz.func63 (by kernel_rfl) rfl (AWp.seq (AWp.of_awpD [] hΓ hmix (by kernel_rfl) ?_))
  simp -implicitDefEqProofs only [Tryz.ntmps63, Tryz.results63, Nat.reduceAdd, Nat.reduceSub, go_sem]
  refine AWp.seq (AWp.seq (AWp.of_awpD [(1, 7)] hΓ hmix (by kernel_rfl) ?_))
  simp -implicitDefEqProofs only [go_sem]
  refine callVPK_fn e52 (.still rfl) ?_
  simp -implicitDefEqProofs only [go_sem]
  refine callVPK_fn e50 (.still rfl) ?_
  simp -implicitDefEqProofs only [go_sem]
  refine aggIn rfl rfl ?_
  simp -implicitDefEqProofs only [go_sem]
  refine AWp.of_awpD [] hΓ hmix (by kernel_rfl) ?_
  simp -implicitDefEqProofs only [go_sem]
  refine AWp.of_awpD [] hΓ hmix (by kernel_rfl) ?_
  simp -implicitDefEqProofs only [go_sem]

def badC (c : Int) : Bool := decide (c < 1) || decide (8 < c)
theorem k77 (c : Int) : PFn Tryz.prog 77 [.int .i64 c] [.bool (badC c)] := by
  refine PFn.of_body hΓ Tryz.func77 (by kernel_rfl) rfl (AWp.of_awpD [] hΓ hmix (by kernel_rfl) ?_)
  unfold badC
  by_cases h1 : c < 1
  · simp -implicitDefEqProofs only [Tryz.ntmps77, Tryz.results77, Nat.reduceAdd, Nat.reduceSub, h1, go_sem]
    simp [h1]
  · simp -implicitDefEqProofs only [Tryz.ntmps77, Tryz.results77, Nat.reduceAdd, Nat.reduceSub, h1, go_sem]
    simp [h1]
def chkC (cs : List Int) : Int := if cs.length < 2 ∨ 3 < cs.length then 12 else if cs.any badC = true then 2 else 0
theorem c46 (cs : List Int) (hl : cs.length ≤ 1000000) : PFn Tryz.prog 46 [.sl (cs.map Kn.iV)] [.int .i64 (chkC cs)] := by
  have hc48 := fun h => Kn.c48 (h := h) (g := 77) (caps := []) (pr := badC) cs (by omega) (fun w _ => by
    have := AC.of_fn (h := h) (args := [.p (.int .i64 w)]) (k77 w) (.inl rfl)
    exact this)
  refine PFn.of_body hΓ Tryz.func46 (by kernel_rfl) rfl (AWp.of_awpD [] hΓ hmix (by kernel_rfl) ?_)
  unfold chkC
  by_cases h1 : cs.length < 2
  · have h1' : (cs.length : Int) < 2 := by omega
    rw [if_pos (.inl h1)]
    simp -implicitDefEqProofs only [Tryz.ntmps46, Tryz.results46, Nat.reduceAdd, Nat.reduceSub, h1', List.length_map, go_sem]
  have h1' : ¬ (cs.length : Int) < 2 := by omega
  by_cases h2 : 3 < cs.length
  · have h2' : (3 : Int) < (cs.length : Int) := by omega
    rw [if_pos (.inr h2)]
    simp -implicitDefEqProofs only [Tryz.ntmps46, Tryz.results46, Nat.reduceAdd, Nat.reduceSub, h1', h2', List.length_map, go_sem]
  have h2' : ¬ (3 : Int) < (cs.length : Int) := by omega
  rw [if_neg (by omega)]
  simp -implicitDefEqProofs only [Tryz.ntmps46, Tryz.results46, Nat.reduceAdd, Nat.reduceSub, h1', h2', List.length_map, go_sem]
  refine callK_ac (hc48 _) (by simp) ?_
  rintro v h' ⟨rfl, rfl⟩
  cases hb : cs.any badC
  · simp -implicitDefEqProofs only [killAll, List.foldl, go_sem]
    try rfl
  · simp -implicitDefEqProofs only [killAll, List.foldl, go_sem]
    try rfl

structure OkC (cs : List Nat) : Prop where
  l2 : 2 ≤ cs.length
  l3 : cs.length ≤ 3
  lo : ∀ c ∈ cs, 1 ≤ c
  hi : ∀ c ∈ cs, c ≤ 8
structure OkW (W : List Nat) : Prop where
  pos : 0 < W.length
  l5 : W.length ≤ 5
  cap : ∀ w ∈ W, w < 256 ^ 100
theorem nVs (cs : List Nat) : cs.map Kn.nV = (cs.map Int.ofNat).map Kn.iV := by rw [List.map_map]; rfl
theorem OkC.chk {cs : List Nat} (h : OkC cs) : chkC (cs.map Int.ofNat) = 0 := by
  unfold chkC
  rw [List.length_map, if_neg (by have := h.l2; have := h.l3; omega), if_neg]
  rw [List.any_eq_true]
  rintro ⟨c, hc, hb⟩
  obtain ⟨n, hn, rfl⟩ := List.mem_map.1 hc
  have h1 := h.lo n hn
  have h2 := h.hi n hn
  unfold badC at hb
  have e : (Int.ofNat n) = (n : Int) := rfl
  rw [e] at hb
  simp at hb
  omega
theorem OkC.c46 {cs : List Nat} (h : OkC cs) : PFn Tryz.prog 46 [.sl (cs.map Kn.nV)] [.int .i64 0] := by
  have := Go.Proofs.YtnaekjbbakofdaaGreat.c46 (cs.map Int.ofNat) (by have := h.l3; rw [List.length_map]; omega)
  rw [h.chk, ← nVs] at this
  exact this
theorem OkC.le {cs : List Nat} (h : OkC cs) : ∀ c ∈ cs, c ≤ 1000 := fun c hc => by have := h.hi c hc; omega

theorem c36 {cs W : List Nat} (hc : OkC cs) (hw : OkW W) : PFn Tryz.prog 36 [.sl (cs.map Kn.nV), .sl (W.map (intN false))] [.int .i64 0] := by
  have e46 := hc.c46
  have h1 := hw.pos
  have h2 := hw.l5
  have h0' : ¬ (W.length : Int) = 0 := by omega
  have h5' : ¬ (5 : Int) < (W.length : Int) := by omega
  refine PFn.of_body hΓ Tryz.func36 (by kernel_rfl) rfl (AWp.seq (AWp.of_awpD [] hΓ hmix (by kernel_rfl) ?_))
  simp -implicitDefEqProofs only [Tryz.ntmps36, Tryz.results36, Nat.reduceAdd, Nat.reduceSub, go_sem]
  refine AWp.seq (AWp.of_awpD [] hΓ hmix (by kernel_rfl) ?_)
  simp -implicitDefEqProofs only [go_sem]
  refine callK_fn e46 (.still rfl) ?_
  simp -implicitDefEqProofs only [go_sem]
  refine AWp.seq (AWp.of_awpD [] hΓ hmix (by kernel_rfl) ?_)
  simp -implicitDefEqProofs only [h0', h5', List.length_map, go_sem]
  refine AWp.seq (AWp.seq (AWp.of_awpD [] hΓ hmix (by kernel_rfl) ?_))
  simp -implicitDefEqProofs only [List.length_map, go_sem]
  refine AWp.block ?_
  refine AWp.loopJ (fun i : Nat => ⟨mkF 37 [(21, .p (.sl (W.map (intN false)))), (22, .p (.int .i64 W.length)), (23, .p (.int .i64 i))], []⟩)
    (fun i => i ≤ W.length) (fun i => W.length - i) 0 (fun x => by simp [BelowAll, mkF, AV.blw, AV.blw.blwL, blwH]) (by simp [go_sem]) (Nat.zero_le _) ?_
  intro i hi
  simp -implicitDefEqProofs only [go_sem]
  refine AWp.of_awpD [] hΓ hmix (by kernel_rfl) ?_
  by_cases hlt : i < W.length
  · have hlt' : (i : Int) < (W.length : Int) := by omega
    have hg : (W.map (intN false)).getD i default = intN false W[i] := getD_map_lt _ _ _ _ hlt
    have hcp := cap_of (hw.cap _ (List.getElem_mem hlt)) (by decide)
    have e63 := c63 W[i] hcp
    have e25 := u33 W[i] 0 hcp (cap_of (k := 1) (by decide) (by decide))
    have hz : intN false 0 = .agg [.bool false, .str []] := rfl
    rw [intN_pos] at e63 e25
    rw [hz] at e25
    have hnn : ¬ cmpN W[i] 0 < 0 := by unfold cmpN; rw [if_neg (by omega)]; split <;> decide
    simp -implicitDefEqProofs only [hlt, hlt', hg, intN_pos, Int.toNat_natCast, List.length_map, go_sem]
    refine callK_fn e63 (.still rfl) ?_
    simp -implicitDefEqProofs only [go_sem]
    refine callK_fn e25 (.still rfl) ?_
    simp -implicitDefEqProofs only [hnn, go_sem]
    exact ⟨by simp only [InR]; omega, i + 1, by omega, by omega, by omega⟩
  · have hiW : i = W.length := by omega
    subst hiW
    simp -implicitDefEqProofs only [Nat.lt_irrefl, Int.lt_irrefl, go_sem]
    refine AWp.of_awpD [] hΓ hmix (by kernel_rfl) ?_
    simp -implicitDefEqProofs only [go_sem]

def bestL (cs W : List Nat) : List Wd := bestN (optN cs W)
def leastL (cs W : List Nat) : Nat := leastN (optN cs W)
theorem c39v {cs W : List Nat} (hc : OkC cs) (hw : OkW W) : PFn Tryz.prog 39 [.sl (cs.map Kn.nV), .sl (W.map (intN false))] [.sl ((bestL cs W).map .str), intN false (leastL cs W)] :=
  c39 cs W hc.le (by have := hc.l3; omega) hw.cap hw.pos (by have := hw.l5; omega)

theorem c13 {cs W : List Nat} (hc : OkC cs) (hw : OkW W) : PFn Tryz.prog 13 [.sl (cs.map Kn.nV), .sl (W.map (intN false))] [.sl ((bestL cs W).map .str), .int .i64 0] := by
  have e36 := c36 hc hw
  have e39 := c39v hc hw
  rw [intN_pos] at e39
  refine PFn.of_body hΓ Tryz.func13 (by kernel_rfl) rfl (AWp.of_awpD [] hΓ hmix (by kernel_rfl) ?_)
  simp -implicitDefEqProofs only [Tryz.ntmps13, Tryz.results13, Nat.reduceAdd, Nat.reduceSub, go_sem]
  refine callK_fn e36 (.still rfl) ?_
  simp -implicitDefEqProofs only [go_sem]
  refine callK_fn e39 (.still rfl) ?_
  simp -implicitDefEqProofs only [go_sem]
theorem c15 {cs W : List Nat} (hc : OkC cs) (hw : OkW W) : PFn Tryz.prog 15 [.sl (cs.map Kn.nV), .sl (W.map (intN false))] [intN false (leastL cs W), .int .i64 0] := by
  have e36 := c36 hc hw
  have e39 := c39v hc hw
  rw [intN_pos] at e39 ⊢
  refine PFn.of_body hΓ Tryz.func15 (by kernel_rfl) rfl (AWp.of_awpD [] hΓ hmix (by kernel_rfl) ?_)
  simp -implicitDefEqProofs only [Tryz.ntmps15, Tryz.results15, Nat.reduceAdd, Nat.reduceSub, go_sem]
  refine callK_fn e36 (.still rfl) ?_
  simp -implicitDefEqProofs only [go_sem]
  refine callK_fn e39 (.still rfl) ?_
  simp -implicitDefEqProofs only [go_sem]
end Go.Proofs.YtnaekjbbakofdaaGreat
end

section
namespace Go.Proofs.YtnaekjbbakofdaaGreat
open Go Go.AM
set_option maxRecDepth 100000
set_option maxHeartbeats 4000000
set_option linter.unusedSimpArgs false

def ofB (xs ys : List Nat) : Prop := 2 ≤ xs.length ∧ xs.length ≤ 3 ∧ 1 ≤ ys.length ∧ ys.length ≤ 5
instance (xs ys : List Nat) : Decidable (ofB xs ys) := by unfold ofB; infer_instance
theorem lt_cap {n : Nat} (h : n < 65536) : n < 256 ^ 100 := Nat.lt_of_lt_of_le h (by decide)
theorem c38 (ns : List Nat) (h0 : 0 < ns.length) (hl : ns.length ≤ 1000) (hn : ∀ n ∈ ns, n < 65536) : PFn Tryz.prog 38 [.sl (ns.map Kn.nV)] [.sl (ns.map (intN false))] := by
  refine PFn.of_body hΓ Tryz.func38 (by kernel_rfl) rfl (AWp.seq (AWp.of_awpD [] hΓ hmix (by kernel_rfl) ?_))
  simp -implicitDefEqProofs only [Tryz.ntmps38, Tryz.results38, Nat.reduceAdd, Nat.reduceSub, go_sem]
  refine AWp.seq (AWp.of_awpD [] hΓ hmix (by kernel_rfl) ?_)
  simp -implicitDefEqProofs only [go_sem]
  refine AWp.adopt (l := []) 3 31 2 (by rfl) (by simp) ?_
  simp -implicitDefEqProofs only [go_sem]
  refine AWp.seq (AWp.seq (AWp.of_awpD [] hΓ hmix (by kernel_rfl) ?_))
  simp -implicitDefEqProofs only [List.length_map, go_sem]
  refine AWp.block ?_
  refine AWp.loopI (fun i : Nat => ⟨mkF 19 [(3, .own 0 i), (6, .p (.sl (ns.map Kn.nV))), (7, .p (.int .i64 ns.length)), (8, .p (.int .i64 i))], [.row 31 2 ((ns.take i).map (intN false)) (if i = 0 then .lax else .own)]⟩)
    (fun i => i ≤ ns.length) (fun i => ns.length - i) 0 (by simp [go_sem]) (Nat.zero_le _) ?_
  intro i hi
  simp -implicitDefEqProofs only [go_sem]
  refine AWp.of_awpD [] hΓ hmix (by kernel_rfl) ?_
  by_cases hlt : i < ns.length
  · have hlt' : (i : Int) < (ns.length : Int) := by omega
    have hg : (ns.map Kn.nV).getD i default = .int .i64 (ns[i] : Nat) := getD_map_lt _ _ _ _ hlt
    have htk : ns.take (i + 1) = ns.take i ++ [ns[i]] := List.take_succ_eq_append_getElem hlt
    have htk2 : (ns.map (intN false)).take (i + 1) = (ns.map (intN false)).take i ++ [intN false ns[i]] := by
      rw [List.take_succ_eq_append_getElem (by simpa using hlt), List.getElem_map]
    have hy6 := hn _ (List.getElem_mem hlt)
    have e23 := u34 ns[i] (by omega)
    have hs1 : sizeOK [intN false ns[i]] 2 := size_c24 [ns[i]]
    have ho1 : oneOK [intN false ns[i]] := one_c24 [ns[i]]
    simp -implicitDefEqProofs only [hlt, hlt', hg, Int.toNat_natCast, List.length_map, go_sem]
    refine callK_fn e23 (.still rfl) ?_
    simp -implicitDefEqProofs only [go_sem]
    refine ⟨⟨hs1, by omega⟩, ⟨hs1, ho1⟩, ⟨by split <;> simp, by omega, by omega⟩, by simp only [InR]; omega, i + 1, ?_, by omega, by omega⟩
    rw [htk, if_neg (by omega : ¬ i + 1 = 0)]
    simp [htk2]
  have hiY : i = ns.length := by omega
  subst hiY
  simp -implicitDefEqProofs only [Nat.lt_irrefl, Int.lt_irrefl, go_sem]
  rw [List.take_of_length_le (by simp), if_neg (by omega)]
  refine AWp.of_awpD [] hΓ hmix (by kernel_rfl) ?_
  simp -implicitDefEqProofs only [go_sem]
  try rfl
end Go.Proofs.YtnaekjbbakofdaaGreat
end

section
namespace Go.Proofs.YtnaekjbbakofdaaGreat
open Go Go.AM Go.RowKit Go.ChangeShapes
set_option maxRecDepth 100000

theorem maxLen_le {n : Nat} (h : n ≤ maxLen) : n ≤ 9223372036854775807 := by simp only [maxLen] at h; omega
end Go.Proofs.YtnaekjbbakofdaaGreat
end

