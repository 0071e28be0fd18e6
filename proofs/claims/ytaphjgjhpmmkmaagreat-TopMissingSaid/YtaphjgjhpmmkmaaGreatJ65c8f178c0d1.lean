/-
  DERIVED: THE SHELF's CONTRACTS AT THIS DUMP, IN PLAIN WORDS (tools/lay-plain.mjs out of 'YtaphjgjhpmmkmaaGreatTmpSd.lean', which tools/lay-shelf.mjs wrote): THE SAME DECLARATIONS UNDER THE SAME NAMES: 'import', 'namespace', 'open', 'def', 'theorem' AND NOTHING ELSE: no command of the shelf's: FOR A HAND-IN. Each laying: the table of numbers ('.._ren') and one theorem, a field a fact of the dump's own or the kernel's comparison; each contract: ONE APPLICATION.
  slices.Delete on an owned row of words, as a contract with the heap.
  The law TopMissing (f3).
-/
import Derived.Shelf.SlicesG.Delete
import Derived.Shelf.SlGeneric
import Derived.Ground.SlgnProg
import Derived.Test.YtaphjgjhpmmkmaaGreatProg
import Derived.Test.YtaphjgjhpmmkmaaGreatJ4827f6a23276
import Derived.Test.YtaphjgjhpmmkmaaGreatJ01eba62d5e03
import Derived.Test.YtaphjgjhpmmkmaaGreatJ67d614b0ad25

section
namespace Go.Proofs
open Go.Shelf
def Tryz.delS_ren : Go.Shelf.Ren := ⟨fun | 46 => 14 | n => n, fun | 25 => 22 | 26 => 9 | 3 => 3 | 4 => 4 | 0 => 0 | n => n, fun | n => n⟩
theorem Tryz.delS : Go.Proofs.SlLaysN.n46 Tryz.prog Tryz.delS_ren := {
  mixed := by kernel_rfl
  f46 := ⟨Tryz.f14.name, by decide, Tryz.func14.trans (congrArg some (by kernel_rfl))⟩
  t0 := Tryz.underlying0
  a0 := Tryz.isAgg0
  z0 := Tryz.sizeOf0
  v0 := Tryz.zeroValue0
  t3 := Tryz.underlying3
  a3 := Tryz.isAgg3
  z3 := Tryz.sizeOf3
  v3 := Tryz.zeroValue3
  t4 := Tryz.underlying4
  a4 := Tryz.isAgg4
  z4 := Tryz.sizeOf4
  v4 := Tryz.zeroValue4
  t25 := Tryz.underlying22
  a25 := Tryz.isAgg22
  z25 := Tryz.sizeOf22
  v25 := Tryz.zeroValue22
  t26 := Tryz.underlying9
  a26 := Tryz.isAgg9
  z26 := Tryz.sizeOf9
  v26 := Tryz.zeroValue9
  i26 := by kernel_rfl }
end Go.Proofs
end

section
namespace Go.Proofs.YtaphjgjhpmmkmaaGreat
open Go Go.AM Go.RowKit
set_option maxRecDepth 100000
set_option linter.unusedSimpArgs false

/-- A list without the elements from i to j. -/
def cutOut (l : List (List UInt8)) (i j : Nat) : List (List UInt8) := l.take i ++ l.drop j
theorem cutOut_le (l : List (List UInt8)) (i j : Nat) (hij : i ≤ j := by omega) : (cutOut l i j).length ≤ l.length := by
  unfold cutOut; simp; omega

theorem c21 {h : List AObj} {b : Nat} (l : List (List UInt8)) (lo hi : Nat) (hij : lo ≤ hi) (hhi : hi ≤ l.length) (hb : h[b]? = some (.row 9 1 (l.map .str) .own)) (_ : l.length ≤ 1000000) :
    AC Tryz.prog 14 [.own b l.length, .p (.int .i64 lo), .p (.int .i64 hi)] h [b] (fun v h' => v = .own b (cutOut l lo hi).length ∧ h' = (h.map (AObj.kill b)).set b (.row 9 1 ((cutOut l lo hi).map .str) .own)) := by
  refine ⟨entersF_of Tryz.func14 (by kernel_rfl) rfl, fun X I μ ob w cargs R hlen hargs hmay => ?_⟩
  obtain ⟨a0, a1, a2, rfl⟩ : ∃ a x y, cargs = [a, x, y] := by
    match cargs, hlen with
    | [a, x, y], _ => exact ⟨a, x, y, rfl⟩
  have g0 := hargs 0 (by simp)
  have g1 := hargs 1 (by simp)
  have g2 := hargs 2 (by simp)
  simp only [List.getD_cons_zero, List.getD_cons_succ] at g0 g1 g2
  have g1 := g1.int_inv
  have g2 := g2.int_inv
  subst g1 g2
  obtain ⟨a, c, rfl, hbn, hbm⟩ := g0.own_inv
  obtain ⟨hall, hrow⟩ := R.objs _ _ hb
  rcases hrow with ⟨g, hg, cap, cur, fr, vs, e1, e2, e3, e4, e5, e6, e7, e8, e9, e10⟩ | ⟨hk, _⟩
  rotate_left
  · cases hk
  rw [hbm] at e1
  simp only [List.length_map] at e1 e5 e7 e8 e9 e10
  injection e1 with e1a _ e1c
  subst e1a e1c
  have hfr := e3 rfl
  subst hfr
  have hgl := (R.own b g hg).2.2
  have cell : ∀ j (hj : j < l.length), cur[j]? = some (encW l[j]) := fun j hj => by
    have h1 := e10 j (by omega)
    rw [flats_str, getD_map_lt _ _ _ _ hj] at h1
    have h2 := encW_of h1
    have h3 : cur.toList[j]? = some (vs.getD j undef) := by
      have : vs[j]? = some (vs.getD j undef) := by rw [List.getD_eq_getElem?_getD, List.getElem?_eq_getElem (by omega)]; rfl
      rw [← e8, List.getElem?_take_of_lt (by omega)] at this
      exact this.trans (by rw [e8])
    rw [Array.getElem?_toList, h2] at h3
    exact h3
  have hH : Sort.Holds encW w g 0 l.toArray := fun j hj => by
    have hj' : j < l.length := by simpa using hj
    refine ⟨?_, ?_⟩
    · unfold World.cell?
      simp only [Nat.zero_add, e2]
      rw [cell j hj', getElem!_pos l.toArray j hj]
      simp
    · unfold World.frozen?
      simp only [e2]
      simp
  have hc : Calls Tryz.prog 14 #[.slice (some ⟨g, 0, none⟩) l.length c, .int .i64 lo, .int .i64 hi] w fun e w' => e = .returned (.slice (some ⟨g, 0, none⟩) (cutOut l lo hi).length c) ∧ ∃ q, w' = Sort.putRow encW (Sort.ahead w q) g 0 (cutOut l lo hi ++ List.replicate (l.length - (cutOut l lo hi).length) []).toArray :=
    by
    have h := AnyG.slices_Delete_string (ρ := Tryz.delS_ren) Tryz.delS g 0 c lo hi l w hH e5 (by simp only [maxLen] at e6; omega) hij hhi
    have e1 : (cutOut l lo hi).length = l.length - (hi - lo) := by unfold cutOut; simp; omega
    have e2 : l.length - (cutOut l lo hi).length = hi - lo := by omega
    rw [e2, e1]; exact h
  refine Calls.mono (P := Tryz.prog) hc ?_
  rintro e w' ⟨rfl, n, rfl⟩
  have hcl := cutOut_le l lo hi
  generalize hlf : cutOut l lo hi ++ List.replicate (l.length - (cutOut l lo hi).length) [] = lf
  have hsl : lf.toArray.size = l.length := by rw [← hlf]; simp; omega
  have hlfl : lf.length = l.length := by simpa using hsl
  -- the world that is left
  have hnew : (Sort.putRow encW (Sort.ahead w n) g 0 lf.toArray).heap[g]? = some (.cells (Sort.putCells encW 0 lf.toArray cur) 9 (0, 0)) := by
    show (w.heap.modify g _)[g]? = _
    rw [Array.getElem?_modify, if_pos rfl, e2]; rfl
  have hold : ∀ k, k < w.heap.size → k ≠ g → (Sort.putRow encW (Sort.ahead w n) g 0 lf.toArray).heap[k]? = w.heap[k]? := fun k hk hne => by
    show (w.heap.modify g _)[k]? = _
    rw [Array.getElem?_modify, if_neg (fun e => hne e.symm)]
  have hsize : (Sort.putRow encW (Sort.ahead w n) g 0 lf.toArray).heap.size = w.heap.size := by
    show (w.heap.modify g _).size = _
    simp
  have hgrow : w.grownBy (Sort.putRow encW (Sort.ahead w n) g 0 lf.toArray) (ob b) := ⟨rfl, rfl, rfl, by rw [hsize]; exact Nat.le_refl _, fun k hk hk2 => hold k hk (fun e => hk2 (by rw [e, hg]))⟩
  have hput : ∀ j, j < (cutOut l lo hi).length → (Sort.putCells encW 0 lf.toArray cur)[j]? = some (encW ((cutOut l lo hi).getD j [])) := fun j hj => by
    have hj2 : j < l.length := by omega
    unfold Sort.putCells
    rw [Array.getElem?_mapIdx, cell j hj2]
    simp only [Option.map_some]
    rw [if_pos ⟨Nat.zero_le _, by rw [hsl]; omega⟩, Nat.sub_zero, getElem!_pos lf.toArray j (by rw [hsl]; exact hj2)]
    have : lf[j]'(by omega) = (cutOut l lo hi).getD j [] := by
      subst hlf
      rw [List.getElem_append_left hj, List.getD_eq_getElem?_getD, List.getElem?_eq_getElem hj]; rfl
    simp only [List.getElem_toArray, this]
  have hps : (Sort.putCells encW 0 lf.toArray cur).size = cur.size := by unfold Sort.putCells; rw [Array.size_mapIdx]
  have hpl : ((Sort.putCells encW 0 lf.toArray cur).toList.take (cutOut l lo hi).length).length = (cutOut l lo hi).length := by
    have h1 : (Sort.putCells encW 0 lf.toArray cur).toList.length = cur.size := by simpa using hps
    rw [List.length_take, h1]; omega
  have R2 := R.move (b0 := b) (v := .slice (some ⟨g, 0, none⟩) (cutOut l lo hi).length c) (g := some g) (o := .row 9 1 ((cutOut l lo hi).map .str) .own) hbn (hmay b (by simp)) hgrow
    (fun k e => by injection e with e; subst e; exact ⟨.inl hg, by rw [hsize]; exact hgl⟩) ⟨fun x hx => by
      obtain ⟨u, _, rfl⟩ := List.mem_map.1 hx; rfl, .inl ⟨g, by simp, c, Sort.putCells encW 0 lf.toArray cur, (0, 0), (Sort.putCells encW 0 lf.toArray cur).toList.take (cutOut l lo hi).length, by rw [upd_same, List.length_map], hnew, fun _ => rfl, by simp,
        by rw [List.length_map]; omega, e6, by rw [hps]; exact e7, by rw [List.length_map, Nat.mul_one], by
          rw [List.length_map, hpl, Nat.mul_one], fun j hj => ?_⟩⟩
  · exact ⟨_, .own b (cutOut l lo hi).length, _, I, upd μ b (.slice (some ⟨g, 0, none⟩) (cutOut l lo hi).length c), upd ob b (some g), rfl, R2, .own _ _ _ _ (by simpa using hbn) (by simp), fun _ h => h, fun k _ hk => upd_other _ _ (by simpa using hk), by simp, fun g hg => .inl hg,
      fun k g2 hk => by
        by_cases e : k = b
        · subst e; rw [upd_same] at hk; injection hk with hk; subst hk; exact .inl ⟨k, hg⟩
        · rw [upd_other _ _ e] at hk; exact .inl ⟨k, hk⟩,
      fun k hk hno => hold k hk (fun e => hno b (by rw [e]; exact hg)), rfl, rfl⟩
  · rw [List.length_map, Nat.mul_one] at hj
    rw [flats_str, getD_map_lt _ _ _ _ hj]
    have : ((Sort.putCells encW 0 lf.toArray cur).toList.take (cutOut l lo hi).length).getD j undef = encW ((cutOut l lo hi).getD j []) := by
      rw [List.getD_eq_getElem?_getD, List.getElem?_take_of_lt hj, Array.getElem?_toList, hput j hj]; rfl
    rw [this, List.getD_eq_getElem?_getD, List.getElem?_eq_getElem hj]
    exact pr_encW _

end Go.Proofs.YtaphjgjhpmmkmaaGreat
end

section
namespace Go.Proofs.YtaphjgjhpmmkmaaGreat
open Go Go.AM
set_option maxRecDepth 100000
set_option maxHeartbeats 4000000
set_option linter.unusedSimpArgs false

/-- What follows a statement, said ahead of it. -/
theorem AWp.seqT {E : Env} {r : Option Nat} {Q : Exit → St → Prop} {st : St} {x y : Code} (fr : St) (h2 : AWp E r y Q fr)
    (h1 : AWp E r y Q fr → AWp E r x (thenQ (fun st => AWp E r y Q st) Q) st) : AWp E r (.seq x y) Q st := AWp.seq (h1 h2)

theorem rat_one {q : Nat} {D : List (List UInt8)} (hq : q ≠ 0) : Kn.ratV (Kn.krS q (D.map List.length)) (q ^ 32) = oneR ↔ Kn.taken q [] D = q ^ 32 := by
  have h1 := Kn.low_eq (n := Kn.krS q (D.map List.length)) (d := q ^ 32) (m := 1) (e := 1) (Nat.pos_iff_ne_zero.1 (Nat.pow_pos (Nat.pos_of_ne_zero hq))) (by decide)
  rw [ratV_one] at h1
  have e : Kn.krS q (D.map List.length) = Kn.taken q [] D := by rw [Kn.taken_sum]; rfl
  rw [e] at h1 ⊢
  exact h1.trans (by omega)
theorem aggRn {A B C D : List UInt8} {x y : AV} {K : AV → Prop} (hx : x.pure = some (.agg [.bool false, .str A, .bool false, .str B])) (hy : y.pure = some (.agg [.bool false, .str C, .bool false, .str D]))
    (hK : K (.p (.bool (!(decide (A = C) && decide (B = D)))))) : aggK Γ .neq 33 x y K := by
  have he : ∃ te fs, Γ 33 = some te ∧ te.td = .struct fs ∧ te.eqs = true ∧ eqAgg Γ fs [.bool false, .str A, .bool false, .str B] [.bool false, .str C, .bool false, .str D] =
      some (((false == false) && (decide (A = C) && true)) && (((false == false) && (decide (B = D) && true)) && true)) := ⟨_, _, rfl, rfl, rfl, rfl⟩
  obtain ⟨te, fs, h1, h2, h3, h4⟩ := he
  have e : (((false == false) && (decide (A = C) && true)) && (((false == false) && (decide (B = D) && true)) && true)) = (decide (A = C) && decide (B = D)) := by simp
  rw [e] at h4
  unfold aggK
  rw [hx, hy]
  simp only [tyAt, h1, h2, h3, h4]
  exact ⟨⟨trivial, rfl, rfl⟩, hK⟩

theorem b3 (q : Int) (ws : List (List UInt8)) (at_ : Nat) (hat : at_ < 256) (hws : ws.length ≤ 9223372036854775807) : PFn Tryz.prog 3 [codeV q ws, .int .u8 at_] [.bool true] := by
  have e6 := p6 q ws hws
  have e10 := one_ok
  unfold oneR at e10
  refine PFn.of_body hΓ Tryz.func3 (by kernel_rfl) rfl (AWp.seq (AWp.of_awpD [] hΓ hmix (by kernel_rfl) ?_))
  simp -implicitDefEqProofs only [Tryz.ntmps3, Tryz.results3, Nat.reduceAdd, Nat.reduceSub, codeV, go_sem]
  unfold codeV at e6
  cases hp : preS q ws
  · rw [hp] at e6
    refine AWp.seq ?_
    refine AWp.of_awpD [] hΓ hmix (by kernel_rfl) ?_
    simp -implicitDefEqProofs only [go_sem]
    refine callK_fn e6 (.still rfl) ?_
    simp -implicitDefEqProofs only [go_sem]
    refine callK_fn awake_ok (.pures rfl) ?_
    simp -implicitDefEqProofs only [go_sem]
  rw [hp] at e6
  unfold preS at hp
  simp only [Bool.and_eq_true, Bool.not_eq_true', decide_eq_true_eq] at hp
  obtain ⟨hg, hc, hpf⟩ := hp
  have hv := valid_of hc
  have h2 := hv.q2
  have h16 := hv.q16
  have hlen := hv.len
  have hq : ((q.toNat : Nat) : Int) = q := by omega
  have hq0 : q.toNat ≠ 0 := by omega
  have hpc := pcode_of hv hpf
  have hE := chE_ok hc hpf
  have e8 := cm18 q ws
  have e9 := cm28 q ws hc
  rw [hE] at e8
  have hmv : missV q ws = missing q.toNat ws := by unfold missV; rw [if_pos hE]
  have hml := missV_len hv
  rw [hmv] at e8 hml
  have hin : Kn.Inner ws [] := ⟨ws[0]'hv.pos, List.getElem_mem _, rfl, List.length_pos_iff.2 (hv.words _ (List.getElem_mem _)).1⟩
  obtain ⟨A, B, hAB⟩ : ∃ A B, Kn.ratV (Kn.krS q.toNat (ws.map List.length)) (q.toNat ^ 32) = .agg [.bool false, .str A, .bool false, .str B] := ⟨_, _, rfl⟩
  have hone : (decide (A = [1]) && decide (B = [1])) = true ↔ missing q.toNat ws = [] := by
    have h1 := rat_one (D := ws) hq0
    rw [hAB] at h1
    have h3 : (decide (A = [1]) && decide (B = [1])) = true ↔ PV.agg [.bool false, .str A, .bool false, .str B] = oneR := by
      unfold oneR
      simp only [Bool.and_eq_true, decide_eq_true_eq, PV.agg.injEq, List.cons.injEq, PV.str.injEq, true_and, and_true]
    rw [h3, h1, hpc.one_iff hin]
    constructor
    · exact missing_nil
    · intro hm
      have := all_whole hpc (n := 1)
      rw [embL_one, hm, List.append_nil] at this
      exact this
  rw [hAB] at e9
  unfold codeV at e8 e9
  by_cases hL : missing q.toNat ws = []
  · have hb := hone.2 hL
    rw [hL] at e8
    refine AWp.seq ?_
    refine AWp.of_awpD [] hΓ hmix (by kernel_rfl) ?_
    simp -implicitDefEqProofs only [go_sem]
    refine callK_fn e6 (.still rfl) ?_
    simp -implicitDefEqProofs only [go_sem]
    refine AWp.seq (AWp.of_awpD [] hΓ hmix (by kernel_rfl) ?_)
    simp -implicitDefEqProofs only [go_sem]
    refine callK_fn e8 (.still rfl) ?_
    simp -implicitDefEqProofs only [go_sem]
    refine AWp.seq (AWp.of_awpD [] hΓ hmix (by kernel_rfl) ?_)
    simp -implicitDefEqProofs only [go_sem]
    refine callK_fn e9 (.still rfl) ?_
    simp -implicitDefEqProofs only [go_sem]
    refine AWp.seq (AWp.of_awpD [] hΓ hmix (by kernel_rfl) ?_)
    simp -implicitDefEqProofs only [go_sem]
    refine AWp.seq ?_
    refine AWp.of_awpD [(8, 7)] hΓ hmix (by kernel_rfl) ?_
    simp -implicitDefEqProofs only [List.map_nil, List.length_nil, show (((0 : Nat) : Int) = 0) = True by simp, go_sem]
    refine callVPK_fn e10 (.pures rfl) ?_
    simp -implicitDefEqProofs only [go_sem]
    refine aggR rfl rfl ?_
    rw [hb]
    simp -implicitDefEqProofs only [go_sem]
    refine callVPK_fn awake_ok (.pures rfl) ?_
    simp -implicitDefEqProofs only [go_sem]
  have hnb : (decide (A = [1]) && decide (B = [1])) = false := by
    cases h : (decide (A = [1]) && decide (B = [1]))
    · rfl
    · exact absurd (hone.1 h) hL
  have hemb := emb_code hv hpf (n := 1) (by omega)
  rw [embL_one] at hemb
  obtain ⟨d1, d2, d3, d4, d5, d6⟩ := hemb
  have hLn : (missing q.toNat ws).Nodup := strict_nodup (made_strict _)
  have hLp : 0 < (missing q.toNat ws).length := List.length_pos_iff.2 hL
  by_cases h64 : 64 < ws.length + (missing q.toNat ws).length
  · have h64' : (64 : Int) < (ws.length : Int) + ((missing q.toNat ws).length : Int) := by omega
    have hLz : ¬ ((missing q.toNat ws).length : Int) = 0 := by omega
    generalize missing q.toNat ws = L at *
    refine AWp.seq ?_
    refine AWp.of_awpD [] hΓ hmix (by kernel_rfl) ?_
    simp -implicitDefEqProofs only [go_sem]
    refine callK_fn e6 (.still rfl) ?_
    simp -implicitDefEqProofs only [go_sem]
    refine AWp.seq (AWp.of_awpD [] hΓ hmix (by kernel_rfl) ?_)
    simp -implicitDefEqProofs only [go_sem]
    refine callK_fn e8 (.still rfl) ?_
    simp -implicitDefEqProofs only [go_sem]
    refine AWp.seq (AWp.of_awpD [] hΓ hmix (by kernel_rfl) ?_)
    simp -implicitDefEqProofs only [go_sem]
    refine callK_fn e9 (.still rfl) ?_
    simp -implicitDefEqProofs only [go_sem]
    refine AWp.seq (AWp.of_awpD [] hΓ hmix (by kernel_rfl) ?_)
    simp -implicitDefEqProofs only [go_sem]
    refine AWp.seq (AWp.of_awpD [(8, 7)] hΓ hmix (by kernel_rfl) ?_)
    simp -implicitDefEqProofs only [List.length_map, hLz, go_sem]
    refine AWp.seq ?_
    refine AWp.of_awpD [] hΓ hmix (by kernel_rfl) ?_
    simp -implicitDefEqProofs only [List.length_map, h64', go_sem]
    refine ⟨by simp only [InR]; omega, ?_⟩
    refine callK_fn awake_ok (.pures rfl) ?_
    simp -implicitDefEqProofs only [go_sem]
  have d5 := d5 (by omega)
  have eC := c66p ws (missing q.toNat ws) (by rw [List.length_append]; omega)
  have eM := t71 q (ws ++ missing q.toNat ws) (by rw [List.length_append]; omega)
  rw [if_pos d5, d5] at eM
  have e9' := cm28 q (made (ws ++ missing q.toNat ws)) d5
  rw [(rat_one (D := made (ws ++ missing q.toNat ws)) hq0).2 d3] at e9'
  unfold oneR at e9'
  have e13 := t38 q (made (ws ++ missing q.toNat ws))
  rw [if_pos d5, if_pos d5, show aloneB (fun w x => x.isPrefixOf w) (made (ws ++ missing q.toNat ws)) = true from d2] at e13
  -- the word that is left out
  have hk : at_ % (missing q.toNat ws).length < (missing q.toNat ws).length := Nat.mod_lt _ hLp
  obtain ⟨k, hkd⟩ : ∃ k, k = at_ % (missing q.toNat ws).length := ⟨_, rfl⟩
  rw [← hkd] at hk
  have hless := less_missing hpc hk
  have hsub : ∀ x ∈ lessL (missing q.toNat ws) k, x ∈ missing q.toNat ws := fun x hx => ((mem_less hLn hk).1 hx).1
  have hll : (lessL (missing q.toNat ws) k).length ≤ (missing q.toNat ws).length := by unfold lessL; simp; omega
  have hl64 : (made (ws ++ lessL (missing q.toNat ws) k)).length ≤ 64 := by
    have := made_le (ws ++ lessL (missing q.toNat ws) k)
    rw [List.length_append] at this
    omega
  obtain ⟨g1, g2⟩ := part_code hv hpf hsub hl64
  have eC' := c66p ws (lessL (missing q.toNat ws) k) (by rw [List.length_append]; omega)
  have eM' := t71 q (ws ++ lessL (missing q.toNat ws) k) (by rw [List.length_append]; omega)
  rw [if_pos g1, g1] at eM'
  have e8' := cm18 q (made (ws ++ lessL (missing q.toNat ws) k))
  have hE' := chE_ok g1 g2
  rw [hE', show missV q (made (ws ++ lessL (missing q.toNat ws) k)) = [(missing q.toNat ws)[k]] by unfold missV; rw [if_pos hE', hless]] at e8'
  have e16 := e24 [(missing q.toNat ws)[k]] [(missing q.toNat ws)[k]] (by simp)
  rw [decide_eq_true rfl] at e16
  have c22' : ∀ h : List AObj, AC Tryz.prog 15 [.p (.sl ((missing q.toNat ws).map .str))] h [] (fun v h' => v = .own h.length (missing q.toNat ws).length ∧ h' = h ++ [.row 9 1 ((missing q.toNat ws).map .str) .own]) := fun h => by
    have h0 := c22 (h := h) (missing q.toNat ws) (by omega)
    refine h0.monoR ?_
    rintro v h' (⟨hw, _, _⟩ | ⟨rk, hr, hr2, h3, h4⟩)
    · exact absurd hw hL
    · rw [hr2 hL] at h4; exact ⟨h3, h4⟩
  have hgk : ((missing q.toNat ws).map PV.str).getD k default = .str (missing q.toNat ws)[k] := getD_map_lt _ _ _ _ hk
  have hLz : ¬ ((missing q.toNat ws).length : Int) = 0 := by omega
  have h64' : ¬ (64 : Int) < (ws.length : Int) + ((missing q.toNat ws).length : Int) := by omega
  have hcut : ∀ m : Nat, m = k + 1 → cutOut (missing q.toNat ws) k m = lessL (missing q.toNat ws) k := fun m hm => by subst hm; rfl
  obtain ⟨k1, hk1, hk2⟩ : ∃ k1 : Nat, (k : Int) + 1 = k1 ∧ k1 = k + 1 := ⟨k + 1, by omega, rfl⟩
  have hkR : InR .i64 k1 := by simp only [InR]; omega
  have hcl := fun (h : List AObj) (b : Nat) (hb : h[b]? = some (.row 9 1 ((missing q.toNat ws).map .str) .own)) => c21 (h := h) (b := b) (missing q.toNat ws) k k1 (by omega) (by omega) hb (by omega)
  rw [hcut k1 hk2] at hcl
  have hrem : (at_ : Int) % ((missing q.toNat ws).length : Int) = (k : Int) := by rw [hkd]; omega
  generalize hx0 : (missing q.toNat ws)[k] = x0 at *
  clear hless
  generalize lessL (missing q.toNat ws) k = R at *
  generalize missing q.toNat ws = L at *
  generalize made (ws ++ L) = D at *
  generalize made (ws ++ R) = M at *
  unfold codeV at eM e9' e13 eM' e8'
  refine AWp.seq ?_
  refine AWp.of_awpD [] hΓ hmix (by kernel_rfl) ?_
  simp -implicitDefEqProofs only [go_sem]
  refine callK_fn e6 (.still rfl) ?_
  simp -implicitDefEqProofs only [go_sem]
  refine AWp.seq (AWp.of_awpD [] hΓ hmix (by kernel_rfl) ?_)
  simp -implicitDefEqProofs only [go_sem]
  refine callK_fn e8 (.still rfl) ?_
  simp -implicitDefEqProofs only [go_sem]
  refine AWp.seq (AWp.of_awpD [] hΓ hmix (by kernel_rfl) ?_)
  simp -implicitDefEqProofs only [go_sem]
  refine callK_fn e9 (.still rfl) ?_
  simp -implicitDefEqProofs only [go_sem]
  refine AWp.seq (AWp.of_awpD [] hΓ hmix (by kernel_rfl) ?_)
  simp -implicitDefEqProofs only [go_sem]
  refine AWp.seq (AWp.of_awpD [(8, 7)] hΓ hmix (by kernel_rfl) ?_)
  simp -implicitDefEqProofs only [List.length_map, hLz, go_sem]
  refine AWp.seq (AWp.of_awpD [] hΓ hmix (by kernel_rfl) ?_)
  simp -implicitDefEqProofs only [List.length_map, h64', go_sem]
  refine ⟨by simp only [InR]; omega, ?_⟩
  have sz11 : sizeOK [PV.sl (List.map PV.str ws), PV.sl (List.map PV.str L)] 1 ∧ 2 * 1 ≤ 16777216 := ⟨by simp [sizeOK, PV.cells], by omega⟩
  refine AWp.seqM (α := Unit) (fun _ => ⟨mkF 151 [(1, .p (.int .u8 at_)), (2, .ptr 0 0), (4, .p (.bool false)), (5, .p (.sl (L.map .str))), (6, .p (.int .i64 0)), (7, .ptr 1 0), (8, .p (.int .i64 0)), (9, .ptr 2 0)],
    [.box [.p (.int .i64 q), .p (.sl (ws.map .str))], .box [.p (.bool false), .p (.str A), .p (.bool false), .p (.str B)], .box [.p (.int .i64 q), .p (.sl (D.map .str))]]⟩) (fun _ => True) ?_ ?_
  · refine AWp.of_awpD [(11, 1000)] hΓ hmix (by kernel_rfl) ?_
    simp -implicitDefEqProofs only [Frozen, go_sem]
    refine AWp.planL (.q 0 (.q 1 (.q 2 (.q 3 (.q 4 (.q 5 (.e 6 (.s 0 (.s 1 (.e 7 (.q 8 (.q 9 (.q 10 (.e 11 (.s 0 (.s 1 (.s 2 (.s 3 (.s 4 (.s 5 (.s 8 (.s 9 (.s 10 (.e 12 (.s 10 (.q 13 .fin)) .nil)))))))))) .nil)))) (.e 11 (.s 0 (.s 1 (.s 2 (.s 3 (.s 4 (.s 5 (.e 7 (.q 8 (.q 9 (.q 10 (.e 12 (.s 10 (.q 13 .fin)) .nil)))) .nil))))))) .nil)))) (.e 11 (.s 0 (.s 1 (.s 2 (.s 3 (.s 4 (.s 5 (.e 6 (.s 0 (.s 1 (.e 7 (.q 8 (.q 9 (.q 10 (.e 12 (.s 10 (.q 13 .fin)) .nil)))) .nil))) .nil))))))) .nil)))))))) hΓ hmix (by kernel_rfl) ?_
    simp -implicitDefEqProofs only [sz11, go_sem]
    refine ⟨?_, ?_⟩
    · refine callK_fn eC (.still rfl) ?_
      simp -implicitDefEqProofs only [sz11, go_sem]
      refine ⟨?_, ?_⟩
      · refine callK_fn eM (.still rfl) ?_
        simp -implicitDefEqProofs only [sz11, exists_const, go_sem]
      · refine callK_fn eM (.still rfl) ?_
        simp -implicitDefEqProofs only [sz11, exists_const, go_sem]
    · refine callK_fn eC (.still rfl) ?_
      simp -implicitDefEqProofs only [sz11, go_sem]
      refine callK_fn eM (.still rfl) ?_
      simp -implicitDefEqProofs only [sz11, exists_const, go_sem]
  intro _ _
  refine AWp.seq (AWp.of_awpD [] hΓ hmix (by kernel_rfl) ?_)
  simp -implicitDefEqProofs only [go_sem]
  refine callK_fn e9' (.still rfl) ?_
  simp -implicitDefEqProofs only [go_sem]
  refine AWp.seq (AWp.of_awpD [] hΓ hmix (by kernel_rfl) ?_)
  simp -implicitDefEqProofs only [go_sem]
  refine callK_fn e13 (.still rfl) ?_
  simp -implicitDefEqProofs only [go_sem]
  refine AWp.seq (AWp.of_awpD [(14, 31)] hΓ hmix (by kernel_rfl) ?_)
  simp -implicitDefEqProofs only [ite_self, go_sem]
  refine callVPK_fn e10 (.pures rfl) ?_
  simp -implicitDefEqProofs only [go_sem]
  refine aggRn rfl rfl ?_
  simp -implicitDefEqProofs only [decide_true, Bool.and_self, Bool.not_true, go_sem]
  refine callVPK_fn e10 (.pures rfl) ?_
  simp -implicitDefEqProofs only [go_sem]
  refine aggR rfl rfl ?_
  rw [hnb]
  simp -implicitDefEqProofs only [List.length_map, d1, Int.natCast_add, go_sem]
  refine ⟨by simp only [InR]; omega, ?_⟩
  have hwr : IntKind.i64.wrap (at_ : Int) = at_ := InR.wrap (k := .i64) (by simp only [InR]; omega)
  refine AWp.seq (AWp.of_awpD [] hΓ hmix (by kernel_rfl) ?_)
  simp -implicitDefEqProofs only [List.length_map, hwr, hrem, go_sem]
  refine ⟨by omega, ?_⟩
  refine AWp.seq (AWp.of_awpD [] hΓ hmix (by kernel_rfl) ?_)
  simp -implicitDefEqProofs only [go_sem]
  refine callK_ac (c22' _) (by simp) ?_
  rintro v h' ⟨rfl, rfl⟩
  simp -implicitDefEqProofs only [killAll, List.foldl, hk1, go_sem]
  refine ⟨hkR, ?_⟩
  refine callK_ac (hcl _ 4 rfl) (by simp) ?_
  rintro v h' ⟨rfl, rfl⟩
  simp -implicitDefEqProofs only [killAll, List.foldl, go_sem]
  refine AWp.freeze 4 rfl ?_
  have sz18 : sizeOK [PV.sl (List.map PV.str ws), PV.sl (List.map PV.str R)] 1 ∧ 2 * 1 ≤ 16777216 := ⟨by simp [sizeOK, PV.cells], by omega⟩
  refine AWp.seqM (α := Unit) (fun _ => ⟨mkF 151 [(2, .ptr 0 0), (4, .p (.bool false)), (5, .p (.sl (L.map .str))), (6, .p (.int .i64 0)), (13, .p (.int .i64 k)), (15, .ptr 5 0)],
    [.box [.p (.int .i64 q), .p (.sl (ws.map .str))], .box [.p (.bool false), .p (.str A), .p (.bool false), .p (.str B)], .box [.p (.int .i64 q), .p (.sl (D.map .str))], .box [.p (.bool false), .p (.str [1]), .p (.bool false), .p (.str [1])], .dead, .box [.p (.int .i64 q), .p (.sl (M.map .str))]]⟩) (fun _ => True) ?_ ?_
  · refine AWp.of_awpD [(18, 1000)] hΓ hmix (by kernel_rfl) ?_
    simp -implicitDefEqProofs only [Frozen, go_sem]
    refine AWp.planL (.q 0 (.q 1 (.q 2 (.q 3 (.q 4 (.q 5 (.e 6 (.s 0 (.s 1 (.e 7 (.q 8 (.q 9 (.q 10 (.e 11 (.s 0 (.s 1 (.s 2 (.s 3 (.s 4 (.s 5 (.s 8 (.s 9 (.s 10 (.e 12 (.s 10 (.q 13 .fin)) .nil)))))))))) .nil)))) (.e 11 (.s 0 (.s 1 (.s 2 (.s 3 (.s 4 (.s 5 (.e 7 (.q 8 (.q 9 (.q 10 (.e 12 (.s 10 (.q 13 .fin)) .nil)))) .nil))))))) .nil)))) (.e 11 (.s 0 (.s 1 (.s 2 (.s 3 (.s 4 (.s 5 (.e 6 (.s 0 (.s 1 (.e 7 (.q 8 (.q 9 (.q 10 (.e 12 (.s 10 (.q 13 .fin)) .nil)))) .nil))) .nil))))))) .nil)))))))) hΓ hmix (by kernel_rfl) ?_
    simp -implicitDefEqProofs only [sz18, go_sem]
    refine ⟨?_, ?_⟩
    · refine callK_fn eC' (.still rfl) ?_
      simp -implicitDefEqProofs only [sz18, go_sem]
      refine ⟨?_, ?_⟩
      · refine callK_fn eM' (.still rfl) ?_
        simp -implicitDefEqProofs only [sz18, exists_const, go_sem]
      · refine callK_fn eM' (.still rfl) ?_
        simp -implicitDefEqProofs only [sz18, exists_const, go_sem]
    · refine callK_fn eC' (.still rfl) ?_
      simp -implicitDefEqProofs only [sz18, go_sem]
      refine callK_fn eM' (.still rfl) ?_
      simp -implicitDefEqProofs only [sz18, exists_const, go_sem]
  intro _ _
  refine AWp.seq (AWp.of_awpD [] hΓ hmix (by kernel_rfl) ?_)
  simp -implicitDefEqProofs only [go_sem]
  refine callK_fn e8' (.still rfl) ?_
  simp -implicitDefEqProofs only [go_sem]
  refine AWp.of_awpD [] hΓ hmix (by kernel_rfl) ?_
  simp -implicitDefEqProofs only [hgk, Int.toNat_natCast, go_sem]
  refine ⟨hk, ⟨by simp [sizeOK, PV.cells], by omega⟩, callK_fn e16 (.still rfl) ?_⟩
  simp -implicitDefEqProofs only [go_sem]
  refine callK_fn awake_ok (.pures rfl) ?_
  simp -implicitDefEqProofs only [go_sem]
end Go.Proofs.YtaphjgjhpmmkmaaGreat
end

