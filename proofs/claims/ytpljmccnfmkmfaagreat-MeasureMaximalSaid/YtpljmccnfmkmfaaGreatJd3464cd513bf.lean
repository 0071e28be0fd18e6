/-
  Texts of this claim, joined.
-/
import Derived.Test.YtpljmccnfmkmfaaGreatJ1d4ed19585f1
import Derived.Test.YtpljmccnfmkmfaaGreatJd1a375910626
import Derived.Test.YtpljmccnfmkmfaaGreatJba35b49b9597
import Derived.Test.YtpljmccnfmkmfaaGreatJe24918c6a56c

set_option linter.unusedSimpArgs false
set_option maxRecDepth 1000000
set_option maxHeartbeats 4000000
section
namespace Go.Proofs.YtpljmccnfmkmfaaGreat
open Go Go.AM Go.RowKit

theorem c84 (q : Nat) (ws : List (List UInt8)) (n : Int) (h : codeCheck q ws = 0) (hn : -1 ≤ n ∧ n ≤ 32) (r : Option Nat)
    (hr1 : ∀ v, r = some v → stN ws q v = [] ∧ (∀ u, u < v → stN ws q u ≠ []) ∧ (0 ≤ n → ((wn q v).length : Int) ≤ n))
    (hr2 : r = none → ∀ v, (0 ≤ n → ((wn q v).length : Int) ≤ n) → stN ws q v ≠ [])
    (hF : FewS ws q) :
    PFn Tryz.prog 84 [codeV q ws, .int .i64 n] [.str (seR q r), .bool r.isSome, .int .i64 0] := by
  have hcap : ∀ Q i a, Mc.Bfs q (stN ws q) (fun S => S = []) Q i a → Q.length ≤ 300 := fun Q i a B => few_queue hF B
  have hv := valid_of h
  have h2 := hv.q2
  have h16 := hv.q16
  have hlen := hv.len
  have hq0 : 0 < q := by omega
  have hq16 : q ≤ 16 := by omega
  have h32 : ∀ x ∈ ws, x.length ≤ 32 := fun x hx => (hv.words x hx).2.1
  have hstep : ∀ u v b, b < q → stN ws q u = stN ws q v → stN ws q (u * q + b + 1) = stN ws q (v * q + b + 1) := fun u v b hb => stN_step hq0 u v b hb
  have hS : ∀ v, (wn q v).length ≤ 4000 → (stN ws q v).length ≤ 300000 ∧ (joinE (stN ws q v) [32]).length ≤ 10000000 := fun v hvl => by
    have h1 := run_le h32 (wn q v) (wn q v).length (Nat.le_refl _)
    rw [List.take_length] at h1
    have h3 : (wn q v).length * ws.length ≤ 4000 * 64 := Nat.mul_le_mul hvl hlen
    have h4 : (stN ws q v).length ≤ 300000 := by unfold stN; omega
    have h5 := joinE_len (stN ws q v) fun x hx => by
      obtain ⟨y, hy, hs⟩ := run_ends _ x hx
      have := hs.length_le
      have := h32 y hy
      omega
    exact ⟨h4, by omega⟩
  have hroot := st_root hv
  have e87 := c87 q ws hv
  unfold codeV at e87
  have ek := c145 (stN ws q 0) (by have := (hS 0 (by simp [wn_zero])).1; omega) (by have := (hS 0 (by simp [wn_zero])).2; omega)
  rw [show canL (Mc.begL ws) = stN ws q 0 from rfl] at e87
  refine PFn.of_body hΓ Tryz.func84 (by kernel_rfl) rfl (AWp.seq (AWp.of_awpD [] hΓ hmix (by kernel_rfl) ?_))
  simp -implicitDefEqProofs only [Tryz.ntmps84, Tryz.results84, Nat.reduceAdd, Nat.reduceSub, codeV, go_sem]
  refine AWp.seq (AWp.of_awpD [] hΓ hmix (by kernel_rfl) ?_)
  simp -implicitDefEqProofs only [go_sem]
  refine callK_fn e87 (.still rfl) ?_
  simp -implicitDefEqProofs only [go_sem]
  refine AWp.seq (AWp.of_awpD [] hΓ hmix (by kernel_rfl) ?_)
  simp -implicitDefEqProofs only [go_sem]
  refine ⟨by omega, ⟨by simp [sizeOK, PV.cells], by omega⟩, ?_⟩
  refine callK_fn ek (.pures rfl) ?_
  simp -implicitDefEqProofs only [go_sem]
  refine AWp.adopt (l := [nodN ws q 0]) 8 143 2 rfl (by simp [nodN, nodV, PV.cells]) ?_
  simp -implicitDefEqProofs only [go_sem]
  refine AWp.seq (AWp.of_awpD [] hΓ hmix (by kernel_rfl) ?_)
  simp -implicitDefEqProofs only [go_sem]
  refine AWp.loopJ (fun x : List Nat × Nat => ⟨mkF 80 [(1, .p (.int .i64 n)), (2, .ptr 0 0), (8, .own 2 x.1.length), (9, .map 1), (10, .p (.int .i64 x.2))], seH q ws x.1⟩)
    (fun x => Mc.Bfs q (stN ws q) (fun S => S = []) x.1 x.2 0 ∧ x.2 ≤ x.1.length ∧ (∀ v ∈ x.1, 0 ≤ n → ((wn q v).length : Int) ≤ n) ∧ ∀ v ∈ x.1, (wn q v).length < x.1.length) (fun x => 300 - x.2) ([0], 0)
    (fun x => ⟨by simp [seH], by simp [mkF, AV.blw, AV.blw.blwL, seH], by simp [blwH, seH, AObj.blw, AV.blw, AV.blw.blwL]⟩) (by simp [go_sem, seH, nodN, nodV, wn_zero, mset, midx, qmE]) ⟨Mc.Bfs.start hroot, by simp, fun v hv hn => by rw [List.mem_singleton.1 hv, wn_zero]; simpa using hn, fun v hv => by rw [List.mem_singleton.1 hv, wn_zero]; simp⟩ ?_
  rintro ⟨Q, i⟩ ⟨B, hi, hQn, hQw⟩
  simp only at B hi hQn hQw
  have hQ := hcap Q i 0 B
  refine AWp.of_awpD [(11, 1000)] hΓ hmix (by kernel_rfl) ?_
  by_cases hlt : i < Q.length
  rotate_left
  · have hr : r = none := by
      cases hr : r with
      | none => rfl
      | some v => exact absurd (hr1 v hr).1 (B.done hq0 hstep (by omega) v)
    subst hr
    have hz : ¬ (i : Int) < Q.length := by omega
    simp -implicitDefEqProofs only [seH, hz, seR, go_sem]
    refine AWp.of_awpD [] hΓ hmix (by kernel_rfl) ?_
    simp -implicitDefEqProofs only [Option.isSome_none, go_sem]
  have hlt2 : (i : Int) < Q.length := by omega
  obtain ⟨u, hu⟩ : ∃ u, u = Q[i] := ⟨_, rfl⟩
  have hgi : (Q.map (nodN ws q)).getD i default = .agg [.sl ((stN ws q u).map .str), .str (wn q u)] := (getD_map_lt _ _ _ _ hlt).trans (by rw [hu]; rfl)
  by_cases hwn : ((wn q u).length : Int) = n
  · have hr : r = none := by
      cases hr : r with
      | none => rfl
      | some v =>
        obtain ⟨hd, _, hl⟩ := hr1 v hr
        have hl := hl (by omega)
        exact absurd hd (B.least hq0 hstep hlt (Nat.zero_le _) v (by
          have := wn_short hq0 hq16 (v := v) (u := Q[i]) (by rw [← hu]; omega)
          omega))
    subst hr
    simp -implicitDefEqProofs only [seH, hlt, hlt2, hgi, hwn, seR, Int.toNat_natCast, List.length_map, go_sem]
    refine AWp.of_awpD [] hΓ hmix (by kernel_rfl) ?_
    simp -implicitDefEqProofs only [Option.isSome_none, go_sem]
  simp -implicitDefEqProofs only [seH, hlt, hlt2, hgi, hwn, Int.toNat_natCast, List.length_map, go_sem]
  have hQnu : ∀ v ∈ Q, 0 ≤ n → ((wn q v).length : Int) ≤ n := hQn
  have hul : 0 ≤ n → ((wn q u).length : Int) < n := fun h0 => by
    have := hQn u (by rw [hu]; exact List.getElem_mem hlt) h0
    omega
  refine AWp.loopJ (fun y : List Nat × Nat => ⟨mkF 80 [(1, .p (.int .i64 n)), (2, .ptr 0 0), (8, .own 2 y.1.length), (9, .map 1), (10, .p (.int .i64 i)), (11, .ptr 3 0), (39, .p (.int .i64 q)), (40, .p (.int .i64 y.2))], seH q ws y.1 ++ [.box [.p (.sl ((stN ws q u).map .str)), .p (.str (wn q u))]]⟩)
    (fun y => Mc.Bfs q (stN ws q) (fun S => S = []) y.1 i y.2 ∧ (∃ hi : i < y.1.length, y.1[i] = u) ∧ y.2 ≤ q ∧ (∀ v ∈ y.1, 0 ≤ n → ((wn q v).length : Int) ≤ n) ∧ ∀ v ∈ y.1, (wn q v).length < y.1.length) (fun y => q - y.2) (Q, 0)
    (fun x => ⟨by simp [seH], by simp [mkF, AV.blw, AV.blw.blwL, seH], by simp [blwH, seH, AObj.blw, AV.blw, AV.blw.blwL]⟩) (by simp [go_sem, seH]) ⟨B, ⟨hlt, hu.symm⟩, by simp, hQn, hQw⟩ ?_
  rintro ⟨Q', a⟩ ⟨B', ⟨hi', hu'⟩, ha, hQn', hQw'⟩
  simp only at B' hi' hu' ha hQn' hQw'
  have hQ' := hcap Q' i a B'
  have hulen : (wn q u).length < Q'.length := hQw' u (by rw [← hu']; exact List.getElem_mem hi')
  refine AWp.seq (AWp.of_awpD [] hΓ hmix (by kernel_rfl) ?_)
  by_cases hlq : a < q
  rotate_left
  · have hlq' : ¬ (a : Int) < (q : Int) := by omega
    have haa : a = q := by omega
    rw [haa] at B'
    simp -implicitDefEqProofs only [hlq', go_sem]
    refine AWp.seq (AWp.of_awpD [] hΓ hmix (by kernel_rfl) ?_)
    simp -implicitDefEqProofs only [hlq', seH, List.cons_append, List.nil_append, go_sem]
    exact ⟨by simp only [InR]; omega, (Q', i + 1), by simp, ⟨B'.next, hi', hQn', hQw'⟩, by show 300 - (i + 1) < 300 - i; omega⟩
  have hlq' : (a : Int) < (q : Int) := by omega
  have ha16 : a < 16 := by omega
  have ha16' : (a : Int) < 16 := by omega
  simp -implicitDefEqProofs only [hlq', go_sem]
  refine AWp.seq (AWp.of_awpD [] hΓ hmix (by kernel_rfl) ?_)
  simp -implicitDefEqProofs only [hlq', seH, List.cons_append, List.nil_append, go_sem]
  have e88 := c88 q ws (stN ws q u) (Kn.ltr a) (by have := (hS u (by omega)).1; omega) (by omega)
  unfold codeV at e88
  have hL : ([48, 49, 50, 51, 52, 53, 54, 55, 56, 57, 97, 98, 99, 100, 101, 102] : List UInt8).getD a 0 = Kn.ltr a := rfl
  rw [← stN_succ hq0 u a hlq] at e88
  have hT : List.take (((a : Int) + 1).toNat - a) (List.drop a ([48, 49, 50, 51, 52, 53, 54, 55, 56, 57, 97, 98, 99, 100, 101, 102] : List UInt8)) = [Kn.ltr a] := by
    rw [show ((a : Int) + 1).toNat = a + 1 by omega, Nat.add_sub_cancel_left]
    exact (by decide : ∀ a : Fin 16, List.take 1 (List.drop a.val ([48, 49, 50, 51, 52, 53, 54, 55, 56, 57, 97, 98, 99, 100, 101, 102] : List UInt8)) = [Kn.ltr a.val]) ⟨a, ha16⟩
  obtain ⟨v, hv'⟩ : ∃ v, v = u * q + a + 1 := ⟨_, rfl⟩
  have hwv : wn q v = wn q u ++ [Kn.ltr a] := by rw [hv']; exact wn_succ hq0 u a hlq
  rw [← hv'] at e88
  have hvl : (wn q v).length = (wn q u).length + 1 := by rw [hwv]; simp
  have hIn : InR IntKind.i64 ((a : Int) + 1) := by simp only [InR]; omega
  have ha1 : (a : Int) ≤ (a : Int) + 1 := by omega
  have ha2 : (a : Int) + 1 ≤ 16 := by omega
  have hcl : (wn q u).length + 1 ≤ 9223372036854775807 := by omega
  refine AWp.seq (AWp.block ?_)
  refine AWp.seq (AWp.of_awpD [] hΓ hmix (by kernel_rfl) ?_)
  simp -implicitDefEqProofs only [go_sem]
  refine AWp.seqM (fun _ : Unit => ⟨mkF 80 [(1, .p (.int .i64 n)), (2, .ptr 0 0), (8, .own 2 Q'.length), (9, .map 1), (10, .p (.int .i64 i)), (11, .ptr 3 0), (13, .ptr 4 0), (39, .p (.int .i64 q)), (40, .p (.int .i64 a))], seH q ws Q' ++ [.box [.p (.sl ((stN ws q u).map .str)), .p (.str (wn q u))], .box [.p (.sl ((stN ws q v).map .str)), .p (.str (wn q v))]]⟩)
    (fun _ => True) (AWp.of_awpD [(11, 1000)] hΓ hmix (by kernel_rfl) ?_) ?_
  · simp -implicitDefEqProofs only [go_sem]
    refine AWp.planL (.q 0 (.q 1 (.q 2 (.q 3 (.q 4 (.q 6 (.q 7 (.q 8 (.q 9 (.q 10 (.q 11 (.q 12 (.e 5 (.s 6 (.s 7 (.s 8 (.s 9 (.s 10 (.s 11 (.s 12 (.q 13 (.e 14 (.s 0 (.s 1 (.s 2 (.s 3 (.s 4 (.s 6 (.s 7 (.s 8 (.s 9 (.s 10 (.s 11 (.s 12 (.s 13 (.e 15 .fin .nil)))))))))))))) .nil))))))))) (.e 14 (.s 0 (.s 1 (.s 2 (.s 3 (.s 4 (.s 6 (.s 7 (.s 8 (.s 9 (.s 10 (.s 11 (.s 12 (.e 5 (.s 6 (.s 7 (.s 8 (.s 9 (.s 10 (.s 11 (.s 12 (.q 13 (.e 15 .fin .nil))))))))) .nil))))))))))))) .nil)))))))))))))) hΓ hmix (by kernel_rfl) ?_
    simp -implicitDefEqProofs only [hL, ha16', Int.toNat_natCast, hT, go_sem]
    rw [← hwv]
    refine ⟨by omega, hIn, by omega, by omega, ?_, ?_⟩
    · refine callK_fn e88 (.still rfl) ?_
      simp -implicitDefEqProofs only [hT, hL, ha16', hwv, hIn, ha1, ha2, hcl, Int.toNat_natCast, seH, List.cons_append, List.nil_append, go_sem]
      exact ⟨by omega, by omega, by omega, by omega, by omega, (), trivial⟩
    · refine ⟨by omega, hIn, ⟨by omega, by omega⟩, hcl, ?_⟩
      refine callK_fn e88 (.still rfl) ?_
      simp -implicitDefEqProofs only [hT, hL, ha16', hwv, hIn, ha1, ha2, hcl, Int.toNat_natCast, seH, List.cons_append, List.nil_append, go_sem]
      exact ⟨by omega, by omega, (), trivial⟩
  intro _ _
  have ekv := c145 (stN ws q v) (by have := (hS v (by omega)).1; omega) (by have := (hS v (by omega)).2; omega)
  refine AWp.of_awpD [] hΓ hmix (by kernel_rfl) ?_
  by_cases hd : stN ws q v = []
  · have hr : r = some v := by
      cases hr : r with
      | none => exact absurd hd (hr2 hr v (fun h0 => by have := hul h0; omega))
      | some v' =>
        obtain ⟨h1, h3, _⟩ := hr1 v' hr
        have h4 : ¬ v < v' := fun h => h3 v h hd
        have h5 : ¬ v' < v := fun h => B'.least hq0 hstep hi' ha v' (by rw [hu']; omega) h1
        rw [show v' = v by omega]
    subst hr
    have h00 : (((0 : Nat) : Int) = 0) = True := eq_true rfl
    simp -implicitDefEqProofs only [seH, hd, List.cons_append, List.nil_append, List.map_nil, List.length_nil, seR, h00, go_sem]
  have hd0 : ¬ (stN ws q v).length = 0 := fun e => hd (List.length_eq_zero_iff.1 e)
  have hd1 : ¬ ((stN ws q v).length : Int) = 0 := by omega
  simp -implicitDefEqProofs only [seH, hd0, hd1, List.cons_append, List.nil_append, List.length_map, go_sem]
  refine callK_fn ekv (.pures rfl) ?_
  have halive := B'.alive
  by_cases hk : ∃ m ∈ Q', stN ws q m = stN ws q v
  · have hget : mget (keyS (stN ws q v)) (qmE (fun v => keyS (stN ws q v)) Q') = some (.bool true) := qm_hit (by
      obtain ⟨m, hm, e⟩ := hk
      exact ⟨m, hm, by rw [e]⟩)
    simp -implicitDefEqProofs only [hget, Option.getD_some, go_sem]
    refine AWp.of_awpD [] hΓ hmix (by kernel_rfl) ?_
    simp -implicitDefEqProofs only [go_sem]
    exact ⟨hIn, (Q', a + 1), ⟨⟨rfl, by simp⟩, rfl, rfl⟩, ⟨B'.skip hi' (by rw [hu', ← hv']; exact hk), ⟨hi', hu'⟩, hlq, hQn', hQw'⟩, by show q - (a + 1) < q - a; omega⟩
  have hk2 : ∀ m ∈ Q', keyS (stN ws q m) ≠ keyS (stN ws q v) := fun m hm e => hk ⟨m, hm, (key_st hv (halive m hm) hd).1 e⟩
  have hget : mget (keyS (stN ws q v)) (qmE (fun v => keyS (stN ws q v)) Q') = none := qm_miss hk2
  have hset : mset (keyS (stN ws q v)) (.bool true) (qmE (fun v => keyS (stN ws q v)) Q') = qmE (fun v => keyS (stN ws q v)) (Q' ++ [v]) := qm_set (kf := fun v => keyS (stN ws q v)) hk2
  have h4096 : ¬ (Q'.length : Int) = 4096 := by omega
  simp -implicitDefEqProofs only [hget, Option.getD_none, h4096, go_sem]
  refine callK_fn ekv (.pures rfl) ?_
  simp -implicitDefEqProofs only [hset, go_sem]
  refine ⟨⟨by simp [sizeOK, PV.cells], by omega⟩, ⟨by simp [sizeOK, PV.cells], by simp [oneOK, PV.cells, PV.isAgg]⟩, ⟨by simp, by omega, by omega⟩, ?_⟩
  refine AWp.of_awpD [] hΓ hmix (by kernel_rfl) ?_
  simp -implicitDefEqProofs only [go_sem]
  have hnew := B'.add hi' (by rw [hu', ← hv']; exact fun m hm e => hk ⟨m, hm, e⟩) (by rw [hu', ← hv']; exact hd)
  rw [hu', ← hv'] at hnew
  refine ⟨hIn, (Q' ++ [v], a + 1), ⟨⟨by simp, by simp⟩, rfl, by simp [nodN, nodV]⟩, ⟨hnew, ⟨by simp only [List.length_append]; omega, (List.getElem_append_left hi').trans hu'⟩, hlq, fun x hx h0 => ?_, fun x hx => ?_⟩, by show q - (a + 1) < q - a; omega⟩
  · rcases List.mem_append.1 hx with hx | hx
    · exact hQn' x hx h0
    · rw [List.mem_singleton.1 hx]
      have := hul h0
      omega
  · simp only [List.length_append, List.length_singleton]
    rcases List.mem_append.1 hx with hx | hx
    · have := hQw' x hx
      omega
    · rw [List.mem_singleton.1 hx]
      omega
end Go.Proofs.YtpljmccnfmkmfaaGreat
end

section
namespace Go.Proofs.YtpljmccnfmkmfaaGreat
open Go Go.AM Go.RowKit

theorem c84a (q : Nat) (ws : List (List UInt8)) (n : Int) (h : codeCheck q ws = 0) (hn : -1 ≤ n ∧ n ≤ 32) {r : Option Nat} (A : SeA q ws n r) (hF : FewS ws q) :
    PFn Tryz.prog 84 [codeV q ws, .int .i64 n] [.str (seR q r), .bool r.isSome, .int .i64 0] := c84 q ws n h hn r A.some A.none hF
theorem c32 (q : Nat) (ws : List (List UInt8)) (h : codeCheck q ws = 0) {r : Option Nat} (A : SeA q ws (-1) r) (hF : FewS ws q) :
    PFn Tryz.prog 32 [codeV q ws] [.bool (!r.isSome), .int .i64 0] := by
  have e80 := t45 q ws
  have e84 := c84a q ws (-1) h (by omega) A hF
  rw [h] at e80
  unfold codeV at e80 e84
  refine PFn.of_body hΓ Tryz.func32 (by kernel_rfl) rfl (AWp.seq (AWp.of_awpD [] hΓ hmix (by kernel_rfl) ?_))
  simp -implicitDefEqProofs only [Tryz.ntmps32, Tryz.results32, Nat.reduceAdd, Nat.reduceSub, codeV, go_sem]
  refine AWp.seq (AWp.of_awpD [] hΓ hmix (by kernel_rfl) ?_)
  simp -implicitDefEqProofs only [go_sem]
  refine callK_fn e80 (.still rfl) ?_
  simp -implicitDefEqProofs only [go_sem]
  refine AWp.seq (AWp.of_awpD [] hΓ hmix (by kernel_rfl) ?_)
  simp -implicitDefEqProofs only [go_sem]
  refine callK_fn e84 (.still rfl) ?_
  simp -implicitDefEqProofs only [go_sem]
  refine AWp.of_awpD [] hΓ hmix (by kernel_rfl) ?_
  simp -implicitDefEqProofs only [go_sem]
end Go.Proofs.YtpljmccnfmkmfaaGreat
end

section
namespace Go.Proofs.YtpljmccnfmkmfaaGreat
open Go Go.AM

def smB (k : Nat) : List UInt8 := if Nat.beq k 0 then [] else [UInt8.ofNat k]
theorem smB_mag {k : Nat} (h : k < 256) : smB k = magB k := by
  unfold smB
  by_cases h0 : k = 0
  · subst h0; rfl
  · rw [if_neg (by simpa using h0), magB_one k h0 h]
def knR : FuncId → List PV → Option AV := fun f args => match f, args with
  | 224, [.int .i64 (.ofNat k)] => if Nat.blt k 256 then some (.p (.str (smB k))) else none
  | _, _ => none
def axR : FuncId → List AV → Option AV := fun f args => match f with
  | 224 => (AV.purL [] args).bind (knR 224)
  | f => axT f args
theorem knR_ok : ∀ f p v, knR f p = some v → ∃ vs, PFn Tryz.prog f p vs ∧ v = packAV (vs.map .p) := by
  intro f p v h
  unfold knR at h
  split at h
  · rename_i k
    split at h
    · rename_i hb
      have hk : k < 256 := Eq.mp Nat.blt_eq hb
      injection h with h
      exact ⟨_, u224 k (by omega), by rw [← h, smB_mag hk]; rfl⟩
    · cases h
  · cases h
theorem axR_ok : ∀ f args v, axR f args = some v → AX Tryz.prog f args v ∨ ∀ h, AC Tryz.prog f args h [] (fun u h' => u = v ∧ h' = h) := by
  intro f args v h
  unfold axR at h
  split at h
  · obtain ⟨p, h1, h2⟩ := Option.bind_eq_some_iff.1 h
    obtain ⟨vs, h3, h4⟩ := knR_ok _ p v h2
    subst h4
    exact .inr fun h => AC.of_fn h3 (.inr h1)
  · exact .inl (axT_ok _ _ _ h)
theorem hER : ECOK ⟨Tryz.prog, Γ, axR⟩ := ⟨hΓ, hmix, names_ok (by kernel_rfl), axR_ok⟩
def ratOk (v : Option AV) (n d : Nat) : Bool := match v.bind AV.pvT with
  | some (.p (.agg [.bool false, .str a, .bool false, .str b])) => a == smB (n / Nat.gcd n d) && b == smB (d / Nat.gcd n d)
  | _ => false
theorem ratA1 : ratOk (runEP ⟨Tryz.prog, Γ, axR⟩ ptA 2000 57 [.p (.int .i64 1), .p (.int .i64 1)]) 1 1 = true := by kernel_rfl
theorem rat_of {n d : Nat} (hn : n < 256) (hd : d < 256) (h : ratOk (runEP ⟨Tryz.prog, Γ, axR⟩ ptA 2000 57 [.p (.int .i64 n), .p (.int .i64 d)]) n d = true) : PFn Tryz.prog 57 [.int .i64 n, .int .i64 d] [Kn.ratV n d] := by
  unfold ratOk at h
  split at h
  · rename_i a b hr
    obtain ⟨v, h1, h2⟩ := Option.bind_eq_some_iff.1 hr
    simp only [Bool.and_eq_true, beq_iff_eq] at h
    have e : Kn.ratV n d = .agg [.bool false, .str a, .bool false, .str b] := by
      have l1 : n / Nat.gcd n d ≤ n := Nat.div_le_self _ _
      have l2 : d / Nat.gcd n d ≤ d := Nat.div_le_self _ _
      rw [h.1, h.2, smB_mag (by omega), smB_mag (by omega)]; rfl
    rw [e]
    exact .of_acP ((runEP_ok hER h1).monoR fun u h' ⟨e1, e2⟩ => ⟨by rw [e1]; exact h2, e2⟩)
  · cases h
end Go.Proofs.YtpljmccnfmkmfaaGreat
end

