/-
  The law CodeComposes.
  integer.multiply and Mul; words backwards.
  The law CodeSums.
  slices.Compare of indices; the law CodeRounds.
  What a parameter that fits a shape is: codes, ambiguities, lists of words and numbers.
-/
import Derived.Test.YtgkbafkmbokkaaaJ44b8dad70b4a
import Derived.Test.YtgkbafkmbokkaaaJc4caba2dd028
import Derived.Test.YtgkbafkmbokkaaaJ783dab9d7bdb
import Derived.Test.YtgkbafkmbokkaaaJ5140b6250559
import Derived.Test.YtgkbafkmbokkaaaJ379b51e85341

section
namespace Go.Proofs.Ytgkbafkmbokkaaa
open Go Go.AM
set_option maxRecDepth 100000
set_option linter.unusedSimpArgs false

def longB (l : List (List UInt8)) : Bool := l.any fun x => decide (32 < x.length)

theorem weakH_two (a b : AObj) : ∀ D : List AObj, weakH (D ++ [a, b]) (D ++ [.dead, .dead])
  | [] => ⟨.inl rfl, .inl rfl, trivial⟩
  | _ :: D => ⟨.inr (.inl rfl), weakH_two a b D⟩
/-- The inner loop's frame and heap: word k's digits, j of them. -/
def lzF (EE : Int) (k : Nat) (b : Bool) (cs : List (List UInt8)) (w : List UInt8) (n j : Nat) : List AV := mkF 178 [(2, .ptr 0 0), (3, .ptr 1 0), (5, .ptr 2 0), (6, .p (.int .i64 EE)), (7, .own 3 k), (8, .p (.bool b)), (10, .p (.str w)), (11, .own (n + 1 + 1 + 1 + 1 + 1) j), (53, .p (.sl (cs.map .str))), (54, .p (.int .i64 cs.length)), (55, .p (.int .i64 k)), (60, .own (n + 1 + 1 + 1 + 1) w.length), (61, .p (.int .i64 w.length)), (62, .p (.int .i64 j))]
def lzH (p q xq : Int) (cs ds xw : List (List UInt8)) (WS : List PV) (D : List AObj) (w : List UInt8) (j : Nat) : List AObj := codeB p cs :: codeB q ds :: codeB xq xw :: .row 9 1 WS .lax :: (D ++ [AObj.row 5 1 (w.map u8V) .raw, .row 3 1 (((w.take j).map fun b => ixB b L16 0).map (.int .i64)) .lax])

set_option maxHeartbeats 4000000 in
theorem u9 (p q : Int) (cs ds : List (List UInt8)) (hcs : cs.length ≤ 9223372036854775807) (hds : ds.length ≤ 9223372036854775807) : PFn Try.prog 9 [codeV p cs, codeV q ds] [.bool true] := by
  refine PFn.of_body hΓ Try.func9 (by kernel_rfl) rfl (AWp.of_awpD [] hΓ hmix (by kernel_rfl) ?_)
  simp +contextual -implicitDefEqProofs only [codeV, Try.ntmps9, Try.results9, Nat.reduceAdd, Nat.reduceSub, go_sem]
  refine callK_fn (u28 p cs hcs) (.still rfl) ?_
  cases hf1 : fineB p cs
  · simp -implicitDefEqProofs only [go_sem]
    refine callK_fn awake_ok (.pures rfl) ?_
    simp -implicitDefEqProofs only [go_sem]
  simp -implicitDefEqProofs only [go_sem]
  refine callK_fn (u28 q ds hds) (.still rfl) ?_
  cases hf2 : fineB q ds
  · simp -implicitDefEqProofs only [go_sem]
    refine callK_fn awake_ok (.pures rfl) ?_
    simp -implicitDefEqProofs only [go_sem]
  simp only [fineB, Bool.and_eq_true, decide_eq_true_eq] at hf1 hf2
  have h1 := hf1.2
  have h2 := hf2.2
  have hv := valid_of h1
  have hd := valid_of h2
  have hcl := hv.len
  have hdl := hd.len
  have e26 := u26 p q cs ds
  by_cases h3 : (ds.length : Int) = p
  rotate_left
  · have ex : compQ p q cs ds = codeV 0 [] := by unfold compQ; rw [if_neg (fun e => h3 e.2.2.1)]
    have ee : compE p q cs ds = 11 := by unfold compE; rw [if_pos ⟨h1, h2⟩, if_neg h3]
    rw [ex, ee] at e26
    simp -implicitDefEqProofs only [go_sem]
    refine callK_fn e26 (.still rfl) ?_
    simp -implicitDefEqProofs only [codeV, List.length_map, h3, go_sem]
    refine callK_fn awake_ok (.pures rfl) ?_
    simp -implicitDefEqProofs only [go_sem]
  have hwd : ∀ x ∈ ds, x.length ≤ 32 := fun x hx => (hd.words x hx).2.1
  obtain ⟨xq, xw, EE, hx, hEE, hor⟩ : ∃ xq xw EE, compQ p q cs ds = codeV xq xw ∧ compE p q cs ds = EE ∧ (longB (compL cs ds) = false ∧ xq = q ∧ xw = made (compL cs ds) ∧ EE = 0 ∨ longB (compL cs ds) = true ∧ EE = 4) := by
    have hcw : ∀ x ∈ compL cs ds, x ≠ [] ∧ wordCheck q x = 0 := fun x hx => by
      obtain ⟨w, hw, rfl⟩ := List.mem_map.1 hx
      exact comp_word hv hd h3 hw
    have hcl2 : (compL cs ds).length = cs.length := by simp [compL]
    cases hLB : longB (compL cs ds)
    · have hc0 : codeCheck q (made (compL cs ds)) = 0 := by
        refine check_of hd.q2 hd.q16 (fun e => ?_) (by have := made_le (compL cs ds); omega) (fun x hx => ?_) (made_strict _)
        · have hp := hv.pos
          have : compW ds cs[0] ∈ made (compL cs ds) := mem_made.2 (List.mem_map.2 ⟨_, List.getElem_mem hp, rfl⟩)
          rw [e] at this; cases this
        · have hx := mem_made.1 hx
          refine ⟨(hcw x hx).1, ?_, (hcw x hx).2⟩
          unfold longB at hLB
          have := List.any_eq_false.1 hLB x hx
          simp at this; omega
      refine ⟨q, made (compL cs ds), 0, ?_, ?_, .inl ⟨rfl, rfl, rfl, rfl⟩⟩
      · unfold compQ; rw [if_pos ⟨h1, h2, h3, hc0⟩]
      · unfold compE; rw [if_pos ⟨h1, h2⟩, if_pos h3, hc0]
    · have hc4 : codeCheck q (made (compL cs ds)) = 4 := by
        refine long_check hd.q2 hd.q16 (by omega) hcw ?_
        unfold longB at hLB
        obtain ⟨x, hx1, hx2⟩ := List.any_eq_true.1 hLB
        exact ⟨x, hx1, of_decide_eq_true hx2⟩
      refine ⟨0, [], 4, ?_, ?_, .inr ⟨rfl, rfl⟩⟩
      · unfold compQ; rw [if_neg (fun e => by have := e.2.2.2; omega)]
      · unfold compE; rw [if_pos ⟨h1, h2⟩, if_pos h3, hc4]
  rw [hEE] at e26
  rw [hx] at e26
  simp -implicitDefEqProofs only [go_sem]
  refine callK_fn e26 (.still rfl) ?_
  simp -implicitDefEqProofs only [codeV, List.length_map, h3, go_sem]
  refine AWp.adopt (l := []) 7 9 1 (by rfl) (by simp) ?_
  simp -implicitDefEqProofs only [go_sem]
  refine AWp.loopI (fun k : Nat => ⟨mkF 178 [(2, .ptr 0 0), (3, .ptr 1 0), (5, .ptr 2 0), (6, .p (.int .i64 EE)), (7, .own 3 k), (8, .p (.bool (longB (compL (cs.take k) ds)))), (53, .p (.sl (cs.map .str))), (54, .p (.int .i64 cs.length)), (55, .p (.int .i64 k))], codeB p cs :: codeB q ds :: codeB xq xw :: .row 9 1 ((compL (cs.take k) ds).map .str) .lax :: List.replicate (2 * k) .dead⟩)
    (fun k => k ≤ cs.length) (fun k => cs.length - k) 0 (by simp [go_sem, codeB, compL, longB]) (by omega) ?_
  intro k hk
  obtain ⟨D, hD⟩ : ∃ D : List AObj, D = List.replicate (2 * k) .dead := ⟨_, rfl⟩
  have hDk : ∀ n, D.map (AObj.kill n) = D := fun n => by rw [hD]; simp [AObj.kill]
  have g0 : ∀ a : AObj, (D ++ [a])[D.length]? = some a := fun a => by simp
  have gA : ∀ a b : AObj, (D ++ [a, b])[D.length]? = some a := fun a b => by simp
  have gB : ∀ a b : AObj, (D ++ [a, b])[D.length + 1]? = some b := fun a b => by simp
  have sB : ∀ a b b' : AObj, (D ++ [a, b]).set (D.length + 1) b' = D ++ [a, b'] := fun a b b' => by simp
  by_cases hlt : k < cs.length
  · rw [← hD]
    have hkl : cs[k].length ≤ 32 := by
      have := hv.short k hlt
      rwa [List.getD_eq_getElem?_getD, List.getElem?_eq_getElem hlt, Option.getD_some] at this
    simp -implicitDefEqProofs only [codeB, go_sem]
    refine AWp.seq (AWp.of_awpD [] hΓ hmix (by kernel_rfl) ?_)
    simp -implicitDefEqProofs only [hlt, getD_map_lt, ↓reduceIte, go_sem]
    refine AWp.seq (AWp.of_awpD [] hΓ hmix (by kernel_rfl) ?_)
    simp -implicitDefEqProofs only [hlt, getD_map_lt, ↓reduceIte, go_sem]
    refine AWp.seq (AWp.block (AWp.seq (AWp.of_awpD [] hΓ hmix (by kernel_rfl) ?_)))
    simp -implicitDefEqProofs only [hlt, getD_map_lt, ↓reduceIte, go_sem]
    refine AWp.seq (AWp.of_awpD [] hΓ hmix (by kernel_rfl) ?_)
    simp -implicitDefEqProofs only [go_sem]
    refine AWp.seq (AWp.seq (AWp.of_awpD [] hΓ hmix (by kernel_rfl) ?_))
    simp -implicitDefEqProofs only [go_sem]
    refine ⟨by omega, ?_⟩
    refine AWp.adopt (l := []) 11 3 1 (by rfl) (by simp) ?_
    simp -implicitDefEqProofs only [go_sem]
    refine AWp.block ?_
    refine AWp.mono (Q := fun e st => e = .exit 2 ∧ Weak st ⟨lzF EE k (longB (compL (cs.take k) ds)) cs cs[k] D.length cs[k].length, lzH p q xq cs ds xw ((compL (cs.take k) ds).map .str) D cs[k] cs[k].length⟩) ?_ ?_
    · refine AWp.loopI (fun j : Nat => ⟨lzF EE k (longB (compL (cs.take k) ds)) cs cs[k] D.length j, lzH p q xq cs ds xw ((compL (cs.take k) ds).map .str) D cs[k] j⟩)
        (fun j => j ≤ cs[k].length) (fun j => cs[k].length - j) 0 (by
          simp [go_sem, lzF, lzH, codeB, weakH_self]) (by omega) ?_
      intro j hj
      simp -implicitDefEqProofs only [lzF, lzH, codeB, go_sem]
      refine AWp.of_awpD [] hΓ hmix (by kernel_rfl) ?_
      by_cases hlt2 : j < cs[k].length
      · have hu : (cs[k].map u8V).getD j default = .int .u8 cs[k][j].toNat := by rw [getD_map_lt _ _ _ _ hlt2]; rfl
        have e101 := t101 L16 cs[k][j].toNat
        have eb : ((cs[k][j].toNat : Nat) : Int).toNat.toUInt8 = cs[k][j] := by simp
        rw [eb] at e101
        simp -implicitDefEqProofs only [lzF, lzH, hlt, hlt2, hu, gA, gB, ↓reduceIte, codeB, go_sem]
        refine callK_fn e101 (.pures rfl) ?_
        simp -implicitDefEqProofs only [gA, gB, sB, hDk, List.map_append, go_sem]
        have hne : ¬ D.length = D.length + 1 := by omega
        have hs1 : ∀ x : Int, sizeOK [PV.int .i64 x] 1 := fun x => by simp [sizeOK, PV.cells]
        have ho1 : ∀ x : Int, oneOK [PV.int .i64 x] := fun x => by simp [oneOK, PV.cells, PV.isAgg]
        have hints : (((cs[k].take (j + 1)).map fun b => ixB b L16 0).map (PV.int .i64)) = (((cs[k].take j).map fun b => ixB b L16 0).map (PV.int .i64)) ++ [PV.int .i64 (ixB cs[k][j] L16 0)] := by
          rw [List.take_succ_eq_append_getElem hlt2, List.map_append, List.map_append]; rfl
        have e3 : ∀ a b : AObj, D ++ [a, b] = (D ++ [a]) ++ [b] := fun a b => by simp
        refine ⟨⟨hs1 _, by omega⟩, ⟨hs1 _, ho1 _⟩, ⟨.inl (by omega), by omega, by omega⟩, by simp only [InR]; omega, j + 1, ⟨⟨rfl, by rw [if_neg hne], by omega⟩, ?_⟩, hlt2, by omega⟩
        rw [hints, e3, e3]
        refine weakH_snoc ?_ _
        exact .inr (.inr rfl)
      · have hj' : j = cs[k].length := by omega
        have hz : ¬ (cs[k].length : Int) < cs[k].length := by omega
        rw [hj']
        simp -implicitDefEqProofs only [hz, lzF, lzH, codeB, go_sem]
        exact weakH_self _
    rintro e st ⟨rfl, hw⟩
    show AWp _ _ _ _ _
    refine AWp.weak hw ?_
    clear hw
    have hwk := List.getElem_mem hlt
    have hlet := letOK_of (hv.words _ hwk).2.2
    have hcw := compW_len hwd cs[k]
    have e37 := u37 q ds (cs[k].map fun b => ixB b L16 0) (by simp; omega)
    have ee : encE q ds (cs[k].map fun b => ixB b L16 0) = 0 := by
      unfold encE; rw [if_pos h2, if_pos (encIn_comp h3 hlet), encL_comp, if_neg (by omega)]
    have es : encS q ds (cs[k].map fun b => ixB b L16 0) = compW ds cs[k] := by
      unfold encS; rw [if_pos ee, encL_comp]
    rw [ee, es] at e37
    have hs : compL (cs.take (k + 1)) ds = compL (cs.take k) ds ++ [compW ds cs[k]] := by
      unfold compL; rw [List.take_succ_eq_append_getElem hlt, List.map_append]; rfl
    have hlong : longB (compL (cs.take (k + 1)) ds) = (longB (compL (cs.take k) ds) || decide (32 < (compW ds cs[k]).length)) := by
      rw [hs]; unfold longB; rw [List.any_append]; simp
    have hkl3 : (compL (cs.take k) ds).length = k := by unfold compL; simp; omega
    simp -implicitDefEqProofs only [lzF, lzH, codeB, List.take_length, go_sem]
    refine AWp.of_awpD [] hΓ hmix (by kernel_rfl) ?_
    simp -implicitDefEqProofs only [go_sem]
    refine callK_fn e37 (.inr (.inr ⟨?_, rfl⟩)) ?_
    · simp [AV.purL, AV.pur, AV.pur1, AV.purL1, gB, codeV]
    cases hLB : longB (compL (cs.take k) ds)
    · rw [hLB, Bool.false_or] at hlong
      simp -implicitDefEqProofs only [codeB, hDk, gB, gA, List.map_append, hLB, go_sem]
      refine ⟨⟨size_str [_], by omega⟩, ⟨size_str [_], one_str [_]⟩, ⟨.inl (by omega), by omega, by omega⟩, ?_⟩
      refine AWp.of_awpD [] hΓ hmix (by kernel_rfl) ?_
      simp -implicitDefEqProofs only [codeB, go_sem]
      refine ⟨by simp only [InR]; omega, k + 1, ⟨⟨rfl, by rw [hlong]; exact decide_eq_decide.2 (by omega), by omega⟩, .inr (by rw [hs, List.map_append]; rfl), ?_⟩, hlt, by omega⟩
      rw [show 2 * (k + 1) = 2 * k + 1 + 1 by omega, List.replicate_succ', List.replicate_succ', ← hD, List.append_assoc]
      exact weakH_two _ _ D
    · rw [hLB, Bool.true_or] at hlong
      simp -implicitDefEqProofs only [codeB, hDk, gB, gA, List.map_append, hLB, go_sem]
      refine ⟨⟨size_str [_], by omega⟩, ⟨size_str [_], one_str [_]⟩, ⟨.inl (by omega), by omega, by omega⟩, ?_⟩
      refine AWp.of_awpD [] hΓ hmix (by kernel_rfl) ?_
      simp -implicitDefEqProofs only [codeB, go_sem]
      refine ⟨by simp only [InR]; omega, k + 1, ⟨⟨rfl, hlong, by omega⟩, .inr (by rw [hs, List.map_append]; rfl), ?_⟩, hlt, by omega⟩
      rw [show 2 * (k + 1) = 2 * k + 1 + 1 by omega, List.replicate_succ', List.replicate_succ', ← hD, List.append_assoc]
      exact weakH_two _ _ D
  · have hkn : k = cs.length := by omega
    rw [hkn, List.take_of_length_le (Nat.le_refl _)]
    have hz : ¬ (cs.length : Int) < cs.length := by omega
    simp -implicitDefEqProofs only [codeB, go_sem]
    refine AWp.freeze 3 rfl ?_
    refine AWp.of_awpD [] hΓ hmix (by kernel_rfl) ?_
    have hth : ∀ l, (List.replicate (2 * cs.length) AObj.dead).map (AObj.thaw 3 l) = List.replicate (2 * cs.length) AObj.dead := fun l => by simp [AObj.thaw]
    rcases hor with ⟨hLB, hxq, hxw, hE0⟩ | ⟨hLB, hE4⟩
    rotate_left
    · rw [hLB, hE4]
      simp -implicitDefEqProofs only [hz, Frozen, go_sem]
      refine callK_fn awake_ok (.pures rfl) ?_
      simp -implicitDefEqProofs only [go_sem]
    rw [hLB, hxq, hxw, hE0]
    have hvm : codeCheck q (made (compL cs ds)) = 0 := by
      have hh := hEE
      unfold compE at hh
      rw [if_pos ⟨h1, h2⟩, if_pos h3, hE0] at hh
      exact hh
    have hml := (valid_of hvm).len
    have e45 := t45 q (made (compL cs ds))
    rw [hvm] at e45
    have hll : (compL cs ds).length = cs.length := by simp [compL]
    generalize hM : made (compL cs ds) = M at *
    generalize hLL : compL cs ds = LL at *
    simp -implicitDefEqProofs only [hz, Frozen, hth, go_sem]
    refine callK_fn e45 (.still rfl) ?_
    simp -implicitDefEqProofs only [go_sem]
    refine AWp.loopI (fun i : Nat => ⟨mkF 178 [(2, .ptr 0 0), (3, .ptr 1 0), (5, .ptr 2 0), (7, .p (.sl (LL.map .str))), (111, .p (.sl (LL.map .str))), (112, .p (.int .i64 LL.length)), (113, .p (.int .i64 i))], codeB p cs :: codeB q ds :: codeB q M :: .dead :: List.replicate (2 * cs.length) .dead⟩)
      (fun i => i ≤ LL.length) (fun i => LL.length - i) 0 (by simp [go_sem, codeB, weakH_self]) (by omega) ?_
    intro i hi
    simp -implicitDefEqProofs only [codeB, go_sem]
    refine AWp.of_awpD [] hΓ hmix (by kernel_rfl) ?_
    by_cases hi2 : i < LL.length
    · have hmem : decide (LL[i] ∈ M) = true := decide_eq_true (by rw [← hM]; exact mem_made.2 (List.getElem_mem hi2))
      have e44 := t16 M LL[i] (by omega)
      rw [hmem] at e44
      simp -implicitDefEqProofs only [hi2, getD_map_lt, ↓reduceIte, go_sem]
      refine callK_fn e44 (.pures rfl) ?_
      simp -implicitDefEqProofs only [hi2, getD_map_lt, ↓reduceIte, go_sem]
      exact ⟨by simp only [InR]; omega, i + 1, ⟨by omega, .inr rfl, .inr rfl, .inr rfl, weakH_self _⟩, hi2, by omega⟩
    · have hi3 : i = LL.length := by omega
      have hz2 : ¬ (LL.length : Int) < LL.length := by omega
      rw [hi3]
      simp -implicitDefEqProofs only [hz2, List.length_map, go_sem]
      refine AWp.loopI (fun i : Nat => ⟨mkF 178 [(2, .ptr 0 0), (3, .ptr 1 0), (5, .ptr 2 0), (7, .p (.sl (LL.map .str))), (124, .p (.sl (M.map .str))), (125, .p (.int .i64 M.length)), (126, .p (.int .i64 i))], codeB p cs :: codeB q ds :: codeB q M :: .dead :: List.replicate (2 * cs.length) .dead⟩)
        (fun i => i ≤ M.length) (fun i => M.length - i) 0 (by simp [go_sem, codeB, weakH_self]) (by omega) ?_
      intro m hm
      simp -implicitDefEqProofs only [codeB, go_sem]
      refine AWp.of_awpD [] hΓ hmix (by kernel_rfl) ?_
      by_cases hm2 : m < M.length
      · have hmem : decide (M[m] ∈ LL) = true := decide_eq_true (by
          refine mem_made.1 ?_
          rw [hM]
          exact List.getElem_mem hm2)
        have e44 := t16 LL M[m] (by omega)
        rw [hmem] at e44
        simp -implicitDefEqProofs only [hm2, getD_map_lt, ↓reduceIte, go_sem]
        refine callK_fn e44 (.pures rfl) ?_
        simp -implicitDefEqProofs only [hm2, getD_map_lt, ↓reduceIte, go_sem]
        exact ⟨by simp only [InR]; omega, m + 1, ⟨by omega, .inr rfl, .inr rfl, .inr rfl, weakH_self _⟩, hm2, by omega⟩
      · have hm3 : m = M.length := by omega
        have hz3 : ¬ (M.length : Int) < M.length := by omega
        rw [hm3]
        have e1 := t38 p cs
        have e2 := t38 q ds
        have e3 := t38 q M
        rw [if_pos h1, if_pos h1] at e1
        rw [if_pos h2, if_pos h2] at e2
        rw [if_pos hvm, if_pos hvm] at e3
        simp -implicitDefEqProofs only [hz3, go_sem]
        refine callK_fn e1 (.still rfl) ?_
        simp -implicitDefEqProofs only [go_sem]
        refine callK_fn e2 (.still rfl) ?_
        simp -implicitDefEqProofs only [go_sem]
        refine callK_fn e3 (.still rfl) ?_
        cases hP : aloneB (fun w x => x.isPrefixOf w) cs
        · simp -implicitDefEqProofs only [ite_self, go_sem]
          refine callK_fn awake_ok (.pures rfl) ?_
          simp -implicitDefEqProofs only [go_sem]
        · cases hQ : aloneB (fun w x => x.isPrefixOf w) ds
          · simp -implicitDefEqProofs only [ite_self, go_sem]
            refine callK_fn awake_ok (.pures rfl) ?_
            simp -implicitDefEqProofs only [go_sem]
          · have hca := comp_alone hv hd h3 hP hQ
            rw [hLL, hM] at hca
            have hlq : (M.length : Int) = cs.length := by omega
            rw [hca.1]
            simp -implicitDefEqProofs only [ite_self, List.length_map, hlq, go_sem]
            refine callK_fn awake_ok (.pures rfl) ?_
            simp -implicitDefEqProofs only [go_sem]
end Go.Proofs.Ytgkbafkmbokkaaa
end

section
namespace Go.Proofs.Ytgkbafkmbokkaaa
open Go Go.AM
set_option maxRecDepth 100000
set_option linter.unusedSimpArgs false

theorem u35 (w : List UInt8) (hw : w.length ≤ 1000000) : PFn Try.prog 35 [.str w] [.str w.reverse] := by
  refine PFn.of_body hΓ Try.func35 (by kernel_rfl) rfl (AWp.of_awpD [] hΓ hmix (by kernel_rfl) ?_)
  simp +contextual -implicitDefEqProofs only [Try.ntmps35, Try.results35, Nat.reduceAdd, Nat.reduceSub, go_sem]
  refine ⟨by omega, ?_⟩
  refine callK_ac (c93 w rfl hw) (by simp) ?_
  rintro v h' ⟨rfl, rfl⟩
  simp -implicitDefEqProofs only [killAll, List.foldl, go_sem]
  exact ⟨⟨_, rfl, rfl⟩, w.reverse, rfl, rfl⟩

/-- The row at a step: what lies ahead of i, the new digits, the old ones behind them, zeros. -/
def mulR (o : List Nat) (i : Nat) (r : List Nat) (z : Nat) : List Nat := o.take i ++ r ++ o.drop (i + r.length) ++ List.replicate z 0
theorem mulR_get {o : List Nat} {i : Nat} {r : List Nat} {z : Nat} (h : i + r.length < o.length) : ((mulR o i r z).map u32V).getD (i + r.length) default = .int .u32 ((o.getD (i + r.length) 0 : Nat) : Int) := by
  have hl : (o.take i ++ r).length = i + r.length := by simp; omega
  unfold mulR
  rw [List.getD_eq_getElem?_getD, List.getElem?_map, List.append_assoc, List.getElem?_append_right (by omega), hl, Nat.sub_self, List.drop_eq_getElem_cons h, List.getD_eq_getElem?_getD, List.getElem?_eq_getElem h]; rfl
theorem mulR_set {o : List Nat} {i : Nat} {r : List Nat} {z v : Nat} (h : i + r.length < o.length) : ((mulR o i r z).map u32V).set (i + r.length) (u32V v) = (mulR o i (r ++ [v]) z).map u32V := by
  have hl : (o.take i ++ r).length = i + r.length := by simp; omega
  unfold mulR
  rw [← List.map_set, List.append_assoc (o.take i ++ r), List.set_append_right _ _ (by omega), hl, Nat.sub_self, List.drop_eq_getElem_cons h]
  simp [Nat.add_assoc]
theorem mulR_end {o : List Nat} {i : Nat} {r : List Nat} {z v : Nat} (h : i + r.length = o.length) : ((mulR o i r (z + 1)).map u32V).set (i + r.length) (u32V v) = ((o.take i ++ r ++ [v]) ++ List.replicate z 0).map u32V := by
  have hl : (o.take i ++ r).length = i + r.length := by simp; omega
  unfold mulR
  rw [h, List.drop_length, List.append_nil, ← List.map_set, ← h, List.set_append_right _ _ (by omega), hl, Nat.sub_self, List.replicate_succ]
  simp
theorem mulR_nil {o : List Nat} {i z : Nat} : mulR o i [] z = o ++ List.replicate z 0 := by unfold mulR; simp
theorem mulR_len {o : List Nat} {i : Nat} {r : List Nat} {z : Nat} (h : i + r.length ≤ o.length) : (mulR o i r z).length = o.length + z := by unfold mulR; simp; omega

theorem mul_bound {a b : Nat} (ha : a < B32) (hb : b < B32) : a * b ≤ 4294967295 * 4294967295 := Nat.mul_le_mul (by unfold B32 at ha; omega) (by unfold B32 at hb; omega)

set_option maxHeartbeats 1000000 in
theorem u68 (x y : List Nat) (hx : ∀ d ∈ x, d < B32) (hy : ∀ d ∈ y, d < B32) (hxl : x.length ≤ 500000) (hyl : y.length ≤ 500000) : PFn Try.prog 68 [natV x, natV y] [natV (digD B32 (valD B32 x * valD B32 y))] := by
  by_cases hx0 : x = []
  · have h1 : (x.length : Int) = 0 := by rw [hx0]; rfl
    rw [show valD B32 x * valD B32 y = 0 by rw [hx0]; exact Nat.zero_mul _, digD_zero]
    refine PFn.of_body hΓ Try.func68 (by kernel_rfl) rfl (AWp.of_awpD [] hΓ hmix (by kernel_rfl) ?_)
    simp -implicitDefEqProofs only [Try.ntmps68, Try.results68, Nat.reduceAdd, Nat.reduceSub, natV, List.length_map, h1, go_sem]
    try rfl
  by_cases hy0 : y = []
  · have h1 : ¬ (x.length : Int) = 0 := fun h => hx0 (List.length_eq_zero_iff.1 (by omega))
    have h2 : (y.length : Int) = 0 := by rw [hy0]; rfl
    rw [show valD B32 x * valD B32 y = 0 by rw [hy0]; exact Nat.mul_zero _, digD_zero]
    refine PFn.of_body hΓ Try.func68 (by kernel_rfl) rfl (AWp.of_awpD [] hΓ hmix (by kernel_rfl) ?_)
    simp -implicitDefEqProofs only [Try.ntmps68, Try.results68, Nat.reduceAdd, Nat.reduceSub, natV, List.length_map, h1, h2, go_sem]
    try rfl
  have hxp : 0 < x.length := List.length_pos_iff.2 hx0
  have hyp : 0 < y.length := List.length_pos_iff.2 hy0
  have h1 : ¬ (x.length : Int) = 0 := by omega
  have h2 : ¬ (y.length : Int) = 0 := by omega
  have eL : ((x.length : Int) + (y.length : Int)).toNat = x.length + y.length := by omega
  refine PFn.of_body hΓ Try.func68 (by kernel_rfl) rfl (AWp.seq (AWp.of_awpD [] hΓ hmix (by kernel_rfl) ?_))
  simp -implicitDefEqProofs only [Try.ntmps68, Try.results68, Nat.reduceAdd, Nat.reduceSub, natV, go_sem]
  refine AWp.seq (AWp.of_awpD [] hΓ hmix (by kernel_rfl) ?_)
  simp -implicitDefEqProofs only [List.length_map, h1, h2, go_sem]
  refine AWp.seq (AWp.of_awpD [] hΓ hmix (by kernel_rfl) ?_)
  simp -implicitDefEqProofs only [List.length_map, eL, go_sem]
  refine ⟨by simp only [InR]; omega, ⟨by omega, by omega, by omega⟩, ?_⟩
  refine AWp.seq (AWp.of_awpD [] hΓ hmix (by kernel_rfl) ?_)
  simp -implicitDefEqProofs only [List.length_map, go_sem]
  refine AWp.loopI (fun z : Nat × List Nat => ⟨mkF 76 [(0, .p (natV x)), (1, .p (natV y)), (5, .own 0 (x.length + y.length)), (26, .p (natV x)), (27, .p (.int .i64 x.length)), (28, .p (.int .i64 z.1))], [.row 81 1 ((z.2 ++ List.replicate (x.length - z.1) 0).map u32V) .own]⟩)
    (fun z => z.1 ≤ x.length ∧ z.2.length = z.1 + y.length ∧ (∀ d ∈ z.2, d < B32) ∧ valD B32 z.2 = valD B32 (x.take z.1) * valD B32 y) (fun z => x.length - z.1) (0, List.replicate y.length 0) (by
      simp [go_sem, natV, u32V, List.replicate_append_replicate, Nat.add_comm]) ⟨by simp, by simp, fun d hd => by rw [List.eq_of_mem_replicate hd]; decide, by simp [valD, valD_zeros]⟩ ?_
  rintro ⟨i, o⟩ ⟨hi, ho, hod, hval⟩
  simp only at hi ho hod hval
  refine AWp.of_awpD [] hΓ hmix (by kernel_rfl) ?_
  by_cases hlt : i < x.length
  · have hgx : (x.map u32V).getD i default = .int .u32 ((x.getD i 0 : Nat) : Int) := by
      rw [getD_map_lt _ _ _ _ hlt, List.getD_eq_getElem?_getD, List.getElem?_eq_getElem hlt]; rfl
    have dx : x.getD i 0 < B32 := by
      rw [List.getD_eq_getElem?_getD, List.getElem?_eq_getElem hlt, Option.getD_some]; exact hx _ (List.getElem_mem hlt)
    have tx := valD_take (l := x) B32 i
    generalize x.getD i 0 = a at *
    have hwa : IntKind.u64.wrap (a : Int) = a := InR.wrap (k := .u64) (by simp only [InR]; unfold B32 at dx; omega)
    simp -implicitDefEqProofs only [natV, List.length_map, hlt, hgx, go_sem]
    refine AWp.loopI (fun z : List Nat × Nat => ⟨mkF 76 [(0, .p (natV x)), (1, .p (natV y)), (5, .own 0 (x.length + y.length)), (6, .p (.int .i64 i)), (7, .p (.int .u32 a)), (8, .p (.int .u64 z.2)), (26, .p (natV x)), (27, .p (.int .i64 x.length)), (28, .p (.int .i64 i)), (33, .p (natV y)), (34, .p (.int .i64 y.length)), (35, .p (.int .i64 z.1.length))], [.row 81 1 ((mulR o i z.1 (x.length - i)).map u32V) .own]⟩)
      (fun z => z.1.length ≤ y.length ∧ (∀ d ∈ z.1, d < B32) ∧ z.2 < B32 ∧ valD B32 z.1 + z.2 * B32 ^ z.1.length = valD B32 ((o.drop i).take z.1.length) + a * valD B32 (y.take z.1.length)) (fun z => y.length - z.1.length) ([], 0) (by
        simp [go_sem, natV, mulR_nil]) ⟨by simp, by simp, by decide, by simp [valD]⟩ ?_
    rintro ⟨r, c⟩ ⟨hr, hrd, hc, hv⟩
    simp only at hr hrd hc hv
    refine AWp.of_awpD [] hΓ hmix (by kernel_rfl) ?_
    by_cases hlt2 : r.length < y.length
    · have hgy : (y.map u32V).getD r.length default = .int .u32 ((y.getD r.length 0 : Nat) : Int) := by
        rw [getD_map_lt _ _ _ _ hlt2, List.getD_eq_getElem?_getD, List.getElem?_eq_getElem hlt2]; rfl
      have dy : y.getD r.length 0 < B32 := by
        rw [List.getD_eq_getElem?_getD, List.getElem?_eq_getElem hlt2, Option.getD_some]; exact hy _ (List.getElem_mem hlt2)
      have hio : i + r.length < o.length := by omega
      have ty := valD_take (l := y) B32 r.length
      have to := valD_take (l := o.drop i) B32 r.length
      have hgo2 : (o.drop i).getD r.length 0 = o.getD (i + r.length) 0 := by
        rw [List.getD_eq_getElem?_getD, List.getElem?_drop, List.getD_eq_getElem?_getD]
      have hgo := mulR_get (z := x.length - i) hio
      have dO : o.getD (i + r.length) 0 < B32 := by
        rw [List.getD_eq_getElem?_getD, List.getElem?_eq_getElem hio, Option.getD_some]; exact hod _ (List.getElem_mem hio)
      rw [hgo2] at to
      generalize y.getD r.length 0 = b at *
      generalize hqv : o.getD (i + r.length) 0 = qv at *
      have hab := mul_bound dx dy
      obtain ⟨ab, habE⟩ : ∃ ab, ab = a * b := ⟨_, rfl⟩
      rw [← habE] at hab
      have habI : (a : Int) * (b : Int) = (ab : Int) := by rw [habE]; simp
      have hwb : IntKind.u64.wrap (b : Int) = b := InR.wrap (k := .u64) (by simp only [InR]; unfold B32 at dy; omega)
      have hwq : IntKind.u64.wrap (qv : Int) = qv := InR.wrap (k := .u64) (by simp only [InR]; unfold B32 at dO; omega)
      obtain ⟨s, hs⟩ : ∃ s, s = ab + qv + c := ⟨_, rfl⟩
      have hsI : (ab : Int) + (qv : Int) + (c : Int) = (s : Int) := by omega
      have hs32 : IntKind.u32.wrap (s : Int) = ((s % B32 : Nat) : Int) := wrap_u32 s
      have hsd : (s : Int) / 2 ^ Int.toNat 32 = ((s / B32 : Nat) : Int) := by
        have : (2 : Int) ^ Int.toNat 32 = ((B32 : Nat) : Int) := rfl
        rw [this, Int.natCast_ediv]
      have hsb : s < 4294967296 * 4294967296 := by unfold B32 at dO hc; omega
      have hset := mulR_set (z := x.length - i) (v := s % B32) hio
      have hlen := mulR_len (z := x.length - i) (Nat.le_of_lt hio)
      have eik : ((i : Int) + (r.length : Int)).toNat = i + r.length := by omega
      simp -implicitDefEqProofs only [natV, List.length_map, hlt2, hgy, hwa, hwb, habI, eik, hgo, hwq, hsI, hs32, hsd, hset, go_sem]
      have hrl : (r ++ [s % B32]).length = r.length + 1 := by simp
      have hvv : valD B32 (r ++ [s % B32]) + s / B32 * B32 ^ (r.length + 1) = valD B32 ((o.drop i).take (r.length + 1)) + a * valD B32 (y.take (r.length + 1)) := by
        rw [to, ty, valD_append, Nat.pow_succ]
        have e1 : valD B32 [s % B32] = s % B32 := by simp [valD]
        rw [e1]
        have e2 : s % B32 + B32 * (s / B32) = s := Nat.mod_add_div s B32
        generalize hP : B32 ^ r.length = P at *
        have e3 : P * (s % B32) + s / B32 * (P * B32) = P * s := by
          conv => rhs; rw [← e2, Nat.mul_add]
          rw [Nat.mul_comm (s / B32), Nat.mul_assoc]
        have e4 : P * s = ab * P + qv * P + c * P := by rw [hs, Nat.mul_comm, Nat.add_mul, Nat.add_mul]
        have e5 : a * (valD B32 (y.take r.length) + b * P) = a * valD B32 (y.take r.length) + ab * P := by rw [Nat.mul_add, habE, Nat.mul_assoc]
        omega
      have hset' : ((mulR o i r (x.length - i)).map u32V).set (i + r.length) (.int .u32 ((s % B32 : Nat) : Int)) = (mulR o i (r ++ [s % B32]) (x.length - i)).map u32V := hset
      have hcb : s / B32 < B32 := by unfold B32; omega
      refine ⟨by simp only [InR]; omega, by simp only [InR]; omega, ⟨by omega, by omega⟩, by omega, by simp only [InR]; unfold B32 at dO; omega, by simp only [InR]; omega, by simp only [InR]; omega, ⟨by omega, by omega⟩, ⟨by omega, by omega⟩, ⟨by omega, rfl⟩, by simp only [InR]; omega, (r ++ [s % B32], s / B32), ⟨⟨rfl, by simp⟩, .inl hset'.symm⟩, ⟨by simp only; omega, fun d hd => ?_, hcb, by simp only; rw [hrl]; exact hvv⟩, by simp only; omega⟩
      rcases List.mem_append.1 hd with hd | hd
      · exact hrd d hd
      · rw [List.mem_singleton] at hd; subst hd; exact Nat.mod_lt _ (by decide)
    · have hrn : r.length = y.length := by omega
      have hz : ¬ (y.length : Int) < y.length := by omega
      have hcw : IntKind.u32.wrap (c : Int) = (c : Int) := InR.wrap (k := .u32) (by unfold B32 at hc; simp only [InR]; omega)
      have hend := mulR_end (o := o) (i := i) (r := r) (z := x.length - (i + 1)) (v := c) (by omega)
      rw [show x.length - (i + 1) + 1 = x.length - i by omega, hrn] at hend
      have hend' : ((mulR o i r (x.length - i)).map u32V).set (i + y.length) (.int .u32 (c : Int)) = ((o.take i ++ r ++ [c]) ++ List.replicate (x.length - (i + 1)) 0).map u32V := hend
      have hlen := mulR_len (o := o) (i := i) (r := r) (z := x.length - i) (by omega)
      have eik : ((i : Int) + (y.length : Int)).toNat = i + y.length := by omega
      rw [hrn] at hv ⊢
      have hvt : (o.drop i).take y.length = o.drop i := List.take_of_length_le (by simp; omega)
      rw [hvt, List.take_of_length_le (Nat.le_refl _)] at hv
      have hvo := valD_split B32 i o
      have htl : (o.take i).length = i := by simp; omega
      rw [htl] at hvo
      have hvn : valD B32 (o.take i ++ r ++ [c]) = valD B32 (x.take (i + 1)) * valD B32 y := by
        rw [valD_append, valD_append, htl, tx]
        have e1 : valD B32 [c] = c := by simp [valD]
        have e2 : (o.take i ++ r).length = i + y.length := by simp [htl, hrn]
        rw [e1, e2, Nat.pow_add]
        generalize B32 ^ i = P at *
        generalize B32 ^ y.length = Q at *
        have e3 : P * (valD B32 r + c * Q) = P * (valD B32 (o.drop i) + a * valD B32 y) := by rw [hv]
        rw [Nat.mul_add, Nat.mul_add] at e3
        have e4 : P * Q * c = P * (c * Q) := by rw [Nat.mul_assoc, Nat.mul_comm Q]
        have e5 : (valD B32 (x.take i) + a * P) * valD B32 y = valD B32 (x.take i) * valD B32 y + P * (a * valD B32 y) := by
          rw [Nat.add_mul, Nat.mul_comm a P, Nat.mul_assoc]
        rw [e4, e5, ← hval]
        omega
      simp -implicitDefEqProofs only [natV, List.length_map, hz, hcw, eik, hend', go_sem]
      refine ⟨by simp only [InR]; omega, ⟨by omega, by omega⟩, ⟨by omega, rfl⟩, by simp only [InR]; omega, (i + 1, o.take i ++ r ++ [c]), ⟨rfl, .inl rfl⟩, ⟨hlt, by simp [htl, hrn]; omega, fun d hd => ?_, hvn⟩, by simp only; omega⟩
      rcases List.mem_append.1 hd with hd | hd
      · rcases List.mem_append.1 hd with hd | hd
        · exact hod d (List.mem_of_mem_take hd)
        · exact hrd d hd
      · rw [List.mem_singleton] at hd; subst hd; exact hc
  · simp -implicitDefEqProofs only [natV, List.length_map, hlt, go_sem]
    have hin : i = x.length := by omega
    have hrow : o ++ List.replicate (x.length - i) 0 = o := by rw [hin]; simp
    rw [hin, List.take_of_length_le (Nat.le_refl _)] at hval
    rw [hrow]
    refine AWp.freeze 0 rfl ?_
    refine AWp.of_awpD [] hΓ hmix (by kernel_rfl) ?_
    simp -implicitDefEqProofs only [Frozen, go_sem]
    have e91 := u91 o (by omega)
    rw [trimL_eq (B := B32) (by decide) hod, hval] at e91
    refine callK_fn e91 (.pures rfl) ?_
    simp -implicitDefEqProofs only [natV, go_sem]
end Go.Proofs.Ytgkbafkmbokkaaa
end

section
namespace Go.Proofs.Ytgkbafkmbokkaaa
open Go Go.AM
set_option maxRecDepth 100000
set_option linter.unusedSimpArgs false

theorem wordCheck_append {q : Int} {u v : List UInt8} (hl : u.length + v.length ≤ 65536) : wordCheck q (u ++ v) = 0 ↔ wordCheck q u = 0 ∧ wordCheck q v = 0 := by
  unfold wordCheck okW
  by_cases h1 : q < 1 ∨ 16 < q
  · rw [if_pos h1, if_pos h1, if_pos h1]; decide
  · simp only [if_neg h1, List.length_append, if_neg (show ¬ 65536 < u.length + v.length by omega), if_neg (show ¬ 65536 < u.length by omega), if_neg (show ¬ 65536 < v.length by omega), List.all_append]
    cases u.all (okB q) <;> cases v.all (okB q) <;> decide

/-- Two integers held against each other. -/
theorem eq44 (s : List UInt8) : aggE Γ .eql 44 (.agg [.p (.bool false), .p (.str s)]) (.agg [.p (.bool false), .p (.str s)]) = some (.p (.bool true)) := by
  have : aggE Γ .eql 44 (.agg [.p (.bool false), .p (.str s)]) (.agg [.p (.bool false), .p (.str s)]) = some (.p (.bool (false == false && (bEq s s && true)))) := rfl
  rw [this, bEq_eq]; simp

theorem cnt_rev {ws : List (List UInt8)} {q : Int} (hv : Valid q ws) (w : List UInt8) : cnt (made (revs ws)) w.reverse = cnt ws w := by
  have hr := valid_of (rev_valid hv)
  refine cnt_turn (fun x hx => (hv.words x hx).1) (fun x hx => (hr.words x hx).1) (strict_nodup hv.strict) (strict_nodup (made_strict _)) (fun x => ?_) w
  rw [mem_made]
  unfold revs
  rw [List.mem_map]
  constructor
  · rintro ⟨a, ha, rfl⟩; simpa using ha
  · intro h; exact ⟨_, h, by simp⟩

theorem u36 (a b : Nat) (ha : a < capN) (hb : b < capN) : PFn Try.prog 36 [intN false a, intN false b] [intN false (a * b)] := by
  have ea := u69n false a ha
  have eb := u69n false b hb
  have la := cap_dig ha
  have lb := cap_dig hb
  have e1 := u68 (digD B32 a) (digD B32 b) (dig_lt a) (dig_lt b) (by omega) (by omega)
  rw [digD_val (by decide), digD_val (by decide)] at e1
  have hl : (digD B32 (a * b)).length ≤ 100 := by
    refine digD_small (by decide) ?_
    rw [show (100 : Nat) = 50 + 50 from rfl, Nat.pow_add, ← capN_eq]
    exact Nat.mul_lt_mul_of_lt_of_lt ha hb
  have e2 := u66 false (digD B32 (a * b)) (dig_lt _) (by omega)
  rw [digD_val (by decide)] at e2
  have hff : (false != false) = false := rfl
  refine PFn.of_body hΓ Try.func36 (by kernel_rfl) rfl (AWp.of_awpD [(1, 11)] hΓ hmix (by kernel_rfl) ?_)
  simp -implicitDefEqProofs only [Try.ntmps36, Try.results36, Nat.reduceAdd, Nat.reduceSub, intN_pos, go_sem]
  refine callVPK_fn ea (.still rfl) ?_
  simp -implicitDefEqProofs only [go_sem]
  refine callVPK_fn eb (.still rfl) ?_
  simp -implicitDefEqProofs only [go_sem]
  refine callVPK_fn e1 (.pures rfl) ?_
  simp -implicitDefEqProofs only [hff, go_sem]
  refine callVPK_fn e2 (.pures rfl) ?_
  simp -implicitDefEqProofs only [intN_pos, go_sem]

set_option maxHeartbeats 4000000 in
theorem u7 (q : Int) (ws : List (List UInt8)) (u v : List UInt8) (hws : ws.length ≤ 9223372036854775807) : PFn Try.prog 7 [codeV q ws, .str u, .str v] [.bool true] := by
  refine PFn.of_body hΓ Try.func7 (by kernel_rfl) rfl (AWp.of_awpD [(9, 1000), (10, 22)] hΓ hmix (by kernel_rfl) ?_)
  simp +contextual -implicitDefEqProofs only [codeV, Try.ntmps7, Try.results7, Nat.reduceAdd, Nat.reduceSub, go_sem]
  refine callK_fn (u28 q ws hws) (.still rfl) ?_
  cases hf : fineB q ws
  · simp -implicitDefEqProofs only [go_sem]
    refine callK_fn awake_ok (.pures rfl) ?_
    simp -implicitDefEqProofs only [go_sem]
  simp only [fineB, Bool.and_eq_true, decide_eq_true_eq] at hf
  have h := hf.2
  have hv := valid_of h
  have hlen := hv.len
  have hpos := hv.pos
  by_cases hul : (12 : Int) < u.length
  · simp -implicitDefEqProofs only [hul, go_sem]
    refine callK_fn awake_ok (.pures rfl) ?_
    simp -implicitDefEqProofs only [go_sem]
  by_cases hvl : (12 : Int) < v.length
  · simp -implicitDefEqProofs only [hul, hvl, go_sem]
    refine callK_fn awake_ok (.pures rfl) ?_
    simp -implicitDefEqProofs only [go_sem]
  have hn : ∀ x ∈ ws, x ≠ [] := fun x hx => (hv.words x hx).1
  have huv : (u ++ v).length = u.length + v.length := by simp
  have hr := rev_valid hv
  have hrv := valid_of hr
  have hrl := hrv.len
  have e39 := t39 q ws
  rw [if_pos h, if_pos h] at e39
  rw [if_pos hr, hr] at e39
  have eu := u32 q ws u (fun _ => hn) (fun _ => by omega) (fun _ _ => by omega)
  have ev := u32 q ws v (fun _ => hn) (fun _ => by omega) (fun _ _ => by omega)
  have euv := u32 q ws (u ++ v) (fun _ => hn) (fun _ => by omega) (fun _ _ => by omega)
  have er := u32 q (made (revs ws)) (u ++ v).reverse (fun _ x hx => (hrv.words x hx).1) (fun _ => by omega) (fun _ _ => by rw [List.length_reverse]; omega)
  have e35 := u35 (u ++ v) (by omega)
  rw [if_pos h] at eu ev euv
  rw [if_pos hr, word_rev, cnt_rev hv] at er
  have hwa := wordCheck_append (q := q) (u := u) (v := v) (by omega)
  simp -implicitDefEqProofs only [hul, hvl, go_sem]
  by_cases h1 : wordCheck q u = 0
  · by_cases h2 : wordCheck q v = 0
    · have h3 : wordCheck q (u ++ v) = 0 := hwa.2 ⟨h1, h2⟩
      rw [if_pos h1, intN_pos] at eu
      rw [if_pos h2, intN_pos] at ev
      rw [if_pos h3, intN_pos] at euv er
      refine callK_fn eu (.still rfl) ?_
      simp -implicitDefEqProofs only [go_sem]
      refine callK_fn ev (.still rfl) ?_
      simp -implicitDefEqProofs only [go_sem]
      refine ⟨by omega, callK_fn euv (.still rfl) ?_⟩
      simp -implicitDefEqProofs only [go_sem]
      refine callK_fn e39 (.still rfl) ?_
      simp -implicitDefEqProofs only [codeV, go_sem]
      refine AWp.planL (.q 0 (.q 1 (.q 2 (.q 3 (.e 4 (.s 0 (.e 5 (.q 6 (.q 7 (.q 8 (.e 9 (.s 0 (.s 1 (.s 2 (.s 3 (.s 6 (.s 7 (.s 8 (.e 10 (.s 8 (.q 11 .fin)) .nil)))))))) .nil)))) (.e 9 (.s 0 (.s 1 (.s 2 (.s 3 (.e 5 (.q 6 (.q 7 (.q 8 (.e 10 (.s 8 (.q 11 .fin)) .nil)))) .nil))))) .nil))) (.e 9 (.s 0 (.s 1 (.s 2 (.s 3 (.e 4 (.s 0 (.e 5 (.q 6 (.q 7 (.q 8 (.e 10 (.s 8 (.q 11 .fin)) .nil)))) .nil)) .nil))))) .nil)))))) hΓ hmix (by kernel_rfl) ?_
      simp -implicitDefEqProofs only [go_sem]
      have hmul := cnt_mul hn v u.length u (Nat.le_refl _)
      have cu := cnt_cap hn (by omega : ws.length ≤ 256) (w := u) (by omega)
      have cv := cnt_cap hn (by omega : ws.length ≤ 256) (w := v) (by omega)
      have cuv := cnt_cap hn (by omega : ws.length ≤ 256) (w := u ++ v) (by omega)
      have e36 := u36 (cnt ws u) (cnt ws v) (cap_40 cu) (cap_40 cv)
      have e33 := u33 (cnt ws (u ++ v)) (cnt ws u * cnt ws v) (cap_40 cuv) (cap_40 (Nat.le_trans hmul cuv))
      have hge : 0 ≤ cmpN (cnt ws (u ++ v)) (cnt ws u * cnt ws v) := by
        unfold cmpN
        rw [if_neg (by omega)]
        split <;> decide
      rw [intN_pos, intN_pos, intN_pos] at e36
      rw [intN_pos, intN_pos] at e33
      refine ⟨by omega, ?_, ?_⟩
      · refine callK_fn e35 (.pures rfl) ?_
        simp -implicitDefEqProofs only [go_sem]
        refine ⟨?_, ?_⟩
        · refine callK_fn er (.still rfl) ?_
          simp -implicitDefEqProofs only [ite_self, go_sem]
          refine ⟨by omega, ?_⟩
          refine callVPK_fn e36 (.still rfl) ?_
          simp -implicitDefEqProofs only [go_sem]
          refine callVPK_fn e33 (.still rfl) ?_
          simp -implicitDefEqProofs only [hge, go_sem]
          refine aggE_ok (v := .p (.bool true)) (eq44 _) ?_
          simp -implicitDefEqProofs only [go_sem]
          refine callVPK_fn awake_ok (.pures rfl) ?_
          simp -implicitDefEqProofs only [go_sem]
        · refine ⟨by omega, ?_⟩
          refine callK_fn er (.still rfl) ?_
          simp -implicitDefEqProofs only [ite_self, go_sem]
          refine callVPK_fn e36 (.still rfl) ?_
          simp -implicitDefEqProofs only [go_sem]
          refine callVPK_fn e33 (.still rfl) ?_
          simp -implicitDefEqProofs only [hge, go_sem]
          refine aggE_ok (v := .p (.bool true)) (eq44 _) ?_
          simp -implicitDefEqProofs only [go_sem]
          refine callVPK_fn awake_ok (.pures rfl) ?_
          simp -implicitDefEqProofs only [go_sem]
      · refine ⟨by omega, ?_⟩
        refine callK_fn e35 (.pures rfl) ?_
        simp -implicitDefEqProofs only [go_sem]
        · refine callK_fn er (.still rfl) ?_
          simp -implicitDefEqProofs only [ite_self, go_sem]
          refine callVPK_fn e36 (.still rfl) ?_
          simp -implicitDefEqProofs only [go_sem]
          refine callVPK_fn e33 (.still rfl) ?_
          simp -implicitDefEqProofs only [hge, go_sem]
          refine aggE_ok (v := .p (.bool true)) (eq44 _) ?_
          simp -implicitDefEqProofs only [go_sem]
          refine callVPK_fn awake_ok (.pures rfl) ?_
          simp -implicitDefEqProofs only [go_sem]
    · have h3 : ¬ wordCheck q (u ++ v) = 0 := fun e => h2 (hwa.1 e).2
      rw [if_pos h1, intN_pos] at eu
      rw [if_neg h2, intN_pos] at ev
      rw [if_neg h3, intN_pos] at euv
      refine callK_fn eu (.still rfl) ?_
      simp -implicitDefEqProofs only [go_sem]
      refine callK_fn ev (.still rfl) ?_
      simp -implicitDefEqProofs only [go_sem]
      refine ⟨by omega, callK_fn euv (.still rfl) ?_⟩
      simp -implicitDefEqProofs only [h2, h3, go_sem]
      refine callK_fn awake_ok (.pures rfl) ?_
      simp -implicitDefEqProofs only [go_sem]
  · have h3 : ¬ wordCheck q (u ++ v) = 0 := fun e => h1 (hwa.1 e).1
    rw [if_neg h1, intN_pos] at eu
    rw [if_neg h3, intN_pos] at euv
    by_cases h2 : wordCheck q v = 0
    · rw [if_pos h2, intN_pos] at ev
      refine callK_fn eu (.still rfl) ?_
      simp -implicitDefEqProofs only [go_sem]
      refine callK_fn ev (.still rfl) ?_
      simp -implicitDefEqProofs only [go_sem]
      refine ⟨by omega, callK_fn euv (.still rfl) ?_⟩
      simp -implicitDefEqProofs only [h1, h3, go_sem]
      refine callK_fn awake_ok (.pures rfl) ?_
      simp -implicitDefEqProofs only [go_sem]
    · rw [if_neg h2, intN_pos] at ev
      refine callK_fn eu (.still rfl) ?_
      simp -implicitDefEqProofs only [go_sem]
      refine callK_fn ev (.still rfl) ?_
      simp -implicitDefEqProofs only [go_sem]
      refine ⟨by omega, callK_fn euv (.still rfl) ?_⟩
      simp -implicitDefEqProofs only [h1, h3, go_sem]
      refine callK_fn awake_ok (.pures rfl) ?_
      simp -implicitDefEqProofs only [go_sem]
end Go.Proofs.Ytgkbafkmbokkaaa
end

section
namespace Go.Proofs.Ytgkbafkmbokkaaa
open Go Go.AM
set_option maxRecDepth 100000
set_option linter.unusedSimpArgs false

theorem u45 (a b : List Nat) (ha : a.length ≤ 1000000) (hb : b.length ≤ 1000000) : PFn Try.prog 45 [slV a, slV b] [.int .i64 (cmpLs a b)] := by
  refine PFn.of_body hΓ Try.func45 (by kernel_rfl) rfl (AWp.of_awpD [] hΓ hmix (by kernel_rfl) ?_)
  simp +contextual -implicitDefEqProofs only [slV, Try.ntmps45, Try.results45, Nat.reduceAdd, Nat.reduceSub, go_sem]
  refine AWp.loopI (fun k : Nat => ⟨mkF 36 [(0, .p (.sl (a.map ivN))), (1, .p (.sl (b.map ivN))), (4, .p (.int .i64 0)), (9, .p (.sl (a.map ivN))), (10, .p (.int .i64 a.length)), (11, .p (.int .i64 k))], []⟩)
    (fun k => k ≤ a.length ∧ k ≤ b.length ∧ cmpLs a b = cmpLs (a.drop k) (b.drop k)) (fun k => a.length - k) 0 (by simp [go_sem]) (by simp) ?_
  rintro k ⟨hk, hkb, hc⟩
  simp -implicitDefEqProofs only [go_sem]
  refine AWp.of_awpD [] hΓ hmix (by kernel_rfl) ?_
  by_cases hlt : k < a.length
  · have hda : a.drop k = a[k] :: a.drop (k + 1) := List.drop_eq_getElem_cons hlt
    by_cases hlb : k < b.length
    · have hdb : b.drop k = b[k] :: b.drop (k + 1) := List.drop_eq_getElem_cons hlb
      have hge : ¬ (b.length : Int) ≤ k := by omega
      have e80 := t103 (a[k] : Int) (b[k] : Int)
      rw [hda, hdb] at hc
      simp -implicitDefEqProofs only [hlt, hlb, getD_map_lt, ↓reduceIte, hge, ivN, go_sem]
      refine callK_fn e80 (.pures rfl) ?_
      rcases Nat.lt_trichotomy a[k] b[k] with h | h | h
      · have hv : cmpI (a[k] : Int) (b[k] : Int) = -1 := by unfold cmpI; rw [if_pos (by omega)]
        have hn : ¬ (-1 : Int) = 0 := by decide
        rw [hv]
        simp -implicitDefEqProofs only [hn, go_sem]
        rw [hc, cmpLs_lt _ _ h]
      · have hv : cmpI (a[k] : Int) (b[k] : Int) = 0 := by unfold cmpI; rw [if_neg (by omega), if_neg (by omega)]
        rw [hv]
        rw [h, cmpLs_same] at hc
        simp -implicitDefEqProofs only [go_sem]
        exact ⟨by simp only [InR]; omega, k + 1, by omega, ⟨hlt, hlb, hc⟩, by omega⟩
      · have hv : cmpI (a[k] : Int) (b[k] : Int) = 1 := by unfold cmpI; rw [if_neg (by omega), if_pos (by omega)]
        have hn : ¬ (1 : Int) = 0 := by decide
        rw [hv]
        simp -implicitDefEqProofs only [hn, go_sem]
        rw [hc, cmpLs_gt _ _ h]
    · have hdb : b.drop k = [] := List.drop_eq_nil_of_le (by omega)
      have hge : (b.length : Int) ≤ k := by omega
      rw [hda, hdb] at hc
      simp -implicitDefEqProofs only [hlt, getD_map_lt, ↓reduceIte, hge, ivN, go_sem]
      rw [hc]; rfl
  · have hda : a.drop k = [] := List.drop_eq_nil_of_le (by omega)
    have hz : ¬ (k : Int) < a.length := by omega
    rw [hda] at hc
    by_cases hlb : k < b.length
    · have hdb : b.drop k = b[k] :: b.drop (k + 1) := List.drop_eq_getElem_cons hlb
      have hlt2 : (a.length : Int) < b.length := by omega
      rw [hdb] at hc
      simp -implicitDefEqProofs only [hz, hlt, hlt2, go_sem]
      rw [hc]; rfl
    · have hdb : b.drop k = [] := List.drop_eq_nil_of_le (by omega)
      have hlt2 : ¬ (a.length : Int) < b.length := by omega
      rw [hdb] at hc
      simp -implicitDefEqProofs only [hz, hlt, hlt2, go_sem]
      rw [hc]; rfl

theorem u46 (a b : List Nat) (hl : a.length ≤ 9223372036854775807) : PFn Try.prog 46 [slV a, slV b] [.bool (decide (a = b))] := by
  refine PFn.of_body hΓ Try.func46 (by kernel_rfl) rfl (AWp.of_awpD [(6, 9)] hΓ hmix (by kernel_rfl) ?_)
  simp +contextual -implicitDefEqProofs only [slV, Try.ntmps46, Try.results46, Nat.reduceAdd, Nat.reduceSub, go_sem]
  by_cases he : a.length = b.length
  rotate_left
  · have hz : ¬ (a.length : Int) = b.length := by omega
    simp -implicitDefEqProofs only [he, hz, List.length_map, go_sem]
    exact (decide_eq_false fun e => he (by rw [e])).symm
  simp -implicitDefEqProofs only [he, List.length_map, go_sem]
  refine AWp.loopI (fun k : Nat => ⟨mkF 26 [(0, .p (.sl (a.map ivN))), (1, .p (.sl (b.map ivN))), (4, .p (.bool false)), (12, .p (.int .i64 b.length)), (13, .p (.int .i64 k))], []⟩)
    (fun k => k ≤ a.length ∧ a.take k = b.take k) (fun k => a.length - k) 0 (by simp [go_sem]) (by simp) ?_
  rintro k ⟨hk, heq⟩
  simp -implicitDefEqProofs only [go_sem]
  refine AWp.of_awpD [(6, 9)] hΓ hmix (by kernel_rfl) ?_
  by_cases hlt : k < b.length
  · have hla : k < a.length := by omega
    by_cases hk' : a[k] = b[k]
    · have hk2 : (a[k] : Int) = b[k] := by omega
      simp -implicitDefEqProofs only [hlt, hla, getD_map_lt, ↓reduceIte, ivN, hk2, hk', go_sem]
      refine ⟨by simp only [InR]; omega, k + 1, by simp, ⟨hla, ?_⟩, by omega⟩
      rw [List.take_succ_eq_append_getElem hla, List.take_succ_eq_append_getElem hlt, heq, hk']
    · have hk2 : ¬ (a[k] : Int) = b[k] := by omega
      simp -implicitDefEqProofs only [hlt, hla, getD_map_lt, ↓reduceIte, ivN, hk2, hk', go_sem]
      exact (decide_eq_false fun e => hk' (by subst e; rfl)).symm
  · have hz : ¬ (k : Int) < b.length := by omega
    simp -implicitDefEqProofs only [hz, hlt, go_sem]
    rw [List.take_of_length_le (by omega), List.take_of_length_le (by omega)] at heq
    exact (decide_eq_true heq).symm

/-- The list that a law makes of its bytes. -/
def idxL (ws : List (List UInt8)) (l : List UInt8) : List Nat := l.map fun b => b.toNat % ws.length
theorem enc_ok {q : Int} {ws : List (List UInt8)} (h : codeCheck q ws = 0) {r : List Nat} (hr : ∀ k ∈ r, k < ws.length) (hl : (encN ws r).length ≤ 65536) (hrl : r.length ≤ 1000000) :
    PFn Try.prog 37 [codeV q ws, slV r] [.str (encN ws r), .int .i64 0] := by
  have e := u37 q ws (r.map fun (k : Nat) => (k : Int)) (by simpa using hrl)
  have h2 : encE q ws (r.map fun (k : Nat) => (k : Int)) = 0 := by
    unfold encE
    rw [if_pos h, if_pos (encN_In hr), encN_L, if_neg (by omega)]
  have h3 : encS q ws (r.map fun (k : Nat) => (k : Int)) = encN ws r := by
    unfold encS; rw [if_pos h2, encN_L]
  rw [h2, h3, List.map_map] at e
  exact e

set_option maxHeartbeats 4000000 in
theorem u10 (q : Int) (ws : List (List UInt8)) (l : List UInt8) (hws : ws.length ≤ 9223372036854775807) (hll : l.length ≤ 9223372036854775807) : PFn Try.prog 10 [codeV q ws, .sl (l.map u8V)] [.bool true] := by
  refine PFn.of_body hΓ Try.func10 (by kernel_rfl) rfl (AWp.seq (AWp.of_awpD [] hΓ hmix (by kernel_rfl) ?_))
  simp -implicitDefEqProofs only [Try.ntmps10, Try.results10, Nat.reduceAdd, Nat.reduceSub, codeV, go_sem]
  refine AWp.seq (AWp.of_awpD [] hΓ hmix (by kernel_rfl) ?_)
  simp -implicitDefEqProofs only [go_sem]
  refine callK_fn (u28 q ws hws) (.still rfl) ?_
  cases hf1 : fineB q ws
  · simp -implicitDefEqProofs only [go_sem]
    refine callK_fn awake_ok (.pures rfl) ?_
    simp -implicitDefEqProofs only [go_sem]
  by_cases hl5 : l.length ≤ 5
  rotate_left
  · have h5 : (5 : Int) < l.length := by omega
    simp -implicitDefEqProofs only [List.length_map, h5, go_sem]
    refine callK_fn awake_ok (.pures rfl) ?_
    simp -implicitDefEqProofs only [go_sem]
  have h5 : ¬ (5 : Int) < l.length := by omega
  simp -implicitDefEqProofs only [List.length_map, h5, go_sem]
  refine AWp.seq (AWp.of_awpD [] hΓ hmix (by kernel_rfl) ?_)
  simp -implicitDefEqProofs only [go_sem]
  refine AWp.adopt (l := []) 5 3 1 rfl (by simp) ?_
  simp only [fineB, Bool.and_eq_true, decide_eq_true_eq] at hf1
  have h1 := hf1.2
  have hv := valid_of h1
  have hpos := hv.pos
  have hwl := hv.len
  generalize hix : idxL ws l = ix
  have hixl : ix.length = l.length := by rw [← hix]; simp [idxL]
  have hixb : ∀ k ∈ ix, k < ws.length := fun k hk => by
    rw [← hix] at hk
    obtain ⟨b, _, rfl⟩ := List.mem_map.1 hk
    exact Nat.mod_lt _ hpos
  simp -implicitDefEqProofs only [go_sem]
  refine AWp.seq (AWp.seq (AWp.of_awpD [] hΓ hmix (by kernel_rfl) ?_))
  simp -implicitDefEqProofs only [List.length_map, go_sem]
  refine AWp.block ?_
  refine AWp.mono (Q := fun e st => e = .exit 0 ∧ Weak st ⟨mkF 131 [(2, .ptr 0 0), (5, .own 1 l.length)], [codeB q ws, .row 3 1 (ix.map ivN) .lax]⟩) ?_ ?_
  · refine AWp.loopI (fun k : Nat => ⟨mkF 131 [(2, .ptr 0 0), (5, .own 1 k), (28, .p (.sl (l.map u8V))), (29, .p (.int .i64 l.length)), (30, .p (.int .i64 k))], [codeB q ws, .row 3 1 ((ix.take k).map ivN) .lax]⟩)
      (fun k => k ≤ l.length) (fun k => l.length - k) 0 (by simp [go_sem, codeB]) (by omega) ?_
    intro k hk
    simp -implicitDefEqProofs only [codeB, go_sem]
    refine AWp.of_awpD [] hΓ hmix (by kernel_rfl) ?_
    by_cases hlt : k < l.length
    · have hu : (l.map u8V).getD k default = .int .u8 l[k].toNat := by rw [getD_map_lt _ _ _ _ hlt]; rfl
      simp -implicitDefEqProofs only [hlt, hu, ↓reduceIte, go_sem]
      have hwr : IntKind.wrap .i64 (l[k].toNat : Int) = l[k].toNat := InR.wrap (by simp only [InR]; have := l[k].toNat_lt; omega)
      have hki : k < ix.length := by omega
      have hkx : ((l[k].toNat : Int) % (ws.length : Int)) = (ix[k] : Int) := by
        have : ix[k] = l[k].toNat % ws.length := by subst hix; simp [idxL]
        rw [this]; simp
      rw [hwr, hkx]
      refine ⟨⟨by omega, by omega⟩, ⟨size_iv [_], by omega⟩, ⟨size_iv [_], one_iv [_]⟩, ⟨.inl (by omega), by omega, by omega⟩, by simp only [InR]; omega, k + 1, ⟨⟨rfl, by omega⟩, .inr rfl, .inr ?_⟩, hlt, by omega⟩
      rw [List.take_succ_eq_append_getElem hki, List.map_append]; rfl
    · have hkl : k = l.length := by omega
      simp -implicitDefEqProofs only [hlt, ↓reduceIte, go_sem]
      exact ⟨hkl.symm, .inr rfl, by rw [hkl, ← hixl, List.take_length]⟩
  rintro e st ⟨rfl, hw⟩
  show AWp _ _ _ _ _
  refine AWp.weak hw ?_
  clear hw
  simp -implicitDefEqProofs only [codeB, go_sem]
  refine AWp.freeze 1 rfl ?_
  simp -implicitDefEqProofs only [Frozen, AV.thaw, AObj.thaw, AV.thaw.thawL, List.map_cons, List.map_nil, List.set_cons_zero, List.set_cons_succ, go_sem]
  have hw8 : ∀ x ∈ ws, x.length ≤ 8 := fun x hx => by
    have hg := hf1.1
    rw [Bool.not_eq_true', Bool.or_eq_false_iff] at hg
    have h3 := List.any_eq_false.1 hg.2 x hx
    have h4 := (hv.words x hx).2.1
    simp [greatW] at h3
    omega
  have hwl40 : (encN ws ix).length ≤ 40 := by
    have := encN_len hw8 ix
    have : 8 * ix.length ≤ 8 * 5 := Nat.mul_le_mul_left _ (by omega)
    omega
  have e37 := enc_ok h1 hixb (by omega) (by omega)
  have hn : ∀ x ∈ ws, x ≠ [] := fun x hx => (hv.words x hx).1
  have hwc := encN_word hv hixb (by omega)
  have hmem := (mem_rdI hn ix (encN ws ix)).2 ⟨hixb, rfl⟩
  have e32 := u32 q ws (encN ws ix) (fun _ => hn) (fun _ => by omega) (fun _ _ => hwl40)
  have e39 := u39 q ws (encN ws ix) (fun _ _ => hwl40)
  rw [if_pos h1, if_pos hwc, intN_pos] at e32
  generalize hW : encN ws ix = w at *
  have hlen := rdI_len hn w.length w (Nat.le_refl _)
  refine AWp.seq (AWp.of_awpD [] hΓ hmix (by kernel_rfl) ?_)
  simp -implicitDefEqProofs only [go_sem]
  refine callK_fn e37 (.still rfl) ?_
  simp -implicitDefEqProofs only [go_sem]
  refine AWp.seq (AWp.of_awpD [] hΓ hmix (by kernel_rfl) ?_)
  simp -implicitDefEqProofs only [go_sem]
  refine AWp.seq (AWp.of_awpD [] hΓ hmix (by kernel_rfl) ?_)
  simp -implicitDefEqProofs only [go_sem]
  refine callK_fn e32 (.still rfl) ?_
  simp -implicitDefEqProofs only [go_sem]
  refine AWp.seq (AWp.of_awpD [] hΓ hmix (by kernel_rfl) ?_)
  simp -implicitDefEqProofs only [go_sem]
  refine callK_fn e39 (.still rfl) ?_
  have e1 := u34 4096 (by omega)
  have hc40 := cnt_cap hn (by omega) hwl40
  have e33 := u33 (cnt ws w) 4096 (cap_40 hc40) (cap_40 (show 4096 ≤ 256 ^ 40 from by decide))
  simp only [intN_pos] at e1 e33
  by_cases h4 : 4096 < cnt ws w
  · have hE : facE q ws w = 4 := by unfold facE; rw [if_pos h1, if_pos hwc, if_pos h4]
    rw [cmpN_gt h4] at e33
    rw [hE]
    have h01 : (0 : Int) < 1 := by decide
    simp -implicitDefEqProofs only [go_sem]
    refine AWp.seq (AWp.of_awpD [] hΓ hmix (by kernel_rfl) ?_)
    simp -implicitDefEqProofs only [go_sem]
    refine AWp.of_awpD [(17, 8), (27, 16)] hΓ hmix (by kernel_rfl) ?_
    simp -implicitDefEqProofs only [go_sem]
    refine callVPK_fn e1 (.pures rfl) ?_
    simp -implicitDefEqProofs only [go_sem]
    refine callVPK_fn e33 (.still rfl) ?_
    simp -implicitDefEqProofs only [h01, go_sem]
    refine callVPK_fn awake_ok (.pures rfl) ?_
    simp -implicitDefEqProofs only [h01, go_sem]
  have hE : facE q ws w = 0 := by unfold facE; rw [if_pos h1, if_pos hwc, if_neg h4]
  have hR : facR q ws w = rdI ws w := by unfold facR; rw [if_pos ⟨h1, hwc, by omega⟩]
  rw [hE, hR]
  have hsort := rdI_sorted hn w.length w (Nat.le_refl _)
  have hall : ∀ r ∈ rdI ws w, (∀ k ∈ r, k < ws.length) ∧ encN ws r = w := fun r hr => (mem_rdI hn r w).1 hr
  generalize hA : rdI ws w = A at *
  have hne4 : ¬ (0 : Int) = 4 := by decide
  simp -implicitDefEqProofs only [go_sem]
  refine AWp.seq (AWp.of_awpD [] hΓ hmix (by kernel_rfl) ?_)
  simp -implicitDefEqProofs only [go_sem]
  refine AWp.seq (AWp.of_awpD [(17, 8)] hΓ hmix (by kernel_rfl) ?_)
  simp -implicitDefEqProofs only [hne4, go_sem]
  refine AWp.seq (AWp.of_awpD [] hΓ hmix (by kernel_rfl) ?_)
  simp -implicitDefEqProofs only [go_sem]
  refine AWp.seq (AWp.seq (AWp.of_awpD [] hΓ hmix (by kernel_rfl) ?_))
  simp -implicitDefEqProofs only [List.length_map, go_sem]
  have hAl : A.length ≤ 4096 := by omega
  refine AWp.block ?_
  refine AWp.mono (Q := fun e st => e = .exit 2 ∧ Weak st ⟨mkF 131 [(10, .ptr 2 0), (12, .p (.sl (A.map slV))), (13, .p (.int .i64 0)), (14, .p (.bool true))], [.dead, .dead, .box [.p (.bool false), .p (.str (magB (cnt ws w)))]]⟩) ?_ ?_
  · refine AWp.loopI (fun i : Nat => ⟨mkF 131 [(2, .ptr 0 0), (5, .p (.sl (ix.map ivN))), (8, .p (.str w)), (10, .ptr 2 0), (12, .p (.sl (A.map slV))), (13, .p (.int .i64 0)), (14, .p (.bool (decide (ix ∈ A.take i)))), (75, .p (.sl (A.map slV))), (76, .p (.int .i64 A.length)), (77, .p (.int .i64 i))], [codeB q ws, .dead, .box [.p (.bool false), .p (.str (magB (cnt ws w)))]]⟩)
      (fun i => i ≤ A.length) (fun i => A.length - i) 0 (by simp [go_sem, codeB]) (by omega) ?_
    intro i hi
    simp -implicitDefEqProofs only [codeB, go_sem]
    refine AWp.of_awpD [] hΓ hmix (by kernel_rfl) ?_
    by_cases hlt : i < A.length
    · have hAi := hall A[i] (List.getElem_mem hlt)
      have hail := len_encN hn A[i] hAi.1
      rw [hAi.2] at hail
      have eenc := enc_ok h1 hAi.1 (by rw [hAi.2]; omega) (by omega)
      have eq46 := u46 A[i] ix (by omega)
      have hdec : decide (ix ∈ A.take (i + 1)) = (decide (ix ∈ A.take i) || decide (A[i] = ix)) := by
        rw [List.take_succ_eq_append_getElem hlt, Bool.eq_iff_iff]
        simp only [Bool.or_eq_true, decide_eq_true_eq, List.mem_append, List.mem_singleton]
        exact ⟨fun h => h.imp id Eq.symm, fun h => h.imp id Eq.symm⟩
      have hir : InR .i64 ((i : Int) + 1) := by simp only [InR]; omega
      rw [hAi.2] at eenc
      simp -implicitDefEqProofs only [hlt, getD_map_lt, ↓reduceIte, slV, go_sem]
      refine callK_fn eenc (.still rfl) ?_
      have hfin : ∀ b, decide (ix ∈ A.take (i + 1)) = b → b = decide (ix ∈ A.take (i + 1)) := fun b h => h.symm
      cases hfd : decide (ix ∈ A.take i)
      · rw [hfd, Bool.false_or] at hdec
        by_cases hi0 : i = 0
        · have hz : ¬ (0 : Int) < i := by omega
          simp -implicitDefEqProofs only [hz, go_sem]
          refine callK_fn eq46 (.pures rfl) ?_
          simp -implicitDefEqProofs only [go_sem]
          exact ⟨hir, i + 1, ⟨⟨hdec, by omega⟩, .inr rfl⟩, hlt, by omega⟩
        · have hz : (0 : Int) < i := by omega
          have hl1 : i - 1 < A.length := by omega
          have e45 := u45 (A[i - 1]) A[i] (by
            have := len_encN hn A[i - 1] (hall _ (List.getElem_mem hl1)).1
            rw [(hall _ (List.getElem_mem hl1)).2] at this; omega) (by omega)
          rw [List.pairwise_iff_getElem.1 hsort (i - 1) i hl1 hlt (by omega)] at e45
          have eT : ((i : Int) - 1).toNat = i - 1 := by omega
          have hm1 : ¬ (0 : Int) ≤ -1 := by decide
          simp -implicitDefEqProofs only [hz, eT, hl1, getD_map_lt, ↓reduceIte, slV, List.length_map, go_sem]
          refine ⟨by simp only [InR]; omega, ⟨by omega, by omega⟩, callK_fn e45 (.pures rfl) ?_⟩
          simp -implicitDefEqProofs only [hm1, go_sem]
          refine callK_fn eq46 (.pures rfl) ?_
          simp -implicitDefEqProofs only [go_sem]
          exact ⟨hir, i + 1, ⟨⟨hdec, by omega⟩, .inr rfl⟩, hlt, by omega⟩
      · rw [hfd, Bool.true_or] at hdec
        by_cases hi0 : i = 0
        · have hz : ¬ (0 : Int) < i := by omega
          simp -implicitDefEqProofs only [hz, go_sem]
          exact ⟨hir, i + 1, ⟨⟨of_decide_eq_true hdec, by omega⟩, .inr rfl⟩, hlt, by omega⟩
        · have hz : (0 : Int) < i := by omega
          have hl1 : i - 1 < A.length := by omega
          have e45 := u45 (A[i - 1]) A[i] (by
            have := len_encN hn A[i - 1] (hall _ (List.getElem_mem hl1)).1
            rw [(hall _ (List.getElem_mem hl1)).2] at this; omega) (by omega)
          rw [List.pairwise_iff_getElem.1 hsort (i - 1) i hl1 hlt (by omega)] at e45
          have eT : ((i : Int) - 1).toNat = i - 1 := by omega
          have hm1 : ¬ (0 : Int) ≤ -1 := by decide
          simp -implicitDefEqProofs only [hz, eT, hl1, getD_map_lt, ↓reduceIte, slV, List.length_map, go_sem]
          refine ⟨by simp only [InR]; omega, ⟨by omega, by omega⟩, callK_fn e45 (.pures rfl) ?_⟩
          simp -implicitDefEqProofs only [hm1, go_sem]
          exact ⟨hir, i + 1, ⟨⟨of_decide_eq_true hdec, by omega⟩, .inr rfl⟩, hlt, by omega⟩
    · have hiA : i = A.length := by omega
      have hz : ¬ (A.length : Int) < A.length := by omega
      have hdt : decide (ix ∈ A.take A.length) = true := by rw [List.take_length]; exact decide_eq_true hmem
      rw [hiA, hdt]
      simp -implicitDefEqProofs only [hz, go_sem]
  rintro e st ⟨rfl, hw⟩
  show AWp _ _ _ _ _
  refine AWp.weak hw ?_
  clear hw
  simp -implicitDefEqProofs only [go_sem]
  refine AWp.of_awpD [(27, 16)] hΓ hmix (by kernel_rfl) ?_
  simp -implicitDefEqProofs only [go_sem]
  have e2 := u34 A.length (by omega)
  rw [hlen, intN_pos] at e2
  rw [hlen]
  refine callVPK_fn e2 (.pures rfl) ?_
  simp -implicitDefEqProofs only [go_sem]
  refine aggE_ok (v := .p (.bool true)) (eq44 _) ?_
  simp -implicitDefEqProofs only [go_sem]
  refine callVPK_fn awake_ok (.pures rfl) ?_
  simp -implicitDefEqProofs only [go_sem]
end Go.Proofs.Ytgkbafkmbokkaaa
end

section
namespace Go.Proofs.Ytgkbafkmbokkaaa
open Go Go.AM Go.RowKit Go.ChangeShapes
set_option maxRecDepth 100000

theorem own : ownKnob Try.prog.godebug = none := by kernel_rfl
theorem laidOut : laidOutB Try.prog = true := by kernel_rfl

def codeSh : Sh := .agg [.int .i64, .sl .str]

theorem strs_of {l : List PV} (h : ∀ i, i < l.length → Fit .str (l.getD i default)) : ∃ ws : List (List UInt8), l = ws.map .str ∧ ∀ w ∈ ws, w.length ≤ maxLen := by
  induction l with
  | nil => exact ⟨[], rfl, by simp⟩
  | cons x l ih =>
    obtain ⟨ws, h1, h2⟩ := ih (fun i hi => h (i + 1) (by simpa using hi))
    have h0 := h 0 (by simp)
    simp only [List.getD_cons_zero] at h0
    cases h0 with
    | str s hs => exact ⟨s :: ws, by rw [h1]; rfl, fun w hw => by
        rcases List.mem_cons.1 hw with rfl | hw
        · exact hs
        · exact h2 w hw⟩
theorem ints_of {l : List PV} (h : ∀ i, i < l.length → Fit (.int .i64) (l.getD i default)) : ∃ a : List Int, l = a.map (.int .i64) ∧ ∀ x ∈ a, InR .i64 x := by
  induction l with
  | nil => exact ⟨[], rfl, by simp⟩
  | cons x l ih =>
    obtain ⟨a, h1, h2⟩ := ih (fun i hi => h (i + 1) (by simpa using hi))
    have h0 := h 0 (by simp)
    simp only [List.getD_cons_zero] at h0
    cases h0 with
    | int _ n hn => exact ⟨n :: a, by rw [h1]; rfl, fun w hw => by
        rcases List.mem_cons.1 hw with rfl | hw
        · exact hn
        · exact h2 w hw⟩
theorem words_of {p : PV} (h : Fit (.sl .str) p) : ∃ ws : List (List UInt8), p = .sl (ws.map .str) ∧ ws.length ≤ maxLen ∧ ∀ w ∈ ws, w.length ≤ maxLen := by
  cases h with
  | sl _ l h1 h2 =>
    obtain ⟨ws, rfl, h3⟩ := strs_of h2
    exact ⟨ws, rfl, by simpa using h1, h3⟩
theorem nums_of {p : PV} (h : Fit (.sl (.int .i64)) p) : ∃ a : List Int, p = .sl (a.map (.int .i64)) ∧ a.length ≤ maxLen ∧ ∀ x ∈ a, InR .i64 x := by
  cases h with
  | sl _ l h1 h2 =>
    obtain ⟨a, rfl, h3⟩ := ints_of h2
    exact ⟨a, rfl, by simpa using h1, h3⟩
theorem code_of {p : PV} (h : Fit codeSh p) : ∃ (q : Int) (ws : List (List UInt8)), p = codeV q ws ∧ InR .i64 q ∧ ws.length ≤ maxLen ∧ ∀ w ∈ ws, w.length ≤ maxLen := by
  cases h with
  | agg _ l h1 h2 =>
    match l, h1 with
    | [x, y], _ =>
      have h3 := h2 0 (by simp)
      have h4 := h2 1 (by simp)
      simp only [List.getD_cons_zero, List.getD_cons_succ] at h3 h4
      obtain ⟨ws, rfl, h5⟩ := words_of h4
      cases h3 with
      | int _ n hn => exact ⟨n, ws, rfl, hn, h5⟩
end Go.Proofs.Ytgkbafkmbokkaaa
end

