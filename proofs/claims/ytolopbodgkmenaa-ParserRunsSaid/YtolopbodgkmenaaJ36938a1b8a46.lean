/-
  The reference's Greedy.
  The reference's run, Run and Position.
  The law ParserReads.
  The law ParserStates.
-/
import Derived.Test.YtolopbodgkmenaaJ985e8e9e43a3
import Derived.Test.YtolopbodgkmenaaJa0bbfa06eafe

section
namespace Go.Proofs.Ytolopbodgkmenaa
open Go Go.AM
set_option maxRecDepth 100000
set_option linter.unusedSimpArgs false

theorem p35 (q : Int) (ws : List (List UInt8)) (w : List UInt8) : PFn Try.prog 35 [codeV q ws, .str w] [slI (gL q ws w), .str (gR q ws w), .int .i64 (gE q ws w)] := by
  by_cases h : codeCheck q ws = 0
  rotate_left
  · have e0 : gE q ws w = 1 := by unfold gE; rw [if_neg h]
    have e1 : gL q ws w = [] := by unfold gL; rw [e0, if_neg (by decide)]
    have e2 : gR q ws w = [] := by unfold gR; rw [e0, if_neg (by decide)]
    rw [e0, e1, e2]
    refine PFn.of_body hΓ Try.func35 (by kernel_rfl) rfl (AWp.of_awpD [] hΓ hmix (by kernel_rfl) ?_)
    simp -implicitDefEqProofs only [Try.ntmps35, Try.results35, Nat.reduceAdd, Nat.reduceSub, codeV, go_sem]
    refine callK_fn (t44 q ws) (.still rfl) ?_
    simp -implicitDefEqProofs only [h, slI, List.map_nil, go_sem]
  have hv := valid_of h
  by_cases h2 : wordCheck q w = 0
  rotate_left
  · have e0 : gE q ws w = wordCheck q w := by unfold gE; rw [if_pos h]
    have e1 : gL q ws w = [] := by unfold gL; rw [e0, if_neg h2]
    have e2 : gR q ws w = [] := by unfold gR; rw [e0, if_neg h2]
    rw [e0, e1, e2]
    have e45 := t44 q ws
    rw [h] at e45
    have e80 := t78 q w
    generalize wordCheck q w = ee at *
    refine PFn.of_body hΓ Try.func35 (by kernel_rfl) rfl (AWp.of_awpD [] hΓ hmix (by kernel_rfl) ?_)
    simp -implicitDefEqProofs only [Try.ntmps35, Try.results35, Nat.reduceAdd, Nat.reduceSub, codeV, go_sem]
    refine callK_fn e45 (.still rfl) ?_
    simp -implicitDefEqProofs only [go_sem]
    refine callK_fn e80 (.pures rfl) ?_
    simp -implicitDefEqProofs only [h2, slI, List.map_nil, go_sem]
  have e0 : gE q ws w = 0 := by unfold gE; rw [if_pos h, h2]
  have e1 : gL q ws w = (greedy ws w).1 := by unfold gL; rw [e0, if_pos rfl]
  have e2 : gR q ws w = (greedy ws w).2 := by unfold gR; rw [e0, if_pos rfl]
  rw [e0, e1, e2]
  have e45 := t44 q ws
  rw [h] at e45
  have e80 := t78 q w
  rw [h2] at e80
  have hn : ∀ x ∈ ws, x ≠ [] := hv.ne'
  have hlen := hv.len
  have hwl := (word_ok h2).2
  have hgl := greedy_len hn w.length w (Nat.le_refl _)
  refine PFn.of_body hΓ Try.func35 (by kernel_rfl) rfl (AWp.seq (AWp.of_awpD [] hΓ hmix (by kernel_rfl) ?_))
  simp -implicitDefEqProofs only [Try.ntmps35, Try.results35, Nat.reduceAdd, Nat.reduceSub, codeV, go_sem]
  refine AWp.seq (AWp.of_awpD [] hΓ hmix (by kernel_rfl) ?_)
  simp -implicitDefEqProofs only [go_sem]
  refine callK_fn e45 (.still rfl) ?_
  simp -implicitDefEqProofs only [go_sem]
  refine AWp.seq (AWp.of_awpD [] hΓ hmix (by kernel_rfl) ?_)
  simp -implicitDefEqProofs only [go_sem]
  refine callK_fn e80 (.pures rfl) ?_
  simp -implicitDefEqProofs only [go_sem]
  refine AWp.seq (AWp.of_awpD [] hΓ hmix (by kernel_rfl) ?_)
  simp -implicitDefEqProofs only [go_sem]
  refine ⟨⟨by simp [sizeOK], by omega⟩, ?_⟩
  refine AWp.adopt (l := []) 8 3 1 rfl (by simp) ?_
  simp -implicitDefEqProofs only [List.set_cons_zero, List.set_cons_succ, go_sem]
  refine AWp.block ?_
  refine AWp.loopI (fun p : List Int × List UInt8 => ⟨mkF 80 [(1, .p (.str p.2)), (2, .ptr 0 0), (8, .own 1 p.1.length)], [codeB q ws, .row 3 1 (p.1.map (.int .i64)) .lax]⟩)
    (fun p => (greedy ws w).1 = p.1 ++ (greedy ws p.2).1 ∧ (greedy ws w).2 = (greedy ws p.2).2 ∧ p.1.length + p.2.length ≤ w.length) (fun p => p.2.length) ([], w) (by simp [go_sem, codeB]) (by simp) ?_
  rintro ⟨L, v⟩ ⟨hL, hv2, hLv⟩
  simp only at hL hv2 hLv
  simp -implicitDefEqProofs only [codeB, go_sem]
  refine AWp.of_awpD [] hΓ hmix (by kernel_rfl) ?_
  simp -implicitDefEqProofs only [List.length_map, go_sem]
  refine AWp.loopI (fun i : Nat => ⟨mkF 80 [(1, .p (.str v)), (2, .ptr 0 0), (8, .own 1 L.length), (9, .p (.int .i64 (bestTo ws v i))), (10, .p (.int .i64 i))], [codeB q ws, .row 3 1 (L.map (.int .i64)) .lax]⟩)
    (fun i => i ≤ ws.length) (fun i => ws.length - i) 0 (by simp [go_sem, codeB, bestTo]) (by simp) ?_
  intro i hi
  simp -implicitDefEqProofs only [codeB, go_sem]
  refine AWp.of_awpD [] hΓ hmix (by kernel_rfl) ?_
  have hbl := bestTo_lt ws v i
  by_cases hlt : i < ws.length
  · have hgi : ws.getD i [] = ws[i] := by rw [List.getD_eq_getElem?_getD, List.getElem?_eq_getElem hlt]; rfl
    have hir : InR IntKind.i64 ((i : Int) + 1) := by simp only [InR]; omega
    cases hp : ws[i].isPrefixOf v
    · have hb : bestTo ws v (i + 1) = bestTo ws v i := by conv => lhs; unfold bestTo
                                                          rw [if_neg (fun e => by rw [hgi, hp] at e; cases e.1)]
      by_cases hle : ws[i].length ≤ v.length
      · have htk : ¬ v.take ws[i].length = ws[i] := fun e => by
          have : ws[i].isPrefixOf v = true := List.isPrefixOf_iff_prefix.2 (List.prefix_iff_eq_take.2 e.symm)
          rw [hp] at this; cases this
        simp -implicitDefEqProofs only [hlt, getD_map_lt, ↓reduceIte, List.length_map, hle, htk, go_sem]
        exact ⟨hir, i + 1, ⟨⟨hb, by simp⟩, .inr rfl⟩, hlt, by omega⟩
      · simp -implicitDefEqProofs only [hlt, getD_map_lt, ↓reduceIte, List.length_map, hle, go_sem]
        exact ⟨hir, i + 1, ⟨⟨hb, by simp⟩, .inr rfl⟩, hlt, by omega⟩
    · have hle := (List.isPrefixOf_iff_prefix.1 hp).length_le
      have htk : v.take ws[i].length = ws[i] := (List.prefix_iff_eq_take.1 (List.isPrefixOf_iff_prefix.1 hp)).symm
      by_cases hneg : bestTo ws v i < 0
      · have hb : bestTo ws v (i + 1) = i := by conv => lhs; unfold bestTo
                                                rw [if_pos ⟨by rw [hgi]; exact hp, .inl hneg⟩]
        simp -implicitDefEqProofs only [hlt, getD_map_lt, ↓reduceIte, List.length_map, hle, htk, hneg, go_sem]
        exact ⟨hir, i + 1, ⟨⟨hb, by simp⟩, .inr rfl⟩, hlt, by omega⟩
      · have hbn : (bestTo ws v i).toNat < ws.length := by omega
        have hgb : ws.getD (bestTo ws v i).toNat [] = ws[(bestTo ws v i).toNat] := by rw [List.getD_eq_getElem?_getD, List.getElem?_eq_getElem hbn]; rfl
        by_cases hgt : ws[(bestTo ws v i).toNat].length < ws[i].length
        · have hb : bestTo ws v (i + 1) = i := by conv => lhs; unfold bestTo
                                                  rw [if_pos ⟨by rw [hgi]; exact hp, .inr (by rw [hgb, hgi]; exact hgt)⟩]
          simp -implicitDefEqProofs only [hlt, hle, htk, hneg, hbn, getD_map_lt, ↓reduceIte, List.length_map, hgt, go_sem]
          exact ⟨⟨by omega, by omega⟩, hir, i + 1, ⟨⟨hb, by simp⟩, .inr rfl⟩, hlt, by omega⟩
        · have hb : bestTo ws v (i + 1) = bestTo ws v i := by conv => lhs; unfold bestTo
                                                              rw [if_neg (fun e => e.2.elim hneg (fun e => hgt (by rw [hgb, hgi] at e; exact e)))]
          simp -implicitDefEqProofs only [hlt, hle, htk, hneg, hbn, getD_map_lt, ↓reduceIte, List.length_map, hgt, go_sem]
          exact ⟨⟨by omega, by omega⟩, hir, i + 1, ⟨⟨hb, by simp⟩, .inr rfl⟩, hlt, by omega⟩
  · have hil : i = ws.length := by omega
    rw [hil]
    change _ at hbl
    by_cases hneg : best ws v < 0
    · have hb := greedy_stop hneg
      unfold best at hneg
      simp -implicitDefEqProofs only [Nat.lt_irrefl, List.length_map, hneg, go_sem]
      rw [hb] at hL hv2
      rw [hL, hv2, List.append_nil]
      exact ⟨rfl, rfl⟩
    · have hb := greedy_step hn hneg
      have hbi := best_in (show 0 ≤ best ws v by omega)
      have hbp := best_pos hn (show 0 ≤ best ws v by omega)
      unfold bestW at hbp hb
      unfold best at hneg hbi hbp hb
      generalize bestTo ws v ws.length = bb at *
      simp -implicitDefEqProofs only [Nat.lt_irrefl, List.length_map, hneg, go_sem]
      simp -implicitDefEqProofs only [hbi, getD_map_lt, ↓reduceIte, List.length_map, go_sem]
      have hs1 : sizeOK [PV.int .i64 bb] 1 := by simp [sizeOK, PV.cells]
      have ho1 : oneOK [PV.int .i64 bb] := by simp [oneOK, PV.cells, PV.isAgg]
      have hgb : ws.getD bb.toNat [] = ws[bb.toNat] := by rw [List.getD_eq_getElem?_getD, List.getElem?_eq_getElem hbi]; rfl
      rw [hgb] at hbp hb
      rw [hb] at hL hv2
      refine ⟨⟨hs1, by omega⟩, ⟨hs1, ho1⟩, ⟨.inl (by omega), by omega, by omega⟩, ⟨by omega, by omega⟩, hbp.2, (L ++ [bb], v.drop ws[bb.toNat].length), ⟨⟨rfl, by simp⟩, .inr rfl, .inr ?_⟩, ⟨?_, hv2, ?_⟩, ?_⟩
      · rw [List.map_append]; rfl
      · rw [hL, List.append_assoc]; rfl
      · simp only [List.length_append, List.length_singleton, List.length_drop]; omega
      · simp only [List.length_drop]; omega

/-! ### State -/
def stN (q : Int) (P : List (List UInt8)) (N E : List (List Int)) (x : List UInt8) : Int := if parCheck q P N E = 0 then (if x ∈ P then ixW P x else 0) else 0
def stE (q : Int) (P : List (List UInt8)) (N E : List (List Int)) (x : List UInt8) : Int := if parCheck q P N E = 0 then (if x ∈ P then 0 else 6) else 1
theorem parCheck_ne {q : Int} {P : List (List UInt8)} {N E : List (List Int)} (h : ¬ parCheck q P N E = 0) : parCheck q P N E = 1 := by
  unfold parCheck at h ⊢
  split
  · rename_i hI; rw [if_pos hI] at h; exact absurd rfl h
  · rfl
theorem p22 (q : Int) (P : List (List UInt8)) (N E : List (List Int)) (x : List UInt8) (hP : P.length ≤ 64) (hPs : ∀ x ∈ P, x.length ≤ 1000) : PFn Try.prog 22 [psV q P N E, .str x] [.int .i64 (stN q P N E x), .int .i64 (stE q P N E x)] := by
  have e18 := p18 q P N E hP hPs
  have e60 := p60 P x (by omega)
  unfold psV at e18
  unfold stN stE
  by_cases h : parCheck q P N E = 0
  rotate_left
  · rw [if_neg h, if_neg h]
    rw [parCheck_ne h] at e18
    have h10 : ¬ (1 : Int) = 0 := by decide
    refine PFn.of_body hΓ Try.func22 (by kernel_rfl) rfl (AWp.of_awpD [] hΓ hmix (by kernel_rfl) ?_)
    simp -implicitDefEqProofs only [Try.ntmps22, Try.results22, Nat.reduceAdd, Nat.reduceSub, psV, go_sem]
    refine callK_fn e18 (.still rfl) ?_
    simp -implicitDefEqProofs only [h10, go_sem]
  rw [if_pos h, if_pos h]
  rw [h] at e18
  refine PFn.of_body hΓ Try.func22 (by kernel_rfl) rfl (AWp.of_awpD [] hΓ hmix (by kernel_rfl) ?_)
  simp -implicitDefEqProofs only [Try.ntmps22, Try.results22, Nat.reduceAdd, Nat.reduceSub, psV, go_sem]
  refine callK_fn e18 (.still rfl) ?_
  simp -implicitDefEqProofs only [go_sem]
  refine callK_fn e60 (.pures rfl) ?_
  by_cases hx : x ∈ P
  · have hge : ¬ ixW P x < 0 := by have := ixW_ge.2 hx; omega
    simp -implicitDefEqProofs only [hge, hx, if_true, go_sem]
  · have hlt : ixW P x < 0 := by rw [ixW_no hx]; decide
    simp -implicitDefEqProofs only [hlt, hx, if_false, go_sem]
theorem p33 (q : Int) (P : List (List UInt8)) (N E : List (List Int)) (x : List UInt8) (hP : P.length ≤ 64) (hEs : ∀ l ∈ E, l.length ≤ 1000) (hPs : ∀ x ∈ P, x.length ≤ 1000) : PFn Try.prog 33 [psV q P N E, .str x] [.int .i64 (stN q P N E x), .int .i64 (stE q P N E x)] := by
  have e18 := p19 q P N E hP hEs hPs
  have e60 := p67 P x (by omega)
  unfold psV at e18
  unfold stN stE
  by_cases h : parCheck q P N E = 0
  rotate_left
  · rw [if_neg h, if_neg h]
    rw [parCheck_ne h] at e18
    have h10 : ¬ (1 : Int) = 0 := by decide
    refine PFn.of_body hΓ Try.func33 (by kernel_rfl) rfl (AWp.of_awpD [] hΓ hmix (by kernel_rfl) ?_)
    simp -implicitDefEqProofs only [Try.ntmps33, Try.results33, Nat.reduceAdd, Nat.reduceSub, psV, go_sem]
    refine callK_fn e18 (.still rfl) ?_
    simp -implicitDefEqProofs only [h10, go_sem]
  rw [if_pos h, if_pos h]
  rw [h] at e18
  refine PFn.of_body hΓ Try.func33 (by kernel_rfl) rfl (AWp.of_awpD [] hΓ hmix (by kernel_rfl) ?_)
  simp -implicitDefEqProofs only [Try.ntmps33, Try.results33, Nat.reduceAdd, Nat.reduceSub, psV, go_sem]
  refine callK_fn e18 (.still rfl) ?_
  simp -implicitDefEqProofs only [go_sem]
  refine callK_fn e60 (.pures rfl) ?_
  by_cases hx : x ∈ P
  · have hge : ¬ ixW P x < 0 := by have := ixW_ge.2 hx; omega
    simp -implicitDefEqProofs only [hge, hx, if_true, go_sem]
  · have hlt : ixW P x < 0 := by rw [ixW_no hx]; decide
    simp -implicitDefEqProofs only [hlt, hx, if_false, go_sem]
end Go.Proofs.Ytolopbodgkmenaa
end

section
namespace Go.Proofs.Ytolopbodgkmenaa
open Go Go.AM
set_option maxRecDepth 100000
set_option linter.unusedSimpArgs false

theorem p65 (q : Int) (P : List (List UInt8)) (N E : List (List Int)) (w : List UInt8) (hP : P.length ≤ 64) (hEs : ∀ l ∈ E, l.length ≤ 1000) (hPs : ∀ x ∈ P, x.length ≤ 1000) :
    PFn Try.prog 65 [psV q P N E, .str w] [.int .i64 (posE q P N E w)] := by
  have e18 := p19 q P N E hP hEs hPs
  have e57 := t78 q w
  unfold psV at e18
  unfold posE
  by_cases h : parCheck q P N E = 0
  · rw [h] at e18
    rw [if_pos h]
    refine PFn.of_body hΓ Try.func65 (by kernel_rfl) rfl (AWp.of_awpD [] hΓ hmix (by kernel_rfl) ?_)
    simp -implicitDefEqProofs only [Try.ntmps65, Try.results65, Nat.reduceAdd, Nat.reduceSub, psV, go_sem]
    refine callK_fn e18 (.still rfl) ?_
    simp -implicitDefEqProofs only [go_sem]
    refine ⟨by omega, callK_fn e57 (.pures rfl) ?_⟩
    simp -implicitDefEqProofs only [go_sem]
  · rw [if_neg h]
    refine PFn.of_body hΓ Try.func65 (by kernel_rfl) rfl (AWp.of_awpD [] hΓ hmix (by kernel_rfl) ?_)
    simp -implicitDefEqProofs only [Try.ntmps65, Try.results65, Nat.reduceAdd, Nat.reduceSub, psV, go_sem]
    refine callK_fn e18 (.still rfl) ?_
    simp -implicitDefEqProofs only [h, go_sem]

theorem p66 (qn : Nat) (P : List (List UInt8)) (N E : List (List Int)) (hT : Tbl qn N E) (s0 : Nat) (hs0 : s0 < N.length) (w : List UInt8) (hw : okW qn w = true) (hwl : w.length ≤ 100000) :
    PFn Try.prog 66 [psV qn P N E, .int .i64 s0, .str w] [slI (outs (trail N E s0 w)), .int .i64 (endS s0 (trail N E s0 w)), .int .i64 (trail N E s0 w).length] := by
  have hq0 : 0 < qn ∨ w = [] := by
    cases w with
    | nil => exact .inr rfl
    | cons c w => have := dig_of hw c (by simp); exact .inl (by omega)
  have htl := trail_len N E w s0
  refine PFn.of_body hΓ Try.func66 (by kernel_rfl) rfl (AWp.seq (AWp.of_awpD [] hΓ hmix (by kernel_rfl) ?_))
  simp -implicitDefEqProofs only [Try.ntmps66, Try.results66, Nat.reduceAdd, Nat.reduceSub, psV, go_sem]
  refine AWp.seq (AWp.of_awpD [] hΓ hmix (by kernel_rfl) ?_)
  simp -implicitDefEqProofs only [go_sem]
  refine ⟨⟨by simp [sizeOK], by omega⟩, ?_⟩
  refine AWp.adopt (l := []) 9 3 1 rfl (by simp) ?_
  simp -implicitDefEqProofs only [List.set_cons_zero, List.set_cons_succ, go_sem]
  refine AWp.of_awpD [] hΓ hmix (by kernel_rfl) ?_
  simp -implicitDefEqProofs only [go_sem]
  refine AWp.loopI (fun i : Nat => ⟨mkF 67 [(1, .p (.int .i64 (endS s0 ((trail N E s0 w).take i)))), (2, .p (.str w)), (3, .ptr 0 0), (9, .own 1 (outs ((trail N E s0 w).take i)).length), (10, .p (.int .i64 i))], [psB qn P N E, .row 3 1 ((outs ((trail N E s0 w).take i)).map (.int .i64)) .lax]⟩)
    (fun i => i ≤ w.length ∧ i ≤ (trail N E s0 w).length) (fun i => w.length - i) 0 (by simp [go_sem, psB, outs, endS]) (by simp) ?_
  rintro i ⟨hi, hit⟩
  simp -implicitDefEqProofs only [psB, go_sem]
  refine AWp.of_awpD [] hΓ hmix (by kernel_rfl) ?_
  by_cases hlt : i < w.length
  · have hdw := dig_of hw w[i] (List.getElem_mem hlt)
    have hq : 0 < qn := hq0.elim id fun e => by rw [e] at hlt; simp at hlt
    have hsl := endS_lt hT hq w s0 i (fun c hc => by have := dig_of hw c hc; unfold digN; omega) hs0
    have hstop := trail_stop (N := N) (E := E) (s := s0) hlt hit
    have hnext := trail_next (N := N) (E := E) (s := s0) hlt hit
    have e88 := t99 w[i]
    have hwd : w.getD i 0 = w[i] := by rw [List.getD_eq_getElem?_getD, List.getElem?_eq_getElem hlt]; rfl
    rw [show ixB w[i] L16 0 = (digN w[i] : Int) by unfold digN; omega, ← hwd] at e88
    have hdq : digN w[i] < qn := by unfold digN; omega
    simp -implicitDefEqProofs only [hlt, go_sem]
    refine callK_fn e88 (.pures rfl) ?_
    rw [hwd]
    have hol := outs_len ((trail N E s0 w).take i)
    rw [List.length_take] at hol
    have houts : ∀ (h : i < (trail N E s0 w).length) (e : Int) (n : Nat), (trail N E s0 w)[i] = (e, n) → (trail N E s0 w).take (i + 1) = (trail N E s0 w).take i ++ [(e, n)] := fun h e n he => by rw [List.take_succ_eq_append_getElem h, he]
    generalize hs : endS s0 ((trail N E s0 w).take i) = s at *
    generalize digN w[i] = d at *
    have hsE : s < E.length := by have := hT.len; omega
    have hdN : d < N[s].length := by rw [hT.rowN _ (List.getElem_mem hsl)]; exact hdq
    have hdE : d < E[s].length := by rw [hT.rowE _ (List.getElem_mem hsE)]; exact hdq
    rw [stp_at hsl hdN] at hstop hnext
    rw [stp_at hsE hdE] at hnext
    by_cases hneg : N[s][d] < 0
    · have htk : (trail N E s0 w).take i = trail N E s0 w := List.take_of_length_le (by rw [hstop hneg]; omega)
      have hsi := hstop hneg
      simp -implicitDefEqProofs only [hsl, hdN, getD_map_lt, ↓reduceIte, List.length_map, slI, hneg, go_sem]
      rw [htk] at hs
      rw [htk]
      exact ⟨rfl, hs.symm, hsi.symm⟩
    · obtain ⟨ht1, ht2⟩ := hnext hneg
      have hnx := hT.next _ (List.getElem_mem hsl) _ (List.getElem_mem hdN)
      obtain ⟨n, hn⟩ := Int.eq_ofNat_of_zero_le (show 0 ≤ N[s][d] by omega)
      rw [hn, Int.toNat_natCast] at ht2
      have ht3 := houts ht1 _ _ ht2
      have hir : InR IntKind.i64 ((i : Int) + 1) := by simp only [InR]; omega
      by_cases hp : 0 ≤ E[s][d]
      · have ho := outs_yes (d := (trail N E s0 w).take i) n hp
        rw [← ht3] at ho
        simp -implicitDefEqProofs only [hsl, hsE, hdN, hdE, getD_map_lt, ↓reduceIte, List.length_map, slI, hn, hp, show ¬ (n : Int) < 0 by omega, go_sem]
        have hs1 : sizeOK [PV.int .i64 E[s][d]] 1 := by simp [sizeOK, PV.cells]
        have ho1 : oneOK [PV.int .i64 E[s][d]] := by simp [oneOK, PV.cells, PV.isAgg]
        refine ⟨⟨hs1, by omega⟩, ⟨hs1, ho1⟩, ⟨.inl (by omega), by omega, by omega⟩, hir, i + 1, ⟨⟨by rw [ht3, endS_snoc], by rw [ho]; simp, by simp⟩, .inr rfl, .inr ?_⟩, ⟨hlt, ht1⟩, by omega⟩
        rw [ho, List.map_append]; rfl
      · have ho := outs_no (d := (trail N E s0 w).take i) n hp
        rw [← ht3] at ho
        simp -implicitDefEqProofs only [hsl, hsE, hdN, hdE, getD_map_lt, ↓reduceIte, List.length_map, slI, hn, hp, show ¬ (n : Int) < 0 by omega, go_sem]
        exact ⟨hir, i + 1, ⟨⟨by rw [ht3, endS_snoc], by rw [ho], by simp⟩, .inr rfl, by rw [ho]⟩, ⟨hlt, ht1⟩, by omega⟩
  · have hil : i = w.length := by omega
    have htk : (trail N E s0 w).take i = trail N E s0 w := List.take_of_length_le (by omega)
    rw [htk]
    simp -implicitDefEqProofs only [hlt, go_sem]
    exact ⟨rfl, by omega⟩

theorem p32 (q : Int) (P : List (List UInt8)) (N E : List (List Int)) (w : List UInt8) (hP : P.length ≤ 64) (hEs : ∀ l ∈ E, l.length ≤ 1000) (hPs : ∀ x ∈ P, x.length ≤ 1000) :
    PFn Try.prog 32 [psV q P N E, .str w] [.int .i64 (if posE q P N E w = 0 then (trail N E 0 w).length else 0), .int .i64 (posE q P N E w)] := by
  have e65 := p65 q P N E w hP hEs hPs
  unfold psV at e65
  by_cases h : posE q P N E w = 0
  rotate_left
  · rw [if_neg h]
    generalize posE q P N E w = ee at *
    refine PFn.of_body hΓ Try.func32 (by kernel_rfl) rfl (AWp.of_awpD [] hΓ hmix (by kernel_rfl) ?_)
    simp -implicitDefEqProofs only [Try.ntmps32, Try.results32, Nat.reduceAdd, Nat.reduceSub, psV, go_sem]
    refine callK_fn e65 (.still rfl) ?_
    simp -implicitDefEqProofs only [h, go_sem]
  obtain ⟨hI, hokw, hwl⟩ := pos_facts h
  obtain ⟨hT, hN0⟩ := hI.tbl
  have hf := hI.facts
  rw [h, if_pos rfl]
  rw [h] at e65
  obtain ⟨qn, rfl⟩ := Int.eq_ofNat_of_zero_le (show 0 ≤ q by omega)
  rw [Int.toNat_natCast] at hT
  have e66 := p66 qn P N E hT 0 hN0 w hokw (by omega)
  unfold psV at e66
  refine PFn.of_body hΓ Try.func32 (by kernel_rfl) rfl (AWp.of_awpD [] hΓ hmix (by kernel_rfl) ?_)
  simp -implicitDefEqProofs only [Try.ntmps32, Try.results32, Nat.reduceAdd, Nat.reduceSub, psV, go_sem]
  refine callK_fn e65 (.still rfl) ?_
  simp -implicitDefEqProofs only [go_sem]
  refine callK_fn e66 (.still rfl) ?_
  simp -implicitDefEqProofs only [go_sem]

theorem p30 (q : Int) (P : List (List UInt8)) (N E : List (List Int)) (s : Int) (w : List UInt8) (hP : P.length ≤ 64) (hEs : ∀ l ∈ E, l.length ≤ 1000) (hPs : ∀ x ∈ P, x.length ≤ 1000) :
    PFn Try.prog 30 [psV q P N E, .int .i64 s, .str w] [slI (runL q P N E s w), .int .i64 (runS q P N E s w), .int .i64 (runE' q P N E s w)] := by
  have e65 := p65 q P N E w hP hEs hPs
  unfold psV at e65
  by_cases h : posE q P N E w = 0
  rotate_left
  · have e0 : runE' q P N E s w = posE q P N E w := by unfold runE'; rw [if_neg h]
    have e1 : runL q P N E s w = [] := by unfold runL; rw [e0, if_neg h]
    have e2 : runS q P N E s w = 0 := by unfold runS; rw [e0, if_neg h]
    rw [e0, e1, e2]
    generalize posE q P N E w = ee at *
    refine PFn.of_body hΓ Try.func30 (by kernel_rfl) rfl (AWp.of_awpD [] hΓ hmix (by kernel_rfl) ?_)
    simp -implicitDefEqProofs only [Try.ntmps30, Try.results30, Nat.reduceAdd, Nat.reduceSub, psV, go_sem]
    refine callK_fn e65 (.still rfl) ?_
    simp -implicitDefEqProofs only [h, slI, List.map_nil, go_sem]
  obtain ⟨hI, hokw, hwl⟩ := pos_facts h
  obtain ⟨hT, hN0⟩ := hI.tbl
  have hf := hI.facts
  have hPN := hf.2.2.1
  rw [h] at e65
  by_cases hs : s < 0 ∨ (P.length : Int) ≤ s
  · have e0 : runE' q P N E s w = 25 := by unfold runE'; rw [if_pos h, if_pos hs]
    have e1 : runL q P N E s w = [] := by unfold runL; rw [e0, if_neg (by decide)]
    have e2 : runS q P N E s w = 0 := by unfold runS; rw [e0, if_neg (by decide)]
    rw [e0, e1, e2]
    refine PFn.of_body hΓ Try.func30 (by kernel_rfl) rfl (AWp.of_awpD [] hΓ hmix (by kernel_rfl) ?_)
    by_cases hs1 : s < 0
    · simp -implicitDefEqProofs only [Try.ntmps30, Try.results30, Nat.reduceAdd, Nat.reduceSub, psV, go_sem]
      refine callK_fn e65 (.still rfl) ?_
      simp -implicitDefEqProofs only [hs1, slI, List.map_nil, go_sem]
    · have hs2 : (N.length : Int) ≤ s := by have := hs.resolve_left hs1; omega
      simp -implicitDefEqProofs only [Try.ntmps30, Try.results30, Nat.reduceAdd, Nat.reduceSub, psV, go_sem]
      refine callK_fn e65 (.still rfl) ?_
      simp -implicitDefEqProofs only [hs1, hs2, slI, List.map_nil, List.length_map, go_sem]
  have hs1 : ¬ s < 0 := fun e => hs (.inl e)
  have hs2 : ¬ (N.length : Int) ≤ s := fun e => hs (.inr (by omega))
  obtain ⟨sn, rfl⟩ := Int.eq_ofNat_of_zero_le (show 0 ≤ s by omega)
  obtain ⟨qn, rfl⟩ := Int.eq_ofNat_of_zero_le (show 0 ≤ q by omega)
  rw [Int.toNat_natCast] at hT
  have hsN : sn < N.length := by omega
  have e66 := p66 qn P N E hT sn hsN w hokw (by omega)
  unfold psV slI at e66
  have e0 : runE' qn P N E sn w = if (trail N E sn w).length < w.length then 13 else 0 := by unfold runE'; rw [if_pos h, if_neg hs, Int.toNat_natCast]
  unfold runL runS
  rw [e0, Int.toNat_natCast]
  refine PFn.of_body hΓ Try.func30 (by kernel_rfl) rfl (AWp.of_awpD [] hΓ hmix (by kernel_rfl) ?_)
  simp -implicitDefEqProofs only [Try.ntmps30, Try.results30, Nat.reduceAdd, Nat.reduceSub, psV, go_sem]
  refine callK_fn e65 (.still rfl) ?_
  simp -implicitDefEqProofs only [hs1, hs2, List.length_map, go_sem]
  refine callK_fn e66 (.still rfl) ?_
  by_cases hfin : (trail N E sn w).length < w.length
  · have hfin' : ((trail N E sn w).length : Int) < w.length := by omega
    rw [if_pos hfin]
    simp -implicitDefEqProofs only [hfin, hfin', slI, go_sem]
    exact ⟨rfl, rfl⟩
  · rw [if_neg hfin]
    simp -implicitDefEqProofs only [hfin, slI, go_sem]

def longS (w : List UInt8) : Bool := (decide (40 < w.length) && decide (w.length ≤ 65536)) || decide (65544 < w.length)
theorem p28 (w : List UInt8) : PFn Try.prog 28 [.str w, .int .i64 40] [.bool (longS w)] := by
  refine PFn.of_body hΓ Try.func28 (by kernel_rfl) rfl (AWp.of_awpD [] hΓ hmix (by kernel_rfl) ?_)
  by_cases h1 : 40 < w.length
  · have h1' : (40 : Int) < w.length := by omega
    by_cases h2 : w.length ≤ 65536
    · have h2' : (w.length : Int) ≤ 65536 := by omega
      simp -implicitDefEqProofs only [Try.ntmps28, Try.results28, Nat.reduceAdd, Nat.reduceSub, h1', h2', go_sem]
      simp [longS, h1, h2]
    · have h2' : ¬ (w.length : Int) ≤ 65536 := by omega
      by_cases h3 : 65544 < w.length
      · have h3' : (65544 : Int) < w.length := by omega
        simp -implicitDefEqProofs only [Try.ntmps28, Try.results28, Nat.reduceAdd, Nat.reduceSub, h1', h2', h3', go_sem]
        simp [longS, h3]
      · have h3' : ¬ (65544 : Int) < w.length := by omega
        simp -implicitDefEqProofs only [Try.ntmps28, Try.results28, Nat.reduceAdd, Nat.reduceSub, h1', h2', h3', go_sem]
        simp [longS, h2, h3]
  · have h1' : ¬ (40 : Int) < w.length := by omega
    have h3' : ¬ (65544 : Int) < w.length := by omega
    have h3 : ¬ 65544 < w.length := by omega
    simp -implicitDefEqProofs only [Try.ntmps28, Try.results28, Nat.reduceAdd, Nat.reduceSub, h1', h3', go_sem]
    simp [longS, h1, h3]
end Go.Proofs.Ytolopbodgkmenaa
end

section
namespace Go.Proofs.Ytolopbodgkmenaa
open Go Go.AM
set_option maxRecDepth 100000
set_option linter.unusedSimpArgs false

theorem wordCheck_len {q : Int} {w : List UInt8} (h : wordCheck q w = 0) : w.length ≤ 65536 := (word_ok h).2
theorem outs_trail_len (N E : List (List Int)) (s : Nat) (w : List UInt8) : (outs (trail N E s w)).length ≤ w.length := by
  have h1 := outs_len (trail N E s w)
  have h2 := trail_len N E w s
  omega
theorem runL_len (q : Int) (P : List (List UInt8)) (N E : List (List Int)) (s : Int) (w : List UInt8) : (runL q P N E s w).length ≤ 65536 := by
  unfold runL
  split
  · rename_i h
    have hp : posE q P N E w = 0 := by
      unfold runE' at h
      split at h
      · assumption
      · contradiction
    have := (pos_facts hp).2.2
    have := outs_trail_len N E s.toNat w
    omega
  · simp
theorem gL_len (q : Int) (ws : List (List UInt8)) (w : List UInt8) : (gL q ws w).length ≤ 65536 := by
  unfold gL
  split
  · rename_i h
    unfold gE at h
    split at h
    · rename_i hc
      have := wordCheck_len h
      have := greedy_len (valid_of hc).ne' w.length w (by omega)
      omega
    · omega
  · simp

theorem p5 (q : Int) (ws : List (List UInt8)) (r : Int) (P : List (List UInt8)) (N E : List (List Int)) (s : Int) (w x : List UInt8) (hws : ws.length ≤ 9223372036854775807) :
    PFn Try.prog 5 [codeV q ws, psV r P N E, .int .i64 s, .str w, .str x] [.bool true] := by
  have e9 := t11 q ws hws
  have e10 := p10 r P N E
  have e28 := p28 w
  refine PFn.of_body hΓ Try.func5 (by kernel_rfl) rfl (AWp.seq (AWp.of_awpD [] hΓ hmix (by kernel_rfl) ?_))
  simp -implicitDefEqProofs only [Try.ntmps5, Try.results5, Nat.reduceAdd, Nat.reduceSub, codeV, psV, go_sem]
  refine AWp.seq (AWp.seq (AWp.of_awpD [] hΓ hmix (by kernel_rfl) ?_))
  simp -implicitDefEqProofs only [go_sem]
  refine callK_fn e9 (.still rfl) ?_
  cases hg : (greatC ws || ws.any greatW)
  rotate_left
  · simp -implicitDefEqProofs only [go_sem]
    refine AWp.of_awpD [] hΓ hmix (by kernel_rfl) ?_
    simp -implicitDefEqProofs only [go_sem]
    refine callK_fn awake_ok (.pures rfl) ?_
    simp -implicitDefEqProofs only [go_sem]
  unfold psV at e10
  simp -implicitDefEqProofs only [go_sem]
  refine callK_fn e10 (.still rfl) ?_
  cases hg2 : greatP P N E
  rotate_left
  · simp -implicitDefEqProofs only [go_sem]
    refine AWp.of_awpD [] hΓ hmix (by kernel_rfl) ?_
    simp -implicitDefEqProofs only [go_sem]
    refine callK_fn awake_ok (.pures rfl) ?_
    simp -implicitDefEqProofs only [go_sem]
  simp -implicitDefEqProofs only [go_sem]
  refine callK_fn e28 (.pures rfl) ?_
  cases hg3 : longS w
  rotate_left
  · simp -implicitDefEqProofs only [go_sem]
    refine AWp.of_awpD [] hΓ hmix (by kernel_rfl) ?_
    simp -implicitDefEqProofs only [go_sem]
    refine callK_fn awake_ok (.pures rfl) ?_
    simp -implicitDefEqProofs only [go_sem]
  by_cases hx : 40 < x.length
  · have hx' : (40 : Int) < x.length := by omega
    simp -implicitDefEqProofs only [hx', go_sem]
    refine AWp.of_awpD [] hΓ hmix (by kernel_rfl) ?_
    simp -implicitDefEqProofs only [go_sem]
    refine callK_fn awake_ok (.pures rfl) ?_
    simp -implicitDefEqProofs only [go_sem]
  have hx' : ¬ (40 : Int) < x.length := by omega
  obtain ⟨g1, g2, g3, g4, g5, g6⟩ := great_facts hg2
  have g4' : ∀ l ∈ P, l.length ≤ 1000 := fun l hl => by have := g4 l hl; omega
  have g6' : ∀ l ∈ E, l.length ≤ 1000 := fun l hl => by have := g6 l hl; omega
  have e29 := p29 r P N E s w (by omega) g4'
  have e30 := p30 r P N E s w (by omega) g6' g4'
  have e31 := p31 r P N E w (by omega) g4'
  have e32 := p32 r P N E w (by omega) g6' g4'
  have e22 := p22 r P N E x (by omega) g4'
  have e33 := p33 r P N E x (by omega) g6' g4'
  have e34 := p34 q ws w
  have e35 := p35 q ws w
  have h36 := p36 (runL r P N E s w) (runL r P N E s w) (by have := runL_len r P N E s w; omega)
  have h36' := p36 (gL q ws w) (gL q ws w) (by have := gL_len q ws w; omega)
  rw [decide_eq_true rfl] at h36 h36'
  unfold slI at e29 e30 e34 e35 h36 h36'
  unfold psV at e29 e30 e31 e32 e22 e33
  unfold codeV at e34 e35
  generalize runL r P N E s w = x1 at *
  generalize runS r P N E s w = x2 at *
  generalize runE' r P N E s w = x3 at *
  generalize (if posE r P N E w = 0 then ((trail N E 0 w).length : Int) else 0) = x4 at *
  generalize posE r P N E w = x5 at *
  generalize stN r P N E x = x6 at *
  generalize stE r P N E x = x7 at *
  generalize gL q ws w = x8 at *
  generalize gR q ws w = x9 at *
  generalize gE q ws w = x10 at *
  simp -implicitDefEqProofs only [hx', go_sem]
  refine AWp.of_awpD [] hΓ hmix (by kernel_rfl) ?_
  simp -implicitDefEqProofs only [go_sem]
  refine AWp.of_awpD [] hΓ hmix (by kernel_rfl) ?_
  simp -implicitDefEqProofs only [go_sem]
  refine callK_fn e29 (.still rfl) ?_
  simp -implicitDefEqProofs only [go_sem]
  refine callK_fn e30 (.still rfl) ?_
  simp -implicitDefEqProofs only [go_sem]
  refine callK_fn e31 (.still rfl) ?_
  simp -implicitDefEqProofs only [go_sem]
  refine callK_fn e32 (.still rfl) ?_
  simp -implicitDefEqProofs only [go_sem]

  refine callK_fn e22 (.still rfl) ?_
  simp -implicitDefEqProofs only [go_sem]
  refine callK_fn e33 (.still rfl) ?_
  simp -implicitDefEqProofs only [go_sem]
  refine callK_fn e34 (.still rfl) ?_
  simp -implicitDefEqProofs only [go_sem]
  refine callK_fn e35 (.still rfl) ?_
  simp -implicitDefEqProofs only [go_sem]
  refine callK_fn h36 (.still rfl) ?_
  simp -implicitDefEqProofs only [go_sem]
  refine callK_fn h36' (.still rfl) ?_
  simp -implicitDefEqProofs only [go_sem]
  refine callK_fn awake_ok (.pures rfl) ?_
  simp -implicitDefEqProofs only [go_sem]
end Go.Proofs.Ytolopbodgkmenaa
end

section
namespace Go.Proofs.Ytolopbodgkmenaa
open Go Go.AM
set_option maxRecDepth 100000
set_option linter.unusedSimpArgs false

/-! ### Plain facts of the parser of a code -/
theorem parCheck_par {q : Int} {ws : List (List UInt8)} (hc : codeCheck q ws = 0) (hp : preB ws = true) : parCheck q (prefs ws) (nxP q ws) (emP q ws) = 0 := by
  unfold parCheck; rw [if_pos (isPar_of hc hp)]
theorem small_of {q : Int} {ws : List (List UInt8)} (hv : Valid q ws) (hg : (greatC ws || ws.any greatW) = false) : ws.length ≤ 8 ∧ ∀ w ∈ ws, w.length ≤ 8 := by
  have h64 := hv.len
  simp only [Bool.or_eq_false_iff, greatC, List.any_eq_false, decide_eq_false_iff_not, Bool.and_eq_false_iff] at hg
  refine ⟨by omega, fun w hw => ?_⟩
  have h1 := hg.2 w hw
  have h2 := (hv.words w hw).2.1
  simp only [greatW, Bool.or_eq_true, Bool.and_eq_true, decide_eq_true_eq] at h1
  omega
theorem prefs_small {q : Int} {ws : List (List UInt8)} (hv : Valid q ws) (hg : (greatC ws || ws.any greatW) = false) : (prefs ws).length ≤ 64 ∧ ∀ x ∈ prefs ws, x.length ≤ 8 := by
  obtain ⟨h1, h2⟩ := small_of hv hg
  refine ⟨?_, fun x hx => ?_⟩
  · have h3 := made_le (propers ws)
    have h4 := propers_len h2
    have : ws.length * 8 ≤ 8 * 8 := Nat.mul_le_mul_right _ h1
    unfold prefs; omega
  · obtain ⟨w, hw, _, h3⟩ := mem_prefs.1 hx
    have := h2 w hw
    omega
theorem preB_out {ws : List (List UInt8)} (hp : preB ws = true) {w : List UInt8} (hw : w ∈ ws) : w ∉ prefs ws := fun h => by
  obtain ⟨v, hv, h1, h2⟩ := mem_prefs.1 h
  obtain ⟨i, hi, rfl⟩ := List.getElem_of_mem hv
  obtain ⟨k, hk, rfl⟩ := List.getElem_of_mem hw
  have ei : ws.getD i [] = ws[i] := by rw [List.getD_eq_getElem?_getD, List.getElem?_eq_getElem hi]; rfl
  have ek : ws.getD k [] = ws[k] := by rw [List.getD_eq_getElem?_getD, List.getElem?_eq_getElem hk]; rfl
  have := alone_bad (pr := fun w x => x.isPrefixOf w) hi hk (fun e => by subst e; omega) (by rw [ei, ek]; exact List.isPrefixOf_iff_prefix.2 h1)
  unfold preB at hp
  rw [this] at hp
  cases hp
theorem prefs_head {q : Int} {ws : List (List UInt8)} (hv : Valid q ws) : ∃ h : 0 < (prefs ws).length, (prefs ws)[0] = [] := by
  have hne : [] ∈ prefs ws := by
    have h0 := hv.pos
    have := hv.ne' ws[0] (List.getElem_mem h0)
    exact mem_prefs.2 ⟨ws[0], List.getElem_mem h0, List.nil_prefix, List.length_pos_iff.2 this⟩
  have hs := prefs_strict ws
  cases hP : prefs ws with
  | nil => rw [hP] at hne; cases hne
  | cons x l =>
    refine ⟨by simp, ?_⟩
    rw [hP] at hne hs
    rcases List.mem_cons.1 hne with h | h
    · exact h.symm
    · rcases (List.pairwise_cons.1 hs).1 _ h with g | ⟨g, _⟩
      · simp at g
      · exact List.length_eq_zero_iff.1 g
theorem longer_any {ws : List (List UInt8)} {x : List UInt8} (h : x ∈ prefs ws) : (ws.any fun w => decide (x.length < w.length) && x.isPrefixOf w) = true := by
  obtain ⟨w, hw, h1, h2⟩ := mem_prefs.1 h
  exact List.any_eq_true.2 ⟨w, hw, by simp [h2, h1]⟩
theorem less_no {P : List (List UInt8)} (hs : P.Pairwise ltW) {i : Nat} (hi : i + 1 < P.length) : decide (cmpW P[i + 1] P[i] < 0) = false := by
  rw [decide_eq_false_iff_not, ltW_iff]
  intro h
  exact ltW_irrefl _ (ltW_trans h (List.pairwise_iff_getElem.1 hs i (i + 1) (by omega) hi (by omega)))
theorem stN_at {q : Int} {P : List (List UInt8)} {N E : List (List Int)} (h : parCheck q P N E = 0) (hd : P.Nodup) {i : Nat} (hi : i < P.length) : stN q P N E P[i] = i ∧ stE q P N E P[i] = 0 := by
  unfold stN stE
  rw [if_pos h, if_pos h, if_pos (List.getElem_mem hi), if_pos (List.getElem_mem hi), ixW_in (List.getElem_mem hi), ixN_nodup hd hi]
  exact ⟨rfl, rfl⟩
theorem stE_no {q : Int} {P : List (List UInt8)} {N E : List (List Int)} (h : parCheck q P N E = 0) {x : List UInt8} (hx : x ∉ P) : stE q P N E x = 6 := by
  unfold stE
  rw [if_pos h, if_neg hx]

/-! ### The code -/
def prB (q : Int) (ws : List (List UInt8)) : Bool := !(greatC ws || ws.any greatW) && (decide (codeCheck q ws = 0) && preB ws)
theorem p21 (q : Int) (ws : List (List UInt8)) (hws : ws.length ≤ 9223372036854775807) : PFn Try.prog 21 [codeV q ws] [.bool (prB q ws)] := by
  have e9 := t11 q ws hws
  have e20 := t45 q ws
  have e59 := t38 q ws
  refine PFn.of_body hΓ Try.func21 (by kernel_rfl) rfl (AWp.of_awpD [] hΓ hmix (by kernel_rfl) ?_)
  simp -implicitDefEqProofs only [Try.ntmps21, Try.results21, Nat.reduceAdd, Nat.reduceSub, codeV, go_sem]
  refine callK_fn e9 (.still rfl) ?_
  unfold prB
  cases hg : (greatC ws || ws.any greatW)
  rotate_left
  · simp -implicitDefEqProofs only [go_sem]
    rfl
  simp -implicitDefEqProofs only [go_sem]
  refine callK_fn e20 (.still rfl) ?_
  by_cases hc : codeCheck q ws = 0
  rotate_left
  · simp -implicitDefEqProofs only [hc, go_sem]
    rfl
  have h0 : ¬ (ws.length : Int) = 0 := by have := (valid_of hc).pos; omega
  rw [hc]
  rw [if_pos hc, if_pos hc] at e59
  simp -implicitDefEqProofs only [h0, List.length_map, go_sem]
  refine callK_fn e59 (.still rfl) ?_
  simp -implicitDefEqProofs only [go_sem]
  rfl
theorem p27 (ws : List (List UInt8)) (x : List UInt8) (hl : ws.length ≤ 1000000) : PFn Try.prog 27 [.sl (ws.map .str), .str x] [.bool (decide (x ∈ ws))] := by
  refine PFn.of_body hΓ Try.func27 (by kernel_rfl) rfl (AWp.of_awpD [] hΓ hmix (by kernel_rfl) ?_)
  simp +contextual -implicitDefEqProofs only [Try.ntmps27, Try.results27, Nat.reduceAdd, Nat.reduceSub, go_sem]
  refine callK_fn (p60 ws x hl) (.pures rfl) ?_
  simp -implicitDefEqProofs only [go_sem]
  rw [decide_eq_decide]; exact ixW_ge
theorem p26 (w x : List UInt8) : PFn Try.prog 26 [.str w, .str x] [.bool (x.isPrefixOf w)] := t69 w x
theorem c61 {h : List AObj} {g : FuncId} {caps : List AV} {pr : List UInt8 → Bool} (ws : List (List UInt8)) (hl : ws.length ≤ 9223372036854775807)
    (hg : ∀ w ∈ ws, AC Try.prog g (.p (.str w) :: caps) h [] (fun v h' => v = .p (.bool (pr w)) ∧ h' = h)) :
    AC Try.prog 61 [.p (.sl (ws.map .str)), .fn g caps] h [] (fun v h' => (∃ i : Int, v = .p (.int .i64 i) ∧ decide (0 ≤ i) = ws.any pr) ∧ h' = h) := by
  refine AC.of_bodyE hΓ Try.func61 (by kernel_rfl) rfl (AWp.mono (Q := fun e st => AM.Ends e ∧ (∃ i : Int, st.tmps.getD 4 .junk = .p (.int .i64 i) ∧ decide (0 ≤ i) = ws.any pr) ∧ st.h = h) ?_ ?_)
  rotate_left
  · rintro e ⟨tm, h'⟩ ⟨he, ⟨i, h1, h3⟩, h2⟩
    simp only at h1 h2
    subst h2
    refine ⟨he, _, Less.refl _, ?_⟩
    unfold DoneE
    simp +contextual -implicitDefEqProofs only [Try.results61, h1, go_sem]
    exact ⟨_, Nat.le_refl _, .inl rfl, ⟨i, rfl, h3⟩, List.take_length⟩
  refine AWp.of_awpD [] hΓ hmix (by kernel_rfl) ?_
  simp +contextual -implicitDefEqProofs only [Try.ntmps61, Nat.reduceAdd, Nat.reduceSub, go_sem]
  refine AWp.loopI (fun k : Nat => ⟨mkF 19 [(0, .p (.sl (ws.map .str))), (1, .fn g caps), (7, .p (.int .i64 ws.length)), (8, .p (.int .i64 k))], h⟩)
    (fun k => k ≤ ws.length ∧ (ws.take k).any pr = false) (fun k => ws.length - k) 0 (by simp [go_sem, weakH_self]) (by simp) ?_
  rintro k ⟨hk, h0⟩
  refine AWp.of_awpD [] hΓ hmix (by kernel_rfl) ?_
  simp +contextual -implicitDefEqProofs only [getD_map_lt, ↓reduceIte, go_sem]
  refine ⟨fun hlt => ?_, fun hge => ⟨-1, rfl, by rw [List.take_of_length_le (by omega)] at h0; rw [h0]; rfl⟩⟩
  refine callK_ac (hg ws[k] (List.getElem_mem hlt)) (by simp) ?_
  rintro v h' ⟨rfl, rfl⟩
  cases hp : pr ws[k]
  · simp -implicitDefEqProofs only [killAll, List.foldl, go_sem]
    refine ⟨by simp only [InR]; omega, k + 1, by simp [weakH_self], ⟨hlt, ?_⟩, by omega⟩
    rw [List.take_succ_eq_append_getElem hlt, List.any_append, h0]; simp [hp]
  · simp -implicitDefEqProofs only [killAll, List.foldl, go_sem]
    refine ⟨k, rfl, ?_⟩
    rw [List.any_eq_true.2 ⟨_, List.getElem_mem hlt, hp⟩]; simp

theorem c24 {h : List AObj} {g : FuncId} {caps : List AV} {pr : List UInt8 → Bool} (ws : List (List UInt8)) (hl : ws.length ≤ 9223372036854775807)
    (hg : ∀ w ∈ ws, AC Try.prog g (.p (.str w) :: caps) h [] (fun v h' => v = .p (.bool (pr w)) ∧ h' = h)) :
    AC Try.prog 24 [.p (.sl (ws.map .str)), .fn g caps] h [] (fun v h' => v = .p (.bool (ws.any pr)) ∧ h' = h) := by
  refine AC.of_bodyE hΓ Try.func24 (by kernel_rfl) rfl (AWp.mono (Q := fun e st => AM.Ends e ∧ st.tmps.getD 4 .junk = .p (.bool (ws.any pr)) ∧ st.h = h) ?_ ?_)
  rotate_left
  · rintro e ⟨tm, h'⟩ ⟨he, h1, h2⟩
    simp only at h1 h2
    subst h2
    refine ⟨he, _, Less.refl _, ?_⟩
    unfold DoneE
    simp +contextual -implicitDefEqProofs only [Try.results24, h1, go_sem]
    exact ⟨_, Nat.le_refl _, .inl rfl, List.take_length⟩
  refine AWp.of_awpD [] hΓ hmix (by kernel_rfl) ?_
  simp +contextual -implicitDefEqProofs only [Try.ntmps24, Nat.reduceAdd, Nat.reduceSub, go_sem]
  refine callK_ac (c61 ws hl hg) (by simp) ?_
  rintro v h' ⟨⟨i, rfl, hi⟩, rfl⟩
  simp -implicitDefEqProofs only [killAll, List.foldl, go_sem]
  exact hi

theorem c25 {h : List AObj} {b : Nat} (x w : List UInt8) (hb : h[b]? = some (.box [.p (.str x)])) :
    AC Try.prog 25 [.p (.str w), .ptr b 0] h [] (fun v h' => v = .p (.bool (decide (x.length < w.length) && x.isPrefixOf w)) ∧ h' = h) := by
  refine AC.of_bodyE hΓ Try.func25 (by kernel_rfl) rfl (AWp.mono (Q := fun e st => AM.Ends e ∧ st.tmps.getD 3 .junk = .p (.bool (decide (x.length < w.length) && x.isPrefixOf w)) ∧ st.h = h) ?_ ?_)
  rotate_left
  · rintro e ⟨tm, h'⟩ ⟨he, h1, h2⟩
    simp only at h1 h2
    subst h2
    refine ⟨he, _, Less.refl _, ?_⟩
    unfold DoneE
    simp +contextual -implicitDefEqProofs only [Try.results25, h1, go_sem]
    exact ⟨_, Nat.le_refl _, .inl rfl, List.take_length⟩
  refine AWp.of_awpD [] hΓ hmix (by kernel_rfl) ?_
  by_cases hl : x.length < w.length
  · have hl' : (x.length : Int) < w.length := by omega
    simp -implicitDefEqProofs only [Try.ntmps25, Nat.reduceAdd, Nat.reduceSub, hb, hl, hl', go_sem]
    refine callK_fn (p26 w x) (.pures rfl) ?_
    simp -implicitDefEqProofs only [go_sem]
  · have hl' : ¬ (x.length : Int) < w.length := by omega
    simp -implicitDefEqProofs only [Try.ntmps25, Nat.reduceAdd, Nat.reduceSub, hb, hl, hl', go_sem]
    simp [hl]

set_option maxHeartbeats 4000000 in
theorem p4 (q : Int) (ws : List (List UInt8)) (hws : ws.length ≤ 9223372036854775807) : PFn Try.prog 4 [codeV q ws] [.bool true] := by
  have e9 := t11 q ws hws
  have e20 := t45 q ws
  have e12 := p12 q ws
  have e21 := p21 q ws hws
  refine PFn.of_body hΓ Try.func4 (by kernel_rfl) rfl (AWp.seq (AWp.of_awpD [] hΓ hmix (by kernel_rfl) ?_))
  simp -implicitDefEqProofs only [Try.ntmps4, Try.results4, Nat.reduceAdd, Nat.reduceSub, codeV, go_sem]
  refine AWp.seq (AWp.seq (AWp.of_awpD [] hΓ hmix (by kernel_rfl) ?_))
  simp -implicitDefEqProofs only [go_sem]
  refine callK_fn e9 (.still rfl) ?_
  unfold prB at e21
  cases hg : (greatC ws || ws.any greatW)
  rotate_left
  · simp -implicitDefEqProofs only [go_sem]
    refine AWp.of_awpD [] hΓ hmix (by kernel_rfl) ?_
    simp -implicitDefEqProofs only [go_sem]
    refine callK_fn awake_ok (.pures rfl) ?_
    simp -implicitDefEqProofs only [go_sem]
  simp -implicitDefEqProofs only [go_sem]
  refine callK_fn e20 (.still rfl) ?_
  by_cases hc : codeCheck q ws = 0
  rotate_left
  · simp -implicitDefEqProofs only [hc, go_sem]
    refine AWp.of_awpD [] hΓ hmix (by kernel_rfl) ?_
    simp -implicitDefEqProofs only [go_sem]
    refine callK_fn awake_ok (.pures rfl) ?_
    simp -implicitDefEqProofs only [go_sem]
  rw [hc]
  rw [hg, hc] at e21
  simp -implicitDefEqProofs only [go_sem]
  refine AWp.of_awpD [] hΓ hmix (by kernel_rfl) ?_
  simp -implicitDefEqProofs only [go_sem]
  refine AWp.of_awpD [] hΓ hmix (by kernel_rfl) ?_
  simp -implicitDefEqProofs only [go_sem]
  cases hp : preB ws
  · have h1 : pR q ws = psV 0 [] [] [] := by unfold pR; rw [if_neg (fun e => by rw [hp] at e; cases e.2)]
    have h2 : pE q ws = 8 := by unfold pE; rw [if_pos hc, if_neg (by rw [hp]; simp)]
    rw [h1, h2] at e12
    rw [hp] at e21
    unfold psV at e12
    refine callK_fn e12 (.still rfl) ?_
    simp -implicitDefEqProofs only [go_sem]
    refine callK_fn e21 (.still rfl) ?_
    simp -implicitDefEqProofs only [List.length_map, List.length_nil, List.map_nil, go_sem]
    refine ⟨by simp [InR], by simp [InR], fun _ => callK_fn awake_ok (.pures rfl) ?_, fun h => absurd (by simp) h⟩
    simp -implicitDefEqProofs only [go_sem]
    rfl
  have hv := valid_of hc
  have hI := parCheck_par hc hp
  obtain ⟨g1, g2⟩ := prefs_small hv hg
  have hE := emP_len hv
  have hN := nxP_length q ws
  have hE2 := emP_length q ws
  have hd := prefs_nodup ws
  have hs := prefs_strict ws
  obtain ⟨hP0, hP1⟩ := prefs_head hv
  have h1 : pR q ws = parV q ws := by unfold pR; rw [if_pos ⟨hc, hp⟩]
  have h2 : pE q ws = 0 := by unfold pE; rw [if_pos hc, if_pos hp]
  rw [h1, h2] at e12
  unfold parV at e12
  rw [hp] at e21
  have hlong : ∀ x ∈ prefs ws, (ws.any fun w => decide (x.length < w.length) && x.isPrefixOf w) = true := fun x hx => longer_any hx
  have hout : ∀ w ∈ ws, w ∉ prefs ws := fun w hw => preB_out hp hw
  have hini : ∀ w ∈ ws, ∀ k, k < w.length → w.take k ∈ prefs ws := fun w hw k hk => mem_prefs.2 ⟨w, hw, List.take_prefix _ _, by rw [List.length_take]; omega⟩
  generalize prefs ws = P at *
  generalize nxP q ws = N at *
  generalize emP q ws = E at *
  have e18 := p18 q P N E g1 (fun x hx => by have := g2 x hx; omega)
  have e22 := fun x => p22 q P N E x g1 (fun x hx => by have := g2 x hx; omega)
  rw [hI] at e18
  have e27 := fun x => p27 P x (by omega)
  unfold psV at e12 e18 e22
  refine callK_fn e12 (.still rfl) ?_
  simp -implicitDefEqProofs only [go_sem]
  refine callK_fn e21 (.still rfl) ?_
  simp -implicitDefEqProofs only [go_sem]
  refine callK_fn e18 (.still rfl) ?_
  have hPne : ¬ (P.length : Int) = 0 := by omega
  have hP0' : (0 : Int) < P.length := by omega
  have hP2 : (P.map PV.str).getD (Int.toNat 0) default = .str [] := by
    rw [show Int.toNat 0 = 0 from rfl, getD_map_lt _ _ _ _ hP0, hP1]
  simp -implicitDefEqProofs only [List.length_map, hN, hE2, hPne, hP0', hP2, go_sem]
  refine AWp.loopJ (fun i : Nat => ⟨mkF 160 [(1, .ptr 0 0), (3, .ptr 1 0), (88, .p (.sl (P.map .str))), (89, .p (.int .i64 P.length)), (90, .p (.int .i64 i))], [codeB q ws, psB q P N E]⟩)
    (fun i => i ≤ P.length) (fun i => P.length - i) 0 (fun i => ⟨by simp, by simp [mkF, AV.blw, AV.blw.blwL], by simp [blwH, codeB, psB, AObj.blw, AV.blw, AV.blw.blwL]⟩) (by simp [go_sem, codeB, psB]) (by simp) ?_
  rintro i hi
  refine AWp.of_awpD [(12, 28)] hΓ hmix (by kernel_rfl) ?_
  by_cases hlt : i < P.length
  rotate_left
  · have hz : ¬ (i : Int) < P.length := by omega
    simp -implicitDefEqProofs only [hz, codeB, psB, go_sem]
    refine AWp.loopI (fun i : Nat => ⟨mkF 160 [(1, .ptr 0 0), (3, .ptr 1 0), (131, .p (.sl (ws.map .str))), (132, .p (.int .i64 ws.length)), (133, .p (.int .i64 i))], [codeB q ws, psB q P N E]⟩)
      (fun i => i ≤ ws.length) (fun i => ws.length - i) 0 (by simp [go_sem, codeB, psB]) (by simp) ?_
    clear hi hlt hz i
    rintro i hi
    refine AWp.of_awpD [] hΓ hmix (by kernel_rfl) ?_
    have hv64 := hv.len
    by_cases hlt : i < ws.length
    rotate_left
    · have hz : ¬ (i : Int) < ws.length := by omega
      simp -implicitDefEqProofs only [hz, codeB, psB, go_sem]
      refine callK_fn awake_ok (.pures rfl) ?_
      simp -implicitDefEqProofs only [go_sem]
    have hlt' : (i : Int) < ws.length := by omega
    have hgi : (ws.map PV.str).getD i default = .str ws[i] := getD_map_lt _ _ _ _ hlt
    have hw8 := (small_of hv hg).2 ws[i] (List.getElem_mem hlt)
    have hst : stE q P N E ws[i] = 6 := stE_no hI (hout _ (List.getElem_mem hlt))
    have e22i := e22 ws[i]
    have hinii := hini ws[i] (List.getElem_mem hlt)
    rw [hst] at e22i
    simp -implicitDefEqProofs only [hlt', hgi, codeB, psB, go_sem]
    refine AWp.loopI (fun k : Nat => ⟨mkF 160 [(1, .ptr 0 0), (3, .ptr 1 0), (131, .p (.sl (ws.map .str))), (132, .p (.int .i64 ws.length)), (133, .p (.int .i64 i)), (10, .p (.str ws[i])), (138, .p (.int .i64 ws[i].length)), (139, .p (.int .i64 k))], [codeB q ws, psB q P N E]⟩)
      (fun k => k ≤ ws[i].length) (fun k => ws[i].length - k) 0 (by simp [go_sem, codeB, psB]) (by simp) ?_
    rintro k hk
    refine AWp.of_awpD [(21, 7)] hΓ hmix (by kernel_rfl) ?_
    by_cases hlk : k < ws[i].length
    rotate_left
    · have hz : ¬ (k : Int) < ws[i].length := by omega
      simp -implicitDefEqProofs only [hz, codeB, psB, go_sem]
      refine callK_fn e22i (.still rfl) ?_
      simp -implicitDefEqProofs only [go_sem]
      exact ⟨by simp only [InR]; omega, i + 1, by simp, hlt, by omega⟩
    have hlk' : (k : Int) < ws[i].length := by omega
    have e27k := e27 (ws[i].take k)
    rw [decide_eq_true (hinii k hlk)] at e27k
    simp -implicitDefEqProofs only [hlk', codeB, psB, go_sem]
    refine ⟨hk, callVPK_fn e27k (.pures rfl) ?_⟩
    simp -implicitDefEqProofs only [go_sem]
    exact ⟨by simp only [InR]; omega, k + 1, by simp, hlk, by omega⟩
  have hlt' : (i : Int) < P.length := by omega
  have hgi : (P.map PV.str).getD i default = .str P[i] := getD_map_lt _ _ _ _ hlt
  obtain ⟨hn1, hn2⟩ := stN_at hI hd hlt
  have e22i := e22 P[i]
  rw [hn1, hn2] at e22i
  have hii : ¬ ((i : Int) ≠ i) := by simp
  have hcon := hlong P[i] (List.getElem_mem hlt)
  simp -implicitDefEqProofs only [hlt', hgi, codeB, psB, go_sem]
  refine callK_fn e22i (.still rfl) ?_
  have hc24 : AC Try.prog 24 [.p (.sl (ws.map .str)), .fn 25 [.ptr 2 0]] [codeB q ws, psB q P N E, .box [.p (.str P[i])]] [] (fun v h' => v = .p (.bool true) ∧ h' = [codeB q ws, psB q P N E, .box [.p (.str P[i])]]) := by
    have := c24 ws hws (h := [codeB q ws, psB q P N E, .box [.p (.str P[i])]]) (g := 25) (caps := [.ptr 2 0]) (pr := fun w => decide (P[i].length < w.length) && P[i].isPrefixOf w) (fun w _ => c25 P[i] w rfl)
    rw [hcon] at this
    exact this
  unfold codeB psB at hc24
  by_cases h0 : i = 0
  · have hpos : ¬ (0 : Int) < (i : Int) := by omega
    simp -implicitDefEqProofs only [hpos, go_sem]
    refine .inr (.inr ⟨_, hc24, ?_⟩)
    simp -implicitDefEqProofs only [go_sem]
    exact ⟨by simp only [InR]; omega, i + 1, by simp, hlt, by omega⟩
  · have hpos : (0 : Int) < (i : Int) := by omega
    have hi1 : ((i : Int) - 1).toNat = i - 1 := by omega
    have hgp : (P.map PV.str).getD ((i : Int) - 1).toNat default = .str P[i - 1] := by rw [hi1]; exact getD_map_lt _ _ _ _ (by omega)
    have hge : (0 : Int) ≤ (i : Int) - 1 := by omega
    have hlt1 : (i : Int) - 1 < P.length := by omega
    have hls := less_no hs (i := i - 1) (by omega)
    have e23 := t79' P[i] P[i - 1]
    have e23' : PFn Try.prog 23 [.str P[i], .str P[i - 1]] [.bool false] := by
      have : decide (cmpW P[i] P[i - 1] < 0) = false := by
        have hj : i - 1 + 1 = i := by omega
        rw [← hls]
        congr 3
        · congr 1; omega
      rw [this] at e23; exact e23
    simp -implicitDefEqProofs only [hpos, hgp, hge, hlt1, go_sem]
    refine ⟨by simp only [InR]; omega, .inl ⟨_, _, e23', .pures rfl, ?_⟩⟩
    simp -implicitDefEqProofs only [go_sem]
    refine .inr (.inr ⟨_, hc24, ?_⟩)
    simp -implicitDefEqProofs only [go_sem]
    exact ⟨by simp only [InR]; omega, i + 1, by simp, hlt, by omega⟩
end Go.Proofs.Ytolopbodgkmenaa
end

