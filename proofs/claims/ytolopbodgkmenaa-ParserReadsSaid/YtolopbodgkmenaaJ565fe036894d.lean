/-
  The reference's Greedy.
  The reference's run, Run and Position.
  The law ParserReads.
-/
import Derived.Test.YtolopbodgkmenaaJ665c12459058

section
namespace Go.Proofs.Ytolopbodgkmenaa
open Go Go.AM
set_option maxRecDepth 100000
set_option linter.unusedSimpArgs false

theorem p35 (q : Int) (ws : List (List UInt8)) (w : List UInt8) : PFn Try.prog 35 [codeV q ws, .str w] [slI (gL q ws w), .str (gR q ws w), .int .i64 (gE q ws w)] := by
  by_cases h : codeCheck q ws = 0
  rotate_left
  · have e0 : gE q ws w = 1 := by unfold gE; rw [if_neg h]
    have e1 : gL q ws w = [] := by unfold gL; rw [e0, if_neg (by decide)]
    have e2 : gR q ws w = [] := by unfold gR; rw [e0, if_neg (by decide)]
    rw [e0, e1, e2]
    refine PFn.of_body hΓ Try.func35 (by kernel_rfl) rfl (AWp.of_awpD [] hΓ hmix (by kernel_rfl) ?_)
    simp -implicitDefEqProofs only [Try.ntmps35, Try.results35, Nat.reduceAdd, Nat.reduceSub, codeV, go_sem]
    refine callK_fn (t44 q ws) (.still rfl) ?_
    simp -implicitDefEqProofs only [h, slI, List.map_nil, go_sem]
  have hv := valid_of h
  by_cases h2 : wordCheck q w = 0
  rotate_left
  · have e0 : gE q ws w = wordCheck q w := by unfold gE; rw [if_pos h]
    have e1 : gL q ws w = [] := by unfold gL; rw [e0, if_neg h2]
    have e2 : gR q ws w = [] := by unfold gR; rw [e0, if_neg h2]
    rw [e0, e1, e2]
    have e45 := t44 q ws
    rw [h] at e45
    have e80 := t78 q w
    generalize wordCheck q w = ee at *
    refine PFn.of_body hΓ Try.func35 (by kernel_rfl) rfl (AWp.of_awpD [] hΓ hmix (by kernel_rfl) ?_)
    simp -implicitDefEqProofs only [Try.ntmps35, Try.results35, Nat.reduceAdd, Nat.reduceSub, codeV, go_sem]
    refine callK_fn e45 (.still rfl) ?_
    simp -implicitDefEqProofs only [go_sem]
    refine callK_fn e80 (.pures rfl) ?_
    simp -implicitDefEqProofs only [h2, slI, List.map_nil, go_sem]
  have e0 : gE q ws w = 0 := by unfold gE; rw [if_pos h, h2]
  have e1 : gL q ws w = (greedy ws w).1 := by unfold gL; rw [e0, if_pos rfl]
  have e2 : gR q ws w = (greedy ws w).2 := by unfold gR; rw [e0, if_pos rfl]
  rw [e0, e1, e2]
  have e45 := t44 q ws
  rw [h] at e45
  have e80 := t78 q w
  rw [h2] at e80
  have hn : ∀ x ∈ ws, x ≠ [] := hv.ne'
  have hlen := hv.len
  have hwl := (word_ok h2).2
  have hgl := greedy_len hn w.length w (Nat.le_refl _)
  refine PFn.of_body hΓ Try.func35 (by kernel_rfl) rfl (AWp.seq (AWp.of_awpD [] hΓ hmix (by kernel_rfl) ?_))
  simp -implicitDefEqProofs only [Try.ntmps35, Try.results35, Nat.reduceAdd, Nat.reduceSub, codeV, go_sem]
  refine AWp.seq (AWp.of_awpD [] hΓ hmix (by kernel_rfl) ?_)
  simp -implicitDefEqProofs only [go_sem]
  refine callK_fn e45 (.still rfl) ?_
  simp -implicitDefEqProofs only [go_sem]
  refine AWp.seq (AWp.of_awpD [] hΓ hmix (by kernel_rfl) ?_)
  simp -implicitDefEqProofs only [go_sem]
  refine callK_fn e80 (.pures rfl) ?_
  simp -implicitDefEqProofs only [go_sem]
  refine AWp.seq (AWp.of_awpD [] hΓ hmix (by kernel_rfl) ?_)
  simp -implicitDefEqProofs only [go_sem]
  refine ⟨⟨by simp [sizeOK], by omega⟩, ?_⟩
  refine AWp.adopt (l := []) 8 3 1 rfl (by simp) ?_
  simp -implicitDefEqProofs only [List.set_cons_zero, List.set_cons_succ, go_sem]
  refine AWp.block ?_
  refine AWp.loopI (fun p : List Int × List UInt8 => ⟨mkF 80 [(1, .p (.str p.2)), (2, .ptr 0 0), (8, .own 1 p.1.length)], [codeB q ws, .row 3 1 (p.1.map (.int .i64)) .lax]⟩)
    (fun p => (greedy ws w).1 = p.1 ++ (greedy ws p.2).1 ∧ (greedy ws w).2 = (greedy ws p.2).2 ∧ p.1.length + p.2.length ≤ w.length) (fun p => p.2.length) ([], w) (by simp [go_sem, codeB]) (by simp) ?_
  rintro ⟨L, v⟩ ⟨hL, hv2, hLv⟩
  simp only at hL hv2 hLv
  simp -implicitDefEqProofs only [codeB, go_sem]
  refine AWp.of_awpD [] hΓ hmix (by kernel_rfl) ?_
  simp -implicitDefEqProofs only [List.length_map, go_sem]
  refine AWp.loopI (fun i : Nat => ⟨mkF 80 [(1, .p (.str v)), (2, .ptr 0 0), (8, .own 1 L.length), (9, .p (.int .i64 (bestTo ws v i))), (10, .p (.int .i64 i))], [codeB q ws, .row 3 1 (L.map (.int .i64)) .lax]⟩)
    (fun i => i ≤ ws.length) (fun i => ws.length - i) 0 (by simp [go_sem, codeB, bestTo]) (by simp) ?_
  intro i hi
  simp -implicitDefEqProofs only [codeB, go_sem]
  refine AWp.of_awpD [] hΓ hmix (by kernel_rfl) ?_
  have hbl := bestTo_lt ws v i
  by_cases hlt : i < ws.length
  · have hgi : ws.getD i [] = ws[i] := by rw [List.getD_eq_getElem?_getD, List.getElem?_eq_getElem hlt]; rfl
    have hir : InR IntKind.i64 ((i : Int) + 1) := by simp only [InR]; omega
    cases hp : ws[i].isPrefixOf v
    · have hb : bestTo ws v (i + 1) = bestTo ws v i := by conv => lhs; unfold bestTo
                                                          rw [if_neg (fun e => by rw [hgi, hp] at e; cases e.1)]
      by_cases hle : ws[i].length ≤ v.length
      · have htk : ¬ v.take ws[i].length = ws[i] := fun e => by
          have : ws[i].isPrefixOf v = true := List.isPrefixOf_iff_prefix.2 (List.prefix_iff_eq_take.2 e.symm)
          rw [hp] at this; cases this
        simp -implicitDefEqProofs only [hlt, getD_map_lt, ↓reduceIte, List.length_map, hle, htk, go_sem]
        exact ⟨hir, i + 1, ⟨⟨hb, by simp⟩, .inr rfl⟩, hlt, by omega⟩
      · simp -implicitDefEqProofs only [hlt, getD_map_lt, ↓reduceIte, List.length_map, hle, go_sem]
        exact ⟨hir, i + 1, ⟨⟨hb, by simp⟩, .inr rfl⟩, hlt, by omega⟩
    · have hle := (List.isPrefixOf_iff_prefix.1 hp).length_le
      have htk : v.take ws[i].length = ws[i] := (List.prefix_iff_eq_take.1 (List.isPrefixOf_iff_prefix.1 hp)).symm
      by_cases hneg : bestTo ws v i < 0
      · have hb : bestTo ws v (i + 1) = i := by conv => lhs; unfold bestTo
                                                rw [if_pos ⟨by rw [hgi]; exact hp, .inl hneg⟩]
        simp -implicitDefEqProofs only [hlt, getD_map_lt, ↓reduceIte, List.length_map, hle, htk, hneg, go_sem]
        exact ⟨hir, i + 1, ⟨⟨hb, by simp⟩, .inr rfl⟩, hlt, by omega⟩
      · have hbn : (bestTo ws v i).toNat < ws.length := by omega
        have hgb : ws.getD (bestTo ws v i).toNat [] = ws[(bestTo ws v i).toNat] := by rw [List.getD_eq_getElem?_getD, List.getElem?_eq_getElem hbn]; rfl
        by_cases hgt : ws[(bestTo ws v i).toNat].length < ws[i].length
        · have hb : bestTo ws v (i + 1) = i := by conv => lhs; unfold bestTo
                                                  rw [if_pos ⟨by rw [hgi]; exact hp, .inr (by rw [hgb, hgi]; exact hgt)⟩]
          simp -implicitDefEqProofs only [hlt, hle, htk, hneg, hbn, getD_map_lt, ↓reduceIte, List.length_map, hgt, go_sem]
          exact ⟨⟨by omega, by omega⟩, hir, i + 1, ⟨⟨hb, by simp⟩, .inr rfl⟩, hlt, by omega⟩
        · have hb : bestTo ws v (i + 1) = bestTo ws v i := by conv => lhs; unfold bestTo
                                                              rw [if_neg (fun e => e.2.elim hneg (fun e => hgt (by rw [hgb, hgi] at e; exact e)))]
          simp -implicitDefEqProofs only [hlt, hle, htk, hneg, hbn, getD_map_lt, ↓reduceIte, List.length_map, hgt, go_sem]
          exact ⟨⟨by omega, by omega⟩, hir, i + 1, ⟨⟨hb, by simp⟩, .inr rfl⟩, hlt, by omega⟩
  · have hil : i = ws.length := by omega
    rw [hil]
    change _ at hbl
    by_cases hneg : best ws v < 0
    · have hb := greedy_stop hneg
      unfold best at hneg
      simp -implicitDefEqProofs only [Nat.lt_irrefl, List.length_map, hneg, go_sem]
      rw [hb] at hL hv2
      rw [hL, hv2, List.append_nil]
      exact ⟨rfl, rfl⟩
    · have hb := greedy_step hn hneg
      have hbi := best_in (show 0 ≤ best ws v by omega)
      have hbp := best_pos hn (show 0 ≤ best ws v by omega)
      unfold bestW at hbp hb
      unfold best at hneg hbi hbp hb
      generalize bestTo ws v ws.length = bb at *
      simp -implicitDefEqProofs only [Nat.lt_irrefl, List.length_map, hneg, go_sem]
      simp -implicitDefEqProofs only [hbi, getD_map_lt, ↓reduceIte, List.length_map, go_sem]
      have hs1 : sizeOK [PV.int .i64 bb] 1 := by simp [sizeOK, PV.cells]
      have ho1 : oneOK [PV.int .i64 bb] := by simp [oneOK, PV.cells, PV.isAgg]
      have hgb : ws.getD bb.toNat [] = ws[bb.toNat] := by rw [List.getD_eq_getElem?_getD, List.getElem?_eq_getElem hbi]; rfl
      rw [hgb] at hbp hb
      rw [hb] at hL hv2
      refine ⟨⟨hs1, by omega⟩, ⟨hs1, ho1⟩, ⟨.inl (by omega), by omega, by omega⟩, ⟨by omega, by omega⟩, hbp.2, (L ++ [bb], v.drop ws[bb.toNat].length), ⟨⟨rfl, by simp⟩, .inr rfl, .inr ?_⟩, ⟨?_, hv2, ?_⟩, ?_⟩
      · rw [List.map_append]; rfl
      · rw [hL, List.append_assoc]; rfl
      · simp only [List.length_append, List.length_singleton, List.length_drop]; omega
      · simp only [List.length_drop]; omega

/-! ### State -/
def stN (q : Int) (P : List (List UInt8)) (N E : List (List Int)) (x : List UInt8) : Int := if parCheck q P N E = 0 then (if x ∈ P then ixW P x else 0) else 0
def stE (q : Int) (P : List (List UInt8)) (N E : List (List Int)) (x : List UInt8) : Int := if parCheck q P N E = 0 then (if x ∈ P then 0 else 6) else 1
theorem parCheck_ne {q : Int} {P : List (List UInt8)} {N E : List (List Int)} (h : ¬ parCheck q P N E = 0) : parCheck q P N E = 1 := by
  unfold parCheck at h ⊢
  split
  · rename_i hI; rw [if_pos hI] at h; exact absurd rfl h
  · rfl
theorem p22 (q : Int) (P : List (List UInt8)) (N E : List (List Int)) (x : List UInt8) (hP : P.length ≤ 40) (hPs : ∀ x ∈ P, x.length ≤ 1000) : PFn Try.prog 22 [psV q P N E, .str x] [.int .i64 (stN q P N E x), .int .i64 (stE q P N E x)] := by
  have e18 := p18 q P N E hP hPs
  have e60 := p60 P x (by omega)
  unfold psV at e18
  unfold stN stE
  by_cases h : parCheck q P N E = 0
  rotate_left
  · rw [if_neg h, if_neg h]
    rw [parCheck_ne h] at e18
    have h10 : ¬ (1 : Int) = 0 := by decide
    refine PFn.of_body hΓ Try.func22 (by kernel_rfl) rfl (AWp.of_awpD [] hΓ hmix (by kernel_rfl) ?_)
    simp -implicitDefEqProofs only [Try.ntmps22, Try.results22, Nat.reduceAdd, Nat.reduceSub, psV, go_sem]
    refine callK_fn e18 (.still rfl) ?_
    simp -implicitDefEqProofs only [h10, go_sem]
  rw [if_pos h, if_pos h]
  rw [h] at e18
  refine PFn.of_body hΓ Try.func22 (by kernel_rfl) rfl (AWp.of_awpD [] hΓ hmix (by kernel_rfl) ?_)
  simp -implicitDefEqProofs only [Try.ntmps22, Try.results22, Nat.reduceAdd, Nat.reduceSub, psV, go_sem]
  refine callK_fn e18 (.still rfl) ?_
  simp -implicitDefEqProofs only [go_sem]
  refine callK_fn e60 (.pures rfl) ?_
  by_cases hx : x ∈ P
  · have hge : ¬ ixW P x < 0 := by have := ixW_ge.2 hx; omega
    simp -implicitDefEqProofs only [hge, hx, if_true, go_sem]
  · have hlt : ixW P x < 0 := by rw [ixW_no hx]; decide
    simp -implicitDefEqProofs only [hlt, hx, if_false, go_sem]
theorem p33 (q : Int) (P : List (List UInt8)) (N E : List (List Int)) (x : List UInt8) (hP : P.length ≤ 40) (hEs : ∀ l ∈ E, l.length ≤ 1000) (hPs : ∀ x ∈ P, x.length ≤ 1000) : PFn Try.prog 33 [psV q P N E, .str x] [.int .i64 (stN q P N E x), .int .i64 (stE q P N E x)] := by
  have e18 := p19 q P N E hP hEs hPs
  have e60 := p67 P x (by omega)
  unfold psV at e18
  unfold stN stE
  by_cases h : parCheck q P N E = 0
  rotate_left
  · rw [if_neg h, if_neg h]
    rw [parCheck_ne h] at e18
    have h10 : ¬ (1 : Int) = 0 := by decide
    refine PFn.of_body hΓ Try.func33 (by kernel_rfl) rfl (AWp.of_awpD [] hΓ hmix (by kernel_rfl) ?_)
    simp -implicitDefEqProofs only [Try.ntmps33, Try.results33, Nat.reduceAdd, Nat.reduceSub, psV, go_sem]
    refine callK_fn e18 (.still rfl) ?_
    simp -implicitDefEqProofs only [h10, go_sem]
  rw [if_pos h, if_pos h]
  rw [h] at e18
  refine PFn.of_body hΓ Try.func33 (by kernel_rfl) rfl (AWp.of_awpD [] hΓ hmix (by kernel_rfl) ?_)
  simp -implicitDefEqProofs only [Try.ntmps33, Try.results33, Nat.reduceAdd, Nat.reduceSub, psV, go_sem]
  refine callK_fn e18 (.still rfl) ?_
  simp -implicitDefEqProofs only [go_sem]
  refine callK_fn e60 (.pures rfl) ?_
  by_cases hx : x ∈ P
  · have hge : ¬ ixW P x < 0 := by have := ixW_ge.2 hx; omega
    simp -implicitDefEqProofs only [hge, hx, if_true, go_sem]
  · have hlt : ixW P x < 0 := by rw [ixW_no hx]; decide
    simp -implicitDefEqProofs only [hlt, hx, if_false, go_sem]
end Go.Proofs.Ytolopbodgkmenaa
end

section
namespace Go.Proofs.Ytolopbodgkmenaa
open Go Go.AM
set_option maxRecDepth 100000
set_option linter.unusedSimpArgs false

theorem p65 (q : Int) (P : List (List UInt8)) (N E : List (List Int)) (w : List UInt8) (hP : P.length ≤ 40) (hEs : ∀ l ∈ E, l.length ≤ 1000) (hPs : ∀ x ∈ P, x.length ≤ 1000) :
    PFn Try.prog 65 [psV q P N E, .str w] [.int .i64 (posE q P N E w)] := by
  have e18 := p19 q P N E hP hEs hPs
  have e57 := t78 q w
  unfold psV at e18
  unfold posE
  by_cases h : parCheck q P N E = 0
  · rw [h] at e18
    rw [if_pos h]
    refine PFn.of_body hΓ Try.func65 (by kernel_rfl) rfl (AWp.of_awpD [] hΓ hmix (by kernel_rfl) ?_)
    simp -implicitDefEqProofs only [Try.ntmps65, Try.results65, Nat.reduceAdd, Nat.reduceSub, psV, go_sem]
    refine callK_fn e18 (.still rfl) ?_
    simp -implicitDefEqProofs only [go_sem]
    refine ⟨by omega, callK_fn e57 (.pures rfl) ?_⟩
    simp -implicitDefEqProofs only [go_sem]
  · rw [if_neg h]
    refine PFn.of_body hΓ Try.func65 (by kernel_rfl) rfl (AWp.of_awpD [] hΓ hmix (by kernel_rfl) ?_)
    simp -implicitDefEqProofs only [Try.ntmps65, Try.results65, Nat.reduceAdd, Nat.reduceSub, psV, go_sem]
    refine callK_fn e18 (.still rfl) ?_
    simp -implicitDefEqProofs only [h, go_sem]

theorem p66 (qn : Nat) (P : List (List UInt8)) (N E : List (List Int)) (hT : Tbl qn N E) (s0 : Nat) (hs0 : s0 < N.length) (w : List UInt8) (hw : okW qn w = true) (hwl : w.length ≤ 100000) :
    PFn Try.prog 66 [psV qn P N E, .int .i64 s0, .str w] [slI (outs (trail N E s0 w)), .int .i64 (endS s0 (trail N E s0 w)), .int .i64 (trail N E s0 w).length] := by
  have hq0 : 0 < qn ∨ w = [] := by
    cases w with
    | nil => exact .inr rfl
    | cons c w => have := dig_of hw c (by simp); exact .inl (by omega)
  have htl := trail_len N E w s0
  refine PFn.of_body hΓ Try.func66 (by kernel_rfl) rfl (AWp.seq (AWp.of_awpD [] hΓ hmix (by kernel_rfl) ?_))
  simp -implicitDefEqProofs only [Try.ntmps66, Try.results66, Nat.reduceAdd, Nat.reduceSub, psV, go_sem]
  refine AWp.seq (AWp.of_awpD [] hΓ hmix (by kernel_rfl) ?_)
  simp -implicitDefEqProofs only [go_sem]
  refine ⟨⟨by simp [sizeOK], by omega⟩, ?_⟩
  refine AWp.adopt (l := []) 9 3 1 rfl (by simp) ?_
  simp -implicitDefEqProofs only [List.set_cons_zero, List.set_cons_succ, go_sem]
  refine AWp.of_awpD [] hΓ hmix (by kernel_rfl) ?_
  simp -implicitDefEqProofs only [go_sem]
  refine AWp.loopI (fun i : Nat => ⟨mkF 67 [(1, .p (.int .i64 (endS s0 ((trail N E s0 w).take i)))), (2, .p (.str w)), (3, .ptr 0 0), (9, .own 1 (outs ((trail N E s0 w).take i)).length), (10, .p (.int .i64 i))], [psB qn P N E, .row 3 1 ((outs ((trail N E s0 w).take i)).map (.int .i64)) .lax]⟩)
    (fun i => i ≤ w.length ∧ i ≤ (trail N E s0 w).length) (fun i => w.length - i) 0 (by simp [go_sem, psB, outs, endS]) (by simp) ?_
  rintro i ⟨hi, hit⟩
  simp -implicitDefEqProofs only [psB, go_sem]
  refine AWp.of_awpD [] hΓ hmix (by kernel_rfl) ?_
  by_cases hlt : i < w.length
  · have hdw := dig_of hw w[i] (List.getElem_mem hlt)
    have hq : 0 < qn := hq0.elim id fun e => by rw [e] at hlt; simp at hlt
    have hsl := endS_lt hT hq w s0 i (fun c hc => by have := dig_of hw c hc; unfold digN; omega) hs0
    have hstop := trail_stop (N := N) (E := E) (s := s0) hlt hit
    have hnext := trail_next (N := N) (E := E) (s := s0) hlt hit
    have e88 := t99 w[i]
    have hwd : w.getD i 0 = w[i] := by rw [List.getD_eq_getElem?_getD, List.getElem?_eq_getElem hlt]; rfl
    rw [show ixB w[i] L16 0 = (digN w[i] : Int) by unfold digN; omega, ← hwd] at e88
    have hdq : digN w[i] < qn := by unfold digN; omega
    simp -implicitDefEqProofs only [hlt, go_sem]
    refine callK_fn e88 (.pures rfl) ?_
    rw [hwd]
    have hol := outs_len ((trail N E s0 w).take i)
    rw [List.length_take] at hol
    have houts : ∀ (h : i < (trail N E s0 w).length) (e : Int) (n : Nat), (trail N E s0 w)[i] = (e, n) → (trail N E s0 w).take (i + 1) = (trail N E s0 w).take i ++ [(e, n)] := fun h e n he => by rw [List.take_succ_eq_append_getElem h, he]
    generalize hs : endS s0 ((trail N E s0 w).take i) = s at *
    generalize digN w[i] = d at *
    have hsE : s < E.length := by have := hT.len; omega
    have hdN : d < N[s].length := by rw [hT.rowN _ (List.getElem_mem hsl)]; exact hdq
    have hdE : d < E[s].length := by rw [hT.rowE _ (List.getElem_mem hsE)]; exact hdq
    rw [stp_at hsl hdN] at hstop hnext
    rw [stp_at hsE hdE] at hnext
    by_cases hneg : N[s][d] < 0
    · have htk : (trail N E s0 w).take i = trail N E s0 w := List.take_of_length_le (by rw [hstop hneg]; omega)
      have hsi := hstop hneg
      simp -implicitDefEqProofs only [hsl, hdN, getD_map_lt, ↓reduceIte, List.length_map, slI, hneg, go_sem]
      rw [htk] at hs
      rw [htk]
      exact ⟨rfl, hs.symm, hsi.symm⟩
    · obtain ⟨ht1, ht2⟩ := hnext hneg
      have hnx := hT.next _ (List.getElem_mem hsl) _ (List.getElem_mem hdN)
      obtain ⟨n, hn⟩ := Int.eq_ofNat_of_zero_le (show 0 ≤ N[s][d] by omega)
      rw [hn, Int.toNat_natCast] at ht2
      have ht3 := houts ht1 _ _ ht2
      have hir : InR IntKind.i64 ((i : Int) + 1) := by simp only [InR]; omega
      by_cases hp : 0 ≤ E[s][d]
      · have ho := outs_yes (d := (trail N E s0 w).take i) n hp
        rw [← ht3] at ho
        simp -implicitDefEqProofs only [hsl, hsE, hdN, hdE, getD_map_lt, ↓reduceIte, List.length_map, slI, hn, hp, show ¬ (n : Int) < 0 by omega, go_sem]
        have hs1 : sizeOK [PV.int .i64 E[s][d]] 1 := by simp [sizeOK, PV.cells]
        have ho1 : oneOK [PV.int .i64 E[s][d]] := by simp [oneOK, PV.cells, PV.isAgg]
        refine ⟨⟨hs1, by omega⟩, ⟨hs1, ho1⟩, ⟨.inl (by omega), by omega, by omega⟩, hir, i + 1, ⟨⟨by rw [ht3, endS_snoc], by rw [ho]; simp, by simp⟩, .inr rfl, .inr ?_⟩, ⟨hlt, ht1⟩, by omega⟩
        rw [ho, List.map_append]; rfl
      · have ho := outs_no (d := (trail N E s0 w).take i) n hp
        rw [← ht3] at ho
        simp -implicitDefEqProofs only [hsl, hsE, hdN, hdE, getD_map_lt, ↓reduceIte, List.length_map, slI, hn, hp, show ¬ (n : Int) < 0 by omega, go_sem]
        exact ⟨hir, i + 1, ⟨⟨by rw [ht3, endS_snoc], by rw [ho], by simp⟩, .inr rfl, by rw [ho]⟩, ⟨hlt, ht1⟩, by omega⟩
  · have hil : i = w.length := by omega
    have htk : (trail N E s0 w).take i = trail N E s0 w := List.take_of_length_le (by omega)
    rw [htk]
    simp -implicitDefEqProofs only [hlt, go_sem]
    exact ⟨rfl, by omega⟩

theorem p32 (q : Int) (P : List (List UInt8)) (N E : List (List Int)) (w : List UInt8) (hP : P.length ≤ 40) (hEs : ∀ l ∈ E, l.length ≤ 1000) (hPs : ∀ x ∈ P, x.length ≤ 1000) :
    PFn Try.prog 32 [psV q P N E, .str w] [.int .i64 (if posE q P N E w = 0 then (trail N E 0 w).length else 0), .int .i64 (posE q P N E w)] := by
  have e65 := p65 q P N E w hP hEs hPs
  unfold psV at e65
  by_cases h : posE q P N E w = 0
  rotate_left
  · rw [if_neg h]
    generalize posE q P N E w = ee at *
    refine PFn.of_body hΓ Try.func32 (by kernel_rfl) rfl (AWp.of_awpD [] hΓ hmix (by kernel_rfl) ?_)
    simp -implicitDefEqProofs only [Try.ntmps32, Try.results32, Nat.reduceAdd, Nat.reduceSub, psV, go_sem]
    refine callK_fn e65 (.still rfl) ?_
    simp -implicitDefEqProofs only [h, go_sem]
  obtain ⟨hI, hokw, hwl⟩ := pos_facts h
  obtain ⟨hT, hN0⟩ := hI.tbl
  have hf := hI.facts
  rw [h, if_pos rfl]
  rw [h] at e65
  obtain ⟨qn, rfl⟩ := Int.eq_ofNat_of_zero_le (show 0 ≤ q by omega)
  rw [Int.toNat_natCast] at hT
  have e66 := p66 qn P N E hT 0 hN0 w hokw (by omega)
  unfold psV at e66
  refine PFn.of_body hΓ Try.func32 (by kernel_rfl) rfl (AWp.of_awpD [] hΓ hmix (by kernel_rfl) ?_)
  simp -implicitDefEqProofs only [Try.ntmps32, Try.results32, Nat.reduceAdd, Nat.reduceSub, psV, go_sem]
  refine callK_fn e65 (.still rfl) ?_
  simp -implicitDefEqProofs only [go_sem]
  refine callK_fn e66 (.still rfl) ?_
  simp -implicitDefEqProofs only [go_sem]

theorem p30 (q : Int) (P : List (List UInt8)) (N E : List (List Int)) (s : Int) (w : List UInt8) (hP : P.length ≤ 40) (hEs : ∀ l ∈ E, l.length ≤ 1000) (hPs : ∀ x ∈ P, x.length ≤ 1000) :
    PFn Try.prog 30 [psV q P N E, .int .i64 s, .str w] [slI (runL q P N E s w), .int .i64 (runS q P N E s w), .int .i64 (runE' q P N E s w)] := by
  have e65 := p65 q P N E w hP hEs hPs
  unfold psV at e65
  by_cases h : posE q P N E w = 0
  rotate_left
  · have e0 : runE' q P N E s w = posE q P N E w := by unfold runE'; rw [if_neg h]
    have e1 : runL q P N E s w = [] := by unfold runL; rw [e0, if_neg h]
    have e2 : runS q P N E s w = 0 := by unfold runS; rw [e0, if_neg h]
    rw [e0, e1, e2]
    generalize posE q P N E w = ee at *
    refine PFn.of_body hΓ Try.func30 (by kernel_rfl) rfl (AWp.of_awpD [] hΓ hmix (by kernel_rfl) ?_)
    simp -implicitDefEqProofs only [Try.ntmps30, Try.results30, Nat.reduceAdd, Nat.reduceSub, psV, go_sem]
    refine callK_fn e65 (.still rfl) ?_
    simp -implicitDefEqProofs only [h, slI, List.map_nil, go_sem]
  obtain ⟨hI, hokw, hwl⟩ := pos_facts h
  obtain ⟨hT, hN0⟩ := hI.tbl
  have hf := hI.facts
  have hPN := hf.2.2.1
  rw [h] at e65
  by_cases hs : s < 0 ∨ (P.length : Int) ≤ s
  · have e0 : runE' q P N E s w = 25 := by unfold runE'; rw [if_pos h, if_pos hs]
    have e1 : runL q P N E s w = [] := by unfold runL; rw [e0, if_neg (by decide)]
    have e2 : runS q P N E s w = 0 := by unfold runS; rw [e0, if_neg (by decide)]
    rw [e0, e1, e2]
    refine PFn.of_body hΓ Try.func30 (by kernel_rfl) rfl (AWp.of_awpD [] hΓ hmix (by kernel_rfl) ?_)
    by_cases hs1 : s < 0
    · simp -implicitDefEqProofs only [Try.ntmps30, Try.results30, Nat.reduceAdd, Nat.reduceSub, psV, go_sem]
      refine callK_fn e65 (.still rfl) ?_
      simp -implicitDefEqProofs only [hs1, slI, List.map_nil, go_sem]
    · have hs2 : (N.length : Int) ≤ s := by have := hs.resolve_left hs1; omega
      simp -implicitDefEqProofs only [Try.ntmps30, Try.results30, Nat.reduceAdd, Nat.reduceSub, psV, go_sem]
      refine callK_fn e65 (.still rfl) ?_
      simp -implicitDefEqProofs only [hs1, hs2, slI, List.map_nil, List.length_map, go_sem]
  have hs1 : ¬ s < 0 := fun e => hs (.inl e)
  have hs2 : ¬ (N.length : Int) ≤ s := fun e => hs (.inr (by omega))
  obtain ⟨sn, rfl⟩ := Int.eq_ofNat_of_zero_le (show 0 ≤ s by omega)
  obtain ⟨qn, rfl⟩ := Int.eq_ofNat_of_zero_le (show 0 ≤ q by omega)
  rw [Int.toNat_natCast] at hT
  have hsN : sn < N.length := by omega
  have e66 := p66 qn P N E hT sn hsN w hokw (by omega)
  unfold psV slI at e66
  have e0 : runE' qn P N E sn w = if (trail N E sn w).length < w.length then 13 else 0 := by unfold runE'; rw [if_pos h, if_neg hs, Int.toNat_natCast]
  unfold runL runS
  rw [e0, Int.toNat_natCast]
  refine PFn.of_body hΓ Try.func30 (by kernel_rfl) rfl (AWp.of_awpD [] hΓ hmix (by kernel_rfl) ?_)
  simp -implicitDefEqProofs only [Try.ntmps30, Try.results30, Nat.reduceAdd, Nat.reduceSub, psV, go_sem]
  refine callK_fn e65 (.still rfl) ?_
  simp -implicitDefEqProofs only [hs1, hs2, List.length_map, go_sem]
  refine callK_fn e66 (.still rfl) ?_
  by_cases hfin : (trail N E sn w).length < w.length
  · have hfin' : ((trail N E sn w).length : Int) < w.length := by omega
    rw [if_pos hfin]
    simp -implicitDefEqProofs only [hfin, hfin', slI, go_sem]
    exact ⟨rfl, rfl⟩
  · rw [if_neg hfin]
    simp -implicitDefEqProofs only [hfin, slI, go_sem]

def longS (w : List UInt8) : Bool := (decide (40 < w.length) && decide (w.length ≤ 65536)) || decide (65544 < w.length)
theorem p28 (w : List UInt8) : PFn Try.prog 28 [.str w, .int .i64 40] [.bool (longS w)] := by
  refine PFn.of_body hΓ Try.func28 (by kernel_rfl) rfl (AWp.of_awpD [] hΓ hmix (by kernel_rfl) ?_)
  by_cases h1 : 40 < w.length
  · have h1' : (40 : Int) < w.length := by omega
    by_cases h2 : w.length ≤ 65536
    · have h2' : (w.length : Int) ≤ 65536 := by omega
      simp -implicitDefEqProofs only [Try.ntmps28, Try.results28, Nat.reduceAdd, Nat.reduceSub, h1', h2', go_sem]
      simp [longS, h1, h2]
    · have h2' : ¬ (w.length : Int) ≤ 65536 := by omega
      by_cases h3 : 65544 < w.length
      · have h3' : (65544 : Int) < w.length := by omega
        simp -implicitDefEqProofs only [Try.ntmps28, Try.results28, Nat.reduceAdd, Nat.reduceSub, h1', h2', h3', go_sem]
        simp [longS, h3]
      · have h3' : ¬ (65544 : Int) < w.length := by omega
        simp -implicitDefEqProofs only [Try.ntmps28, Try.results28, Nat.reduceAdd, Nat.reduceSub, h1', h2', h3', go_sem]
        simp [longS, h2, h3]
  · have h1' : ¬ (40 : Int) < w.length := by omega
    have h3' : ¬ (65544 : Int) < w.length := by omega
    have h3 : ¬ 65544 < w.length := by omega
    simp -implicitDefEqProofs only [Try.ntmps28, Try.results28, Nat.reduceAdd, Nat.reduceSub, h1', h3', go_sem]
    simp [longS, h1, h3]
end Go.Proofs.Ytolopbodgkmenaa
end

section
namespace Go.Proofs.Ytolopbodgkmenaa
open Go Go.AM
set_option maxRecDepth 100000
set_option linter.unusedSimpArgs false

theorem wordCheck_len {q : Int} {w : List UInt8} (h : wordCheck q w = 0) : w.length ≤ 65536 := (word_ok h).2
theorem outs_trail_len (N E : List (List Int)) (s : Nat) (w : List UInt8) : (outs (trail N E s w)).length ≤ w.length := by
  have h1 := outs_len (trail N E s w)
  have h2 := trail_len N E w s
  omega
theorem runL_len (q : Int) (P : List (List UInt8)) (N E : List (List Int)) (s : Int) (w : List UInt8) : (runL q P N E s w).length ≤ 65536 := by
  unfold runL
  split
  · rename_i h
    have hp : posE q P N E w = 0 := by
      unfold runE' at h
      split at h
      · assumption
      · contradiction
    have := (pos_facts hp).2.2
    have := outs_trail_len N E s.toNat w
    omega
  · simp
theorem gL_len (q : Int) (ws : List (List UInt8)) (w : List UInt8) : (gL q ws w).length ≤ 65536 := by
  unfold gL
  split
  · rename_i h
    unfold gE at h
    split at h
    · rename_i hc
      have := wordCheck_len h
      have := greedy_len (valid_of hc).ne' w.length w (by omega)
      omega
    · omega
  · simp

theorem p5 (q : Int) (ws : List (List UInt8)) (r : Int) (P : List (List UInt8)) (N E : List (List Int)) (s : Int) (w x : List UInt8) (hws : ws.length ≤ 9223372036854775807) :
    PFn Try.prog 5 [codeV q ws, psV r P N E, .int .i64 s, .str w, .str x] [.bool true] := by
  have e9 := t11 q ws hws
  have e10 := p10 r P N E
  have e28 := p28 w
  refine PFn.of_body hΓ Try.func5 (by kernel_rfl) rfl (AWp.seq (AWp.of_awpD [] hΓ hmix (by kernel_rfl) ?_))
  simp -implicitDefEqProofs only [Try.ntmps5, Try.results5, Nat.reduceAdd, Nat.reduceSub, codeV, psV, go_sem]
  refine AWp.seq (AWp.seq (AWp.of_awpD [] hΓ hmix (by kernel_rfl) ?_))
  simp -implicitDefEqProofs only [go_sem]
  refine callK_fn e9 (.still rfl) ?_
  cases hg : (greatC ws || ws.any greatW)
  rotate_left
  · simp -implicitDefEqProofs only [go_sem]
    refine AWp.of_awpD [] hΓ hmix (by kernel_rfl) ?_
    simp -implicitDefEqProofs only [go_sem]
    refine callK_fn awake_ok (.pures rfl) ?_
    simp -implicitDefEqProofs only [go_sem]
  unfold psV at e10
  simp -implicitDefEqProofs only [go_sem]
  refine callK_fn e10 (.still rfl) ?_
  cases hg2 : greatP P N E
  rotate_left
  · simp -implicitDefEqProofs only [go_sem]
    refine AWp.of_awpD [] hΓ hmix (by kernel_rfl) ?_
    simp -implicitDefEqProofs only [go_sem]
    refine callK_fn awake_ok (.pures rfl) ?_
    simp -implicitDefEqProofs only [go_sem]
  simp -implicitDefEqProofs only [go_sem]
  refine callK_fn e28 (.pures rfl) ?_
  cases hg3 : longS w
  rotate_left
  · simp -implicitDefEqProofs only [go_sem]
    refine AWp.of_awpD [] hΓ hmix (by kernel_rfl) ?_
    simp -implicitDefEqProofs only [go_sem]
    refine callK_fn awake_ok (.pures rfl) ?_
    simp -implicitDefEqProofs only [go_sem]
  by_cases hx : 40 < x.length
  · have hx' : (40 : Int) < x.length := by omega
    simp -implicitDefEqProofs only [hx', go_sem]
    refine AWp.of_awpD [] hΓ hmix (by kernel_rfl) ?_
    simp -implicitDefEqProofs only [go_sem]
    refine callK_fn awake_ok (.pures rfl) ?_
    simp -implicitDefEqProofs only [go_sem]
  have hx' : ¬ (40 : Int) < x.length := by omega
  obtain ⟨g1, g2, g3, g4, g5, g6⟩ := great_facts hg2
  have g4' : ∀ l ∈ P, l.length ≤ 1000 := fun l hl => by have := g4 l hl; omega
  have g6' : ∀ l ∈ E, l.length ≤ 1000 := fun l hl => by have := g6 l hl; omega
  have e29 := p29 r P N E s w g1 g4'
  have e30 := p30 r P N E s w g1 g6' g4'
  have e31 := p31 r P N E w g1 g4'
  have e32 := p32 r P N E w g1 g6' g4'
  have e22 := p22 r P N E x g1 g4'
  have e33 := p33 r P N E x g1 g6' g4'
  have e34 := p34 q ws w
  have e35 := p35 q ws w
  have h36 := p36 (runL r P N E s w) (runL r P N E s w) (by have := runL_len r P N E s w; omega)
  have h36' := p36 (gL q ws w) (gL q ws w) (by have := gL_len q ws w; omega)
  rw [decide_eq_true rfl] at h36 h36'
  unfold slI at e29 e30 e34 e35 h36 h36'
  unfold psV at e29 e30 e31 e32 e22 e33
  unfold codeV at e34 e35
  generalize runL r P N E s w = x1 at *
  generalize runS r P N E s w = x2 at *
  generalize runE' r P N E s w = x3 at *
  generalize (if posE r P N E w = 0 then ((trail N E 0 w).length : Int) else 0) = x4 at *
  generalize posE r P N E w = x5 at *
  generalize stN r P N E x = x6 at *
  generalize stE r P N E x = x7 at *
  generalize gL q ws w = x8 at *
  generalize gR q ws w = x9 at *
  generalize gE q ws w = x10 at *
  simp -implicitDefEqProofs only [hx', go_sem]
  refine AWp.of_awpD [] hΓ hmix (by kernel_rfl) ?_
  simp -implicitDefEqProofs only [go_sem]
  refine AWp.of_awpD [] hΓ hmix (by kernel_rfl) ?_
  simp -implicitDefEqProofs only [go_sem]
  refine callK_fn e29 (.still rfl) ?_
  simp -implicitDefEqProofs only [go_sem]
  refine callK_fn e30 (.still rfl) ?_
  simp -implicitDefEqProofs only [go_sem]
  refine callK_fn e31 (.still rfl) ?_
  simp -implicitDefEqProofs only [go_sem]
  refine callK_fn e32 (.still rfl) ?_
  simp -implicitDefEqProofs only [go_sem]

  refine callK_fn e22 (.still rfl) ?_
  simp -implicitDefEqProofs only [go_sem]
  refine callK_fn e33 (.still rfl) ?_
  simp -implicitDefEqProofs only [go_sem]
  refine callK_fn e34 (.still rfl) ?_
  simp -implicitDefEqProofs only [go_sem]
  refine callK_fn e35 (.still rfl) ?_
  simp -implicitDefEqProofs only [go_sem]
  refine callK_fn h36 (.still rfl) ?_
  simp -implicitDefEqProofs only [go_sem]
  refine callK_fn h36' (.still rfl) ?_
  simp -implicitDefEqProofs only [go_sem]
  refine callK_fn awake_ok (.pures rfl) ?_
  simp -implicitDefEqProofs only [go_sem]
end Go.Proofs.Ytolopbodgkmenaa
end

