/-
  The law CompletionPrefixed (f11).
-/
import Derived.Test.YtjjedaikbgfmmaaGreatJ45b273a7d151

namespace Go.Proofs.YtjjedaikbgfmmaaGreat
open Go Go.AM
set_option maxRecDepth 100000
set_option maxHeartbeats 4000000
set_option linter.unusedSimpArgs false

theorem asc_uniq : ∀ {a b : List Nat}, a.Pairwise (· ≤ ·) → b.Pairwise (· ≤ ·) → a.Perm b → a = b
  | [], b, _, _, h => (List.nil_perm.1 h).symm
  | x :: a, [], _, _, h => by simp at h
  | x :: a, y :: b, ha, hb, h => by
    have ha' := List.pairwise_cons.1 ha
    have hb' := List.pairwise_cons.1 hb
    have h1 : x ≤ y := by
      rcases List.mem_cons.1 (h.symm.subset (List.mem_cons_self ..)) with e | e
      · omega
      · exact ha'.1 y e
    have h2 : y ≤ x := by
      rcases List.mem_cons.1 (h.subset (List.mem_cons_self ..)) with e | e
      · omega
      · exact hb'.1 x e
    have e : x = y := by omega
    subst e
    rw [asc_uniq ha'.2 hb'.2 ((List.perm_cons _).1 h)]
theorem insN_perm (x : Nat) : ∀ S : List Nat, (insN x S).Perm (x :: S)
  | [] => List.Perm.refl _
  | y :: t => by
    unfold insN
    split
    · exact List.Perm.refl _
    · exact ((insN_perm x t).cons y).trans (List.Perm.swap x y t)
theorem srtN_perm (ns : List Nat) : ∀ n, n ≤ ns.length → (srtN ns n).Perm (ns.take n)
  | 0, _ => by simp [srtN]
  | n + 1, h => by
    have hn : n < ns.length := h
    have e : ns.take (n + 1) = ns.take n ++ [ns[n]] := List.take_succ_eq_append_getElem hn
    have e2 : ns.getD n 0 = ns[n] := by rw [List.getD_eq_getElem?_getD, List.getElem?_eq_getElem hn, Option.getD_some]
    unfold srtN
    rw [e, e2]
    exact (insN_perm _ _).trans (((srtN_perm ns n (by omega)).cons _).trans (List.perm_append_comm (l₁ := [ns[n]])))
theorem srtN_all (ns : List Nat) : (srtN ns ns.length).Perm ns := by
  have := srtN_perm ns ns.length (Nat.le_refl _)
  rwa [List.take_length] at this
theorem srtN_eq {ns ms : List Nat} (h : ns.Perm ms) : srtN ns ns.length = srtN ms ms.length :=
  asc_uniq (srtN_sorted _ _) (srtN_sorted _ _) ((srtN_all ns).trans (h.trans (srtN_all ms).symm))
theorem srtN_same {ns : List Nat} (h : ns.Pairwise (· ≤ ·)) : srtN ns ns.length = ns := asc_uniq (srtN_sorted _ _) h (srtN_all ns)
theorem made_perm {l : List (List UInt8)} (h : l.Nodup) : (made l).Perm l := by
  have e : made l = sortW l := strict_unique (made_strict l) (sortW_strict h) fun x => by
    rw [mem_made]
    exact (List.mergeSort_perm l _).mem_iff.symm
  rw [e]
  exact List.mergeSort_perm l _
theorem kS_fst (S : List (Nat × Nat)) (i : Nat) : (kS S i).1 = (S.map Prod.fst).getD i 0 := by
  unfold kS
  rw [List.getD_eq_getElem?_getD, List.getD_eq_getElem?_getD, List.getElem?_map]
  cases S[i]? <;> rfl
theorem tS_fst (q : Nat) (S : List (Nat × Nat)) (i : Nat) : tS q S i = (((S.map Prod.fst).take i).map fun n => q ^ (32 - n)).sum := by
  unfold tS
  rw [← List.map_take, List.map_map]; rfl
theorem wS_fst {q : Nat} {S T : List (Nat × Nat)} (h : S.map Prod.fst = T.map Prod.fst) (i : Nat) : wS q S i = wS q T i := by
  unfold wS vS
  rw [kS_fst, kS_fst, tS_fst, tS_fst, h]
theorem canW_len {q : Int} {ws : List (List UInt8)} : (canW q ws).map List.length = srtN (ws.map List.length) (ws.map List.length).length := by
  rw [← srtP_fst]
  have h0 : (srtP (ws.map List.length) (ws.map List.length).length).length = (ws.map List.length).length := srtP_len _ _
  unfold canW wordsS
  generalize srtP (ws.map List.length) (ws.map List.length).length = S at *
  refine List.ext_getElem (by simp [h0]) fun i h1 h2 => ?_
  have hi : i < S.length := by simpa using h2
  rw [List.getElem_map, List.getElem_map, List.getElem_range, List.getElem_map, ← kS_at hi]
  exact wd_len _ _ _
theorem canW_same {q : Int} {ws : List (List UInt8)} : canW q (canW q ws) = canW q ws := by
  have e : srtN ((canW q ws).map List.length) ((canW q ws).map List.length).length = srtN (ws.map List.length) (ws.map List.length).length := by
    rw [canW_len]
    exact srtN_same (srtN_sorted _ _)
  have e0 : ((canW q ws).map List.length).length = (ws.map List.length).length := by rw [canW_len, srtN_len]
  rw [← srtP_fst, ← srtP_fst] at e
  have e1 : ∀ V : List (List UInt8), canW q V = wordsS q.toNat (srtP (V.map List.length) (V.map List.length).length) (V.map List.length).length := fun _ => rfl
  rw [e1 (canW q ws), show canW q ws = wordsS q.toNat (srtP (ws.map List.length) (ws.map List.length).length) (ws.map List.length).length from rfl]
  rw [show wordsS q.toNat (srtP (ws.map List.length) (ws.map List.length).length) (ws.map List.length).length = canW q ws from rfl, e0] 
  rw [e0] at e
  show (List.range _).map _ = (List.range _).map _
  exact List.map_congr_left fun i _ => wS_fst e i
theorem krS_perm {q : Nat} {a b : List Nat} (h : a.Perm b) : Kn.krS q a = Kn.krS q b := by
  unfold Kn.krS
  exact (h.map _).sum_nat
theorem canW_kr {q : Int} {p : Nat} {ws : List (List UInt8)} : Kn.krS p ((canW q ws).map List.length) = Kn.krS p (ws.map List.length) := by
  rw [canW_len]
  exact krS_perm (srtN_all _)
theorem rev_lens {W : List (List UInt8)} (hn : W.Nodup) : ((made (revs W)).map List.length).Perm (W.map List.length) := by
  have hr : (revs W).Nodup := by
    unfold revs
    refine List.pairwise_map.2 (List.Pairwise.imp (fun {a b} h e => h ?_) hn)
    simpa using congrArg List.reverse e
  refine ((made_perm hr).map _).trans ?_
  unfold revs
  rw [List.map_map]
  refine List.Perm.of_eq (List.map_congr_left fun x _ => by simp)

theorem t65 (a b : List Int) (hl : a.length ≤ 9223372036854775807) : PFn Tryz.prog 39 [.sl (a.map (.int .i64)), .sl (b.map (.int .i64))] [.bool (decide (a = b))] := by
  refine PFn.of_body hΓ Tryz.func39 (by kernel_rfl) rfl (AWp.of_awpD [] hΓ hmix (by kernel_rfl) ?_)
  simp +contextual -implicitDefEqProofs only [Tryz.ntmps39, Tryz.results39, Nat.reduceAdd, Nat.reduceSub, go_sem]
  refine ⟨fun he => ?_, fun hne => (decide_eq_false fun e => hne (by rw [e])).symm⟩
  refine AWp.loopI (fun k : Nat => ⟨mkF 26 [(0, .p (.sl (a.map (.int .i64)))), (1, .p (.sl (b.map (.int .i64)))), (4, .p (.bool false)), (12, .p (.int .i64 a.length)), (13, .p (.int .i64 k))], []⟩)
    (fun k => k ≤ a.length ∧ a.take k = b.take k) (fun k => a.length - k) 0 (by simp [go_sem, he]) (by simp) ?_
  rintro k ⟨hk, heq⟩
  refine AWp.of_awpD [(6, 9)] hΓ hmix (by kernel_rfl) ?_
  simp +contextual -implicitDefEqProofs only [getD_map_lt, ↓reduceIte, ← he, go_sem]
  refine ⟨fun hlt => ⟨fun hk' => ⟨by simp only [InR]; omega, k + 1, by simp, ⟨hlt, ?_⟩, by omega⟩, fun hk' => ?_⟩, fun hge => ?_⟩
  · rw [List.take_succ_eq_append_getElem hlt, List.take_succ_eq_append_getElem (by omega), heq, hk']
  · exact (decide_eq_false fun e => hk' (by subst e; rfl)).symm
  · rw [List.take_of_length_le (by omega), List.take_of_length_le (by omega)] at heq
    exact (decide_eq_true heq).symm

theorem b11 (q : Int) (ws : List (List UInt8)) (hws : ws.length ≤ 9223372036854775807) : PFn Tryz.prog 11 [codeV q ws] [.bool true] := by
  have eg := t11 q ws hws
  refine PFn.of_body hΓ Tryz.func11 (by kernel_rfl) rfl (AWp.seq (AWp.of_awpD [] hΓ hmix (by kernel_rfl) ?_))
  simp -implicitDefEqProofs only [Tryz.ntmps11, Tryz.results11, Nat.reduceAdd, Nat.reduceSub, codeV, go_sem]
  unfold codeV at eg
  cases hg : (greatC ws || ws.any greatW)
  rotate_left
  · rw [hg] at eg
    refine AWp.seq ?_
    refine AWp.of_awpD [] hΓ hmix (by kernel_rfl) ?_
    simp -implicitDefEqProofs only [go_sem]
    refine callK_fn eg (.still rfl) ?_
    simp -implicitDefEqProofs only [go_sem]
    refine callK_fn awake_ok (.pures rfl) ?_
    simp -implicitDefEqProofs only [go_sem]
  rw [hg] at eg
  have hsm : codeCheck q ws = 0 → ws.length ≤ 8 := fun h => by
    have h64 := (valid_of h).len
    simp only [Bool.or_eq_false_iff, greatC, List.any_eq_false, decide_eq_false_iff_not, Bool.and_eq_false_iff] at hg
    omega
  have hl : codeCheck q ws = 0 → ws.length < 20 := fun h => by have := hsm h; omega
  have e35 := cm35 q ws hl
  have e37 := cm37 q ws hl
  by_cases h : prE q ws = 0
  rotate_left
  · obtain ⟨p1, us, hpu⟩ : ∃ p us, prV q ws = codeV p us := by
      unfold prV
      split
      · exact flV_code _ _
      · exact ⟨0, [], rfl⟩
    have hsv : sfV q ws = codeV 0 [] := by unfold sfV; rw [if_neg h]
    rw [hpu] at e35
    rw [hsv] at e37
    generalize prE q ws = er at *
    unfold codeV at e35 e37
    refine AWp.seq ?_
    refine AWp.of_awpD [] hΓ hmix (by kernel_rfl) ?_
    simp -implicitDefEqProofs only [go_sem]
    refine callK_fn eg (.still rfl) ?_
    simp -implicitDefEqProofs only [go_sem]
    refine AWp.seq (AWp.of_awpD [] hΓ hmix (by kernel_rfl) ?_)
    simp -implicitDefEqProofs only [go_sem]
    refine callK_fn e35 (.still rfl) ?_
    simp -implicitDefEqProofs only [go_sem]
    refine AWp.seq (AWp.of_awpD [] hΓ hmix (by kernel_rfl) ?_)
    simp -implicitDefEqProofs only [go_sem]
    refine callK_fn e37 (.still rfl) ?_
    simp -implicitDefEqProofs only [go_sem]
    refine AWp.seq (AWp.of_awpD [] hΓ hmix (by kernel_rfl) ?_)
    simp -implicitDefEqProofs only [h, go_sem]
    refine callK_fn awake_ok (.pures rfl) ?_
    simp -implicitDefEqProofs only [go_sem]
  obtain ⟨hc, hk, hV, hW, hP⟩ := prE_zero h hl
  have hv := valid_of hc
  have h2 := hv.q2
  have h16 := hv.q16
  have hvW := valid_of hW
  have hWl : (canW q ws).map List.length = srtN (ws.map List.length) (ws.map List.length).length := canW_len
  have hWn : (canW q ws).length = ws.length := by
    have := congrArg List.length (canW_len (q := q) (ws := ws))
    simpa [srtN_len] using this
  have hlW : codeCheck q (canW q ws) = 0 → (canW q ws).length < 20 := fun _ => by rw [hWn]; exact hl hc
  have hcan : canW q (canW q ws) = canW q ws := canW_same
  have hW0 : prE q (canW q ws) = 0 := by
    unfold prE flE
    rw [if_pos hW, canW_kr, if_pos hk]
  have e35' := cm35 q (canW q ws) hlW
  rw [hW0] at e35'
  obtain ⟨_, _, hV', _, _⟩ := prE_zero hW0 hlW
  rw [hcan] at hV'
  rw [hV'] at e35'
  have hsv : sfV q ws = codeV q (made (revs (canW q ws))) := by unfold sfV; rw [if_pos h]
  rw [hV, h] at e35
  rw [hsv, h] at e37
  have hXl := rev_lens (strict_nodup hvW.strict)
  have hX := rev_valid hvW
  have hvX := valid_of hX
  have hmo := cm28 q ws hc
  have hmW := cm28 q (canW q ws) hW
  rw [canW_kr] at hmW
  have e15 := t38 q (canW q ws)
  rw [if_pos hW, if_pos hW, show aloneB (fun w x => x.isPrefixOf w) (canW q ws) = true from hP] at e15
  have e46 := u17 q (made (revs (canW q ws)))
  have hsuf : aloneB (fun w x => x.isSuffixOf w) (made (revs (canW q ws))) = true := by
    have := alone_rev hvX.strict
    rw [made_revs_revs hvW.strict, hP] at this
    exact this.symm
  rw [if_pos hX, if_pos hX, hsuf] at e46
  have hXn : (made (revs (canW q ws))).length = ws.length := by
    have := hXl.length_eq
    rw [← hWn]; simpa using this
  have s0 := cm47 q ws (by have := hsm hc; omega) hv.pos
  have s1 := cm47 q (canW q ws) (by have := hsm hc; omega) hvW.pos
  have s2 := cm47 q (made (revs (canW q ws))) (by have := hsm hc; omega) hvX.pos
  have hs1 : srtN ((canW q ws).map List.length) (canW q ws).length = srtN (ws.map List.length) ws.length := by
    have := srtN_same (srtN_sorted (ws.map List.length) (ws.map List.length).length)
    rw [← canW_len (q := q)] at this
    rw [List.length_map] at this
    rw [this, canW_len, List.length_map]
  have hs2 : srtN ((made (revs (canW q ws))).map List.length) (made (revs (canW q ws))).length = srtN (ws.map List.length) ws.length := by
    have := srtN_eq hXl
    rw [List.length_map, List.length_map] at this
    rw [this, hs1]
  rw [hs1] at s1
  rw [hs2] at s2
  have e39 := t65 ((srtN (ws.map List.length) ws.length).map fun n : Nat => (n : Int)) ((srtN (ws.map List.length) ws.length).map fun n : Nat => (n : Int)) (by rw [List.length_map, srtN_len]; have := hsm hc; omega)
  rw [decide_eq_true rfl, List.map_map] at e39
  have e25 := u23 q q (canW q ws) (canW q ws) (by have := hsm hc; omega)
  rw [decide_eq_true ⟨rfl, rfl⟩] at e25
  obtain ⟨A, B, hAB⟩ : ∃ A B, Kn.ratV (Kn.krS q.toNat (ws.map List.length)) (q.toNat ^ 32) = .agg [.bool false, .str A, .bool false, .str B] := ⟨_, _, rfl⟩
  rw [hAB] at hmo hmW
  have hI : (srtN (ws.map List.length) ws.length).map Kn.nV = (srtN (ws.map List.length) ws.length).map (PV.int .i64 ∘ fun n : Nat => (n : Int)) := rfl
  rw [← hI] at e39
  generalize (srtN (ws.map List.length) ws.length).map Kn.nV = LL at *
  generalize made (revs (canW q ws)) = X at *
  generalize canW q ws = W at *
  unfold codeV at e35 e37 e35' hmo hmW e15 e46 s0 s1 s2 e25
  refine AWp.seq ?_
  refine AWp.of_awpD [] hΓ hmix (by kernel_rfl) ?_
  simp -implicitDefEqProofs only [go_sem]
  refine callK_fn eg (.still rfl) ?_
  simp -implicitDefEqProofs only [go_sem]
  refine AWp.seq (AWp.of_awpD [] hΓ hmix (by kernel_rfl) ?_)
  simp -implicitDefEqProofs only [go_sem]
  refine callK_fn e35 (.still rfl) ?_
  simp -implicitDefEqProofs only [go_sem]
  refine AWp.seq (AWp.of_awpD [] hΓ hmix (by kernel_rfl) ?_)
  simp -implicitDefEqProofs only [go_sem]
  refine callK_fn e37 (.still rfl) ?_
  simp -implicitDefEqProofs only [go_sem]
  refine AWp.seq (AWp.of_awpD [] hΓ hmix (by kernel_rfl) ?_)
  simp -implicitDefEqProofs only [go_sem]
  refine AWp.seq (AWp.of_awpD [] hΓ hmix (by kernel_rfl) ?_)
  simp -implicitDefEqProofs only [go_sem]
  refine callK_fn hmo (.still rfl) ?_
  simp -implicitDefEqProofs only [go_sem]
  refine AWp.seq (AWp.of_awpD [] hΓ hmix (by kernel_rfl) ?_)
  simp -implicitDefEqProofs only [go_sem]
  refine callK_fn hmW (.still rfl) ?_
  simp -implicitDefEqProofs only [go_sem]
  refine AWp.seq (AWp.of_awpD [] hΓ hmix (by kernel_rfl) ?_)
  simp -implicitDefEqProofs only [go_sem]
  refine callK_fn e15 (.still rfl) ?_
  simp -implicitDefEqProofs only [go_sem]
  refine AWp.seq (AWp.of_awpD [] hΓ hmix (by kernel_rfl) ?_)
  simp -implicitDefEqProofs only [go_sem]
  refine callK_fn e46 (.still rfl) ?_
  simp -implicitDefEqProofs only [go_sem]
  refine AWp.seq (AWp.of_awpD [] hΓ hmix (by kernel_rfl) ?_)
  simp -implicitDefEqProofs only [go_sem]
  refine callK_fn e35' (.still rfl) ?_
  simp -implicitDefEqProofs only [go_sem]
  refine AWp.seq (AWp.of_awpD [(12, 41)] hΓ hmix (by kernel_rfl) ?_)
  simp -implicitDefEqProofs only [ite_self, go_sem]
  refine aggR rfl rfl ?_
  simp -implicitDefEqProofs only [decide_eq_true_eq, Bool.and_self, go_sem]
  refine callVPK_fn s1 (.still rfl) ?_
  simp -implicitDefEqProofs only [go_sem]
  refine callVPK_fn s0 (.still rfl) ?_
  simp -implicitDefEqProofs only [go_sem]
  refine callVPK_fn e39 (.pures rfl) ?_
  simp -implicitDefEqProofs only [go_sem]
  refine callVPK_fn s2 (.still rfl) ?_
  simp -implicitDefEqProofs only [go_sem]
  refine callVPK_fn s0 (.still rfl) ?_
  simp -implicitDefEqProofs only [go_sem]
  refine callVPK_fn e39 (.pures rfl) ?_
  simp -implicitDefEqProofs only [go_sem]
  refine callVPK_fn e25 (.still rfl) ?_
  simp -implicitDefEqProofs only [go_sem]
  refine callVPK_fn awake_ok (.pures rfl) ?_
  simp -implicitDefEqProofs only [go_sem]
  refine AWp.of_awpD [] hΓ hmix (by kernel_rfl) ?_
  simp -implicitDefEqProofs only [go_sem]
end Go.Proofs.YtjjedaikbgfmmaaGreat
