/-
  measure.Of; a code that is whole.
  The law CompletionWhole.
-/
import Derived.Test.YtjjedaikbgfmmaaGreatJf18829cef660
import Derived.Test.YtjjedaikbgfmmaaGreatJ93c1dccf7599

section
namespace Go.Proofs.YtjjedaikbgfmmaaGreat
open Go Go.AM
set_option maxRecDepth 100000
set_option maxHeartbeats 4000000
set_option linter.unusedSimpArgs false

theorem cm28 (q : Int) (ws : List (List UInt8)) (hc : codeCheck q ws = 0) : PFn Tryz.prog 28 [codeV q ws] [Kn.ratV (Kn.krS q.toNat (ws.map List.length)) (q.toNat ^ 32), .int .i64 0] := by
  have hv := valid_of hc
  have h2 := hv.q2
  have h16 := hv.q16
  have hq : ((q.toNat : Nat) : Int) = q := by omega
  have hlen := hv.len
  have e45 := t45 q ws
  rw [hc] at e45
  have hz : ((0 : Int) = 0) = True := by simp
  have ek := Kn.v50 q.toNat (ws.map List.length) (by omega) (by omega) (by simp; omega) (fun n hn => by
    obtain ⟨w, hw, rfl⟩ := List.mem_map.1 hn
    obtain ⟨h1, h3, _⟩ := hv.words w hw
    have := List.length_pos_iff.2 h1
    omega)
  rw [hq] at ek
  refine PFn.of_body hΓ Tryz.func28 (by kernel_rfl) rfl (AWp.of_awpD [] hΓ hmix (by kernel_rfl) ?_)
  simp -implicitDefEqProofs only [Tryz.ntmps28, Tryz.results28, Nat.reduceAdd, Nat.reduceSub, codeV, go_sem]
  refine callK_fn e45 (.still rfl) ?_
  simp -implicitDefEqProofs only [go_sem]
  refine AWp.adopt (l := []) 4 3 1 (by rfl) (by simp) ?_
  simp -implicitDefEqProofs only [go_sem]
  refine AWp.loopI (fun i : Nat => ⟨mkF 30 [(1, .ptr 0 0), (2, .ptr 1 0), (4, .own 2 ((ws.map List.length).take i).length), (12, .p (.sl (ws.map .str))), (13, .p (.int .i64 ws.length)), (14, .p (.int .i64 i))], [codeB q ws, .box [.p (.bool false), .p (.str []), .p (.bool false), .p (.str [])], .row 3 1 (((ws.map List.length).take i).map Kn.nV) .lax]⟩)
    (fun i => i ≤ ws.length) (fun i => ws.length - i) 0 (by simp [go_sem, codeB]) (by simp) ?_
  intro i hi
  refine AWp.of_awpD [] hΓ hmix (by kernel_rfl) ?_
  by_cases hlt : i < ws.length
  · have hlt' : (i : Int) < (ws.length : Int) := by omega
    have hgi : (ws.map PV.str).getD i default = .str ws[i] := getD_map_lt _ _ _ _ hlt
    have htk : (ws.map List.length).take (i + 1) = (ws.map List.length).take i ++ [ws[i].length] := by
      rw [List.take_succ_eq_append_getElem (by simpa using hlt), List.getElem_map]
    have hli : ((ws.map List.length).take i).length = i := by simp; omega
    have hs1 : sizeOK [PV.int .i64 (ws[i].length : Int)] 1 := by simp [sizeOK, PV.cells]
    have ho1 : oneOK [PV.int .i64 (ws[i].length : Int)] := by simp [oneOK, PV.cells, PV.isAgg]
    simp -implicitDefEqProofs only [hlt', hgi, codeB, Int.toNat_natCast, go_sem]
    refine ⟨⟨hs1, by omega⟩, ⟨hs1, ho1⟩, ⟨by simp, by rw [hli]; omega, by rw [hli]; omega⟩, by simp only [InR]; omega, i + 1, ⟨⟨by rw [htk]; simp, by simp⟩, .inr ?_⟩, hlt, by omega⟩
    rw [htk]
    simp [Kn.nV]
  · have hlt' : ¬ (i : Int) < (ws.length : Int) := by omega
    have : i = ws.length := by omega
    subst this
    rw [List.take_of_length_le (by simp)]
    simp -implicitDefEqProofs only [Int.lt_irrefl, Nat.lt_irrefl, codeB, go_sem]
    refine callK_fn ek (.owned rfl rfl) ?_
    simp -implicitDefEqProofs only [Kn.ratV, go_sem]

def oneR : PV := .agg [.bool false, .str [1], .bool false, .str [1]]
theorem cm29 : PFn Tryz.prog 29 [] [oneR] := by
  have h : (runEP ⟨Tryz.prog, Γ, axA⟩ ptA 900 29 []).bind AV.pvT = some (.p oneR) := by kernel_rfl
  obtain ⟨v, h1, h2⟩ := Option.bind_eq_some_iff.1 h
  exact .of_acP ((runEP_ok hEA h1).monoR fun u h' ⟨e1, e2⟩ => ⟨by rw [e1]; exact h2, e2⟩)

theorem measure_one {q : Nat} {D : List (List UInt8)} (hq : q ≠ 0) (h : Kn.taken q [] D = q ^ 32) : Kn.ratV (Kn.krS q (D.map List.length)) (q ^ 32) = oneR := by
  have e : Kn.krS q (D.map List.length) = q ^ 32 := by rw [← h, Kn.taken_sum]; rfl
  have h1 := Kn.low_eq (n := Kn.krS q (D.map List.length)) (d := q ^ 32) (m := 1) (e := 1) (Nat.pos_iff_ne_zero.1 (Nat.pow_pos (Nat.pos_of_ne_zero hq))) (by decide)
  rw [h1.2 (by rw [e]; omega), ratV_one]
  rfl

theorem cm79 (a : List (List UInt8)) (x : List UInt8) (hl : a.length ≤ 9223372036854775807) : PFn Tryz.prog 79 [.sl (a.map .str), .str x] [.int .i64 (if x ∈ a then (a.idxOf x : Int) else -1)] := by
  refine PFn.of_body hΓ Tryz.func79 (by kernel_rfl) rfl (AWp.of_awpD [] hΓ hmix (by kernel_rfl) ?_)
  simp -implicitDefEqProofs only [Tryz.ntmps79, Tryz.results79, Nat.reduceAdd, Nat.reduceSub, go_sem]
  refine AWp.loopI (fun k : Nat => ⟨mkF 19 [(0, .p (.sl (a.map .str))), (1, .p (.str x)), (4, .p (.int .i64 0)), (7, .p (.int .i64 a.length)), (8, .p (.int .i64 k))], []⟩)
    (fun k => k ≤ a.length ∧ x ∉ a.take k) (fun k => a.length - k) 0 (by simp [go_sem, weakH_self]) (by simp) ?_
  rintro k ⟨hk, h0⟩
  refine AWp.of_awpD [] hΓ hmix (by kernel_rfl) ?_
  by_cases hlt : k < a.length
  · have hlt' : (k : Int) < (a.length : Int) := by omega
    have hg : (a.map PV.str).getD k default = .str a[k] := getD_map_lt _ _ _ _ hlt
    have htk : a.take (k + 1) = a.take k ++ [a[k]] := by rw [List.take_succ_eq_append_getElem hlt]
    by_cases he : x = a[k]
    · simp -implicitDefEqProofs only [hlt', hg, Int.toNat_natCast, he, List.length_map, go_sem]
      have hx : x ∈ a := he ▸ List.getElem_mem hlt
      have hi : a.idxOf x = k := by
        conv => lhs; rw [← List.take_append_drop k a, List.idxOf_append, if_neg h0]
        rw [List.drop_eq_getElem_cons hlt, he, List.idxOf_cons_self, List.length_take]
        omega
      rw [← he, if_pos hx, hi]
    · simp -implicitDefEqProofs only [hlt', hg, Int.toNat_natCast, he, List.length_map, go_sem]
      have h2 : x ∉ a.take (k + 1) := by
        rw [htk]; simp only [List.mem_append, List.mem_singleton]
        exact fun h => h.elim h0 he
      exact ⟨by simp only [InR]; omega, k + 1, by simp, ⟨hlt, h2⟩, by omega⟩
  · have hlt' : ¬ (k : Int) < (a.length : Int) := by omega
    rw [List.take_of_length_le (by omega)] at h0
    rw [if_neg h0]
    simp -implicitDefEqProofs only [hlt', go_sem]
theorem cm32 (a : List (List UInt8)) (x : List UInt8) (hl : a.length ≤ 9223372036854775807) : PFn Tryz.prog 32 [.sl (a.map .str), .str x] [.bool (decide (x ∈ a))] := by
  have e := cm79 a x hl
  by_cases hx : x ∈ a
  · rw [if_pos hx] at e
    refine PFn.of_body hΓ Tryz.func32 (by kernel_rfl) rfl (AWp.of_awpD [] hΓ hmix (by kernel_rfl) ?_)
    simp -implicitDefEqProofs only [Tryz.ntmps32, Tryz.results32, Nat.reduceAdd, Nat.reduceSub, go_sem]
    refine callK_fn e (.pures rfl) ?_
    simp -implicitDefEqProofs only [hx, go_sem]
    try simp
  · rw [if_neg hx] at e
    refine PFn.of_body hΓ Tryz.func32 (by kernel_rfl) rfl (AWp.of_awpD [] hΓ hmix (by kernel_rfl) ?_)
    simp -implicitDefEqProofs only [Tryz.ntmps32, Tryz.results32, Nat.reduceAdd, Nat.reduceSub, go_sem]
    refine callK_fn e (.pures rfl) ?_
    simp -implicitDefEqProofs only [hx, go_sem]
    try simp
theorem cm78 {h : List AObj} {b : Nat} (q : Int) (D : List (List UInt8)) (x : List UInt8) (hl : D.length ≤ 9223372036854775807) (hb : h[b]? = some (codeB q D)) :
    AC Tryz.prog 78 [.p (.str x), .ptr b 0] h [] (fun v h' => v = .p (.bool (!decide (x ∈ D))) ∧ h' = h) := by
  refine AC.of_bodyE hΓ Tryz.func78 (by kernel_rfl) rfl (AWp.mono (Q := fun e st => AM.Ends e ∧ st.tmps.getD 3 .junk = .p (.bool (!decide (x ∈ D))) ∧ st.h = h) ?_ ?_)
  rotate_left
  · rintro e ⟨tm, h'⟩ ⟨he, h1, h2⟩
    simp only at h1 h2
    subst h2
    refine ⟨he, _, Less.refl _, ?_⟩
    unfold DoneE
    simp +contextual -implicitDefEqProofs only [Tryz.results78, h1, go_sem]
    exact ⟨_, Nat.le_refl _, .inl rfl, List.take_length⟩
  unfold codeB at hb
  refine AWp.of_awpD [] hΓ hmix (by kernel_rfl) ?_
  simp -implicitDefEqProofs only [Tryz.ntmps78, Nat.reduceAdd, Nat.reduceSub, hb, go_sem]
  refine callK_fn (cm32 D x hl) (.pures rfl) ?_
  simp -implicitDefEqProofs only [go_sem]

/-- Two quotients compared. -/
theorem aggR {A B C D : List UInt8} {x y : AV} {K : AV → Prop} (hx : x.pure = some (.agg [.bool false, .str A, .bool false, .str B])) (hy : y.pure = some (.agg [.bool false, .str C, .bool false, .str D]))
    (hK : K (.p (.bool (decide (A = C) && decide (B = D))))) : aggK Γ .eql 50 x y K := by
  have he : ∃ te fs, Γ 50 = some te ∧ te.td = .struct fs ∧ te.eqs = true ∧ eqAgg Γ fs [.bool false, .str A, .bool false, .str B] [.bool false, .str C, .bool false, .str D] =
      some (((false == false) && (decide (A = C) && true)) && (((false == false) && (decide (B = D) && true)) && true)) := ⟨_, _, rfl, rfl, rfl, rfl⟩
  obtain ⟨te, fs, h1, h2, h3, h4⟩ := he
  have e : (((false == false) && (decide (A = C) && true)) && (((false == false) && (decide (B = D) && true)) && true)) = (decide (A = C) && decide (B = D)) := by simp
  rw [e] at h4
  unfold aggK
  rw [hx, hy]
  simp only [tyAt, h1, h2, h3, h4]
  exact ⟨⟨trivial, rfl, rfl⟩, hK⟩

theorem cm31 (q : Int) (D ws : List (List UInt8)) (hD : codeCheck q D = 0) (hp : prefB D = true) (hone : Kn.taken q.toNat [] D = q.toNat ^ 32) (hsub : ∀ x ∈ ws, x ∈ D) (hl : ws.length ≤ 9223372036854775807) :
    PFn Tryz.prog 31 [codeV q D, codeV q ws] [.bool true] := by
  have hv := valid_of hD
  have hlen := hv.len
  have e15 := t38 q D
  rw [if_pos hD, if_pos hD, show aloneB (fun w x => x.isPrefixOf w) D = true from hp] at e15
  have e28 := cm28 q D hD
  rw [measure_one (by have := hv.q2; omega) hone] at e28
  have e29 := cm29
  unfold oneR at e28 e29
  have hany : ws.any (fun x => !decide (x ∈ D)) = false := by
    rw [List.any_eq_false]
    intro x hx
    rw [decide_eq_true (hsub x hx)]; simp
  have e77 : ∀ h : List AObj, AC Tryz.prog 77 [.p (.sl (ws.map .str)), .fn 78 [.ptr 0 0]] (codeB q D :: h) [] (fun v h' => v = .p (.bool false) ∧ h' = codeB q D :: h) := fun h => by
    have := c77 (h := codeB q D :: h) (caps := [.ptr 0 0]) (g := 78) (pr := fun x => !decide (x ∈ D)) ws hl (fun w _ => cm78 q D w (by omega) rfl)
    rw [hany] at this
    exact this
  unfold codeB at e77
  refine PFn.of_body hΓ Tryz.func31 (by kernel_rfl) rfl (AWp.of_awpD [(3, 29)] hΓ hmix (by kernel_rfl) ?_)
  simp -implicitDefEqProofs only [Tryz.ntmps31, Tryz.results31, Nat.reduceAdd, Nat.reduceSub, codeV, go_sem]
  unfold codeV at e15 e28
  refine callK_fn e15 (.still rfl) ?_
  simp -implicitDefEqProofs only [go_sem]
  refine callK_fn e28 (.still rfl) ?_
  simp -implicitDefEqProofs only [go_sem]
  refine callVPK_fn e29 (.pures rfl) ?_
  simp -implicitDefEqProofs only [go_sem]
  refine aggR rfl rfl ?_
  have hA : (decide (([1] : List UInt8) = [1]) && decide (([1] : List UInt8) = [1])) = true := by decide
  simp -implicitDefEqProofs only [hA, go_sem]
  refine .inr (.inr ⟨_, e77 _, ?_⟩)
  simp -implicitDefEqProofs only [go_sem]
end Go.Proofs.YtjjedaikbgfmmaaGreat
end

section
namespace Go.Proofs.YtjjedaikbgfmmaaGreat
open Go Go.AM
set_option maxRecDepth 100000
set_option maxHeartbeats 4000000
set_option linter.unusedSimpArgs false

theorem emb_code {q : Int} {ws : List (List UInt8)} {n : Nat} (hv : Valid q ws) (hp : prefB ws = true) (hn : n ≤ 32) :
    (made (ws ++ embL q.toNat ws n)).length = ws.length + (embL q.toNat ws n).length ∧ prefB (made (ws ++ embL q.toNat ws n)) = true ∧ Kn.taken q.toNat [] (made (ws ++ embL q.toNat ws n)) = q.toNat ^ 32 ∧
    missing q.toNat (made (ws ++ embL q.toNat ws n)) = [] ∧ ((made (ws ++ embL q.toNat ws n)).length ≤ 64 → codeCheck q (made (ws ++ embL q.toNat ws n)) = 0) ∧
    (64 < (made (ws ++ embL q.toNat ws n)).length → codeCheck q (made (ws ++ embL q.toNat ws n)) = 4) := by
  have hc := pcode_of hv hp
  have hD := all_pcode hc hn
  have hw := whole_made (all_whole hc (n := n))
  have hl := made_len (all_nodup hc (n := n))
  have h2 := hv.q2
  have h16 := hv.q16
  have hq : ((q.toNat : Nat) : Int) = q := by omega
  have hmem : ∀ x ∈ made (ws ++ embL q.toNat ws n), x ≠ [] := fun x hx => by
    rcases List.mem_append.1 (mem_made.1 hx) with h | h
    · exact (hv.words x h).1
    · obtain ⟨m, u, hm, rfl, _, _⟩ := mem_embL.1 h
      have := (miss_short hc hm).2.1
      simp [this]
  have hne : made (ws ++ embL q.toNat ws n) ≠ [] := fun e => by
    have : ws[0]'hv.pos ∈ made (ws ++ embL q.toNat ws n) := mem_made.2 (List.mem_append_left _ (List.getElem_mem _))
    rw [e] at this; cases this
  have hin : Kn.Inner (made (ws ++ embL q.toNat ws n)) [] := by
    refine ⟨ws[0]'hv.pos, mem_made.2 (List.mem_append_left _ (List.getElem_mem _)), rfl, ?_⟩
    exact List.length_pos_iff.2 (hv.words _ (List.getElem_mem _)).1
  refine ⟨by rw [hl, List.length_append], pref_of (strict_nodup (made_strict _)) hD.free, (hD.one_iff hin).2 hw, missing_nil hw, fun h64 => ?_, fun h64 => ?_⟩
  · refine check_of h2 h16 hne h64 (fun x hx => ⟨hmem x hx, hD.short x hx, ?_⟩) (made_strict _)
    have := word_of (q := q.toNat) (w := x) (by omega) (by omega) (by have := hD.short x hx; omega) (hD.alph x hx)
    rwa [hq] at this
  · exact codeCheck_4 (by omega) (fun e => hne (List.length_eq_zero_iff.1 e)) h64

theorem missV_emb {q : Int} {ws : List (List UInt8)} (hc : chE q ws = 0) : missV q ws = embL q.toNat ws 1 := by unfold missV; rw [if_pos hc, embL_one]
theorem chE_ok {q : Int} {ws : List (List UInt8)} (h1 : codeCheck q ws = 0) (h2 : prefB ws = true) : chE q ws = 0 := by
  unfold chE
  rw [if_pos h1, if_pos (show preP ws = true from h2)]
theorem missV_nil {q : Int} {D : List (List UInt8)} (hc : chE q D = 0) (h : missing q.toNat D = []) : missV q D = [] := by unfold missV; rw [if_pos hc, h]

theorem b6 (q : Int) (ws : List (List UInt8)) (hws : ws.length ≤ 9223372036854775807) : PFn Tryz.prog 6 [codeV q ws] [.bool true] := by
  have eg := t11 q ws hws
  have e20 := cm20 q ws
  have e18 := cm18 q ws
  unfold codeV at eg e18
  refine PFn.of_body hΓ Tryz.func6 (by kernel_rfl) rfl (AWp.seq (AWp.of_awpD [] hΓ hmix (by kernel_rfl) ?_))
  simp -implicitDefEqProofs only [Tryz.ntmps6, Tryz.results6, Nat.reduceAdd, Nat.reduceSub, codeV, go_sem]
  refine AWp.seq ?_
  refine AWp.of_awpD [] hΓ hmix (by kernel_rfl) ?_
  simp -implicitDefEqProofs only [go_sem]
  refine callK_fn eg (.still rfl) ?_
  cases hg : (greatC ws || ws.any greatW)
  rotate_left
  · simp -implicitDefEqProofs only [go_sem]
    refine callK_fn awake_ok (.pures rfl) ?_
    simp -implicitDefEqProofs only [go_sem]
  by_cases hc : chE q ws = 0
  rotate_left
  · have hE : compE q ws = chE q ws := by unfold compE; rw [if_pos hc]
    have hV : compV q ws = codeV 0 [] := by unfold compV; rw [if_pos hc]
    rw [hE, hV] at e20
    unfold codeV at e20
    have hbb : (chE q ws == chE q ws) = true := by simp
    simp -implicitDefEqProofs only [go_sem]
    refine AWp.of_awpD [] hΓ hmix (by kernel_rfl) ?_
    simp -implicitDefEqProofs only [go_sem]
    refine callK_fn e20 (.still rfl) ?_
    simp -implicitDefEqProofs only [go_sem]
    refine callK_fn e18 (.still rfl) ?_
    simp -implicitDefEqProofs only [hc, hbb, go_sem]
    refine callK_fn awake_ok (.pures rfl) ?_
    simp -implicitDefEqProofs only [go_sem]
  obtain ⟨hv, hp⟩ := chE_valid hc
  have hm := missV_emb hc
  obtain ⟨k1, k2, k3, k4, k5, k6⟩ := emb_code (n := 1) hv hp (by omega)
  rw [← hm] at k1 k2 k3 k4 k5 k6
  have hEv : compE q ws = codeCheck q (made (ws ++ missV q ws)) := by unfold compE; rw [if_neg (by simp [hc])]
  have hVv : compV q ws = makeV q (ws ++ missV q ws) := by unfold compV; rw [if_neg (by simp [hc])]
  rw [hEv, hVv] at e20
  unfold makeV at e20
  rw [hc] at e18
  by_cases h64 : (made (ws ++ missV q ws)).length ≤ 64
  · have hD := k5 h64
    rw [hD, if_pos rfl] at e20
    have e18' := cm18 q (made (ws ++ missV q ws))
    have e31 := cm31 q (made (ws ++ missV q ws)) ws hD k2 k3 (fun x hx => mem_made.2 (List.mem_append_left _ hx)) hws
    rw [chE_ok hD k2] at e18'
    rw [missV_nil (chE_ok hD k2) k4] at e18'
    generalize made (ws ++ missV q ws) = D at *
    unfold codeV at e20 e18' e31
    have hl : ((D.length : Nat) : Int) = (ws.length : Int) + ((missV q ws).length : Int) := by omega
    have hll : ((D.length : Int) == (ws.length : Int) + ((missV q ws).length : Int)) = true := by simp [hl]
    have hz : ((0 : Nat) : Int) = 0 := rfl
    simp -implicitDefEqProofs only [go_sem]
    refine AWp.of_awpD [] hΓ hmix (by kernel_rfl) ?_
    simp -implicitDefEqProofs only [go_sem]
    refine callK_fn e20 (.still rfl) ?_
    simp -implicitDefEqProofs only [go_sem]
    refine callK_fn e18 (.still rfl) ?_
    simp -implicitDefEqProofs only [go_sem]
    refine callK_fn e18' (.still rfl) ?_
    simp -implicitDefEqProofs only [List.map_nil, List.length_nil, hz, go_sem]
    refine callK_fn e31 (.still rfl) ?_
    simp -implicitDefEqProofs only [List.length_map, hl, hll, go_sem]
    have hml := missV_len hv
    have hwl := hv.len
    refine ⟨by simp only [InR]; omega, callK_fn awake_ok (.pures rfl) ?_⟩
    simp -implicitDefEqProofs only [go_sem]
  · have hD := k6 (by omega)
    rw [hD, if_neg (by decide)] at e20
    unfold codeV at e20
    simp -implicitDefEqProofs only [go_sem]
    refine AWp.of_awpD [] hΓ hmix (by kernel_rfl) ?_
    simp -implicitDefEqProofs only [go_sem]
    refine callK_fn e20 (.still rfl) ?_
    simp -implicitDefEqProofs only [go_sem]
    refine callK_fn e18 (.still rfl) ?_
    simp -implicitDefEqProofs only [show ¬ (4 : Int) = 0 by decide, show ¬ (0 : Int) = 4 by decide, go_sem]
    refine callK_fn awake_ok (.pures rfl) ?_
    simp -implicitDefEqProofs only [go_sem]
end Go.Proofs.YtjjedaikbgfmmaaGreat
end

