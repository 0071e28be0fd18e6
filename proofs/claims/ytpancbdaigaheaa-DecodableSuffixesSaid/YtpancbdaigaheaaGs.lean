/-
  The law DecodableSuffixes.
-/
import Derived.Test.YtpancbdaigaheaaRc
namespace Go.Proofs.Ytpancbdaigaheaa
open Go Go.AM
set_option maxRecDepth 100000
set_option linter.unusedSimpArgs false

def endB (r w : List UInt8) : Bool := r.isSuffixOf w && decide (r.length < w.length)
theorem c18 {h : List AObj} {b : Nat} (r w : List UInt8) (hb : h[b]? = some (.box [.p (.str r)])) (hw : w.length ≤ 9223372036854775807) :
    AC Try.prog 18 [.p (.str w), .ptr b 0] h [] (fun v h' => v = .p (.bool (endB r w)) ∧ h' = h) := by
  refine AC.of_bodyE hΓ Try.func18 (by kernel_rfl) rfl (AWp.mono (Q := fun e st => AM.Ends e ∧ st.tmps.getD 3 .junk = .p (.bool (endB r w)) ∧ st.h = h) ?_ ?_)
  rotate_left
  · rintro e ⟨tm, h'⟩ ⟨he, h1, h2⟩
    simp only at h1 h2
    subst h2
    refine ⟨he, _, Less.refl _, ?_⟩
    unfold DoneE
    simp +contextual -implicitDefEqProofs only [Try.results18, h1, go_sem]
    exact ⟨_, Nat.le_refl _, .inl rfl, List.take_length⟩
  refine AWp.of_awpD [] hΓ hmix (by kernel_rfl) ?_
  simp -implicitDefEqProofs only [Try.ntmps18, Nat.reduceAdd, Nat.reduceSub, hb, go_sem]
  refine callK_fn (t19 w r hw) (.pures rfl) ?_
  unfold endB
  cases hp : r.isSuffixOf w
  · simp -implicitDefEqProofs only [hb, go_sem]
    rfl
  · simp -implicitDefEqProofs only [hb, go_sem]

theorem reach_proper {q : Int} {ws : List (List UInt8)} (hv : Valid q ws) {x : List UInt8} (h : Reach ws x) : ws.any (endB x) = true := by
  have get : ∀ i, i < ws.length → ∀ (h : i < ws.length), ws.getD i [] = ws[i] := fun i hi h => by rw [List.getD_eq_getElem?_getD, List.getElem?_eq_getElem h, Option.getD_some]
  have mk : ∀ u w : List UInt8, w ∈ ws → u <:+ w → u.length < w.length → ws.any (endB u) = true := fun u w hw h1 h2 =>
    List.any_eq_true.2 ⟨w, hw, by unfold endB; rw [List.isSuffixOf_iff_suffix.2 h1, decide_eq_true h2]; rfl⟩
  have pos : ∀ w ∈ ws, 0 < w.length := fun w hw => by
    obtain ⟨j, hj, rfl⟩ := List.getElem_of_mem hw
    have := hv.ne j hj
    rw [get j hj hj] at this
    exact List.length_pos_iff.2 this
  induction h with
  | first u h =>
    obtain ⟨i, k, hi, hk, hne, hp, rfl⟩ := mem_firstS.1 h
    have hwi : ws.getD i [] ∈ ws := by rw [get i hi hi]; exact List.getElem_mem hi
    have hwk : ws.getD k [] ∈ ws := by rw [get k hk hk]; exact List.getElem_mem hk
    have h1 := pos _ hwi
    have h2 := pos _ hwk
    exact mk _ _ hwi (List.drop_suffix _ _) (by rw [List.length_drop]; omega)
  | next r u hr hne h ih =>
    obtain ⟨w, hw, hs⟩ := List.any_eq_true.1 ih
    unfold endB at hs
    simp only [Bool.and_eq_true, decide_eq_true_eq, List.isSuffixOf_iff_suffix] at hs
    obtain ⟨x, hx, ⟨_, rfl⟩ | ⟨_, _, rfl⟩⟩ := mem_nextS.1 h
    · exact mk _ w hw ((List.drop_suffix _ _).trans hs.1) (by rw [List.length_drop]; omega)
    · have h1 := pos _ hx
      have h2 : 0 < r.length := List.length_pos_iff.2 hne
      exact mk _ x hx (List.drop_suffix _ _) (by rw [List.length_drop]; omega)

theorem close1 {q : Int} {ws : List (List UInt8)} (hv : Valid q ws) {r x : List UInt8} (hr : r ∈ residL ws) (hx : x ∈ ws) (hp : x.isPrefixOf r = true) : r.drop x.length ∈ residL ws := by
  have hx0 : x ≠ [] := by
    obtain ⟨j, hj, rfl⟩ := List.getElem_of_mem hx
    have := hv.ne j hj
    rwa [List.getD_eq_getElem?_getD, List.getElem?_eq_getElem hj, Option.getD_some] at this
  have hr0 : r ≠ [] := fun e => by
    subst e
    cases x with
    | nil => exact hx0 rfl
    | cons a l => simp at hp
  exact mem_residL.2 (.next r _ (mem_residL.1 hr) hr0 (mem_nextS.2 ⟨x, hx, .inl ⟨hp, rfl⟩⟩))
theorem close2 {q : Int} {ws : List (List UInt8)} (hv : Valid q ws) {r x : List UInt8} (hr : r ∈ residL ws) (hx : x ∈ ws) (hr0 : r ≠ []) (hp : r.isPrefixOf x = true) : x.drop r.length ∈ residL ws := by
  cases h : x.isPrefixOf r
  · exact mem_residL.2 (.next r _ (mem_residL.1 hr) hr0 (mem_nextS.2 ⟨x, hx, .inr ⟨h, hp, rfl⟩⟩))
  · have h1 := List.isPrefixOf_iff_prefix.1 h
    have h2 := List.isPrefixOf_iff_prefix.1 hp
    have e : x = r := h1.eq_of_length (Nat.le_antisymm h1.length_le h2.length_le)
    subst e
    exact close1 hv hr hx h

set_option maxHeartbeats 2000000 in
theorem t3 (q : Int) (ws : List (List UInt8)) (hws : ws.length ≤ 9223372036854775807) : PFn Try.prog 3 [codeV q ws] [.bool true] := by
  refine PFn.of_body hΓ Try.func3 (by kernel_rfl) rfl (AWp.of_awpD [(12, 33)] hΓ hmix (by kernel_rfl) ?_)
  simp +contextual -implicitDefEqProofs only [codeV, Try.ntmps3, Try.results3, Nat.reduceAdd, Nat.reduceSub, go_sem]
  refine callK_fn (t12 q ws hws) (.still rfl) ?_
  cases hf : (!greatB ws && decide (codeCheck q ws = 0))
  · simp -implicitDefEqProofs only [go_sem]
    refine callK_fn awake_ok (.pures rfl) ?_
    simp -implicitDefEqProofs only [go_sem]
  simp only [Bool.and_eq_true, decide_eq_true_eq] at hf
  have h := hf.2
  have hv := valid_of h
  have hrl := residL_len hv
  have e14 := t14 q ws
  have e15 := t15 q ws
  rw [if_pos h, if_pos h] at e14 e15
  simp -implicitDefEqProofs only [go_sem]
  refine callK_fn e14 (.still rfl) ?_
  simp -implicitDefEqProofs only [go_sem]
  refine callK_fn e15 (.still rfl) ?_
  simp -implicitDefEqProofs only [go_sem]
  refine callK_fn (t16 (residL ws) [] (by omega)) (.still rfl) ?_
  simp -implicitDefEqProofs only [go_sem]
  have hx : ((!decide ([] ∈ residL ws)) == decide ([] ∈ residL ws)) = false := by cases decide ([] ∈ residL ws) <;> rfl
  rw [hx]
  simp -implicitDefEqProofs only [go_sem]
  refine AWp.loopI (fun p : Nat × Nat => ⟨mkF 126 [(1, .ptr 0 0), (2, .p (.bool false)), (3, .p (.sl ((residL ws).map .str))), (41, .p (.sl ((residL ws).map .str))), (42, .p (.int .i64 (residL ws).length)), (43, .p (.int .i64 p.1))], codeB q ws :: List.replicate p.2 .dead⟩)
    (fun p => p.1 ≤ (residL ws).length) (fun p => (residL ws).length - p.1) (0, 0) (by simp [go_sem, codeB]) (Nat.zero_le _) ?_
  rintro ⟨k, m⟩ hk
  simp only at hk
  generalize hTT : List.replicate m AObj.dead = T
  refine AWp.of_awpD [(12, 33)] hΓ hmix (by kernel_rfl) ?_
  by_cases hlt : k < (residL ws).length
  · have gT : ∀ x : AObj, (T ++ [x])[T.length]? = some x := fun x => by simp
    have sT : ∀ x y : AObj, (T ++ [x]).set T.length y = T ++ [y] := fun x y => by simp
    have hwl : ∀ w ∈ ws, w.length ≤ 9223372036854775807 := fun w hw => by
      obtain ⟨j, hj, rfl⟩ := List.getElem_of_mem hw
      have := hv.short j hj
      rw [List.getD_eq_getElem?_getD, List.getElem?_eq_getElem hj, Option.getD_some] at this; omega
    simp -implicitDefEqProofs only [hlt, getD_map_lt, ↓reduceIte, codeB, gT, sT, go_sem]
    refine callK_ac (c17 ws hws (pr := endB (residL ws)[k]) (fun w hw => c18 (residL ws)[k] w (by simp) (hwl w hw))) (by simp) ?_
    rintro v h' ⟨rfl, rfl⟩
    rw [reach_proper hv (mem_residL.1 (List.getElem_mem hlt))]
    have hcase : (0 < (k : Int) → (residL ws)[k - 1].length < (residL ws)[k].length ∨ (residL ws)[k - 1].length = (residL ws)[k].length ∧ Op.bytesLess (residL ws)[k - 1] (residL ws)[k] = true) := fun h0 => by
      have hst : ltW (residL ws)[k - 1] (residL ws)[k] := List.pairwise_iff_getElem.1 (residL_strict ws) (k - 1) k (by omega) hlt (by omega)
      rcases hst with hl | ⟨hl, hb⟩
      · exact .inl hl
      · exact .inr ⟨hl, by rw [← bLt_eq]; exact hb⟩
    have hmem : (residL ws)[k] ∈ residL ws := List.getElem_mem hlt
    have hc : (¬ 0 < (k : Int)) ∨ (0 < (k : Int) ∧ (residL ws)[k - 1].length < (residL ws)[k].length) ∨ (0 < (k : Int) ∧ (residL ws)[k - 1].length = (residL ws)[k].length ∧ Op.bytesLess (residL ws)[k - 1] (residL ws)[k] = true) := by
      by_cases h0 : 0 < (k : Int)
      · rcases hcase h0 with h | h
        · exact .inr (.inl ⟨h0, h⟩)
        · exact .inr (.inr ⟨h0, h⟩)
      · exact .inl h0
    rcases hc with h0 | ⟨h0, hl⟩ | ⟨h0, hl, hb⟩
    case' inl => simp -implicitDefEqProofs only [killAll, List.foldl, h0, go_sem]
    case' inr.inl =>
      have hk1 : ((k : Int) - 1).toNat = k - 1 := by omega
      have hlt1 : k - 1 < (residL ws).length := by omega
      have n1 : ¬ (((residL ws)[k].length : Int) < (residL ws)[k - 1].length) := by omega
      have n2 : ¬ (((residL ws)[k - 1].length : Int) = (residL ws)[k].length) := by omega
      simp -implicitDefEqProofs only [killAll, List.foldl, h0, hk1, hlt1, n1, n2, getD_map_lt, gT, ↓reduceIte, go_sem]
      refine ⟨by simp only [InR]; omega, ⟨by omega, by omega⟩, by simp only [InR]; omega, ⟨by omega, by omega⟩, ?_⟩
    case' inr.inr =>
      have hk1 : ((k : Int) - 1).toNat = k - 1 := by omega
      have hlt1 : k - 1 < (residL ws).length := by omega
      have n1 : ¬ (((residL ws)[k].length : Int) < (residL ws)[k - 1].length) := by omega
      have n2 : (((residL ws)[k - 1].length : Int) = (residL ws)[k].length) := by omega
      have n3 : ¬ (((residL ws)[k].length : Int) < (residL ws)[k].length) := by omega
      simp -implicitDefEqProofs only [killAll, List.foldl, h0, hk1, hlt1, n2, n3, hb, getD_map_lt, gT, ↓reduceIte, go_sem]
      refine ⟨by simp only [InR]; omega, ⟨by omega, by omega⟩, by simp only [InR]; omega, ⟨by omega, by omega⟩, by simp only [InR]; omega, ⟨by omega, by omega⟩, ?_⟩
    all_goals
      clear hcase h0
      generalize hr : (residL ws)[k] = r at hmem
      refine AWp.loopI (fun j : Nat => ⟨mkF 126 [(1, .ptr 0 0), (2, .p (.bool false)), (3, .p (.sl ((residL ws).map .str))), (7, .p (.int .i64 k)), (8, .ptr (T.length + 1) 0), (41, .p (.sl ((residL ws).map .str))), (42, .p (.int .i64 (residL ws).length)), (43, .p (.int .i64 k)), (87, .p (.sl (ws.map .str))), (88, .p (.int .i64 ws.length)), (89, .p (.int .i64 j))], codeB q ws :: (T ++ [.box [.p (.str r)]])⟩)
        (fun j => j ≤ ws.length) (fun j => ws.length - j) 0 (by simp [go_sem, codeB] <;> exact weakH_self _) (Nat.zero_le _) ?_
      intro j hj
      refine AWp.of_awpD [] hΓ hmix (by kernel_rfl) ?_
      by_cases hjlt : j < ws.length
      · simp -implicitDefEqProofs only [hjlt, getD_map_lt, ↓reduceIte, codeB, gT, go_sem]
        have hwm : ws[j] ∈ ws := List.getElem_mem hjlt
        generalize ws[j] = x at hwm
        have e1 : ∀ a b : List UInt8, b.isPrefixOf a = true → cutW a b = a.drop b.length := fun a b h => by unfold cutW; rw [if_pos h]
        refine callK_fn (t20 r x) (.still rfl) ?_
        cases hp1 : x.isPrefixOf r
        case' false => simp -implicitDefEqProofs only [gT, go_sem]
        case' true =>
          rw [e1 r x hp1]
          simp -implicitDefEqProofs only [go_sem]
          refine callK_fn (t16 (residL ws) (r.drop x.length) (by omega)) (.still rfl) ?_
          rw [decide_eq_true (close1 hv hmem hwm hp1)]
          simp -implicitDefEqProofs only [gT, go_sem]
        all_goals
          refine callK_fn (t20 x r) (.still rfl) ?_
          cases hp2 : r.isPrefixOf x
          · simp -implicitDefEqProofs only [gT, go_sem]
            refine ⟨by simp only [InR]; omega, j + 1, by simp [go_sem] <;> exact weakH_self _, by omega, by omega⟩
          · rw [e1 x r hp2]
            by_cases hr0 : r = []
            · simp -implicitDefEqProofs only [gT, hr0, go_sem]
              refine ⟨by simp only [InR]; omega, j + 1, by simp [go_sem] <;> exact weakH_self _, by omega, by omega⟩
            · simp -implicitDefEqProofs only [gT, hr0, go_sem]
              refine callK_fn (t16 (residL ws) (x.drop r.length) (by omega)) (.still rfl) ?_
              rw [decide_eq_true (close2 hv hmem hwm hr0 hp2)]
              simp -implicitDefEqProofs only [gT, go_sem]
              refine ⟨by simp only [InR]; omega, j + 1, by simp [go_sem] <;> exact weakH_self _, by omega, by omega⟩
      · simp -implicitDefEqProofs only [hjlt, getD_map_lt, ↓reduceIte, codeB, gT, go_sem]
        refine ⟨by simp only [InR]; omega, (k + 1, m + 1), ⟨by simp, ?_⟩, by simp only; omega, by simp only; omega⟩
        have := weakH_dead (T ++ [AObj.box [AV.p (PV.str r)]])
        simpa [← hTT] using this
  · simp -implicitDefEqProofs only [hlt, getD_map_lt, ↓reduceIte, codeB, go_sem]
    refine callK_fn awake_ok (.pures rfl) ?_
    simp -implicitDefEqProofs only [go_sem]
end Go.Proofs.Ytpancbdaigaheaa
