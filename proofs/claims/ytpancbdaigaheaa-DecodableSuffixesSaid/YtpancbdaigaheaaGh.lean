/-
  The law DecodableChecks.
-/
import Derived.Test.YtpancbdaigaheaaGg
namespace Go.Proofs.Ytpancbdaigaheaa
open Go Go.AM
set_option maxRecDepth 100000
set_option linter.unusedSimpArgs false

/-- slices.IndexFunc: an index that is not negative exactly if some word will do. -/
theorem c49 {h : List AObj} {g : FuncId} {caps : List AV} {pr : List UInt8 → Bool} (ws : List (List UInt8)) (hl : ws.length ≤ 9223372036854775807)
    (hg : ∀ w ∈ ws, AC Try.prog g (.p (.str w) :: caps) h [] (fun v h' => v = .p (.bool (pr w)) ∧ h' = h)) :
    AC Try.prog 49 [.p (.sl (ws.map .str)), .fn g caps] h [] (fun v h' => (∃ i : Int, v = .p (.int .i64 i) ∧ decide (0 ≤ i) = ws.any pr) ∧ h' = h) := by
  refine AC.of_bodyE hΓ Try.func49 (by kernel_rfl) rfl (AWp.mono (Q := fun e st => AM.Ends e ∧ (∃ i : Int, st.tmps.getD 4 .junk = .p (.int .i64 i) ∧ decide (0 ≤ i) = ws.any pr) ∧ st.h = h) ?_ ?_)
  rotate_left
  · rintro e ⟨tm, h'⟩ ⟨he, ⟨i, h1, h3⟩, h2⟩
    simp only at h1 h2
    subst h2
    refine ⟨he, _, Less.refl _, ?_⟩
    unfold DoneE
    simp +contextual -implicitDefEqProofs only [Try.results49, h1, go_sem]
    exact ⟨_, Nat.le_refl _, .inl rfl, ⟨i, rfl, h3⟩, List.take_length⟩
  refine AWp.of_awpD [] hΓ hmix (by kernel_rfl) ?_
  simp +contextual -implicitDefEqProofs only [Try.ntmps49, Nat.reduceAdd, Nat.reduceSub, go_sem]
  refine AWp.loopI (fun k : Nat => ⟨mkF 19 [(0, .p (.sl (ws.map .str))), (1, .fn g caps), (7, .p (.int .i64 ws.length)), (8, .p (.int .i64 k))], h⟩)
    (fun k => k ≤ ws.length ∧ (ws.take k).any pr = false) (fun k => ws.length - k) 0 (by simp [go_sem, weakH_self]) (by simp) ?_
  rintro k ⟨hk, h0⟩
  refine AWp.of_awpD [] hΓ hmix (by kernel_rfl) ?_
  simp +contextual -implicitDefEqProofs only [getD_map_lt, ↓reduceIte, go_sem]
  refine ⟨fun hlt => ?_, fun hge => ⟨-1, rfl, by rw [List.take_of_length_le (by omega)] at h0; rw [h0]; rfl⟩⟩
  refine callK_ac (hg ws[k] (List.getElem_mem hlt)) (by simp) ?_
  rintro v h' ⟨rfl, rfl⟩
  cases hp : pr ws[k]
  · simp -implicitDefEqProofs only [killAll, List.foldl, go_sem]
    refine ⟨by simp only [InR]; omega, k + 1, by simp [weakH_self], ⟨hlt, ?_⟩, by omega⟩
    rw [List.take_succ_eq_append_getElem hlt, List.any_append, h0]; simp [hp]
  · simp -implicitDefEqProofs only [killAll, List.foldl, go_sem]
    refine ⟨k, rfl, ?_⟩
    rw [List.any_eq_true.2 ⟨_, List.getElem_mem hlt, hp⟩]; simp

theorem c17 {h : List AObj} {g : FuncId} {caps : List AV} {pr : List UInt8 → Bool} (ws : List (List UInt8)) (hl : ws.length ≤ 9223372036854775807)
    (hg : ∀ w ∈ ws, AC Try.prog g (.p (.str w) :: caps) h [] (fun v h' => v = .p (.bool (pr w)) ∧ h' = h)) :
    AC Try.prog 17 [.p (.sl (ws.map .str)), .fn g caps] h [] (fun v h' => v = .p (.bool (ws.any pr)) ∧ h' = h) := by
  refine AC.of_bodyE hΓ Try.func17 (by kernel_rfl) rfl (AWp.mono (Q := fun e st => AM.Ends e ∧ st.tmps.getD 4 .junk = .p (.bool (ws.any pr)) ∧ st.h = h) ?_ ?_)
  rotate_left
  · rintro e ⟨tm, h'⟩ ⟨he, h1, h2⟩
    simp only at h1 h2
    subst h2
    refine ⟨he, _, Less.refl _, ?_⟩
    unfold DoneE
    simp +contextual -implicitDefEqProofs only [Try.results17, h1, go_sem]
    exact ⟨_, Nat.le_refl _, .inl rfl, List.take_length⟩
  refine AWp.of_awpD [] hΓ hmix (by kernel_rfl) ?_
  simp +contextual -implicitDefEqProofs only [Try.ntmps17, Nat.reduceAdd, Nat.reduceSub, go_sem]
  refine callK_ac (c49 ws hl hg) (by simp) ?_
  rintro v h' ⟨⟨i, rfl, hi⟩, rfl⟩
  simp -implicitDefEqProofs only [killAll, List.foldl, go_sem]
  exact hi

theorem t33 (w : List UInt8) : PFn Try.prog 33 [.str w] [.bool (decide (40 < w.length))] := by
  refine PFn.of_body hΓ Try.func33 (by kernel_rfl) rfl (AWp.of_awpD [] hΓ hmix (by kernel_rfl) ?_)
  simp +contextual -implicitDefEqProofs only [Try.ntmps33, Try.results33, Nat.reduceAdd, Nat.reduceSub, go_sem]
  exact decide_eq_decide.2 (by omega)

def greatB (ws : List (List UInt8)) : Bool := ws.any greatW || ((decide (6 < ws.length) && decide (ws.length ≤ 64)) || decide (67 < ws.length))

theorem t6 (q : Int) (ws : List (List UInt8)) (m : List UInt8) (a b : List Int) (l : List (List UInt8)) (hws : ws.length ≤ 9223372036854775807) (ha : a.length ≤ 9223372036854775807) (hb : b.length ≤ 9223372036854775807) (hl : l.length ≤ 9223372036854775807) :
    PFn Try.prog 6 [codeV q ws, ambV m a b, .sl (l.map .str)] [.bool true] := by
  refine PFn.of_body hΓ Try.func6 (by kernel_rfl) rfl (AWp.of_awpD [(3, 19)] hΓ hmix (by kernel_rfl) ?_)
  simp +contextual -implicitDefEqProofs only [codeV, ambV, Try.ntmps6, Try.results6, Nat.reduceAdd, Nat.reduceSub, go_sem]
  have e24 : PFn Try.prog 24 [codeV q ws] [.bool (greatB ws)] := t24 q ws hws
  refine callK_fn e24 (.still rfl) ?_
  cases hg : greatB ws
  rotate_left
  · simp -implicitDefEqProofs only [go_sem]
    refine callK_fn awake_ok (.pures rfl) ?_
    simp -implicitDefEqProofs only [go_sem]
  by_cases h1 : 40 < (m.length : Int)
  · simp -implicitDefEqProofs only [h1, go_sem]
    refine callK_fn awake_ok (.pures rfl) ?_
    simp -implicitDefEqProofs only [go_sem]
  by_cases h2 : 20 < (a.length : Int)
  · simp -implicitDefEqProofs only [h1, h2, go_sem]
    refine callK_fn awake_ok (.pures rfl) ?_
    simp -implicitDefEqProofs only [go_sem]
  by_cases h3 : 20 < (b.length : Int)
  · simp -implicitDefEqProofs only [h1, h2, h3, go_sem]
    refine callK_fn awake_ok (.pures rfl) ?_
    simp -implicitDefEqProofs only [go_sem]
  by_cases h4 : 20 < (l.length : Int)
  · simp -implicitDefEqProofs only [h1, h2, h3, h4, go_sem]
    refine callK_fn awake_ok (.pures rfl) ?_
    simp -implicitDefEqProofs only [go_sem]
  simp -implicitDefEqProofs only [h1, h2, h3, h4, go_sem]
  refine callK_ac (c17 l hl (pr := fun w => decide (40 < w.length)) (fun w _ => AC.of_fn (t33 w) (.inl rfl))) (by simp) ?_
  rintro v h' ⟨rfl, rfl⟩
  cases h5 : l.any fun w => decide (40 < w.length)
  rotate_left
  · simp -implicitDefEqProofs only [killAll, List.foldl, go_sem]
    refine callK_fn awake_ok (.pures rfl) ?_
    simp -implicitDefEqProofs only [go_sem]
  simp -implicitDefEqProofs only [killAll, List.foldl, go_sem]
  refine callVPK_fn (t34 q ws m a b ha hb) (.still rfl) ?_
  simp -implicitDefEqProofs only [go_sem]
  refine callVPK_fn (t35 q ws m a b ha hb) (.still rfl) ?_
  simp -implicitDefEqProofs only [go_sem]
  refine callVPK_fn (t23 q ws l (by omega)) (.still rfl) ?_
  simp -implicitDefEqProofs only [go_sem]
  refine callVPK_fn (t36 q ws l (by omega)) (.still rfl) ?_
  simp -implicitDefEqProofs only [go_sem]
  refine callVPK_fn awake_ok (.pures rfl) ?_
  simp -implicitDefEqProofs only [go_sem]
end Go.Proofs.Ytpancbdaigaheaa
