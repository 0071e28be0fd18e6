/-
  The reference's small functions: what they compute.
-/
import Derived.Test.YtpancbdaigaheaaTy
namespace Go.Proofs.Ytpancbdaigaheaa
open Go Go.AM
set_option maxRecDepth 100000

theorem t60 (w x : List UInt8) : PFn Try.prog 60 [.str w, .str x] [.bool (x.isPrefixOf w)] := by
  refine PFn.of_body hΓ Try.func60 (by kernel_rfl) rfl (AWp.of_awpD [] hΓ hmix (by kernel_rfl) ?_)
  simp +contextual -implicitDefEqProofs only [Try.ntmps60, Try.results60, Nat.reduceAdd, Nat.reduceSub, go_sem]
  refine ⟨fun h => ?_, fun h => ?_⟩
  · rw [Bool.eq_iff_iff, List.isPrefixOf_iff_prefix, List.prefix_iff_eq_take, decide_eq_true_eq]; exact eq_comm
  · rw [Bool.eq_iff_iff, List.isPrefixOf_iff_prefix]
    exact ⟨fun h => by simp at h, fun h' => absurd h'.length_le h⟩

theorem t55 (ws : List (List UInt8)) (x : List UInt8) (hl : ws.length ≤ 9223372036854775807) : PFn Try.prog 55 [.sl (ws.map .str), .str x] [.bool (decide (x ∈ ws))] := by
  refine PFn.of_body hΓ Try.func55 (by kernel_rfl) rfl (AWp.of_awpD [] hΓ hmix (by kernel_rfl) ?_)
  simp +contextual -implicitDefEqProofs only [Try.ntmps55, Try.results55, Nat.reduceAdd, Nat.reduceSub, go_sem]
  refine AWp.loopI (fun k : Nat => ⟨mkF 18 [(0, .p (.sl (ws.map .str))), (1, .p (.str x)), (4, .p (.bool false)), (5, .p (.int .i64 k))], []⟩)
    (fun k => k ≤ ws.length ∧ x ∉ ws.take k) (fun k => ws.length - k) 0 (by simp [go_sem]) (by simp) ?_
  rintro k ⟨hk, hnot⟩
  refine AWp.of_awpD [] hΓ hmix (by kernel_rfl) ?_
  simp +contextual -implicitDefEqProofs only [go_sem, getD_map_lt, ↓reduceIte]
  refine ⟨fun hlt => ⟨fun he => ?_, fun hne => ⟨by simp only [InR]; omega, k + 1, by simp, ⟨hlt, ?_⟩, by omega⟩⟩, fun hge => ?_⟩
  · simp [← he]
  · rw [List.take_succ_eq_append_getElem hlt]
    simp only [List.mem_append, List.mem_singleton, hnot, false_or]; exact fun h => hne h.symm
  · rw [List.take_of_length_le (by omega)] at hnot; simp [hnot]

theorem t57 (a b : List UInt8) : PFn Try.prog 57 [.str a, .str b] [.bool (decide (a.length < b.length) || (decide (a.length = b.length) && Op.bytesLess a b))] := by
  refine PFn.of_body hΓ Try.func57 (by kernel_rfl) rfl (AWp.of_awpD [] hΓ hmix (by kernel_rfl) ?_)
  simp +contextual -implicitDefEqProofs only [Try.ntmps57, Try.results57, Nat.reduceAdd, Nat.reduceSub, go_sem, Bool.false_or, Bool.true_or, Bool.true_and, Bool.false_and]
  intro h1 h2; simp

theorem t64 (a b : List Int) (hl : a.length ≤ 9223372036854775807) : PFn Try.prog 64 [.sl (a.map (.int .i64)), .sl (b.map (.int .i64))] [.bool (decide (a = b))] := by
  refine PFn.of_body hΓ Try.func64 (by kernel_rfl) rfl (AWp.of_awpD [] hΓ hmix (by kernel_rfl) ?_)
  simp +contextual -implicitDefEqProofs only [Try.ntmps64, Try.results64, Nat.reduceAdd, Nat.reduceSub, go_sem]
  refine ⟨fun he => ?_, fun hne => ?_⟩
  · refine AWp.loopI (fun k : Nat => ⟨mkF 26 [(0, .p (.sl (a.map (.int .i64)))), (1, .p (.sl (b.map (.int .i64)))), (4, .p (.bool false)), (5, .p (.int .i64 k))], []⟩)
      (fun k => k ≤ a.length ∧ a.take k = b.take k) (fun k => a.length - k) 0 (by simp [go_sem]) (by simp) ?_
    rintro k ⟨hk, heq⟩
    refine AWp.of_awpD [(6, 9)] hΓ hmix (by kernel_rfl) ?_
    simp +contextual -implicitDefEqProofs only [go_sem, getD_map_lt, ↓reduceIte, ← he]
    refine ⟨fun hlt => ⟨fun hk' => ⟨by simp only [InR]; omega, k + 1, by simp, ⟨hlt, ?_⟩, by omega⟩, fun hk' => ?_⟩, fun hge => ?_⟩
    · rw [List.take_succ_eq_append_getElem hlt, List.take_succ_eq_append_getElem (by omega), heq, hk']
    · exact (decide_eq_false fun e => hk' (by subst e; rfl)).symm
    · rw [List.take_of_length_le (by omega), List.take_of_length_le (by omega)] at heq
      exact (decide_eq_true heq).symm
  · exact (decide_eq_false fun e => hne (by rw [e])).symm

/-- A code as a value. -/
def codeV (q : Int) (ws : List (List UInt8)) : PV := .agg [.int .i64 q, .sl (ws.map .str)]
def codeB (q : Int) (ws : List (List UInt8)) : AObj := .box [.p (.int .i64 q), .p (.sl (ws.map .str))]
def greatW (w : List UInt8) : Bool := (decide (6 < w.length) && decide (w.length ≤ 32)) || decide (35 < w.length)

theorem t24 (q : Int) (ws : List (List UInt8)) (hl : ws.length ≤ 9223372036854775807) : PFn Try.prog 24 [codeV q ws] [.bool (ws.any greatW || ((decide (6 < ws.length) && decide (ws.length ≤ 64)) || decide (67 < ws.length)))] := by
  refine PFn.of_body hΓ Try.func24 (by kernel_rfl) rfl (AWp.of_awpD [] hΓ hmix (by kernel_rfl) ?_)
  simp +contextual -implicitDefEqProofs only [Try.ntmps24, Try.results24, Nat.reduceSub, go_sem, codeV]
  refine AWp.loopI (fun k : Nat => ⟨mkF 44 [(1, .ptr 0 0), (2, .p (.bool false)), (3, .p (.int .i64 k))], [codeB q ws]⟩)
    (fun k => k ≤ ws.length ∧ (ws.take k).any greatW = false) (fun k => ws.length - k) 0 (by simp [go_sem, codeB]) (by simp) ?_
  rintro k ⟨hk, hno⟩
  refine AWp.of_awpD [] hΓ hmix (by kernel_rfl) ?_
  simp +contextual -implicitDefEqProofs only [go_sem, getD_map_lt, ↓reduceIte, codeB]
  have key : ∀ h : k < ws.length, greatW ws[k] = true → ws.any greatW = true := fun h h' => List.any_eq_true.2 ⟨_, List.getElem_mem h, h'⟩
  have step : ∀ h : k < ws.length, greatW ws[k] = false → InR IntKind.i64 (↑k + 1) ∧ ∃ y : Nat, (↑y : Int) = ↑k + 1 ∧ (y ≤ ws.length ∧ (List.take y ws).any greatW = false) ∧ ws.length - y < ws.length - k := fun h h' =>
    ⟨by simp only [InR]; omega, k + 1, by simp, ⟨h, by rw [List.take_succ_eq_append_getElem h, List.any_append, hno]; simp [h']⟩, by omega⟩
  have yes : ∀ (h : k < ws.length) {b : Bool}, greatW ws[k] = true → true = (ws.any greatW || b) := fun h b h' => by rw [key h h']; rfl
  have fin : ¬ k < ws.length → ws.any greatW = false := fun h => by rw [List.take_of_length_le (by omega)] at hno; exact hno
  refine ⟨fun h => ⟨fun h1 => ⟨fun h2 => yes h ?_, fun h2 => ⟨fun h3 => yes h ?_, fun h3 => step h ?_⟩⟩, fun h1 => ⟨fun h3 => yes h ?_, fun h3 => step h ?_⟩⟩, fun h => ?_⟩
  · simp only [greatW, Bool.or_eq_true, Bool.and_eq_true, decide_eq_true_eq]; omega
  · simp only [greatW, Bool.or_eq_true, Bool.and_eq_true, decide_eq_true_eq]; omega
  · simp only [greatW, Bool.or_eq_false_iff, Bool.and_eq_false_iff, decide_eq_false_iff_not]; omega
  · simp only [greatW, Bool.or_eq_true, Bool.and_eq_true, decide_eq_true_eq]; omega
  · simp only [greatW, Bool.or_eq_false_iff, Bool.and_eq_false_iff, decide_eq_false_iff_not]; omega
  · rw [fin h, Bool.false_or]
    refine ⟨fun h1 => ⟨fun h2 => ?_, fun h2 => ?_⟩, fun h1 => ?_⟩
    · rw [decide_eq_true (show 6 < ws.length by omega), decide_eq_true (show ws.length ≤ 64 by omega)]; rfl
    · rw [decide_eq_false (show ¬ ws.length ≤ 64 by omega), Bool.and_false, Bool.false_or]
      exact Bool.eq_iff_iff.2 (by simp only [decide_eq_true_eq]; omega)
    · rw [decide_eq_false (show ¬ 6 < ws.length by omega), Bool.false_and, Bool.false_or]
      exact Bool.eq_iff_iff.2 (by simp only [decide_eq_true_eq]; omega)
end Go.Proofs.Ytpancbdaigaheaa
