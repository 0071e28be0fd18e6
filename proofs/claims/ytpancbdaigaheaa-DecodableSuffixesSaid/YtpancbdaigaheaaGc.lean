/-
  Codes: the checks of the program and of the reference.
-/
import Derived.Test.YtpancbdaigaheaaGb
namespace Go.Proofs.Ytpancbdaigaheaa
open Go Go.AM
set_option maxRecDepth 100000
set_option linter.unusedSimpArgs false

/-- What is wrong with the word at i. -/
def wordErr (q : Int) (ws : List (List UInt8)) (i : Nat) : Int :=
  let w := ws.getD i []
  if w = [] then 5 else if 32 < w.length then 4 else if wordCheck q w ≠ 0 then 13 else if 0 < i ∧ 0 ≤ cmpW (ws.getD (i - 1) []) w then 10 else 0
/-- What is wrong with a code: 0 if nothing is. -/
def codeCheck (q : Int) (ws : List (List UInt8)) : Int :=
  if q < 2 ∨ 16 < q then 12 else if ws.length = 0 then 5 else if 64 < ws.length then 4 else firstNZ ((List.range ws.length).map (wordErr q ws))

theorem codeCheck_12 {q : Int} {ws : List (List UInt8)} (h : q < 2 ∨ 16 < q) : codeCheck q ws = 12 := by unfold codeCheck; rw [if_pos h]
theorem codeCheck_5 {q : Int} {ws : List (List UInt8)} (h : ¬ (q < 2 ∨ 16 < q)) (h1 : ws.length = 0) : codeCheck q ws = 5 := by unfold codeCheck; rw [if_neg h, if_pos h1]
theorem codeCheck_4 {q : Int} {ws : List (List UInt8)} (h : ¬ (q < 2 ∨ 16 < q)) (h1 : ¬ ws.length = 0) (h2 : 64 < ws.length) : codeCheck q ws = 4 := by unfold codeCheck; rw [if_neg h, if_neg h1, if_pos h2]
theorem codeCheck_at {q : Int} {ws : List (List UInt8)} (h : ¬ (q < 2 ∨ 16 < q)) (h2 : ¬ 64 < ws.length) {k : Nat} (hk : k < ws.length) (h0 : ∀ j, j < k → wordErr q ws j = 0) (h1 : wordErr q ws k ≠ 0) :
    codeCheck q ws = wordErr q ws k := by
  unfold codeCheck
  rw [if_neg h, if_neg (by omega), if_neg h2, firstNZ_at (k := k) (by simpa using hk) (fun x hx => ?_) (by simpa using h1)]
  · simp
  · rw [← List.map_take, List.take_range] at hx
    obtain ⟨j, hj, rfl⟩ := List.mem_map.1 hx
    exact h0 j (by have := List.mem_range.1 hj; omega)
theorem codeCheck_0 {q : Int} {ws : List (List UInt8)} (h : ¬ (q < 2 ∨ 16 < q)) (h1 : ¬ ws.length = 0) (h2 : ¬ 64 < ws.length) (h0 : ∀ j, j < ws.length → wordErr q ws j = 0) : codeCheck q ws = 0 := by
  unfold codeCheck
  rw [if_neg h, if_neg h1, if_neg h2, firstNZ_none]
  intro x hx
  obtain ⟨j, hj, rfl⟩ := List.mem_map.1 hx
  exact h0 j (List.mem_range.1 hj)

theorem t45 (q : Int) (ws : List (List UInt8)) : PFn Try.prog 45 [codeV q ws] [.int .i64 (codeCheck q ws)] := by
  refine PFn.of_body hΓ Try.func45 (by kernel_rfl) rfl (AWp.of_awpD [] hΓ hmix (by kernel_rfl) ?_)
  simp +contextual -implicitDefEqProofs only [codeV, Try.ntmps45, Try.results45, Nat.reduceAdd, Nat.reduceSub, go_sem]
  refine ⟨fun h => (codeCheck_12 (.inl h)).symm, fun h1 => ⟨fun h => (codeCheck_12 (.inr h)).symm, fun h2 => ⟨fun h => (codeCheck_5 (by omega) (by omega)).symm, fun h3 => ⟨fun h => (codeCheck_4 (by omega) (by omega) (by omega)).symm, fun h4 => ?_⟩⟩⟩⟩
  have hq : ¬ (q < 2 ∨ 16 < q) := by omega
  have hn : ¬ ws.length = 0 := by omega
  have hl : ¬ 64 < ws.length := by omega
  refine AWp.loopI (fun k : Nat => ⟨mkF 60 [(1, .ptr 0 0), (2, .p (.int .i64 0)), (25, .p (.sl (ws.map .str))), (26, .p (.int .i64 ws.length)), (27, .p (.int .i64 k))], [codeB q ws]⟩)
    (fun k => k ≤ ws.length ∧ ∀ j, j < k → wordErr q ws j = 0) (fun k => ws.length - k) 0 (by simp [go_sem, codeB]) (by simp) ?_
  rintro k ⟨hk, h0⟩
  refine AWp.of_awpD [] hΓ hmix (by kernel_rfl) ?_
  simp +contextual -implicitDefEqProofs only [getD_map_lt, ↓reduceIte, codeB, go_sem]
  refine ⟨fun hlt => ?_, fun hge => (codeCheck_0 hq hn hl (fun j hj => h0 j (by omega))).symm⟩
  have bad : wordErr q ws k ≠ 0 → wordErr q ws k = codeCheck q ws := fun h => (codeCheck_at hq hl hlt h0 h).symm
  have hw : ws.getD k [] = ws[k] := by rw [List.getD_eq_getElem?_getD, List.getElem?_eq_getElem hlt, Option.getD_some]
  have good : wordErr q ws k = 0 → InR .i64 ((k : Int) + 1) ∧ ∃ y : Nat, (y : Int) = (k : Int) + 1 ∧ (y ≤ ws.length ∧ ∀ j, j < y → wordErr q ws j = 0) ∧ ws.length - y < ws.length - k :=
    fun h => ⟨by simp only [InR]; omega, k + 1, by simp, ⟨hlt, fun j hj => by by_cases h' : j = k; · subst h'; exact h
                                                                              · exact h0 j (by omega)⟩, by omega⟩
  have e5 : ws[k] = [] → wordErr q ws k = 5 := fun h => by unfold wordErr; rw [hw, if_pos h]
  have e4 : ¬ ws[k] = [] → 32 < ws[k].length → wordErr q ws k = 4 := fun h h' => by unfold wordErr; rw [hw, if_neg h, if_pos h']
  have e13 : ¬ ws[k] = [] → ¬ 32 < ws[k].length → wordCheck q ws[k] ≠ 0 → wordErr q ws k = 13 := fun h h' h'' => by unfold wordErr; rw [hw, if_neg h, if_neg h', if_pos h'']
  have eL : ¬ ws[k] = [] → ¬ 32 < ws[k].length → wordCheck q ws[k] = 0 → wordErr q ws k = if 0 < k ∧ 0 ≤ cmpW (ws.getD (k - 1) []) ws[k] then 10 else 0 := fun h h' h'' => by unfold wordErr; rw [hw, if_neg h, if_neg h', if_neg (by omega)]
  refine ⟨fun h => by have := e5 h; rw [← bad (by omega)]; omega, fun n5 => ⟨fun h => by have := e4 n5 (by omega); rw [← bad (by omega)]; omega, fun n4 => callK_fn (t80 q ws[k]) (.pures rfl) ?_⟩⟩
  simp +contextual -implicitDefEqProofs only [getD_map_lt, ↓reduceIte, codeB, hlt, go_sem]
  refine ⟨fun h => ⟨fun hp => ?_, fun hp => good (by rw [eL n5 (by omega) h, if_neg (by omega)])⟩, fun n13 => by have := e13 n5 (by omega) n13; rw [← bad (by omega)]; omega⟩
  have hk1 : ((k : Int) - 1).toNat = k - 1 := by omega
  have hlt1 : k - 1 < ws.length := by omega
  have hw1 : ws.getD (k - 1) [] = ws[k - 1] := by rw [List.getD_eq_getElem?_getD, List.getElem?_eq_getElem hlt1, Option.getD_some]
  rw [hw1] at eL
  simp +contextual -implicitDefEqProofs only [hk1, getD_map_lt, hlt1, ↓reduceIte, codeB, go_sem]
  refine ⟨by simp only [InR]; omega, by omega, ?_⟩
  refine callK_fn (t81 ws[k - 1] ws[k]) (.pures rfl) ?_
  simp +contextual -implicitDefEqProofs only [getD_map_lt, ↓reduceIte, codeB, hlt, go_sem]
  refine ⟨fun hc => ?_, fun hc => good (by rw [eL n5 (by omega) h, if_neg (fun e => hc e.2)])⟩
  have := eL n5 (by omega) h
  rw [if_pos ⟨by omega, hc⟩] at this
  rw [← bad (by omega)]; omega

theorem less_eq (a b : List UInt8) : (if a.length ≠ b.length then decide (a.length < b.length) else Op.bytesLess a b) = decide (cmpW a b < 0) := by
  unfold cmpW
  by_cases h1 : a.length < b.length
  · rw [if_pos (by omega), if_pos h1]; simp [h1]
  · by_cases h2 : b.length < a.length
    · rw [if_pos (by omega), if_neg h1, if_pos h2]; simp [h1]
    · rw [if_neg (by omega), if_neg h1, if_neg h2, ← bLt_eq]
      unfold cmpB
      cases bLt a b
      · cases bEq a b <;> rfl
      · rfl
theorem t79' (a b : List UInt8) : PFn Try.prog 79 [.str a, .str b] [.bool (decide (cmpW a b < 0))] := by rw [← less_eq]; exact t79 a b

theorem t44 (q : Int) (ws : List (List UInt8)) : PFn Try.prog 44 [codeV q ws] [.int .i64 (codeCheck q ws)] := by
  refine PFn.of_body hΓ Try.func44 (by kernel_rfl) rfl (AWp.of_awpD [] hΓ hmix (by kernel_rfl) ?_)
  simp +contextual -implicitDefEqProofs only [codeV, Try.ntmps44, Try.results44, Nat.reduceAdd, Nat.reduceSub, go_sem]
  refine ⟨fun h => (codeCheck_12 (.inl h)).symm, fun h1 => ⟨fun h => (codeCheck_12 (.inr h)).symm, fun h2 => ⟨fun h => (codeCheck_5 (by omega) (by omega)).symm, fun h3 => ⟨fun h => (codeCheck_4 (by omega) (by omega) (by omega)).symm, fun h4 => ?_⟩⟩⟩⟩
  have hq : ¬ (q < 2 ∨ 16 < q) := by omega
  have hn : ¬ ws.length = 0 := by omega
  have hl : ¬ 64 < ws.length := by omega
  refine AWp.loopI (fun k : Nat => ⟨mkF 56 [(1, .ptr 0 0), (2, .p (.int .i64 0)), (3, .p (.int .i64 k))], [codeB q ws]⟩)
    (fun k => k ≤ ws.length ∧ ∀ j, j < k → wordErr q ws j = 0) (fun k => ws.length - k) 0 (by simp [go_sem, codeB]) (by simp) ?_
  rintro k ⟨hk, h0⟩
  refine AWp.of_awpD [] hΓ hmix (by kernel_rfl) ?_
  simp +contextual -implicitDefEqProofs only [getD_map_lt, ↓reduceIte, codeB, go_sem]
  refine ⟨fun hlt => ?_, fun hge => (codeCheck_0 hq hn hl (fun j hj => h0 j (by omega))).symm⟩
  have bad : wordErr q ws k ≠ 0 → wordErr q ws k = codeCheck q ws := fun h => (codeCheck_at hq hl hlt h0 h).symm
  have hw : ws.getD k [] = ws[k] := by rw [List.getD_eq_getElem?_getD, List.getElem?_eq_getElem hlt, Option.getD_some]
  have good : wordErr q ws k = 0 → InR .i64 ((k : Int) + 1) ∧ ∃ y : Nat, (y : Int) = (k : Int) + 1 ∧ (y ≤ ws.length ∧ ∀ j, j < y → wordErr q ws j = 0) ∧ ws.length - y < ws.length - k :=
    fun h => ⟨by simp only [InR]; omega, k + 1, by simp, ⟨hlt, fun j hj => by by_cases h' : j = k; · subst h'; exact h
                                                                              · exact h0 j (by omega)⟩, by omega⟩
  have e5 : ws[k] = [] → wordErr q ws k = 5 := fun h => by unfold wordErr; rw [hw, if_pos h]
  have e4 : ¬ ws[k] = [] → 32 < ws[k].length → wordErr q ws k = 4 := fun h h' => by unfold wordErr; rw [hw, if_neg h, if_pos h']
  have e13 : ¬ ws[k] = [] → ¬ 32 < ws[k].length → wordCheck q ws[k] ≠ 0 → wordErr q ws k = 13 := fun h h' h'' => by unfold wordErr; rw [hw, if_neg h, if_neg h', if_pos h'']
  have eL : ¬ ws[k] = [] → ¬ 32 < ws[k].length → wordCheck q ws[k] = 0 → wordErr q ws k = if 0 < k ∧ 0 ≤ cmpW (ws.getD (k - 1) []) ws[k] then 10 else 0 := fun h h' h'' => by unfold wordErr; rw [hw, if_neg h, if_neg h', if_neg (by omega)]
  refine ⟨fun h => by have := e5 h; rw [← bad (by omega)]; omega, fun n5 => ⟨fun h => by have := e4 n5 (by omega); rw [← bad (by omega)]; omega, fun n4 => callK_fn (t78 q ws[k]) (.pures rfl) ?_⟩⟩
  simp +contextual -implicitDefEqProofs only [getD_map_lt, ↓reduceIte, codeB, hlt, go_sem]
  refine ⟨fun h => ⟨fun hp => ?_, fun hp => good (by rw [eL n5 (by omega) h, if_neg (by omega)])⟩, fun n13 => by have := e13 n5 (by omega) n13; rw [← bad (by omega)]; omega⟩
  have hk1 : ((k : Int) - 1).toNat = k - 1 := by omega
  have hlt1 : k - 1 < ws.length := by omega
  have hw1 : ws.getD (k - 1) [] = ws[k - 1] := by rw [List.getD_eq_getElem?_getD, List.getElem?_eq_getElem hlt1, Option.getD_some]
  rw [hw1] at eL
  simp +contextual -implicitDefEqProofs only [hk1, getD_map_lt, hlt1, ↓reduceIte, codeB, go_sem]
  refine ⟨by simp only [InR]; omega, by omega, ?_⟩
  refine callK_fn (t79' ws[k - 1] ws[k]) (.pures rfl) ?_
  simp +contextual -implicitDefEqProofs only [getD_map_lt, ↓reduceIte, codeB, hlt, go_sem]
  refine ⟨fun hc => good (by rw [eL n5 (by omega) h, if_neg (fun e => by omega)]), fun hc => ?_⟩
  have := eL n5 (by omega) h
  rw [if_pos ⟨by omega, by omega⟩] at this
  rw [← bad (by omega)]; omega
end Go.Proofs.Ytpancbdaigaheaa
