/-
  Codes: the checks of the program and of the reference.
  Prefixes, equality of lists, what a list of indices spells; CheckAmbiguous of the program and of the reference.
  The reference's lists of rests, and its CheckProof.
  The program's iterators over rests: what they hand to the loop.
  The program's CheckProof.
  The program's residuals: the closure that adds one.
  slices.SortFunc at the words' order: the row holds the sorted words.
  slices.SortFunc on an owned row of words, as a contract with the heap.
-/
import Derived.Test.YtpancbdaigaheaaJ8382bfacb928
import Derived.Test.YtpancbdaigaheaaJ7330971bf34f
import Derived.Test.YtpancbdaigaheaaJ3fc7889b6114
import Derived.Test.YtpancbdaigaheaaJ66887b385714

section
namespace Go.Proofs.Ytpancbdaigaheaa
open Go Go.AM
set_option maxRecDepth 100000
set_option linter.unusedSimpArgs false

/-- What is wrong with the word at i. -/
def wordErr (q : Int) (ws : List (List UInt8)) (i : Nat) : Int :=
  let w := ws.getD i []
  if w = [] then 5 else if 32 < w.length then 4 else if wordCheck q w ≠ 0 then 13 else if 0 < i ∧ 0 ≤ cmpW (ws.getD (i - 1) []) w then 10 else 0
/-- What is wrong with a code: 0 if nothing is. -/
def codeCheck (q : Int) (ws : List (List UInt8)) : Int :=
  if q < 2 ∨ 16 < q then 12 else if ws.length = 0 then 5 else if 64 < ws.length then 4 else firstNZ ((List.range ws.length).map (wordErr q ws))

theorem codeCheck_12 {q : Int} {ws : List (List UInt8)} (h : q < 2 ∨ 16 < q) : codeCheck q ws = 12 := by unfold codeCheck; rw [if_pos h]
theorem codeCheck_5 {q : Int} {ws : List (List UInt8)} (h : ¬ (q < 2 ∨ 16 < q)) (h1 : ws.length = 0) : codeCheck q ws = 5 := by unfold codeCheck; rw [if_neg h, if_pos h1]
theorem codeCheck_4 {q : Int} {ws : List (List UInt8)} (h : ¬ (q < 2 ∨ 16 < q)) (h1 : ¬ ws.length = 0) (h2 : 64 < ws.length) : codeCheck q ws = 4 := by unfold codeCheck; rw [if_neg h, if_neg h1, if_pos h2]
theorem codeCheck_at {q : Int} {ws : List (List UInt8)} (h : ¬ (q < 2 ∨ 16 < q)) (h2 : ¬ 64 < ws.length) {k : Nat} (hk : k < ws.length) (h0 : ∀ j, j < k → wordErr q ws j = 0) (h1 : wordErr q ws k ≠ 0) :
    codeCheck q ws = wordErr q ws k := by
  unfold codeCheck
  rw [if_neg h, if_neg (by omega), if_neg h2, firstNZ_at (k := k) (by simpa using hk) (fun x hx => ?_) (by simpa using h1)]
  · simp
  · rw [← List.map_take, List.take_range] at hx
    obtain ⟨j, hj, rfl⟩ := List.mem_map.1 hx
    exact h0 j (by have := List.mem_range.1 hj; omega)
theorem codeCheck_0 {q : Int} {ws : List (List UInt8)} (h : ¬ (q < 2 ∨ 16 < q)) (h1 : ¬ ws.length = 0) (h2 : ¬ 64 < ws.length) (h0 : ∀ j, j < ws.length → wordErr q ws j = 0) : codeCheck q ws = 0 := by
  unfold codeCheck
  rw [if_neg h, if_neg h1, if_neg h2, firstNZ_none]
  intro x hx
  obtain ⟨j, hj, rfl⟩ := List.mem_map.1 hx
  exact h0 j (List.mem_range.1 hj)

theorem t45 (q : Int) (ws : List (List UInt8)) : PFn Try.prog 45 [codeV q ws] [.int .i64 (codeCheck q ws)] := by
  refine PFn.of_body hΓ Try.func45 (by kernel_rfl) rfl (AWp.of_awpD [] hΓ hmix (by kernel_rfl) ?_)
  simp +contextual -implicitDefEqProofs only [codeV, Try.ntmps45, Try.results45, Nat.reduceAdd, Nat.reduceSub, go_sem]
  refine ⟨fun h => (codeCheck_12 (.inl h)).symm, fun h1 => ⟨fun h => (codeCheck_12 (.inr h)).symm, fun h2 => ⟨fun h => (codeCheck_5 (by omega) (by omega)).symm, fun h3 => ⟨fun h => (codeCheck_4 (by omega) (by omega) (by omega)).symm, fun h4 => ?_⟩⟩⟩⟩
  have hq : ¬ (q < 2 ∨ 16 < q) := by omega
  have hn : ¬ ws.length = 0 := by omega
  have hl : ¬ 64 < ws.length := by omega
  refine AWp.loopI (fun k : Nat => ⟨mkF 60 [(1, .ptr 0 0), (2, .p (.int .i64 0)), (25, .p (.sl (ws.map .str))), (26, .p (.int .i64 ws.length)), (27, .p (.int .i64 k))], [codeB q ws]⟩)
    (fun k => k ≤ ws.length ∧ ∀ j, j < k → wordErr q ws j = 0) (fun k => ws.length - k) 0 (by simp [go_sem, codeB]) (by simp) ?_
  rintro k ⟨hk, h0⟩
  refine AWp.of_awpD [] hΓ hmix (by kernel_rfl) ?_
  simp +contextual -implicitDefEqProofs only [getD_map_lt, ↓reduceIte, codeB, go_sem]
  refine ⟨fun hlt => ?_, fun hge => (codeCheck_0 hq hn hl (fun j hj => h0 j (by omega))).symm⟩
  have bad : wordErr q ws k ≠ 0 → wordErr q ws k = codeCheck q ws := fun h => (codeCheck_at hq hl hlt h0 h).symm
  have hw : ws.getD k [] = ws[k] := by rw [List.getD_eq_getElem?_getD, List.getElem?_eq_getElem hlt, Option.getD_some]
  have good : wordErr q ws k = 0 → InR .i64 ((k : Int) + 1) ∧ ∃ y : Nat, (y : Int) = (k : Int) + 1 ∧ (y ≤ ws.length ∧ ∀ j, j < y → wordErr q ws j = 0) ∧ ws.length - y < ws.length - k :=
    fun h => ⟨by simp only [InR]; omega, k + 1, by simp, ⟨hlt, fun j hj => by by_cases h' : j = k; · subst h'; exact h
                                                                              · exact h0 j (by omega)⟩, by omega⟩
  have e5 : ws[k] = [] → wordErr q ws k = 5 := fun h => by unfold wordErr; rw [hw, if_pos h]
  have e4 : ¬ ws[k] = [] → 32 < ws[k].length → wordErr q ws k = 4 := fun h h' => by unfold wordErr; rw [hw, if_neg h, if_pos h']
  have e13 : ¬ ws[k] = [] → ¬ 32 < ws[k].length → wordCheck q ws[k] ≠ 0 → wordErr q ws k = 13 := fun h h' h'' => by unfold wordErr; rw [hw, if_neg h, if_neg h', if_pos h'']
  have eL : ¬ ws[k] = [] → ¬ 32 < ws[k].length → wordCheck q ws[k] = 0 → wordErr q ws k = if 0 < k ∧ 0 ≤ cmpW (ws.getD (k - 1) []) ws[k] then 10 else 0 := fun h h' h'' => by unfold wordErr; rw [hw, if_neg h, if_neg h', if_neg (by omega)]
  refine ⟨fun h => by have := e5 h; rw [← bad (by omega)]; omega, fun n5 => ⟨fun h => by have := e4 n5 (by omega); rw [← bad (by omega)]; omega, fun n4 => callK_fn (t80 q ws[k]) (.pures rfl) ?_⟩⟩
  simp +contextual -implicitDefEqProofs only [getD_map_lt, ↓reduceIte, codeB, hlt, go_sem]
  refine ⟨fun h => ⟨fun hp => ?_, fun hp => good (by rw [eL n5 (by omega) h, if_neg (by omega)])⟩, fun n13 => by have := e13 n5 (by omega) n13; rw [← bad (by omega)]; omega⟩
  have hk1 : ((k : Int) - 1).toNat = k - 1 := by omega
  have hlt1 : k - 1 < ws.length := by omega
  have hw1 : ws.getD (k - 1) [] = ws[k - 1] := by rw [List.getD_eq_getElem?_getD, List.getElem?_eq_getElem hlt1, Option.getD_some]
  rw [hw1] at eL
  simp +contextual -implicitDefEqProofs only [hk1, getD_map_lt, hlt1, ↓reduceIte, codeB, go_sem]
  refine ⟨by simp only [InR]; omega, by omega, ?_⟩
  refine callK_fn (t81 ws[k - 1] ws[k]) (.pures rfl) ?_
  simp +contextual -implicitDefEqProofs only [getD_map_lt, ↓reduceIte, codeB, hlt, go_sem]
  refine ⟨fun hc => ?_, fun hc => good (by rw [eL n5 (by omega) h, if_neg (fun e => hc e.2)])⟩
  have := eL n5 (by omega) h
  rw [if_pos ⟨by omega, hc⟩] at this
  rw [← bad (by omega)]; omega

theorem less_eq (a b : List UInt8) : (if a.length ≠ b.length then decide (a.length < b.length) else Op.bytesLess a b) = decide (cmpW a b < 0) := by
  unfold cmpW
  by_cases h1 : a.length < b.length
  · rw [if_pos (by omega), if_pos h1]; simp [h1]
  · by_cases h2 : b.length < a.length
    · rw [if_pos (by omega), if_neg h1, if_pos h2]; simp [h1]
    · rw [if_neg (by omega), if_neg h1, if_neg h2, ← bLt_eq]
      unfold cmpB
      cases bLt a b
      · cases bEq a b <;> rfl
      · rfl
theorem t79' (a b : List UInt8) : PFn Try.prog 79 [.str a, .str b] [.bool (decide (cmpW a b < 0))] := by rw [← less_eq]; exact t79 a b

theorem t44 (q : Int) (ws : List (List UInt8)) : PFn Try.prog 44 [codeV q ws] [.int .i64 (codeCheck q ws)] := by
  refine PFn.of_body hΓ Try.func44 (by kernel_rfl) rfl (AWp.of_awpD [] hΓ hmix (by kernel_rfl) ?_)
  simp +contextual -implicitDefEqProofs only [codeV, Try.ntmps44, Try.results44, Nat.reduceAdd, Nat.reduceSub, go_sem]
  refine ⟨fun h => (codeCheck_12 (.inl h)).symm, fun h1 => ⟨fun h => (codeCheck_12 (.inr h)).symm, fun h2 => ⟨fun h => (codeCheck_5 (by omega) (by omega)).symm, fun h3 => ⟨fun h => (codeCheck_4 (by omega) (by omega) (by omega)).symm, fun h4 => ?_⟩⟩⟩⟩
  have hq : ¬ (q < 2 ∨ 16 < q) := by omega
  have hn : ¬ ws.length = 0 := by omega
  have hl : ¬ 64 < ws.length := by omega
  refine AWp.loopI (fun k : Nat => ⟨mkF 56 [(1, .ptr 0 0), (2, .p (.int .i64 0)), (3, .p (.int .i64 k))], [codeB q ws]⟩)
    (fun k => k ≤ ws.length ∧ ∀ j, j < k → wordErr q ws j = 0) (fun k => ws.length - k) 0 (by simp [go_sem, codeB]) (by simp) ?_
  rintro k ⟨hk, h0⟩
  refine AWp.of_awpD [] hΓ hmix (by kernel_rfl) ?_
  simp +contextual -implicitDefEqProofs only [getD_map_lt, ↓reduceIte, codeB, go_sem]
  refine ⟨fun hlt => ?_, fun hge => (codeCheck_0 hq hn hl (fun j hj => h0 j (by omega))).symm⟩
  have bad : wordErr q ws k ≠ 0 → wordErr q ws k = codeCheck q ws := fun h => (codeCheck_at hq hl hlt h0 h).symm
  have hw : ws.getD k [] = ws[k] := by rw [List.getD_eq_getElem?_getD, List.getElem?_eq_getElem hlt, Option.getD_some]
  have good : wordErr q ws k = 0 → InR .i64 ((k : Int) + 1) ∧ ∃ y : Nat, (y : Int) = (k : Int) + 1 ∧ (y ≤ ws.length ∧ ∀ j, j < y → wordErr q ws j = 0) ∧ ws.length - y < ws.length - k :=
    fun h => ⟨by simp only [InR]; omega, k + 1, by simp, ⟨hlt, fun j hj => by by_cases h' : j = k; · subst h'; exact h
                                                                              · exact h0 j (by omega)⟩, by omega⟩
  have e5 : ws[k] = [] → wordErr q ws k = 5 := fun h => by unfold wordErr; rw [hw, if_pos h]
  have e4 : ¬ ws[k] = [] → 32 < ws[k].length → wordErr q ws k = 4 := fun h h' => by unfold wordErr; rw [hw, if_neg h, if_pos h']
  have e13 : ¬ ws[k] = [] → ¬ 32 < ws[k].length → wordCheck q ws[k] ≠ 0 → wordErr q ws k = 13 := fun h h' h'' => by unfold wordErr; rw [hw, if_neg h, if_neg h', if_pos h'']
  have eL : ¬ ws[k] = [] → ¬ 32 < ws[k].length → wordCheck q ws[k] = 0 → wordErr q ws k = if 0 < k ∧ 0 ≤ cmpW (ws.getD (k - 1) []) ws[k] then 10 else 0 := fun h h' h'' => by unfold wordErr; rw [hw, if_neg h, if_neg h', if_neg (by omega)]
  refine ⟨fun h => by have := e5 h; rw [← bad (by omega)]; omega, fun n5 => ⟨fun h => by have := e4 n5 (by omega); rw [← bad (by omega)]; omega, fun n4 => callK_fn (t78 q ws[k]) (.pures rfl) ?_⟩⟩
  simp +contextual -implicitDefEqProofs only [getD_map_lt, ↓reduceIte, codeB, hlt, go_sem]
  refine ⟨fun h => ⟨fun hp => ?_, fun hp => good (by rw [eL n5 (by omega) h, if_neg (by omega)])⟩, fun n13 => by have := e13 n5 (by omega) n13; rw [← bad (by omega)]; omega⟩
  have hk1 : ((k : Int) - 1).toNat = k - 1 := by omega
  have hlt1 : k - 1 < ws.length := by omega
  have hw1 : ws.getD (k - 1) [] = ws[k - 1] := by rw [List.getD_eq_getElem?_getD, List.getElem?_eq_getElem hlt1, Option.getD_some]
  rw [hw1] at eL
  simp +contextual -implicitDefEqProofs only [hk1, getD_map_lt, hlt1, ↓reduceIte, codeB, go_sem]
  refine ⟨by simp only [InR]; omega, by omega, ?_⟩
  refine callK_fn (t79' ws[k - 1] ws[k]) (.pures rfl) ?_
  simp +contextual -implicitDefEqProofs only [getD_map_lt, ↓reduceIte, codeB, hlt, go_sem]
  refine ⟨fun hc => good (by rw [eL n5 (by omega) h, if_neg (fun e => by omega)]), fun hc => ?_⟩
  have := eL n5 (by omega) h
  rw [if_pos ⟨by omega, by omega⟩] at this
  rw [← bad (by omega)]; omega
end Go.Proofs.Ytpancbdaigaheaa
end

section
namespace Go.Proofs.Ytpancbdaigaheaa
open Go Go.AM
set_option maxRecDepth 100000
set_option linter.unusedSimpArgs false

theorem t85 (w x : List UInt8) : PFn Try.prog 85 [.str w, .str x] [.bool (x.isPrefixOf w)] := by
  refine PFn.of_body hΓ Try.func85 (by kernel_rfl) rfl (AWp.of_awpD [] hΓ hmix (by kernel_rfl) ?_)
  simp +contextual -implicitDefEqProofs only [Try.ntmps85, Try.results85, Nat.reduceAdd, Nat.reduceSub, go_sem]
  refine ⟨fun h => ?_, fun h => ?_⟩
  · rw [Bool.eq_iff_iff, List.isPrefixOf_iff_prefix, List.prefix_iff_eq_take, decide_eq_true_eq]; exact eq_comm
  · rw [Bool.eq_iff_iff, List.isPrefixOf_iff_prefix]
    exact ⟨fun h => by simp at h, fun h' => absurd h'.length_le (by omega)⟩

theorem t69 (w x : List UInt8) : PFn Try.prog 69 [.str w, .str x] [.bool (x.isPrefixOf w)] := by
  refine PFn.of_body hΓ Try.func69 (by kernel_rfl) rfl (AWp.of_awpD [] hΓ hmix (by kernel_rfl) ?_)
  simp +contextual -implicitDefEqProofs only [Try.ntmps69, Try.results69, Nat.reduceAdd, Nat.reduceSub, go_sem]
  refine callK_fn (t85 w x) (.pures rfl) ?_
  simp +contextual -implicitDefEqProofs only [go_sem]

/-- What is left behind a beginning. -/
def cutW (w x : List UInt8) : List UInt8 := if x.isPrefixOf w then w.drop x.length else w
theorem t51 (w x : List UInt8) : PFn Try.prog 51 [.str w, .str x] [.str (cutW w x), .bool (x.isPrefixOf w)] := by
  refine PFn.of_body hΓ Try.func51 (by kernel_rfl) rfl (AWp.of_awpD [] hΓ hmix (by kernel_rfl) ?_)
  simp +contextual -implicitDefEqProofs only [Try.ntmps51, Try.results51, Nat.reduceAdd, Nat.reduceSub, go_sem]
  refine callK_fn (t85 w x) (.pures rfl) ?_
  cases hp : x.isPrefixOf w
  · simp -implicitDefEqProofs only [go_sem]
    unfold cutW; rw [if_neg (by rw [hp]; simp)]
  · simp -implicitDefEqProofs only [go_sem]
    exact ⟨(List.isPrefixOf_iff_prefix.1 hp).length_le, by unfold cutW; rw [if_pos hp]⟩

theorem t20 (w x : List UInt8) : PFn Try.prog 20 [.str w, .str x] [.str (cutW w x), .bool (x.isPrefixOf w)] := by
  refine PFn.of_body hΓ Try.func20 (by kernel_rfl) rfl (AWp.of_awpD [] hΓ hmix (by kernel_rfl) ?_)
  simp +contextual -implicitDefEqProofs only [Try.ntmps20, Try.results20, Nat.reduceAdd, Nat.reduceSub, go_sem]
  refine callK_fn (t51 w x) (.pures rfl) ?_
  simp +contextual -implicitDefEqProofs only [go_sem]

theorem t65 (a b : List Int) (hl : a.length ≤ 9223372036854775807) : PFn Try.prog 65 [.sl (a.map (.int .i64)), .sl (b.map (.int .i64))] [.bool (decide (a = b))] := by
  refine PFn.of_body hΓ Try.func65 (by kernel_rfl) rfl (AWp.of_awpD [] hΓ hmix (by kernel_rfl) ?_)
  simp +contextual -implicitDefEqProofs only [Try.ntmps65, Try.results65, Nat.reduceAdd, Nat.reduceSub, go_sem]
  refine ⟨fun he => ?_, fun hne => (decide_eq_false fun e => hne (by rw [e])).symm⟩
  refine AWp.loopI (fun k : Nat => ⟨mkF 26 [(0, .p (.sl (a.map (.int .i64)))), (1, .p (.sl (b.map (.int .i64)))), (4, .p (.bool false)), (12, .p (.int .i64 a.length)), (13, .p (.int .i64 k))], []⟩)
    (fun k => k ≤ a.length ∧ a.take k = b.take k) (fun k => a.length - k) 0 (by simp [go_sem, he]) (by simp) ?_
  rintro k ⟨hk, heq⟩
  refine AWp.of_awpD [(6, 9)] hΓ hmix (by kernel_rfl) ?_
  simp +contextual -implicitDefEqProofs only [getD_map_lt, ↓reduceIte, ← he, go_sem]
  refine ⟨fun hlt => ⟨fun hk' => ⟨by simp only [InR]; omega, k + 1, by simp, ⟨hlt, ?_⟩, by omega⟩, fun hk' => ?_⟩, fun hge => ?_⟩
  · rw [List.take_succ_eq_append_getElem hlt, List.take_succ_eq_append_getElem (by omega), heq, hk']
  · exact (decide_eq_false fun e => hk' (by subst e; rfl)).symm
  · rw [List.take_of_length_le (by omega), List.take_of_length_le (by omega)] at heq
    exact (decide_eq_true heq).symm

/-- Whether a list of indices spells a word. -/
def spellsB (ws : List (List UInt8)) : List Int → List UInt8 → Bool
  | [], w => decide (w = [])
  | i :: l, w => if 0 ≤ i ∧ i < ws.length then (if (ws.getD i.toNat []).isPrefixOf w then spellsB ws l (w.drop (ws.getD i.toNat []).length) else false) else false

theorem t66 (q : Int) (ws : List (List UInt8)) (l : List Int) (w : List UInt8) (hl : l.length ≤ 9223372036854775807) : PFn Try.prog 66 [codeV q ws, .sl (l.map (.int .i64)), .str w] [.bool (spellsB ws l w)] := by
  refine PFn.of_body hΓ Try.func66 (by kernel_rfl) rfl (AWp.of_awpD [] hΓ hmix (by kernel_rfl) ?_)
  simp +contextual -implicitDefEqProofs only [codeV, Try.ntmps66, Try.results66, Nat.reduceAdd, Nat.reduceSub, go_sem]
  refine AWp.loopI (fun p : Nat × List UInt8 => ⟨mkF 42 [(1, .p (.sl (l.map (.int .i64)))), (2, .p (.str p.2)), (3, .ptr 0 0), (6, .p (.bool false)), (11, .p (.sl (l.map (.int .i64)))), (12, .p (.int .i64 l.length)), (13, .p (.int .i64 p.1))], [codeB q ws]⟩)
    (fun p => p.1 ≤ l.length ∧ spellsB ws l w = spellsB ws (l.drop p.1) p.2) (fun p => l.length - p.1) (0, w) (by simp [go_sem, codeB]) (by simp) ?_
  rintro ⟨k, v⟩ ⟨hk, h0⟩
  simp only at hk h0
  refine AWp.of_awpD [] hΓ hmix (by kernel_rfl) ?_
  simp +contextual -implicitDefEqProofs only [getD_map_lt, ↓reduceIte, codeB, go_sem]
  have hd : ∀ hlt : k < l.length, spellsB ws l w = if 0 ≤ l[k] ∧ l[k] < ws.length then (if (ws.getD l[k].toNat []).isPrefixOf v then spellsB ws (l.drop (k + 1)) (v.drop (ws.getD l[k].toNat []).length) else false) else false := fun hlt => by
    rw [h0, List.drop_eq_getElem_cons hlt]; rfl
  refine ⟨fun hlt => ⟨fun h => by rw [hd hlt, if_neg (by omega)], fun h1 => ⟨fun h => by rw [hd hlt, if_neg (by omega)], fun h2 => ?_⟩⟩, fun hge => ?_⟩
  rotate_left
  · rw [h0, List.drop_of_length_le (by omega)]; rfl
  have hi : l[k].toNat < ws.length := by omega
  have hw : ws.getD l[k].toNat [] = ws[l[k].toNat] := by rw [List.getD_eq_getElem?_getD, List.getElem?_eq_getElem hi, Option.getD_some]
  replace hd := hd hlt
  rw [if_pos ⟨by omega, by omega⟩, hw] at hd
  simp +contextual -implicitDefEqProofs only [getD_map_lt, hi, ↓reduceIte, codeB, go_sem]
  refine ⟨⟨by omega, by omega⟩, callK_fn (t20 v ws[l[k].toNat]) (.pures rfl) ?_⟩
  cases hp : ws[l[k].toNat].isPrefixOf v
  · simp -implicitDefEqProofs only [go_sem]
    rw [hd, if_neg (by rw [hp]; simp)]
  · simp -implicitDefEqProofs only [go_sem]
    refine ⟨by simp only [InR]; omega, (k + 1, cutW v ws[l[k].toNat]), by simp, ⟨hlt, ?_⟩, by simp only; omega⟩
    rw [hd, if_pos hp]; unfold cutW; rw [if_pos hp]

theorem t67 (q : Int) (ws : List (List UInt8)) (l : List Int) (w : List UInt8) (hl : l.length ≤ 9223372036854775807) : PFn Try.prog 67 [codeV q ws, .sl (l.map (.int .i64)), .str w] [.bool (spellsB ws l w)] := by
  refine PFn.of_body hΓ Try.func67 (by kernel_rfl) rfl (AWp.of_awpD [(4, 28), (6, 11)] hΓ hmix (by kernel_rfl) ?_)
  simp +contextual -implicitDefEqProofs only [codeV, Try.ntmps67, Try.results67, Nat.reduceAdd, Nat.reduceSub, go_sem]
  refine AWp.loopI (fun p : Nat × List UInt8 => ⟨mkF 55 [(1, .p (.sl (l.map (.int .i64)))), (2, .p (.str p.2)), (3, .ptr 0 0), (6, .p (.bool false)), (7, .p (.int .i64 p.1))], [codeB q ws]⟩)
    (fun p => p.1 ≤ l.length ∧ spellsB ws l w = spellsB ws (l.drop p.1) p.2) (fun p => l.length - p.1) (0, w) (by simp [go_sem, codeB]) (by simp) ?_
  rintro ⟨k, v⟩ ⟨hk, h0⟩
  simp only at hk h0
  refine AWp.of_awpD [(4, 28), (6, 11)] hΓ hmix (by kernel_rfl) ?_
  simp +contextual -implicitDefEqProofs only [getD_map_lt, ↓reduceIte, codeB, go_sem]
  have hd : ∀ hlt : k < l.length, spellsB ws l w = if 0 ≤ l[k] ∧ l[k] < ws.length then (if (ws.getD l[k].toNat []).isPrefixOf v then spellsB ws (l.drop (k + 1)) (v.drop (ws.getD l[k].toNat []).length) else false) else false := fun hlt => by
    rw [h0, List.drop_eq_getElem_cons hlt]; rfl
  refine ⟨fun hlt => ⟨fun h => by rw [hd hlt, if_neg (by omega)], fun h1 => ⟨fun h => by rw [hd hlt, if_neg (by omega)], fun h2 => ?_⟩⟩, fun hge => ?_⟩
  rotate_left
  · rw [h0, List.drop_of_length_le (by omega)]; rfl
  have hi : l[k].toNat < ws.length := by omega
  have hw : ws.getD l[k].toNat [] = ws[l[k].toNat] := by rw [List.getD_eq_getElem?_getD, List.getElem?_eq_getElem hi, Option.getD_some]
  replace hd := hd hlt
  rw [if_pos ⟨by omega, by omega⟩, hw] at hd
  simp +contextual -implicitDefEqProofs only [getD_map_lt, hi, ↓reduceIte, codeB, go_sem]
  refine ⟨⟨by omega, by omega⟩, callVPK_fn (t60 v ws[l[k].toNat]) (.pures rfl) ?_⟩
  cases hp : ws[l[k].toNat].isPrefixOf v
  · simp -implicitDefEqProofs only [getD_map_lt, hi, hlt, ↓reduceIte, codeB, go_sem]
    rw [hd, if_neg (by rw [hp]; simp)]
  · simp -implicitDefEqProofs only [getD_map_lt, hi, hlt, ↓reduceIte, codeB, go_sem]
    refine ⟨⟨by omega, by omega⟩, (List.isPrefixOf_iff_prefix.1 hp).length_le, by simp only [InR]; omega, (k + 1, v.drop ws[l[k].toNat].length), by simp, ⟨hlt, ?_⟩, by simp only; omega⟩
    rw [hd, if_pos hp]

/-- An ambiguity as a value. -/
def ambV (m : List UInt8) (a b : List Int) : PV := .agg [.str m, .sl (a.map (.int .i64)), .sl (b.map (.int .i64))]
def ambCheck (q : Int) (ws : List (List UInt8)) (m : List UInt8) (a b : List Int) : Int :=
  if codeCheck q ws ≠ 0 then 1 else if a = b ∨ spellsB ws a m = false ∨ spellsB ws b m = false then 23 else 0

theorem t34 (q : Int) (ws : List (List UInt8)) (m : List UInt8) (a b : List Int) (ha : a.length ≤ 9223372036854775807) (hb : b.length ≤ 9223372036854775807) :
    PFn Try.prog 34 [codeV q ws, ambV m a b] [.int .i64 (ambCheck q ws m a b)] := by
  refine PFn.of_body hΓ Try.func34 (by kernel_rfl) rfl (AWp.of_awpD [] hΓ hmix (by kernel_rfl) ?_)
  simp +contextual -implicitDefEqProofs only [codeV, ambV, Try.ntmps34, Try.results34, Nat.reduceAdd, Nat.reduceSub, go_sem]
  refine callK_fn (t45 q ws) (.still rfl) ?_
  by_cases h : codeCheck q ws = 0
  rotate_left
  · simp -implicitDefEqProofs only [h, go_sem]
    unfold ambCheck; rw [if_pos h]
  rw [h]
  simp -implicitDefEqProofs only [go_sem]
  refine callK_fn (t65 a b ha) (.still rfl) ?_
  have e : ambCheck q ws m a b = if a = b ∨ spellsB ws a m = false ∨ spellsB ws b m = false then 23 else 0 := by unfold ambCheck; rw [if_neg (by omega)]
  cases h1 : decide (a = b)
  · simp -implicitDefEqProofs only [go_sem]
    refine callK_fn (t66 q ws a m ha) (.still rfl) ?_
    cases h2 : spellsB ws a m
    · simp -implicitDefEqProofs only [go_sem]
      rw [e, if_pos (.inr (.inl h2))]
    · simp -implicitDefEqProofs only [go_sem]
      refine callK_fn (t66 q ws b m hb) (.still rfl) ?_
      cases h3 : spellsB ws b m
      · simp -implicitDefEqProofs only [go_sem]
        rw [e, if_pos (.inr (.inr h3))]
      · simp -implicitDefEqProofs only [go_sem]
        rw [e, if_neg]
        rintro (h | h | h)
        · simp [h] at h1
        · rw [h] at h2; cases h2
        · rw [h] at h3; cases h3
  · simp -implicitDefEqProofs only [go_sem]
    rw [e, if_pos (.inl (by simpa using h1))]

theorem t35 (q : Int) (ws : List (List UInt8)) (m : List UInt8) (a b : List Int) (ha : a.length ≤ 9223372036854775807) (hb : b.length ≤ 9223372036854775807) :
    PFn Try.prog 35 [codeV q ws, ambV m a b] [.int .i64 (ambCheck q ws m a b)] := by
  refine PFn.of_body hΓ Try.func35 (by kernel_rfl) rfl (AWp.of_awpD [] hΓ hmix (by kernel_rfl) ?_)
  simp +contextual -implicitDefEqProofs only [codeV, ambV, Try.ntmps35, Try.results35, Nat.reduceAdd, Nat.reduceSub, go_sem]
  refine callK_fn (t44 q ws) (.still rfl) ?_
  by_cases h : codeCheck q ws = 0
  rotate_left
  · simp -implicitDefEqProofs only [h, go_sem]
    unfold ambCheck; rw [if_pos h]
  rw [h]
  simp -implicitDefEqProofs only [go_sem]
  refine callK_fn (t64 a b ha) (.still rfl) ?_
  have e : ambCheck q ws m a b = if a = b ∨ spellsB ws a m = false ∨ spellsB ws b m = false then 23 else 0 := by unfold ambCheck; rw [if_neg (by omega)]
  cases h1 : decide (a = b)
  · simp -implicitDefEqProofs only [go_sem]
    refine callK_fn (t67 q ws a m ha) (.still rfl) ?_
    cases h2 : spellsB ws a m
    · simp -implicitDefEqProofs only [go_sem]
      rw [e, if_pos (.inr (.inl h2))]
    · simp -implicitDefEqProofs only [go_sem]
      refine callK_fn (t67 q ws b m hb) (.still rfl) ?_
      cases h3 : spellsB ws b m
      · simp -implicitDefEqProofs only [go_sem]
        rw [e, if_pos (.inr (.inr h3))]
      · simp -implicitDefEqProofs only [go_sem]
        rw [e, if_neg]
        rintro (h | h | h)
        · simp [h] at h1
        · rw [h] at h2; cases h2
        · rw [h] at h3; cases h3
  · simp -implicitDefEqProofs only [go_sem]
    rw [e, if_pos (.inl (by simpa using h1))]
end Go.Proofs.Ytpancbdaigaheaa
end

section
namespace Go.Proofs.Ytpancbdaigaheaa
open Go Go.AM
set_option maxRecDepth 100000
set_option linter.unusedSimpArgs false

/-- The rest of the word at i behind the word at k. -/
def restAt (ws : List (List UInt8)) (i k : Nat) : List (List UInt8) :=
  if i ≠ k ∧ (ws.getD k []).isPrefixOf (ws.getD i []) then [(ws.getD i []).drop (ws.getD k []).length] else []
def restsOf (ws : List (List UInt8)) (i n : Nat) : List (List UInt8) := (List.range n).flatMap (restAt ws i)
def firstN (ws : List (List UInt8)) (n : Nat) : List (List UInt8) := (List.range n).flatMap fun i => restsOf ws i ws.length
def firstS (ws : List (List UInt8)) : List (List UInt8) := firstN ws ws.length

theorem restAt_len (ws : List (List UInt8)) (i k : Nat) : (restAt ws i k).length ≤ 1 := by unfold restAt; split <;> simp
theorem restsOf_succ (ws : List (List UInt8)) (i n : Nat) : restsOf ws i (n + 1) = restsOf ws i n ++ restAt ws i n := by
  unfold restsOf; rw [List.range_succ, List.flatMap_append]; simp
theorem restsOf_len (ws : List (List UInt8)) (i : Nat) : ∀ n, (restsOf ws i n).length ≤ n
  | 0 => by simp [restsOf]
  | n + 1 => by
    rw [restsOf_succ, List.length_append]
    have := restsOf_len ws i n; have := restAt_len ws i n; omega
theorem firstN_succ (ws : List (List UInt8)) (n : Nat) : firstN ws (n + 1) = firstN ws n ++ restsOf ws n ws.length := by
  unfold firstN; rw [List.range_succ, List.flatMap_append]; simp
theorem firstN_len (ws : List (List UInt8)) : ∀ n, (firstN ws n).length ≤ n * ws.length
  | 0 => by simp [firstN]
  | n + 1 => by
    rw [firstN_succ, List.length_append, Nat.succ_mul]
    have := firstN_len ws n; have := restsOf_len ws n ws.length; omega

theorem r54 (q : Int) (ws : List (List UInt8)) (hl : ws.length ≤ 1000) : PRow Try.prog 54 [codeV q ws] 9 1 ((firstS ws).map .str) := by
  refine AC.of_body 2 hΓ Try.func54 (by kernel_rfl) rfl (by simp) (AWp.of_awpD [] hΓ hmix (by kernel_rfl) ?_)
  simp +contextual -implicitDefEqProofs only [codeV, Try.ntmps54, Try.results54, Nat.reduceAdd, Nat.reduceSub, List.map_cons, List.map_nil, go_sem]
  refine ⟨⟨fun x h => (by cases h), by omega⟩, ?_⟩
  refine AWp.adopt (l := []) 3 9 1 (by rfl) (by simp) ?_
  simp +contextual -implicitDefEqProofs only [go_sem]
  refine AWp.loopI (fun i : Nat => ⟨mkF 53 [(1, .ptr 0 0), (3, .own 1 (firstN ws i).length), (4, .p (.int .i64 i))], [codeB q ws, .row 9 1 ((firstN ws i).map .str) .lax]⟩)
    (fun i => i ≤ ws.length) (fun i => ws.length - i) 0 (by simp [go_sem, codeB, firstN]) (by simp) ?_
  rintro i hk
  refine AWp.of_awpD [] hΓ hmix (by kernel_rfl) ?_
  simp +contextual -implicitDefEqProofs only [↓reduceIte, codeB, go_sem]
  refine ⟨fun hlt => ?_, fun hge => by rw [show i = ws.length by omega]; exact ⟨rfl, 1, .lax, ⟨rfl, rfl⟩, rfl, by simp⟩⟩
  refine AWp.loopI (fun k : Nat => ⟨mkF 53 [(1, .ptr 0 0), (3, .own 1 (firstN ws i ++ restsOf ws i k).length), (4, .p (.int .i64 i)), (5, .p (.int .i64 k))], [codeB q ws, .row 9 1 ((firstN ws i ++ restsOf ws i k).map .str) .lax]⟩)
    (fun k => k ≤ ws.length) (fun k => ws.length - k) 0 (by simp [go_sem, codeB, restsOf]) (by simp) ?_
  rintro k hk2
  refine AWp.of_awpD [(8, 14), (9, 14)] hΓ hmix (by kernel_rfl) ?_
  simp +contextual -implicitDefEqProofs only [getD_map_lt, ↓reduceIte, codeB, hlt, go_sem]
  have hwi : ws.getD i [] = ws[i] := by rw [List.getD_eq_getElem?_getD, List.getElem?_eq_getElem hlt, Option.getD_some]
  refine ⟨fun hlt2 => ⟨fun he => ⟨by simp only [InR]; omega, k + 1, ?_, hlt2, by omega⟩, fun hne => callK_fn (t60 ws[i] ws[k]) (.pures rfl) ?_⟩, fun hge => ⟨by simp only [InR]; omega, i + 1, ?_, hlt, by omega⟩⟩
  · have : restsOf ws k (k + 1) = restsOf ws k k := by rw [restsOf_succ]; unfold restAt; rw [if_neg (by simp)]; simp
    rw [this]; simp
  · have hwk : ws.getD k [] = ws[k] := by rw [List.getD_eq_getElem?_getD, List.getElem?_eq_getElem hlt2, Option.getD_some]
    cases hp : ws[k].isPrefixOf ws[i]
    · simp -implicitDefEqProofs only [hlt, hlt2, getD_map_lt, ↓reduceIte, codeB, go_sem]
      have : restsOf ws i (k + 1) = restsOf ws i k := by rw [restsOf_succ]; unfold restAt; rw [hwi, hwk, if_neg (by simp [hp])]; simp
      exact ⟨by simp only [InR]; omega, k + 1, by rw [this]; simp, hlt2, by omega⟩
    · simp -implicitDefEqProofs only [hlt, hlt2, getD_map_lt, ↓reduceIte, codeB, go_sem]
      have : restsOf ws i (k + 1) = restsOf ws i k ++ [ws[i].drop ws[k].length] := by rw [restsOf_succ]; unfold restAt; rw [hwi, hwk, if_pos ⟨hne, hp⟩]
      have h1 := firstN_len ws i
      have h2 := restsOf_len ws i k
      have h3 : i * ws.length ≤ 1000 * 1000 := Nat.mul_le_mul (by omega) hl
      refine ⟨(List.isPrefixOf_iff_prefix.1 hp).length_le, ⟨by simp [sizeOK, PV.cells], by omega⟩, ⟨by simp [sizeOK, PV.cells], by simp [oneOK, PV.cells, PV.isAgg]⟩, ⟨by simp, by simp only [List.length_append]; omega, by simp only [List.length_append]; omega⟩,
        by simp only [InR]; omega, k + 1, ⟨⟨by rw [this]; simp; omega, by simp⟩, by rw [this]; simp⟩, hlt2, by omega⟩
  · have : firstN ws (i + 1) = firstN ws i ++ restsOf ws i k := by rw [firstN_succ, show k = ws.length by omega]
    rw [this]; simp

theorem t54 (q : Int) (ws : List (List UInt8)) (hl : ws.length ≤ 1000) : PFn Try.prog 54 [codeV q ws] [.sl ((firstS ws).map .str)] := .of_row (r54 q ws hl)

/-- What follows from a rest and a word. -/
def nextAt (r x : List UInt8) : List (List UInt8) := if x.isPrefixOf r then [r.drop x.length] else if r.isPrefixOf x then [x.drop r.length] else []
def nextS (ws : List (List UInt8)) (r : List UInt8) : List (List UInt8) := ws.flatMap (nextAt r)
theorem nextS_len (r : List UInt8) : ∀ ws : List (List UInt8), (nextS ws r).length ≤ ws.length
  | [] => by simp [nextS]
  | x :: ws => by
    have := nextS_len r ws
    have h : (nextAt r x).length ≤ 1 := by unfold nextAt; split; simp; split <;> simp
    unfold nextS at this ⊢
    simp only [List.flatMap_cons, List.length_append, List.length_cons]; omega
theorem nextS_succ {ws : List (List UInt8)} {k : Nat} (r : List UInt8) (hk : k < ws.length) : nextS (ws.take (k + 1)) r = nextS (ws.take k) r ++ nextAt r ws[k] := by
  rw [List.take_succ_eq_append_getElem hk]; unfold nextS; rw [List.flatMap_append]; simp

theorem t56 (q : Int) (ws : List (List UInt8)) (r : List UInt8) (hl : ws.length ≤ 1000) : PFn Try.prog 56 [codeV q ws, .str r] [.sl ((nextS ws r).map .str)] := by
  refine PFn.of_body hΓ Try.func56 (by kernel_rfl) rfl (AWp.of_awpD [] hΓ hmix (by kernel_rfl) ?_)
  simp +contextual -implicitDefEqProofs only [codeV, Try.ntmps56, Try.results56, Nat.reduceAdd, Nat.reduceSub, go_sem]
  refine ⟨⟨fun x h => (by cases h), by omega⟩, ?_⟩
  refine AWp.adopt (l := []) 5 9 1 (by rfl) (by simp) ?_
  simp +contextual -implicitDefEqProofs only [go_sem]
  refine AWp.loopI (fun k : Nat => ⟨mkF 42 [(1, .p (.str r)), (2, .ptr 0 0), (5, .own 1 (nextS (ws.take k) r).length), (6, .p (.int .i64 k))], [codeB q ws, .row 9 1 ((nextS (ws.take k) r).map .str) .lax]⟩)
    (fun k => k ≤ ws.length) (fun k => ws.length - k) 0 (by simp [go_sem, codeB, nextS]) (by simp) ?_
  rintro k hk
  refine AWp.of_awpD [] hΓ hmix (by kernel_rfl) ?_
  simp +contextual -implicitDefEqProofs only [getD_map_lt, ↓reduceIte, codeB, go_sem]
  refine ⟨fun hlt => callK_fn (t60 r ws[k]) (.pures rfl) ?_, fun hge => by rw [List.take_of_length_le (by omega)]⟩
  have h2 := nextS_len r (ws.take k)
  rw [List.length_take] at h2
  have hs := nextS_succ r hlt
  cases hp : ws[k].isPrefixOf r
  · simp -implicitDefEqProofs only [hlt, getD_map_lt, ↓reduceIte, codeB, go_sem]
    refine callK_fn (t60 ws[k] r) (.pures rfl) ?_
    cases hp2 : r.isPrefixOf ws[k]
    · simp -implicitDefEqProofs only [hlt, getD_map_lt, ↓reduceIte, codeB, go_sem]
      have : nextS (ws.take (k + 1)) r = nextS (ws.take k) r := by rw [hs]; unfold nextAt; rw [if_neg (by simp [hp]), if_neg (by simp [hp2])]; simp
      exact ⟨by simp only [InR]; omega, k + 1, by rw [this]; simp, hlt, by omega⟩
    · simp -implicitDefEqProofs only [hlt, getD_map_lt, ↓reduceIte, codeB, go_sem]
      have : nextS (ws.take (k + 1)) r = nextS (ws.take k) r ++ [ws[k].drop r.length] := by rw [hs]; unfold nextAt; rw [if_neg (by simp [hp]), if_pos hp2]
      refine ⟨(List.isPrefixOf_iff_prefix.1 hp2).length_le, ⟨by simp [sizeOK, PV.cells], by omega⟩, ⟨by simp [sizeOK, PV.cells], by simp [oneOK, PV.cells, PV.isAgg]⟩, ⟨by simp, by omega, by omega⟩,
        by simp only [InR]; omega, k + 1, ⟨⟨by rw [this]; simp, by simp⟩, by rw [this]; simp⟩, hlt, by omega⟩
  · simp -implicitDefEqProofs only [hlt, getD_map_lt, ↓reduceIte, codeB, go_sem]
    have : nextS (ws.take (k + 1)) r = nextS (ws.take k) r ++ [r.drop ws[k].length] := by rw [hs]; unfold nextAt; rw [if_pos hp]
    refine ⟨(List.isPrefixOf_iff_prefix.1 hp).length_le, ⟨by simp [sizeOK, PV.cells], by omega⟩, ⟨by simp [sizeOK, PV.cells], by simp [oneOK, PV.cells, PV.isAgg]⟩, ⟨by simp, by omega, by omega⟩,
      by simp only [InR]; omega, k + 1, ⟨⟨by rw [this]; simp, by simp⟩, by rw [this]; simp⟩, hlt, by omega⟩

/-- Whether a list of words is a proof. -/
def proofOK (ws l : List (List UInt8)) : Bool := l.all (fun r => decide (r ≠ []) && (nextS ws r).all (fun u => decide (u ∈ l))) && (firstS ws).all (fun u => decide (u ∈ l))
def proofCheck (q : Int) (ws l : List (List UInt8)) : Int := if codeCheck q ws ≠ 0 then 1 else if 65536 < l.length then 4 else if proofOK ws l then 0 else 23
/-- What the reference must find among the words. -/
def needN (ws l : List (List UInt8)) (n : Nat) : List (List UInt8) := firstS ws ++ (l.take n).flatMap (nextS ws)

theorem proofOK_iff (ws l : List (List UInt8)) : proofOK ws l = true ↔ [] ∉ l ∧ ∀ u ∈ needN ws l l.length, u ∈ l := by
  unfold proofOK needN
  simp only [Bool.and_eq_true, List.all_eq_true, decide_eq_true_eq, List.take_length, List.mem_append, List.mem_flatMap]
  exact ⟨fun ⟨h1, h2⟩ => ⟨fun h => (h1 _ h).1 rfl, fun u hu => hu.elim (h2 u) (fun ⟨r, hr, hu⟩ => (h1 r hr).2 u hu)⟩, fun ⟨h1, h2⟩ => ⟨fun r hr => ⟨fun e => h1 (e ▸ hr), fun u hu => h2 u (.inr ⟨r, hr, hu⟩)⟩, fun u hu => h2 u (.inl hu)⟩⟩
theorem proofCheck_23 {q : Int} {ws l : List (List UInt8)} (h : codeCheck q ws = 0) (h1 : ¬ 65536 < l.length) (h2 : ¬ ([] ∉ l ∧ ∀ u ∈ needN ws l l.length, u ∈ l)) : proofCheck q ws l = 23 := by
  unfold proofCheck; rw [if_neg (by omega), if_neg h1, if_neg (fun e => h2 ((proofOK_iff ws l).1 e))]
theorem proofCheck_0 {q : Int} {ws l : List (List UInt8)} (h : codeCheck q ws = 0) (h1 : ¬ 65536 < l.length) (h2 : [] ∉ l) (h3 : ∀ u ∈ needN ws l l.length, u ∈ l) : proofCheck q ws l = 0 := by
  unfold proofCheck; rw [if_neg (by omega), if_neg h1, if_pos ((proofOK_iff ws l).2 ⟨h2, h3⟩)]
theorem needN_succ {ws l : List (List UInt8)} {i : Nat} (hi : i < l.length) : needN ws l (i + 1) = needN ws l i ++ nextS ws l[i] := by
  unfold needN; rw [List.take_succ_eq_append_getElem hi, List.flatMap_append]; simp

theorem t36 (q : Int) (ws l : List (List UInt8)) (hl : l.length ≤ 1000) : PFn Try.prog 36 [codeV q ws, .sl (l.map .str)] [.int .i64 (proofCheck q ws l)] := by
  refine PFn.of_body hΓ Try.func36 (by kernel_rfl) rfl (AWp.of_awpD [] hΓ hmix (by kernel_rfl) ?_)
  simp +contextual -implicitDefEqProofs only [codeV, Try.ntmps36, Try.results36, Nat.reduceAdd, Nat.reduceSub, go_sem]
  refine callK_fn (t44 q ws) (.still rfl) ?_
  by_cases h : codeCheck q ws = 0
  rotate_left
  · simp -implicitDefEqProofs only [h, go_sem]
    unfold proofCheck; rw [if_pos h]
  have hw : ws.length ≤ 64 := by
    unfold codeCheck at h
    split at h
    · omega
    · split at h
      · omega
      · split at h
        · omega
        · omega
  rw [h]
  simp -implicitDefEqProofs only [go_sem]
  have h1 : ¬ 65536 < (l.length : Int) := by omega
  refine ⟨fun h => absurd h h1, fun _ => ?_⟩
  refine callK_ac (AC.of_row (r54 q ws (by omega)) (.inr rfl)) (by simp) ?_
  rintro v h' ⟨rfl, rfl⟩
  simp +contextual -implicitDefEqProofs only [killAll, go_sem]
  have lenF : (firstS ws).length ≤ 64 * 64 := by
    have := firstN_len ws ws.length
    have h3 : ws.length * ws.length ≤ 64 * 64 := Nat.mul_le_mul hw hw
    unfold firstS; omega
  have lenN : ∀ n, (needN ws l n).length ≤ 64 * 64 + n * 64 := fun n => by
    unfold needN
    have : ∀ l' : List (List UInt8), (l'.flatMap (nextS ws)).length ≤ l'.length * 64 := fun l' => by
      induction l' with
      | nil => simp
      | cons x l' ih =>
        have := nextS_len x ws
        simp only [List.flatMap_cons, List.length_append, List.length_cons]; omega
    have h := this (l.take n)
    rw [List.length_take] at h
    have : min n l.length * 64 ≤ n * 64 := Nat.mul_le_mul_right _ (by omega)
    simp only [List.length_append]; omega
  refine AWp.loopI (fun i : Nat => ⟨mkF 48 [(1, .p (.sl (l.map .str))), (2, .ptr 0 0), (4, .p (.int .i64 0)), (5, .own 1 (needN ws l i).length), (6, .p (.int .i64 i))], [codeB q ws, .row 9 1 ((needN ws l i).map .str) .lax]⟩)
    (fun i => i ≤ l.length ∧ [] ∉ l.take i) (fun i => l.length - i) 0 (by simp [go_sem, codeB, needN]) (by simp) ?_
  rintro i ⟨hk, h0⟩
  refine AWp.of_awpD [(11, 7)] hΓ hmix (by kernel_rfl) ?_
  simp +contextual -implicitDefEqProofs only [getD_map_lt, ↓reduceIte, codeB, go_sem]
  have h1' : ¬ 65536 < l.length := by omega
  refine ⟨fun hlt => ⟨fun he => (proofCheck_23 h h1' (fun e => e.1 (he ▸ List.getElem_mem hlt))).symm, fun hne => callVPK_fn (t56 q ws l[i] (by omega)) (.still rfl) ?_⟩, fun hge => ?_⟩
  · simp +contextual -implicitDefEqProofs only [hlt, getD_map_lt, ↓reduceIte, codeB, go_sem]
    have hn := lenN i
    have hx := nextS_len l[i] ws
    have h64 : i * 64 ≤ 1000 * 64 := Nat.mul_le_mul_right _ (by omega)
    have hs : ∀ x ∈ (nextS ws l[i]).map PV.str, ∃ u, x = .str u := fun x hx => by obtain ⟨u, _, rfl⟩ := List.mem_map.1 hx; exact ⟨u, rfl⟩
    refine ⟨⟨fun x hx => by obtain ⟨u, rfl⟩ := hs x hx; rfl, fun x hx c hc => by obtain ⟨u, rfl⟩ := hs x hx; simp only [PV.cells, List.mem_singleton] at hc; subst hc; rfl⟩, ⟨by simp, by omega, by omega⟩,
      by simp only [InR]; omega, i + 1, ⟨⟨by rw [needN_succ hlt]; simp, by simp⟩, ?_⟩, ⟨hlt, ?_⟩, by omega⟩
    · rw [needN_succ hlt, List.map_append]
      cases he : ((nextS ws l[i]).map PV.str).isEmpty
      · right; rfl
      · left; exact ⟨rfl, rfl⟩
    · rw [List.take_succ_eq_append_getElem hlt]
      simp only [List.mem_append, List.mem_singleton]
      rintro (h | h)
      · exact h0 h
      · exact hne h.symm
  have hi : i = l.length := by omega
  subst hi
  rw [List.take_length] at h0
  refine AWp.freeze 1 rfl ?_
  simp +contextual -implicitDefEqProofs only [Frozen, go_sem]
  refine AWp.loopI (fun j : Nat => ⟨mkF 48 [(1, .p (.sl (l.map .str))), (2, .ptr 0 0), (4, .p (.int .i64 0)), (5, .p (.sl ((needN ws l l.length).map .str))), (7, .p (.int .i64 j))], [codeB q ws, .dead]⟩)
    (fun j => j ≤ (needN ws l l.length).length ∧ ∀ u ∈ (needN ws l l.length).take j, u ∈ l) (fun j => (needN ws l l.length).length - j) 0 (by simp [go_sem, codeB]) (by simp) ?_
  rintro j ⟨hj, h2⟩
  refine AWp.of_awpD [] hΓ hmix (by kernel_rfl) ?_
  simp +contextual -implicitDefEqProofs only [getD_map_lt, ↓reduceIte, codeB, go_sem]
  refine ⟨fun hlt => ?_, fun hge => (proofCheck_0 h h1' h0 (fun u hu => by rw [List.take_of_length_le (by omega)] at h2; exact h2 u hu)).symm⟩
  refine callK_fn (t55 l (needN ws l l.length)[j] (by omega)) (.still rfl) ?_
  have lenL := lenN l.length
  cases hm : decide ((needN ws l l.length)[j] ∈ l)
  · simp -implicitDefEqProofs only [hlt, getD_map_lt, ↓reduceIte, codeB, go_sem]
    exact (proofCheck_23 h h1' (fun e => by simp only [decide_eq_false_iff_not] at hm; exact hm (e.2 _ (List.getElem_mem hlt)))).symm
  · simp -implicitDefEqProofs only [hlt, getD_map_lt, ↓reduceIte, codeB, go_sem]
    refine ⟨by simp only [InR]; omega, j + 1, by simp, ⟨hlt, fun u hu => ?_⟩, by omega⟩
    rw [List.take_succ_eq_append_getElem hlt] at hu
    rcases List.mem_append.1 hu with hu | hu
    · exact h2 u hu
    · simp only [List.mem_singleton] at hu; subst hu; simpa using hm
end Go.Proofs.Ytpancbdaigaheaa
end

section
namespace Go.Proofs.Ytpancbdaigaheaa
open Go Go.AM
set_option maxRecDepth 100000
set_option linter.unusedSimpArgs false

theorem callK_yc {E : Env} {tm : List AV} {h : List AObj} {KS : St → Prop} {d : Option Nat} {b : Nat} {args : List AV} {ks : List Nat} {R : AV → List AObj → Prop} (hf : YC E.P b args h ks R) (hks : ∀ k ∈ ks, E.n0 ≤ k ∨ k ∈ E.ks)
    (hk : ∀ v h', R v h' → KS ⟨putD (killAll ks tm) d v, h'⟩) : callK E ⟨tm, h⟩ d (.yld b) args KS := ⟨ks, R, hf, hks, hk⟩

theorem weakH_self (h : List AObj) : weakH h h := (Weak.refl ⟨[], h⟩).2

/-- What the loop over firsts is given: the longer word, its rest. -/
def pairAt (x y : List UInt8) : List (List UInt8 × List UInt8) := if x.isPrefixOf y ∧ y.drop x.length ≠ [] then [(y, y.drop x.length)] else []
def pairsK (ws : List (List UInt8)) (i k : Nat) : List (List UInt8 × List UInt8) := (ws.take k).flatMap (pairAt (ws.getD i []))
def pairsN (ws : List (List UInt8)) (i : Nat) : List (List UInt8 × List UInt8) := (List.range i).flatMap fun i => pairsK ws i ws.length
def pairs (ws : List (List UInt8)) : List (List UInt8 × List UInt8) := pairsN ws ws.length

theorem pairsN_succ (ws : List (List UInt8)) (n : Nat) : pairsN ws (n + 1) = pairsN ws n ++ pairsK ws n ws.length := by
  unfold pairsN; rw [List.range_succ, List.flatMap_append]; simp
theorem pairsK_succ {ws : List (List UInt8)} {i k : Nat} (hk : k < ws.length) : pairsK ws i (k + 1) = pairsK ws i k ++ pairAt (ws.getD i []) ws[k] := by
  unfold pairsK; rw [List.take_succ_eq_append_getElem hk, List.flatMap_append]; simp
theorem pairsN_le (ws : List (List UInt8)) : ∀ {n : Nat}, n ≤ ws.length → ∃ l, pairsN ws n ++ l = pairs ws := by
  intro n hn
  induction hd : ws.length - n generalizing n with
  | zero => exact ⟨[], by rw [show n = ws.length by omega]; simp [pairs]⟩
  | succ d ih =>
    obtain ⟨l, hl⟩ := ih (n := n + 1) (by omega) (by omega)
    exact ⟨pairsK ws n ws.length ++ l, by rw [← List.append_assoc, ← pairsN_succ]; exact hl⟩
theorem pairsK_le (ws : List (List UInt8)) (i : Nat) : ∀ {k : Nat}, k ≤ ws.length → ∃ l, pairsK ws i k ++ l = pairsK ws i ws.length := by
  intro k hk
  refine ⟨(ws.drop k).flatMap (pairAt (ws.getD i [])), ?_⟩
  unfold pairsK
  rw [List.take_length, ← List.flatMap_append, List.take_append_drop]

/-- The loop over firsts, whatever is done in it: J says how things lie when some pairs are done, D how they lie when the loop was left. -/
theorem c86 {h : List AObj} {b c : Nat} {ks : List Nat} (hbk : b ∉ ks) (hck : c ∉ ks) (q : Int) (ws : List (List UInt8)) (hws : ws.length ≤ 1000) {J : List (List UInt8 × List UInt8) → List AObj → Prop} {D : List AObj → Prop} (hJ0 : J [] h)
    (hbox : ∀ done h', J done h' → h'[c]? = some (codeB q ws) ∧ h.length ≤ h'.length) (hD : ∀ h', D h' → h.length ≤ h'.length)
    (hround : ∀ done y r h', (∃ l, done ++ (y, r) :: l = pairs ws) → J done h' → YC Try.prog b [.p (.str y), .p (.str r)] h' ks (fun v h'' => (v = .p (.bool true) ∧ J (done ++ [(y, r)]) h'') ∨ (v = .p (.bool false) ∧ D h''))) :
    AC Try.prog 86 [.yld b, .ptr c 0] h ks (fun _ h' => J (pairs ws) h' ∨ D h') := by
  have nb : ∀ {k}, k ∈ ks → b ≠ k := fun h e => hbk (e ▸ h)
  have nc : ∀ {k}, k ∈ ks → c ≠ k := fun h e => hck (e ▸ h)
  refine AC.of_bodyE hΓ Try.func86 (by kernel_rfl) rfl (AWp.mono (Q := fun e st => AM.Ends e ∧ (J (pairs ws) st.h ∨ D st.h)) ?_ ?_)
  rotate_left
  · rintro e st ⟨he, hst⟩
    refine ⟨he, st, Less.refl st, ?_⟩
    refine ⟨st.h.length, hst.elim (fun hj => (hbox _ _ hj).2) (hD _), .inl rfl, ?_⟩
    rw [List.take_length]; exact hst
  refine AWp.of_awpD [] hΓ hmix (by kernel_rfl) ?_
  have hb0 := (hbox _ _ hJ0).1
  simp +contextual -implicitDefEqProofs only [Try.ntmps86, Nat.reduceAdd, Nat.reduceSub, hb0, codeB, go_sem]
  refine AWp.loopI (fun p : Nat × List AObj => ⟨mkF 43 [(0, .yld b), (1, .ptr c 0), (10, .p (.sl (ws.map .str))), (11, .p (.int .i64 ws.length)), (12, .p (.int .i64 p.1))], p.2⟩)
    (fun p => p.1 ≤ ws.length ∧ J (pairsN ws p.1) p.2) (fun p => ws.length - p.1) (0, h) (by simp [go_sem, weakH_self]) ⟨Nat.zero_le _, hJ0⟩ ?_
  rintro ⟨i, h1⟩ ⟨hi, hJ1⟩
  simp only at hi hJ1
  refine AWp.of_awpD [] hΓ hmix (by kernel_rfl) ?_
  have hb1 := (hbox _ _ hJ1).1
  simp +contextual -implicitDefEqProofs only [hb1, getD_map_lt, ↓reduceIte, codeB, go_sem]
  refine ⟨fun hlt => ?_, fun hge => .inl (by rw [show i = ws.length by omega] at hJ1; exact hJ1)⟩
  have hwi : ws.getD i [] = ws[i] := by rw [List.getD_eq_getElem?_getD, List.getElem?_eq_getElem hlt, Option.getD_some]
  refine AWp.loopI (fun p : Nat × List AObj => ⟨mkF 43 [(0, .yld b), (1, .ptr c 0), (4, .p (.str ws[i])), (10, .p (.sl (ws.map .str))), (11, .p (.int .i64 ws.length)), (12, .p (.int .i64 i)),
      (17, .p (.sl (ws.map .str))), (18, .p (.int .i64 ws.length)), (19, .p (.int .i64 p.1))], p.2⟩)
    (fun p => p.1 ≤ ws.length ∧ J (pairsN ws i ++ pairsK ws i p.1) p.2) (fun p => ws.length - p.1) (0, h1) (by simp [go_sem, weakH_self]) ⟨Nat.zero_le _, by simpa [pairsK] using hJ1⟩ ?_
  rintro ⟨k, h2⟩ ⟨hk, hJ2⟩
  simp only at hk hJ2
  refine AWp.of_awpD [] hΓ hmix (by kernel_rfl) ?_
  simp +contextual -implicitDefEqProofs only [getD_map_lt, ↓reduceIte, codeB, go_sem]
  refine ⟨fun hlt2 => ?_, fun hge => ⟨by simp only [InR]; omega, (i + 1, h2), by simp [weakH_self], ⟨hlt, by rw [pairsN_succ, show ws.length = k by omega]; exact hJ2⟩, by simp only; omega⟩⟩
  refine callK_fn (t20 ws[k] ws[i]) (.pures rfl) ?_
  have hs := pairsK_succ (i := i) hlt2
  rw [hwi] at hs
  cases hp : ws[i].isPrefixOf ws[k]
  · simp -implicitDefEqProofs only [go_sem]
    have : pairAt ws[i] ws[k] = [] := by unfold pairAt; rw [if_neg (by simp [hp])]
    rw [this, List.append_nil] at hs
    exact ⟨by simp only [InR]; omega, (k + 1, h2), by simp [weakH_self], ⟨hlt2, by simp only; rw [hs]; exact hJ2⟩, by simp only; omega⟩
  · have hcut : cutW ws[k] ws[i] = ws[k].drop ws[i].length := by unfold cutW; rw [if_pos hp]
    by_cases he : cutW ws[k] ws[i] = []
    · simp -implicitDefEqProofs only [he, go_sem]
      have : pairAt ws[i] ws[k] = [] := by unfold pairAt; rw [if_neg (fun e => e.2 (hcut ▸ he))]
      rw [this, List.append_nil] at hs
      exact ⟨by simp only [InR]; omega, (k + 1, h2), by simp [weakH_self], ⟨hlt2, by simp only; rw [hs]; exact hJ2⟩, by simp only; omega⟩
    · simp -implicitDefEqProofs only [he, go_sem]
      have : pairAt ws[i] ws[k] = [(ws[k], cutW ws[k] ws[i])] := by unfold pairAt; rw [hcut, if_pos ⟨hp, hcut ▸ he⟩]
      rw [this] at hs
      obtain ⟨l1, hl1⟩ := pairsK_le ws i (k := k + 1) hlt2
      obtain ⟨l2, hl2⟩ := pairsN_le ws (n := i + 1) hlt
      have hdone : ∃ l, (pairsN ws i ++ pairsK ws i k) ++ (ws[k], cutW ws[k] ws[i]) :: l = pairs ws := ⟨l1 ++ l2, by
        rw [← hl2, pairsN_succ, ← hl1, hs]; simp⟩
      refine callK_yc (hround _ _ _ _ hdone hJ2) (fun k hk => .inr hk) ?_
      rintro v h' (⟨rfl, hj⟩ | ⟨rfl, hd⟩)
      · rw [killAll_keep (fun k hk => by simp [AV.kill, AV.kill.killL, nb hk, nc hk])]
        simp -implicitDefEqProofs only [go_sem]
        exact ⟨by simp only [InR]; omega, (k + 1, h'), by simp [weakH_self], ⟨hlt2, by simp only; rw [hs, ← List.append_assoc]; exact hj⟩, by simp only; omega⟩
      · rw [killAll_keep (fun k hk => by simp [AV.kill, AV.kill.killL, nb hk, nc hk])]
        simp -implicitDefEqProofs only [go_sem]
        exact .inr hd

/-- What the loop over nexts is given: what follows, and by how much the message grows. -/
def nextP (r x : List UInt8) : List (List UInt8 × Nat) := if x.isPrefixOf r then [(r.drop x.length, 0)] else if r.isPrefixOf x then [(x.drop r.length, (x.drop r.length).length)] else []
def nextsP (ws : List (List UInt8)) (r : List UInt8) : List (List UInt8 × Nat) := ws.flatMap (nextP r)
theorem nextsP_succ {ws : List (List UInt8)} {k : Nat} (r : List UInt8) (hk : k < ws.length) : nextsP (ws.take (k + 1)) r = nextsP (ws.take k) r ++ nextP r ws[k] := by
  rw [List.take_succ_eq_append_getElem hk]; unfold nextsP; rw [List.flatMap_append]; simp
theorem nextsP_le (ws : List (List UInt8)) (r : List UInt8) (k : Nat) : ∃ l, nextsP (ws.take k) r ++ l = nextsP ws r :=
  ⟨nextsP (ws.drop k) r, by unfold nextsP; rw [← List.flatMap_append, List.take_append_drop]⟩

theorem c87 {h : List AObj} {b c d : Nat} {ks : List Nat} (hbk : b ∉ ks) (hck : c ∉ ks) (hdk : d ∉ ks) (q : Int) (ws : List (List UInt8)) (r : List UInt8) (hws : ws.length ≤ 1000) {J : List (List UInt8 × Nat) → List AObj → Prop} {D : List AObj → Prop} (hJ0 : J [] h)
    (hbox : ∀ done h', J done h' → h'[c]? = some (codeB q ws) ∧ h'[d]? = some (.box [.p (.str r)]) ∧ h.length ≤ h'.length) (hD : ∀ h', D h' → h.length ≤ h'.length)
    (hround : ∀ done u n h', (∃ l, done ++ (u, n) :: l = nextsP ws r) → J done h' → YC Try.prog b [.p (.str u), .p (.int .i64 (n : Nat))] h' ks (fun v h'' => (v = .p (.bool true) ∧ J (done ++ [(u, n)]) h'') ∨ (v = .p (.bool false) ∧ D h''))) :
    AC Try.prog 87 [.yld b, .ptr c 0, .ptr d 0] h ks (fun _ h' => J (nextsP ws r) h' ∨ D h') := by
  have nb : ∀ {k}, k ∈ ks → b ≠ k := fun h e => hbk (e ▸ h)
  have nc : ∀ {k}, k ∈ ks → c ≠ k := fun h e => hck (e ▸ h)
  have nd : ∀ {k}, k ∈ ks → d ≠ k := fun h e => hdk (e ▸ h)
  refine AC.of_bodyE hΓ Try.func87 (by kernel_rfl) rfl (AWp.mono (Q := fun e st => AM.Ends e ∧ (J (nextsP ws r) st.h ∨ D st.h)) ?_ ?_)
  rotate_left
  · rintro e st ⟨he, hst⟩
    refine ⟨he, st, Less.refl st, ?_⟩
    refine ⟨st.h.length, hst.elim (fun hj => (hbox _ _ hj).2.2) (hD _), .inl rfl, ?_⟩
    rw [List.take_length]; exact hst
  refine AWp.of_awpD [] hΓ hmix (by kernel_rfl) ?_
  have hb0 := (hbox _ _ hJ0).1
  simp +contextual -implicitDefEqProofs only [Try.ntmps87, Nat.reduceAdd, Nat.reduceSub, hb0, codeB, go_sem]
  refine AWp.loopI (fun p : Nat × List AObj => ⟨mkF 44 [(0, .yld b), (1, .ptr c 0), (2, .ptr d 0), (11, .p (.sl (ws.map .str))), (12, .p (.int .i64 ws.length)), (13, .p (.int .i64 p.1))], p.2⟩)
    (fun p => p.1 ≤ ws.length ∧ J (nextsP (ws.take p.1) r) p.2) (fun p => ws.length - p.1) (0, h) (by simp [go_sem, weakH_self]) ⟨Nat.zero_le _, by simpa [nextsP] using hJ0⟩ ?_
  rintro ⟨k, h2⟩ ⟨hk, hJ2⟩
  simp only at hk hJ2
  refine AWp.of_awpD [] hΓ hmix (by kernel_rfl) ?_
  have hb2 := (hbox _ _ hJ2).2.1
  simp +contextual -implicitDefEqProofs only [hb2, getD_map_lt, ↓reduceIte, codeB, go_sem]
  refine ⟨fun hlt => callK_fn (t20 r ws[k]) (.pures rfl) ?_, fun hge => .inl (by rw [List.take_of_length_le (by omega)] at hJ2; exact hJ2)⟩
  have hs := nextsP_succ r hlt
  obtain ⟨l1, hl1⟩ := nextsP_le ws r (k + 1)
  have fin : ∀ u n, nextP r ws[k] = [(u, n)] → ∃ l, nextsP (ws.take k) r ++ (u, n) :: l = nextsP ws r := fun u n e => ⟨l1, by rw [← hl1, hs, e]; simp⟩
  cases hp : ws[k].isPrefixOf r
  · simp -implicitDefEqProofs only [hb2, go_sem]
    refine callK_fn (t20 ws[k] r) (.pures rfl) ?_
    cases hp2 : r.isPrefixOf ws[k]
    · simp -implicitDefEqProofs only [go_sem]
      have : nextP r ws[k] = [] := by unfold nextP; rw [if_neg (by simp [hp]), if_neg (by simp [hp2])]
      rw [this, List.append_nil] at hs
      exact ⟨by simp only [InR]; omega, (k + 1, h2), by simp [weakH_self], ⟨hlt, by simp only; rw [hs]; exact hJ2⟩, by simp only; omega⟩
    · simp -implicitDefEqProofs only [go_sem]
      have hcut : cutW ws[k] r = ws[k].drop r.length := by unfold cutW; rw [if_pos hp2]
      have he : nextP r ws[k] = [(cutW ws[k] r, (cutW ws[k] r).length)] := by unfold nextP; rw [if_neg (by simp [hp]), if_pos hp2, hcut]
      refine callK_yc (hround _ _ _ _ (fin _ _ he) hJ2) (fun k hk => .inr hk) ?_
      rw [he] at hs
      rintro v h' (⟨rfl, hj⟩ | ⟨rfl, hd⟩)
      · rw [killAll_keep (fun k hk => by simp [AV.kill, AV.kill.killL, nb hk, nc hk, nd hk])]
        simp -implicitDefEqProofs only [go_sem]
        exact ⟨by simp only [InR]; omega, (k + 1, h'), by simp [weakH_self], ⟨hlt, by simp only; rw [hs]; exact hj⟩, by simp only; omega⟩
      · rw [killAll_keep (fun k hk => by simp [AV.kill, AV.kill.killL, nb hk, nc hk, nd hk])]
        simp -implicitDefEqProofs only [go_sem]
        exact .inr hd
  · simp -implicitDefEqProofs only [go_sem]
    have hcut : cutW r ws[k] = r.drop ws[k].length := by unfold cutW; rw [if_pos hp]
    have he : nextP r ws[k] = [(cutW r ws[k], 0)] := by unfold nextP; rw [if_pos hp, hcut]
    refine callK_yc (hround _ _ _ _ (fin _ _ he) hJ2) (fun k hk => .inr hk) ?_
    rw [he] at hs
    rintro v h' (⟨rfl, hj⟩ | ⟨rfl, hd⟩)
    · rw [killAll_keep (fun k hk => by simp [AV.kill, AV.kill.killL, nb hk, nc hk, nd hk])]
      simp -implicitDefEqProofs only [go_sem]
      exact ⟨by simp only [InR]; omega, (k + 1, h'), by simp [weakH_self], ⟨hlt, by simp only; rw [hs]; exact hj⟩, by simp only; omega⟩
    · rw [killAll_keep (fun k hk => by simp [AV.kill, AV.kill.killL, nb hk, nc hk, nd hk])]
      simp -implicitDefEqProofs only [go_sem]
      exact .inr hd
end Go.Proofs.Ytpancbdaigaheaa
end

section
namespace Go.Proofs.Ytpancbdaigaheaa
open Go Go.AM
set_option maxRecDepth 100000
set_option linter.unusedSimpArgs false

/-! A map to bools, all true: a set of words, in the order of their coming. -/
def entT (k : List UInt8) : List UInt8 × PV := (k, .bool true)
def addK (ks : List (List UInt8)) (k : List UInt8) : List (List UInt8) := if k ∈ ks then ks else ks ++ [k]
def keysOf (l : List (List UInt8)) : List (List UInt8) := l.foldl addK []
def setM (l : List (List UInt8)) : List (List UInt8 × PV) := (keysOf l).map entT

theorem midx_set (k : List UInt8) : ∀ ks : List (List UInt8), (k ∉ ks → midx k (ks.map entT) = none) ∧ (k ∈ ks → ∃ j, midx k (ks.map entT) = some j ∧ ∃ h : j < ks.length, ks[j] = k)
  | [] => ⟨fun _ => rfl, fun h => by cases h⟩
  | a :: ks => by
    obtain ⟨h1, h2⟩ := midx_set k ks
    constructor
    · intro h
      simp only [List.mem_cons, not_or] at h
      rw [List.map_cons]; unfold midx; rw [if_neg (show ¬ k = (entT a).1 from h.1)]
      rw [h1 h.2]; rfl
    · intro h
      by_cases e : k = a
      · exact ⟨0, by simp [midx, entT, e], by simp, e.symm⟩
      · simp only [List.mem_cons, e, false_or] at h
        obtain ⟨j, h3, h4, h5⟩ := h2 h
        refine ⟨j + 1, ?_, by simpa using h4, by simpa using h5⟩
        rw [List.map_cons]; unfold midx; rw [if_neg (show ¬ k = (entT a).1 from e)]
        rw [h3]; rfl
theorem mset_set (k : List UInt8) (ks : List (List UInt8)) : mset k (.bool true) (ks.map entT) = (addK ks k).map entT := by
  unfold mset addK
  by_cases h : k ∈ ks
  · obtain ⟨j, h1, h2, h3⟩ := (midx_set k ks).2 h
    rw [h1, if_pos h]
    apply List.ext_getElem (by simp)
    intro i hi _
    simp only [List.getElem_set, List.getElem_map]
    split
    · subst_vars; rfl
    · rfl
  · rw [(midx_set k ks).1 h, if_neg h]; simp [entT]
theorem mget_set (k : List UInt8) (ks : List (List UInt8)) : (mget k (ks.map entT)).getD (.bool false) = .bool (decide (k ∈ ks)) := by
  unfold mget
  by_cases h : k ∈ ks
  · obtain ⟨j, h1, h2, h3⟩ := (midx_set k ks).2 h
    rw [h1, decide_eq_true h]
    simp only [Option.map_some, Option.getD_some, List.getD_eq_getElem?_getD, List.getElem?_map, List.getElem?_eq_getElem h2, entT]
  · rw [(midx_set k ks).1 h, decide_eq_false h]; rfl
theorem keysOf_snoc (l : List (List UInt8)) (k : List UInt8) : keysOf (l ++ [k]) = addK (keysOf l) k := by unfold keysOf; rw [List.foldl_append]; rfl
theorem mem_foldK (k : List UInt8) : ∀ (l acc : List (List UInt8)), k ∈ l.foldl addK acc ↔ k ∈ acc ∨ k ∈ l
  | [], acc => by simp
  | a :: l, acc => by
    rw [List.foldl_cons, mem_foldK k l]
    unfold addK
    split
    · rename_i h
      simp only [List.mem_cons]
      exact ⟨fun h' => h'.elim .inl (fun h => .inr (.inr h)), fun h' => h'.elim .inl (fun h' => h'.elim (fun e => .inl (e ▸ h)) .inr)⟩
    · simp only [List.mem_append, List.mem_cons, List.not_mem_nil, or_false, or_assoc]
theorem mem_keysOf (l : List (List UInt8)) (k : List UInt8) : k ∈ keysOf l ↔ k ∈ l := by unfold keysOf; rw [mem_foldK]; simp
theorem len_foldK : ∀ (l acc : List (List UInt8)), (l.foldl addK acc).length ≤ acc.length + l.length
  | [], acc => by simp
  | a :: l, acc => by
    rw [List.foldl_cons]
    have h1 := len_foldK l (addK acc a)
    have h2 : (addK acc a).length ≤ acc.length + 1 := by unfold addK; split <;> simp
    simp only [List.length_cons]; omega
theorem keysOf_len (l : List (List UInt8)) : (keysOf l).length ≤ l.length := by have := len_foldK l []; simpa [keysOf] using this
theorem setM_snoc (l : List (List UInt8)) (k : List UInt8) : mset k (.bool true) (setM l) = setM (l ++ [k]) := by unfold setM; rw [mset_set, keysOf_snoc]
theorem setM_get (l : List (List UInt8)) (k : List UInt8) : (mget k (setM l)).getD (.bool false) = .bool (decide (k ∈ l)) := by
  unfold setM; rw [mget_set]; simp only [mem_keysOf]

theorem c52 {h : List AObj} (q : Int) (ws : List (List UInt8)) : AC Try.prog 52 [.agg [.p (.int .i64 q), .p (.sl (ws.map .str))]] h [] (fun v h' => v = .fn 86 [.ptr h.length 0] ∧ h' = h ++ [codeB q ws]) := by
  refine AC.of_bodyE hΓ Try.func52 (by kernel_rfl) rfl (AWp.mono (Q := fun e st => AM.Ends e ∧ st.tmps.getD 2 .junk = .fn 86 [.ptr h.length 0] ∧ st.h = h ++ [codeB q ws]) ?_ ?_)
  rotate_left
  · rintro e ⟨tm, h'⟩ ⟨he, h1, h2⟩
    simp only at h1 h2
    subst h2
    refine ⟨he, _, Less.refl _, ?_⟩
    unfold DoneE
    simp +contextual -implicitDefEqProofs only [Try.results52, h1, go_sem]
    exact ⟨h.length + 1, by omega, .inl (by simp), List.take_of_length_le (by simp)⟩
  refine AWp.of_awpD [] hΓ hmix (by kernel_rfl) ?_
  simp +contextual -implicitDefEqProofs only [Try.ntmps52, Nat.reduceAdd, Nat.reduceSub, codeB, go_sem]

theorem c53 {h : List AObj} (q : Int) (ws : List (List UInt8)) (r : List UInt8) : AC Try.prog 53 [.agg [.p (.int .i64 q), .p (.sl (ws.map .str))], .p (.str r)] h []
    (fun v h' => v = .fn 87 [.ptr h.length 0, .ptr (h.length + 1) 0] ∧ h' = h ++ [codeB q ws, .box [.p (.str r)]]) := by
  refine AC.of_bodyE hΓ Try.func53 (by kernel_rfl) rfl (AWp.mono (Q := fun e st => AM.Ends e ∧ st.tmps.getD 4 .junk = .fn 87 [.ptr h.length 0, .ptr (h.length + 1) 0] ∧ st.h = h ++ [codeB q ws, .box [.p (.str r)]]) ?_ ?_)
  rotate_left
  · rintro e ⟨tm, h'⟩ ⟨he, h1, h2⟩
    simp only at h1 h2
    subst h2
    refine ⟨he, _, Less.refl _, ?_⟩
    unfold DoneE
    simp +contextual -implicitDefEqProofs only [Try.results53, h1, go_sem]
    exact ⟨h.length + 2, by omega, .inl (by simp), List.take_of_length_le (by simp)⟩
  refine AWp.of_awpD [] hΓ hmix (by kernel_rfl) ?_
  simp +contextual -implicitDefEqProofs only [Try.ntmps53, Nat.reduceAdd, Nat.reduceSub, codeB, List.length_append, List.append_assoc, go_sem]

/-- A loop over firsts whose rounds only look: it is left at the first pair that will not do. -/
theorem range86 {E : Env} (hP : E.P = Try.prog) {tm : List AV} {h HD : List AObj} {Q : Exit → St → Prop} {f : Operand} {ps : List Nat} {assign body : Code} {c : Nat} (q : Int) (ws : List (List UInt8)) (hws : ws.length ≤ 1000)
    (ok : List UInt8 × List UInt8 → Prop) (hf : ev tm f = .fn 86 [.ptr c 0]) (hc : h[c]? = some (codeB q ws)) (hlen : HD.length = h.length)
    (hround : ∀ p ∈ pairs ws, YC Try.prog h.length [.p (.str p.1), .p (.str p.2)] (h ++ [.lp tm ps assign body .ready]) []
      (fun v h'' => (v = .p (.bool true) ∧ ok p ∧ h'' = h ++ [.lp tm ps assign body .ready]) ∨ (v = .p (.bool false) ∧ ¬ ok p ∧ h'' = HD ++ [.lp tm ps assign body (.left .ret)])))
    (h1 : (∀ p ∈ pairs ws, ok p) → Q .normal ⟨tm, h ++ [.dead]⟩) (h2 : (∃ p ∈ pairs ws, ¬ ok p) → Q .ret ⟨tm, HD ++ [.dead]⟩) : AWp E none (.rangeFunc f ps.toArray assign body) Q ⟨tm, h⟩ := by
  have hcl : c < h.length := (List.getElem?_eq_some_iff.1 hc).1
  have hac : AC Try.prog 86 [.yld h.length, .ptr c 0] (h ++ [.lp tm ps assign body .ready]) [] (fun _ h' => (h' = h ++ [.lp tm ps assign body .ready] ∧ ∀ p ∈ pairs ws, ok p) ∨ (h' = HD ++ [.lp tm ps assign body (.left .ret)] ∧ ∃ p ∈ pairs ws, ¬ ok p)) := by
    refine c86 (ks := []) (by simp) (by simp) q ws hws (J := fun done h' => h' = h ++ [.lp tm ps assign body .ready] ∧ ∀ p ∈ done, ok p) (D := fun h' => h' = HD ++ [.lp tm ps assign body (.left .ret)] ∧ ∃ p ∈ pairs ws, ¬ ok p) ⟨rfl, by simp⟩ ?_ ?_ ?_
    · rintro done h' ⟨rfl, _⟩
      exact ⟨by rw [List.getElem?_append_left hcl]; exact hc, Nat.le_refl _⟩
    · rintro h' ⟨rfl, _⟩; simp [hlen]
    · rintro done y r h' ⟨l, hl⟩ ⟨rfl, hdone⟩
      have hm : (y, r) ∈ pairs ws := by rw [← hl]; simp
      obtain hy := hround _ hm
      intro X I μ ob w cargs R hl2 ha hk
      obtain ⟨l', fn, tmps, a', b', e1, e2, e3⟩ := hy X I μ ob w cargs R hl2 ha hk
      refine ⟨l', fn, tmps, a', b', e1, e2, ?_⟩
      refine e3.mono ?_
      rintro e w' ⟨cv, v, h', I', μ', ob', g1, g2, g3, g4, g5, g6, g7, g8, g9, g10⟩
      refine ⟨cv, v, h', I', μ', ob', g1, g2, g3, g4, g5, g6, g7, g8, g9, ?_⟩
      rcases g10 with ⟨k1, k2, k3⟩ | ⟨k1, k2, k3⟩
      · exact .inl ⟨k1, k3, fun p hp => by
          rcases List.mem_append.1 hp with hp | hp
          · exact hdone p hp
          · simp only [List.mem_singleton] at hp; subst hp; exact k2⟩
      · exact .inr ⟨k1, k3, _, hm, k2⟩
  obtain ⟨P, Γ', n0, ks⟩ := E
  simp only at hP; subst hP
  refine AWp.rangeFunc hf hac (by simp) (by simp) ?_
  rintro v h' (⟨rfl, hok⟩ | ⟨rfl, hbad⟩)
  · have := h1 hok
    unfold RangeK
    simpa [killAll] using this
  · have := h2 hbad
    unfold RangeK
    rw [← hlen]
    simpa [killAll] using this

/-- A loop over nexts whose rounds only look: it is left at the first one that will not do. -/
theorem range87 {E : Env} (hP : E.P = Try.prog) {tm : List AV} {h HD : List AObj} {Q : Exit → St → Prop} {f : Operand} {ps : List Nat} {assign body : Code} {c d : Nat} (q : Int) (ws : List (List UInt8)) (r : List UInt8) (hws : ws.length ≤ 1000)
    (ok : List UInt8 × Nat → Prop) (hf : ev tm f = .fn 87 [.ptr c 0, .ptr d 0]) (hc : h[c]? = some (codeB q ws)) (hd : h[d]? = some (.box [.p (.str r)])) (hlen : HD.length = h.length)
    (hround : ∀ p ∈ nextsP ws r, YC Try.prog h.length [.p (.str p.1), .p (.int .i64 (p.2 : Nat))] (h ++ [.lp tm ps assign body .ready]) []
      (fun v h'' => (v = .p (.bool true) ∧ ok p ∧ h'' = h ++ [.lp tm ps assign body .ready]) ∨ (v = .p (.bool false) ∧ ¬ ok p ∧ h'' = HD ++ [.lp tm ps assign body (.left .ret)])))
    (h1 : (∀ p ∈ nextsP ws r, ok p) → Q .normal ⟨tm, h ++ [.dead]⟩) (h2 : (∃ p ∈ nextsP ws r, ¬ ok p) → Q .ret ⟨tm, HD ++ [.dead]⟩) : AWp E none (.rangeFunc f ps.toArray assign body) Q ⟨tm, h⟩ := by
  have hcl : c < h.length := (List.getElem?_eq_some_iff.1 hc).1
  have hdl : d < h.length := (List.getElem?_eq_some_iff.1 hd).1
  have hac : AC Try.prog 87 [.yld h.length, .ptr c 0, .ptr d 0] (h ++ [.lp tm ps assign body .ready]) [] (fun _ h' => (h' = h ++ [.lp tm ps assign body .ready] ∧ ∀ p ∈ nextsP ws r, ok p) ∨ (h' = HD ++ [.lp tm ps assign body (.left .ret)] ∧ ∃ p ∈ nextsP ws r, ¬ ok p)) := by
    refine c87 (ks := []) (by simp) (by simp) (by simp) q ws r hws (J := fun done h' => h' = h ++ [.lp tm ps assign body .ready] ∧ ∀ p ∈ done, ok p) (D := fun h' => h' = HD ++ [.lp tm ps assign body (.left .ret)] ∧ ∃ p ∈ nextsP ws r, ¬ ok p) ⟨rfl, by simp⟩ ?_ ?_ ?_
    · rintro done h' ⟨rfl, _⟩
      exact ⟨by rw [List.getElem?_append_left hcl]; exact hc, by rw [List.getElem?_append_left hdl]; exact hd, Nat.le_refl _⟩
    · rintro h' ⟨rfl, _⟩; simp [hlen]
    · rintro done u n h' ⟨l, hl⟩ ⟨rfl, hdone⟩
      have hm : (u, n) ∈ nextsP ws r := by rw [← hl]; simp
      obtain hy := hround _ hm
      intro X I μ ob w cargs R hl2 ha hk
      obtain ⟨l', fn, tmps, a', b', e1, e2, e3⟩ := hy X I μ ob w cargs R hl2 ha hk
      refine ⟨l', fn, tmps, a', b', e1, e2, ?_⟩
      refine e3.mono ?_
      rintro e w' ⟨cv, v, h', I', μ', ob', g1, g2, g3, g4, g5, g6, g7, g8, g9, g10⟩
      refine ⟨cv, v, h', I', μ', ob', g1, g2, g3, g4, g5, g6, g7, g8, g9, ?_⟩
      rcases g10 with ⟨k1, k2, k3⟩ | ⟨k1, k2, k3⟩
      · exact .inl ⟨k1, k3, fun p hp => by
          rcases List.mem_append.1 hp with hp | hp
          · exact hdone p hp
          · simp only [List.mem_singleton] at hp; subst hp; exact k2⟩
      · exact .inr ⟨k1, k3, _, hm, k2⟩
  obtain ⟨P, Γ', n0, ks⟩ := E
  simp only at hP; subst hP
  refine AWp.rangeFunc hf hac (by simp) (by simp) ?_
  rintro v h' (⟨rfl, hok⟩ | ⟨rfl, hbad⟩)
  · have := h1 hok
    unfold RangeK
    simpa [killAll] using this
  · have := h2 hbad
    unfold RangeK
    rw [← hlen]
    simpa [killAll] using this


theorem weakH_dead : ∀ h : List AObj, weakH h (List.replicate h.length .dead)
  | [] => trivial
  | _ :: h => ⟨.inl rfl, weakH_dead h⟩

theorem nodup_sub_len : ∀ {l m : List Nat}, l.Nodup → l ⊆ m → l.length ≤ m.length
  | [], _, _, _ => Nat.zero_le _
  | a :: l, m, h, hs => by
    obtain ⟨h1, h2⟩ := List.nodup_cons.1 h
    have ha : a ∈ m := hs (by simp)
    have := nodup_sub_len (m := m.erase a) h2 (fun x hx => (List.mem_erase_of_ne (fun e : x = a => h1 (e ▸ hx))).2 (hs (by simp [hx])))
    rw [List.length_erase_of_mem ha] at this
    have := List.length_pos_of_mem ha
    simp only [List.length_cons]; omega

/-! ### The order of words -/
def ltW (a b : List UInt8) : Prop := a.length < b.length ∨ (a.length = b.length ∧ bLt a b = true)
theorem bLt_cons (x y : UInt8) (a b : List UInt8) : bLt (x :: a) (y :: b) = true ↔ x.toNat < y.toNat ∨ (x.toNat = y.toNat ∧ bLt a b = true) := by
  have e : bLt (x :: a) (y :: b) = (match Nat.blt x.toNat y.toNat with | true => true | false => (match Nat.beq x.toNat y.toNat with | true => bLt a b | false => false)) := rfl
  rw [e]
  cases h1 : Nat.blt x.toNat y.toNat
  · have h2 : ¬ x.toNat < y.toNat := fun h => by rw [(Nat.blt_eq (x := x.toNat)).symm.mp h] at h1; cases h1
    cases h3 : Nat.beq x.toNat y.toNat
    · have : ¬ x.toNat = y.toNat := fun h => by rw [h] at h3; simp at h3
      simp [h2, this]
    · have := Nat.eq_of_beq_eq_true h3
      simp [h2, this]
  · have := (Nat.blt_eq (x := x.toNat)).mp h1
    simp [this]
theorem bLt_trans : ∀ {a b c : List UInt8}, bLt a b = true → bLt b c = true → bLt a c = true
  | a, [], c, h, _ => by cases a <;> cases h
  | [], _ :: _, [], _, h => by cases h
  | [], _ :: _, _ :: _, _, _ => rfl
  | x :: a, y :: b, [], _, h => by cases h
  | x :: a, y :: b, z :: c, h1, h2 => by
    rw [bLt_cons] at h1 h2 ⊢
    rcases h1 with h1 | ⟨h1, h3⟩
    · rcases h2 with h2 | ⟨h2, _⟩
      · exact .inl (by omega)
      · exact .inl (by omega)
    · rcases h2 with h2 | ⟨h2, h4⟩
      · exact .inl (by omega)
      · exact .inr ⟨by omega, bLt_trans h3 h4⟩
theorem bLt_irrefl : ∀ a : List UInt8, bLt a a = false
  | [] => rfl
  | x :: a => by
    rw [Bool.eq_false_iff]
    intro h
    rw [bLt_cons] at h
    rcases h with h | ⟨_, h⟩
    · omega
    · rw [bLt_irrefl a] at h; cases h
theorem ltW_iff (a b : List UInt8) : cmpW a b < 0 ↔ ltW a b := by
  unfold cmpW ltW
  by_cases h1 : a.length < b.length
  · rw [if_pos h1]; simp [h1]
  · by_cases h2 : b.length < a.length
    · rw [if_neg h1, if_pos h2]; simp [h1]; omega
    · rw [if_neg h1, if_neg h2]
      have h3 : a.length = b.length := by omega
      unfold cmpB
      cases bLt a b
      · cases bEq a b <;> simp [h1]
      · simp [h3]
theorem ltW_trans {a b c : List UInt8} (h1 : ltW a b) (h2 : ltW b c) : ltW a c := by
  rcases h1 with h1 | ⟨h1, h3⟩ <;> rcases h2 with h2 | ⟨h2, h4⟩
  · exact .inl (by omega)
  · exact .inl (by omega)
  · exact .inl (by omega)
  · exact .inr ⟨by omega, bLt_trans h3 h4⟩
theorem ltW_irrefl (a : List UInt8) : ¬ ltW a a := by
  rintro (h | ⟨_, h⟩)
  · omega
  · rw [bLt_irrefl] at h; cases h

theorem firstNZ_zero {l : List Int} (h : firstNZ l = 0) : ∀ x ∈ l, x = 0 := by
  intro x hx
  unfold firstNZ at h
  cases hf : l.find? (fun x => decide (x ≠ 0)) with
  | none => simpa using List.find?_eq_none.1 hf x hx
  | some y =>
    have h1 := List.find?_some hf
    rw [hf] at h
    simp only [decide_eq_true_eq] at h1
    exact absurd h h1

/-- What a valid code is. -/
structure Valid (q : Int) (ws : List (List UInt8)) : Prop where
  q2 : 2 ≤ q
  q16 : q ≤ 16
  pos : 0 < ws.length
  len : ws.length ≤ 64
  ne : ∀ i, i < ws.length → ws.getD i [] ≠ []
  short : ∀ i, i < ws.length → (ws.getD i []).length ≤ 32
  word : ∀ i, i < ws.length → wordCheck q (ws.getD i []) = 0
  lt : ∀ i j, i < j → j < ws.length → ltW (ws.getD i []) (ws.getD j [])

theorem valid_of {q : Int} {ws : List (List UInt8)} (h : codeCheck q ws = 0) : Valid q ws := by
  unfold codeCheck at h
  split at h
  · omega
  rename_i h1
  split at h
  · omega
  rename_i h2
  split at h
  · omega
  rename_i h3
  have h4 : ∀ i, i < ws.length → wordErr q ws i = 0 := fun i hi => firstNZ_zero h _ (List.mem_map.2 ⟨i, List.mem_range.2 hi, rfl⟩)
  have h5 : ∀ i, i < ws.length → ws.getD i [] ≠ [] ∧ ¬ 32 < (ws.getD i []).length ∧ wordCheck q (ws.getD i []) = 0 ∧ ¬ (0 < i ∧ 0 ≤ cmpW (ws.getD (i - 1) []) (ws.getD i [])) := fun i hi => by
    have := h4 i hi
    unfold wordErr at this
    simp only at this
    split at this
    · omega
    rename_i g1
    split at this
    · omega
    rename_i g2
    split at this
    · omega
    rename_i g3
    split at this
    · omega
    rename_i g4
    exact ⟨g1, g2, by omega, g4⟩
  have step : ∀ i, i + 1 < ws.length → ltW (ws.getD i []) (ws.getD (i + 1) []) := fun i hi => by
    have := (h5 (i + 1) hi).2.2.2
    rw [← ltW_iff]
    simp only [Nat.add_sub_cancel] at this
    omega
  refine ⟨by omega, by omega, by omega, by omega, fun i hi => (h5 i hi).1, fun i hi => by have := (h5 i hi).2.1; omega, fun i hi => (h5 i hi).2.2.1, ?_⟩
  intro i j hij hj
  obtain ⟨d, rfl⟩ : ∃ d, j = i + 1 + d := ⟨j - i - 1, by omega⟩
  clear hij
  induction d with
  | zero => exact step i hj
  | succ d ih => exact ltW_trans (ih (by omega)) (step (i + 1 + d) hj)

theorem distinct_of {q : Int} {ws : List (List UInt8)} (h : codeCheck q ws = 0) : ∀ i j, i < ws.length → j < ws.length → ws.getD i [] = ws.getD j [] → i = j := by
  intro i j hi hj e
  have v := (valid_of h).lt
  rcases Nat.lt_trichotomy i j with h1 | h1 | h1
  · exact absurd (e ▸ v i j h1 hj) (ltW_irrefl _)
  · exact h1
  · exact absurd (e ▸ v j i h1 hi) (ltW_irrefl _)

/-- The seconds of the pairs are the reference's first rests, if the words are different. -/
theorem pairs_first {ws : List (List UInt8)} (hd : ∀ i j, i < ws.length → j < ws.length → ws.getD i [] = ws.getD j [] → i = j) (l : List (List UInt8)) : (∀ p ∈ pairs ws, p.2 ∈ l) ↔ ∀ u ∈ firstS ws, u ∈ l := by
  have get : ∀ i, i < ws.length → ∀ (h : i < ws.length), ws.getD i [] = ws[i] := fun i hi h => by rw [List.getD_eq_getElem?_getD, List.getElem?_eq_getElem h, Option.getD_some]
  constructor
  · intro h u hu
    unfold firstS firstN restsOf at hu
    obtain ⟨i, hi, hu⟩ := List.mem_flatMap.1 hu
    obtain ⟨k, hk, hu⟩ := List.mem_flatMap.1 hu
    have hi := List.mem_range.1 hi
    have hk := List.mem_range.1 hk
    unfold restAt at hu
    split at hu
    · rename_i hc
      simp only [List.mem_singleton] at hu; subst hu
      refine h (ws.getD i [], _) ?_
      unfold pairs pairsN pairsK
      refine List.mem_flatMap.2 ⟨k, List.mem_range.2 hk, List.mem_flatMap.2 ⟨ws.getD i [], ?_, ?_⟩⟩
      · rw [List.take_length, get i hi hi]; exact List.getElem_mem hi
      · unfold pairAt
        have hne : List.drop (ws.getD k []).length (ws.getD i []) ≠ [] := fun e => by
          refine hc.1 (hd i k hi hk ?_)
          have h1 := List.isPrefixOf_iff_prefix.1 hc.2
          obtain ⟨t, ht⟩ := h1
          have : t = [] := by rw [← ht] at e; simpa using e
          rw [this, List.append_nil] at ht; exact ht.symm
        rw [if_pos ⟨hc.2, hne⟩]
        exact List.mem_singleton.2 rfl
    · cases hu
  · intro h p hp
    unfold pairs pairsN pairsK at hp
    obtain ⟨k, hk, hp⟩ := List.mem_flatMap.1 hp
    obtain ⟨y, hy, hp⟩ := List.mem_flatMap.1 hp
    have hk := List.mem_range.1 hk
    rw [List.take_length] at hy
    obtain ⟨i, hi, rfl⟩ := List.getElem_of_mem hy
    unfold pairAt at hp
    split at hp
    · rename_i hc
      simp only [List.mem_singleton] at hp; subst hp
      refine h _ ?_
      unfold firstS firstN restsOf
      refine List.mem_flatMap.2 ⟨i, List.mem_range.2 hi, List.mem_flatMap.2 ⟨k, List.mem_range.2 hk, ?_⟩⟩
      unfold restAt
      have hne : i ≠ k := fun e => hc.2 (by subst e; rw [get i hi hi]; simp)
      rw [get i hi hi, if_pos ⟨hne, hc.1⟩]
      exact List.mem_singleton.2 rfl
    · cases hp
theorem nexts_next {ws : List (List UInt8)} (r : List UInt8) (l : List (List UInt8)) : (∀ p ∈ nextsP ws r, p.1 ∈ l) ↔ ∀ u ∈ nextS ws r, u ∈ l := by
  have e : nextS ws r = (nextsP ws r).map (·.1) := by
    unfold nextS nextsP
    rw [List.map_flatMap]
    congr 1; funext x
    unfold nextAt nextP
    split
    · rfl
    · split <;> rfl
  rw [e]
  simp only [List.mem_map]
  exact ⟨fun h u ⟨p, hp, e⟩ => e ▸ h p hp, fun h p hp => h _ ⟨p, hp, rfl⟩⟩

theorem t23 (q : Int) (ws l : List (List UInt8)) (hl : l.length ≤ 1000) : PFn Try.prog 23 [codeV q ws, .sl (l.map .str)] [.int .i64 (proofCheck q ws l)] := by
  refine PFn.of_body hΓ Try.func23 (by kernel_rfl) rfl (AWp.of_awpD [] hΓ hmix (by kernel_rfl) ?_)
  simp +contextual -implicitDefEqProofs only [codeV, Try.ntmps23, Try.results23, Nat.reduceAdd, Nat.reduceSub, go_sem]
  refine callK_fn (t45 q ws) (.still rfl) ?_
  by_cases h : codeCheck q ws = 0
  rotate_left
  · simp -implicitDefEqProofs only [h, go_sem]
    unfold proofCheck; rw [if_pos h]
  have hw : ws.length ≤ 64 := by
    unfold codeCheck at h
    split at h
    · omega
    · split at h
      · omega
      · split at h
        · omega
        · omega
  rw [h]
  simp -implicitDefEqProofs only [go_sem]
  have h1' : ¬ 65536 < l.length := by omega
  have h1 : ¬ 65536 < (l.length : Int) := by omega
  refine ⟨fun h => absurd h h1, fun _ => ?_⟩
  refine AWp.loopI (fun k : Nat => ⟨mkF 55 [(1, .p (.sl (l.map .str))), (2, .ptr 0 0), (4, .ptr 1 0), (5, .ptr 3 0), (21, .p (.sl (l.map .str))), (22, .p (.int .i64 l.length)), (23, .p (.int .i64 k))],
      [codeB q ws, .box [.p (.int .i64 0)], .mp (setM (l.take k)), .box [.map 2]]⟩)
    (fun k => k ≤ l.length) (fun k => l.length - k) 0 (by simp [go_sem, codeB, setM, keysOf]) (by simp) ?_
  rintro k hk
  refine AWp.of_awpD [] hΓ hmix (by kernel_rfl) ?_
  simp +contextual -implicitDefEqProofs only [getD_map_lt, ↓reduceIte, codeB, setM_snoc, setM_get, go_sem]
  refine ⟨fun hlt => ⟨by simp only [InR]; omega, k + 1, ⟨by simp, by rw [List.take_succ_eq_append_getElem hlt]⟩, hlt, by omega⟩, fun hge => ?_⟩
  have hkl : k = l.length := by omega
  subst hkl
  rw [List.take_length]
  refine ⟨fun he => (proofCheck_23 h h1' (fun e => e.1 he)).symm, fun hne => ?_⟩
  refine callK_ac (c52 q ws) (by simp) ?_
  rintro v h' ⟨rfl, rfl⟩
  simp +contextual -implicitDefEqProofs only [killAll, List.foldl, codeB, go_sem]
  refine range86 rfl q ws (by omega) (fun p => p.2 ∈ l) (c := 4) (HD := [codeB q ws, .box [.p (.int .i64 23)], .mp (setM l), .box [.map 2], codeB q ws]) rfl rfl rfl ?_ ?_ ?_
  · intro p hp
    refine YC.of_body (Γ := Γ) rfl rfl (by simp) ?_
    intro r
    refine AWp.of_awpD [] hΓ hmix (by kernel_rfl) ?_
    simp +contextual -implicitDefEqProofs only [setP, List.cons_append, List.nil_append, go_sem]
    unfold BeginE
    refine ⟨rfl, ?_⟩
    simp +contextual -implicitDefEqProofs only [List.length_cons, List.length_nil, List.cons_append, List.nil_append, go_sem]
    refine AWp.of_awpD [] hΓ hmix (by kernel_rfl) ?_
    simp +contextual -implicitDefEqProofs only [setM_get, go_sem]
    exact ⟨fun hm => ⟨6, by simp, .inl rfl, .inl ⟨rfl, rfl⟩⟩, fun hm => ⟨6, by simp, .inl rfl, .inr ⟨rfl, rfl⟩⟩⟩
  · intro hall
    simp +contextual -implicitDefEqProofs only [List.cons_append, List.nil_append, codeB, go_sem]
    refine ⟨⟨_, _, rfl, rfl⟩, ?_⟩
    have hes : ∀ i, i < (setM l).length → ∃ hi : i < (keysOf l).length, ((setM l).getD i default).1 = (keysOf l)[i] ∧ (keysOf l)[i] ∈ l := fun i hi => by
      have hi' : i < (keysOf l).length := by simpa [setM] using hi
      exact ⟨hi', by unfold setM; rw [List.getD_eq_getElem?_getD, List.getElem?_map, List.getElem?_eq_getElem hi']; rfl, (mem_keysOf l _).1 (List.getElem_mem hi')⟩
    refine AWp.loopI (fun p : List Nat × Nat => ⟨mkF 55 [(1, .p (.sl (l.map .str))), (2, .ptr 0 0), (4, .ptr 1 0), (5, .ptr 3 0), (41, .ptr 6 0)],
        codeB q ws :: .box [.p (.int .i64 0)] :: .mp (setM l) :: .box [.map 2] :: .dead :: .dead :: .it 2 (setM l).length p.1 (setM l).length :: List.replicate p.2 .dead⟩)
      (fun p => p.1.Nodup ∧ (∀ i ∈ p.1, i < (setM l).length) ∧ ∀ i ∈ p.1, ∀ u ∈ nextS ws ((setM l).getD i default).1, u ∈ l) (fun p => (setM l).length - p.1.length) ([], 0) (by simp [go_sem, codeB]) ⟨List.nodup_nil, by simp, by simp⟩ ?_
    rintro ⟨seen, m⟩ ⟨hnd, hlt, hok⟩
    simp only at hnd hlt hok
    refine AWp.of_awpD [] hΓ hmix (by kernel_rfl) ?_
    simp +contextual -implicitDefEqProofs only [nxtK, getD_map_lt, ↓reduceIte, codeB, go_sem]
    refine ⟨fun hall2 => ?_, fun i hi hni => ?_⟩
    · refine (proofCheck_0 h h1' hne ?_).symm
      unfold needN
      rw [List.take_length]
      intro u hu
      rcases List.mem_append.1 hu with hu | hu
      · exact (pairs_first (distinct_of h) l).1 hall u hu
      · obtain ⟨r, hr, hu⟩ := List.mem_flatMap.1 hu
        obtain ⟨i, hi, rfl⟩ := List.getElem_of_mem ((mem_keysOf l r).2 hr)
        have hi2 : i < (setM l).length := by simpa [setM] using hi
        obtain ⟨hi', e1, _⟩ := hes i hi2
        exact hok i (hall2 i hi2) u (by rw [e1]; exact hu)
    · obtain ⟨hi', e1, hmem⟩ := hes i hi
      generalize hT : List.replicate m AObj.dead = T
      simp +contextual -implicitDefEqProofs only [entK, List.getLast?_concat, hi, e1, ↓reduceIte, codeB, go_sem]
      refine callK_ac (c53 q ws (keysOf l)[i]) (by simp) ?_
      rintro v h' ⟨rfl, rfl⟩
      simp +contextual -implicitDefEqProofs only [killAll, List.foldl, codeB, List.cons_append, List.nil_append, go_sem]
      refine range87 rfl q ws (keysOf l)[i] (by omega) (fun p => p.1 ∈ l) (HD := .box [.p (.int .i64 q), .p (.sl (ws.map .str))] :: .box [.p (.int .i64 23)] :: .mp (setM l) :: .box [.map 2] :: .dead :: .dead :: .it 2 (setM l).length (seen ++ [i]) (setM l).length ::
        (T ++ [.box [.p (.int .i64 q), .p (.sl (ws.map .str))], .box [.p (.str (keysOf l)[i])]])) rfl (by simp [codeB]) (by simp) (by simp) ?_ ?_ ?_
      · intro p hp
        obtain ⟨HD, hHD⟩ : ∃ HD : List AObj, HD = .box [.p (.int .i64 q), .p (.sl (ws.map .str))] :: .box [.p (.int .i64 23)] :: .mp (setM l) :: .box [.map 2] :: .dead :: .dead :: .it 2 (setM l).length (seen ++ [i]) (setM l).length ::
          (T ++ [.box [.p (.int .i64 q), .p (.sl (ws.map .str))], .box [.p (.str (keysOf l)[i])]]) := ⟨_, rfl⟩
        obtain ⟨H, hH⟩ : ∃ H : List AObj, H = .box [.p (.int .i64 q), .p (.sl (ws.map .str))] :: .box [.p (.int .i64 0)] :: .mp (setM l) :: .box [.map 2] :: .dead :: .dead :: .it 2 (setM l).length (seen ++ [i]) (setM l).length ::
          (T ++ [.box [.p (.int .i64 q), .p (.sl (ws.map .str))], .box [.p (.str (keysOf l)[i])]]) := ⟨_, rfl⟩
        rw [← hHD, ← hH]
        have f1 : ∀ x, (H ++ [x])[1]? = some (.box [.p (.int .i64 0)]) := fun x => by rw [hH]; rfl
        have f2 : ∀ x, (H ++ [x])[2]? = some (.mp (setM l)) := fun x => by rw [hH]; rfl
        have f3 : ∀ x, (H ++ [x])[3]? = some (.box [.map 2]) := fun x => by rw [hH]; rfl
        have fs : ∀ x, (H ++ [x]).set 1 (.box [.p (.int .i64 23)]) = HD ++ [x] := fun x => by rw [hH, hHD]; rfl
        have fl : ∀ x : AObj, (H ++ [x])[H.length]? = some x := fun x => by simp
        have ft : ∀ x y : AObj, (H ++ [x]).set H.length y = H ++ [y] := fun x y => by simp
        have fL : HD.length = H.length := by rw [hH, hHD]; rfl
        have gl : ∀ x : AObj, (HD ++ [x])[H.length]? = some x := fun x => by rw [← fL]; simp
        have gt : ∀ x y : AObj, (HD ++ [x]).set H.length y = HD ++ [y] := fun x y => by rw [← fL]; simp
        clear hH hHD
        refine YC.of_body (Γ := Γ) (fl _) rfl (by simp) ?_
        intro r
        refine AWp.of_awpD [] hΓ hmix (by kernel_rfl) ?_
        simp +contextual -implicitDefEqProofs only [setP, go_sem]
        unfold BeginE
        refine ⟨rfl, ?_⟩
        simp only [fl, ft]
        refine AWp.of_awpD [] hΓ hmix (by kernel_rfl) ?_
        simp +contextual -implicitDefEqProofs only [f1, f2, f3, fs, setM_get, go_sem]
        refine ⟨fun hm => ?_, fun hm => ?_⟩
        · unfold RoundE
          simp only [fl, ft]
          exact ⟨_, by simp, .inl rfl, .inl ⟨trivial, List.take_length⟩⟩
        · unfold RoundE
          simp only [gl, gt]
          exact ⟨_, by simp [fL], .inl rfl, .inr ⟨trivial, List.take_length⟩⟩
      · intro hall2
        simp +contextual -implicitDefEqProofs only [List.cons_append, List.append_assoc, List.nil_append, go_sem]
        refine ⟨(seen ++ [i], m + 3), ⟨by simp, ?_⟩, ⟨?_, ?_, ?_⟩, ?_⟩
        · have e3 : List.replicate (m + 3) AObj.dead = List.replicate (T ++ [AObj.box [.p (.int .i64 q), .p (.sl (ws.map .str))], .box [.p (.str (keysOf l)[i])], .dead]).length .dead := by rw [← hT]; simp
          simp only [e3]
          exact weakH_dead _
        · exact List.nodup_append.2 ⟨hnd, by simp, fun a ha b hb e => by simp only [List.mem_singleton] at hb; subst hb; subst e; exact hni ha⟩
        · intro j hj
          rcases List.mem_append.1 hj with hj | hj
          · exact hlt j hj
          · simp only [List.mem_singleton] at hj; subst hj; exact hi
        · intro j hj u hu
          rcases List.mem_append.1 hj with hj | hj
          · exact hok j hj u hu
          · simp only [List.mem_singleton] at hj; subst hj
            rw [e1] at hu
            exact (nexts_next _ l).1 hall2 u hu
        · have : (seen ++ [i]).length ≤ (setM l).length := by
            have hsub : seen ++ [i] ⊆ List.range (setM l).length := fun j hj => by
              rcases List.mem_append.1 hj with hj | hj
              · exact List.mem_range.2 (hlt j hj)
              · simp only [List.mem_singleton] at hj; subst hj; exact List.mem_range.2 hi
            have hnd2 : (seen ++ [i]).Nodup := List.nodup_append.2 ⟨hnd, by simp, fun a ha b hb e => by simp only [List.mem_singleton] at hb; subst hb; subst e; exact hni ha⟩
            have := nodup_sub_len hnd2 hsub
            simpa using this
          simp only [List.length_append, List.length_singleton] at this ⊢
          omega
      · rintro ⟨p, hp, hbad⟩
        simp +contextual -implicitDefEqProofs only [List.cons_append, List.append_assoc, List.nil_append, go_sem]
        refine (proofCheck_23 h h1' (fun e => hbad ?_)).symm
        refine (nexts_next _ l).2 (fun u hu => e.2 u ?_) p hp
        unfold needN
        rw [List.take_length]
        exact List.mem_append.2 (.inr (List.mem_flatMap.2 ⟨_, hmem, hu⟩))
  · rintro ⟨p, hp, hbad⟩
    simp +contextual -implicitDefEqProofs only [List.cons_append, List.nil_append, codeB, go_sem]
    refine (proofCheck_23 h h1' (fun e => hbad ?_)).symm
    refine (pairs_first (distinct_of h) l).2 (fun u hu => e.2 u ?_) p hp
    unfold needN
    exact List.mem_append.2 (.inl hu)
end Go.Proofs.Ytpancbdaigaheaa
end

section
namespace Go.Proofs.Ytpancbdaigaheaa
open Go Go.AM
set_option maxRecDepth 100000
set_option linter.unusedSimpArgs false

/-- How residuals' memory lies when these were added. -/
def heapR (q : Int) (ws done : List (List UInt8)) (rk : RK) (T : List AObj) : List AObj :=
  codeB q ws :: .mp (setM done) :: .box [.map 1] :: .box [.own 6 (keysOf done).length] :: .box [.fn 82 [.ptr 2 0, .ptr 3 0]] :: codeB q ws :: .row 9 1 ((keysOf done).map .str) rk :: T

theorem keysOf_old {l : List (List UInt8)} {k : List UInt8} (h : k ∈ l) : keysOf (l ++ [k]) = keysOf l := by
  rw [keysOf_snoc]; unfold addK; rw [if_pos ((mem_keysOf l k).2 h)]
theorem keysOf_new {l : List (List UInt8)} {k : List UInt8} (h : k ∉ l) : keysOf (l ++ [k]) = keysOf l ++ [k] := by
  rw [keysOf_snoc]; unfold addK; rw [if_neg (fun e => h ((mem_keysOf l k).1 e))]

theorem c82 (q : Int) (ws done : List (List UInt8)) (rk : RK) (T : List AObj) (r : List UInt8) (hrk : rk ≠ .raw ∧ (done ≠ [] → rk = .own)) (hT : T.map (AObj.kill 6) = T) (hlen : (keysOf done).length ≤ 1000000) :
    AC Try.prog 82 [.p (.str r), .ptr 2 0, .ptr 3 0] (heapR q ws done rk T) [6] (fun v h' => v = .tup [] ∧ ∃ rk', (rk' ≠ .raw ∧ (done ++ [r] ≠ [] → rk' = .own)) ∧ h' = heapR q ws (done ++ [r]) rk' T) := by
  refine AC.of_bodyE hΓ Try.func82 (by kernel_rfl) rfl (AWp.mono (Q := fun e st => AM.Ends e ∧ ∃ rk', (rk' ≠ .raw ∧ (done ++ [r] ≠ [] → rk' = .own)) ∧ st.h = heapR q ws (done ++ [r]) rk' T) ?_ ?_)
  rotate_left
  · rintro e st ⟨he, rk', h1, h2⟩
    refine ⟨he, st, Less.refl st, ?_⟩
    have h3 : (heapR q ws done rk T).length = st.h.length := by rw [h2]; simp [heapR]
    refine ⟨st.h.length, by omega, .inl rfl, ?_⟩
    rw [List.take_length]
    exact ⟨rfl, rk', h1, h2⟩
  refine AWp.of_awpD [] hΓ hmix (by kernel_rfl) ?_
  unfold heapR
  simp -implicitDefEqProofs only [Try.ntmps82, Nat.reduceAdd, Nat.reduceSub, codeB, setM_get, go_sem]
  by_cases hm : r ∈ done
  · simp -implicitDefEqProofs only [hm, go_sem]
    refine ⟨rk, ⟨hrk.1, fun _ => hrk.2 (fun e => by rw [e] at hm; cases hm)⟩, ?_⟩
    have e1 : setM (done ++ [r]) = setM done := by unfold setM; rw [keysOf_old hm]
    rw [e1, keysOf_old hm]
    simp
  · simp -implicitDefEqProofs only [hm, setM_snoc, hT, go_sem]
    rw [keysOf_new hm]
    exact ⟨⟨by simp [sizeOK, PV.cells], by omega⟩, ⟨by simp [sizeOK, PV.cells], by simp [oneOK, PV.cells, PV.isAgg]⟩, ⟨hrk.1, .inr (by simp), by omega, by omega⟩, RK.own, ⟨by simp, fun _ => rfl⟩, by simp⟩
end Go.Proofs.Ytpancbdaigaheaa
end

section
namespace Go.Proofs.Ytpancbdaigaheaa
open Go Go.AM
set_option maxRecDepth 100000
set_option linter.unusedSimpArgs false

theorem cmpK_eq (a b : List UInt8) : cmpK a b = cmpW a b := by
  unfold cmpK cmpW
  by_cases h1 : a.length < b.length
  · rw [if_pos h1, if_pos (show (a.length : Int) < b.length by omega)]; rfl
  · by_cases h2 : b.length < a.length
    · rw [if_neg h1, if_pos h2, if_neg (show ¬ (a.length : Int) < b.length by omega), if_pos (show (b.length : Int) < a.length by omega)]; rfl
    · rw [if_neg h1, if_neg h2, if_neg (show ¬ (a.length : Int) < b.length by omega), if_neg (show ¬ (b.length : Int) < a.length by omega), if_pos rfl, cmpB_eq]

theorem bLt_total : ∀ {a b : List UInt8}, bLt a b = false → bLt b a = false → a = b
  | [], [], _, _ => rfl
  | [], _ :: _, h, _ => by cases h
  | _ :: _, [], _, h => by cases h
  | x :: a, y :: b, h1, h2 => by
    have n1 := mt (bLt_cons x y a b).2 (by rw [h1]; simp)
    have n2 := mt (bLt_cons y x b a).2 (by rw [h2]; simp)
    simp only [not_or, not_and, Bool.not_eq_true] at n1 n2
    have e : x.toNat = y.toNat := by omega
    rw [UInt8.toNat_inj.1 e, bLt_total (n1.2 e) (n2.2 e.symm)]
theorem ltW_total {a b : List UInt8} (h1 : ¬ ltW a b) (h2 : ¬ ltW b a) : a = b := by
  unfold ltW at h1 h2
  simp only [not_or, not_and, Bool.not_eq_true] at h1 h2
  have e : a.length = b.length := by omega
  exact bLt_total (h1.2 e) (h2.2 e.symm)

theorem ltOf_iff (a b : List UInt8) : ltOf cmpK a b = true ↔ ltW a b := by
  unfold ltOf
  rw [decide_eq_true_eq, cmpK_eq]; exact ltW_iff a b
theorem ltOf_false (a b : List UInt8) : ltOf cmpK a b = false ↔ ¬ ltW a b := by
  rw [← ltOf_iff]; simp

theorem swoW : Sort.SWO (ltOf cmpK) where
  irrefl x := (ltOf_false x x).2 (ltW_irrefl x)
  trans x y z h1 h2 := (ltOf_iff x z).2 (ltW_trans ((ltOf_iff x y).1 h1) ((ltOf_iff y z).1 h2))
  ntrans x y z h1 h2 := by
    rw [ltOf_false] at *
    intro h
    by_cases hyz : ltW z y
    · exact h1 (ltW_trans h hyz)
    · have := ltW_total h2 hyz
      subst this; exact h1 h

/-- A word as a value. -/
def encW (x : List UInt8) : Value := .string ⟨x.toArray⟩
def sortW (l : List (List UInt8)) : List (List UInt8) := l.mergeSort fun x y => !(ltOf cmpK) y x

theorem sort_calls (d : List (List UInt8)) (blk off cap : Nat) (w : World) (hH : Sort.Holds encW w blk off d.toArray) (hblk : blk < w.heap.size) (hsz : d.length < 4611686018427387904) :
    Calls Try.prog 83 #[.slice (some ⟨blk, off, none⟩) d.length cap, .func (.func 84) #[] #[]] w fun e w' => e = .returned (.tuple #[]) ∧ ∃ n os, w' = sortWorld encW w blk off n (sortW d).toArray os := by
  have eg : ∀ args w, (callFunc 84 args).run Try.prog w = .ok (.enter 84 args) w := entersF_of Try.func84 (by kernel_rfl) rfl
  have hcmp : CmpLays1 Try.prog 84 #[] encW cmpK blk off d.toArray.size w := fun m os dk _ x y => k84 ⟨x.toArray⟩ ⟨y.toArray⟩ _
  have h := Any.slices_SortFunc_total Try.sortS encW (fun _ => rfl) cmpK swoW 84 #[] blk off cap d.toArray w eg hcmp hH hblk (by simpa using hsz) (fun x y h1 h2 => ltW_total ((ltOf_false x y).1 h1) ((ltOf_false y x).1 h2))
  exact h
end Go.Proofs.Ytpancbdaigaheaa
end

section
namespace Go.Proofs.Ytpancbdaigaheaa
open Go Go.AM Go.RowKit
set_option maxRecDepth 100000
set_option linter.unusedSimpArgs false

theorem flats_str (l : List (List UInt8)) : flats (l.map .str) = l.map .str := by
  induction l with
  | nil => rfl
  | cons x l ih =>
    have e : flats ((x :: l).map PV.str) = PV.str x :: flats (l.map .str) := rfl
    rw [e, ih]; rfl
theorem sortW_length (l : List (List UInt8)) : (sortW l).length = l.length := by unfold sortW; simp
theorem encW_of {I : Nat → Prop} {w : World} {x : List UInt8} {v : Value} (h : PR I w (.str x) v) : v = encW x := by
  cases h with | str s => rfl
theorem pr_encW {I : Nat → Prop} {w : World} (x : List UInt8) : PR I w (.str x) (encW x) := .mkStr (by simp)

/-- What a sort of a row of words by some function does to the world. -/
def SortsBy (g : FuncId) : Prop := ∀ (d : List (List UInt8)) (blk off cap : Nat) (w : World), Sort.Holds encW w blk off d.toArray → blk < w.heap.size → d.length < 4611686018427387904 →
    Calls Try.prog 83 #[.slice (some ⟨blk, off, none⟩) d.length cap, .func (.func g) #[] #[]] w fun e w' => e = .returned (.tuple #[]) ∧ ∃ n os, w' = sortWorld encW w blk off n (sortW d).toArray os

theorem c83_of {g : FuncId} (hs : SortsBy g) {h : List AObj} {b : Nat} (l : List (List UInt8)) (hb : h[b]? = some (.row 9 1 (l.map .str) .own)) (hsz : l.length ≤ 1000000) :
    AC Try.prog 83 [.own b l.length, .fn g []] h [] (fun v h' => v = .tup [] ∧ h' = h.set b (.row 9 1 ((sortW l).map .str) .own)) := by
  refine ⟨entersF_of Try.func83 (by kernel_rfl) rfl, fun X I μ ob w cargs R hlen hargs _ => ?_⟩
  obtain ⟨a0, f0, rfl⟩ : ∃ a f, cargs = [a, f] := by
    match cargs, hlen with
    | [a, f], _ => exact ⟨a, f, rfl⟩
  have g0 := hargs 0 (by simp)
  have g1 := hargs 1 (by simp)
  simp only [List.getD_cons_zero, List.getD_cons_succ] at g0 g1
  obtain ⟨a, c, rfl, hbn, hbm⟩ := g0.own_inv
  obtain ⟨cs, rfl, hcl, _⟩ := g1.fn_inv
  have hcs : cs = [] := by simpa using hcl.symm
  subst hcs
  obtain ⟨hall, hrow⟩ := R.objs _ _ hb
  rcases hrow with ⟨g, hg, cap, cur, fr, vs, e1, e2, e3, e4, e5, e6, e7, e8, e9, e10⟩ | ⟨hk, _⟩
  rotate_left
  · cases hk
  rw [hbm] at e1
  simp only [List.length_map] at e1 e5 e7 e8 e9 e10
  injection e1 with e1a _ e1c
  subst e1a e1c
  have hfr := e3 rfl
  subst hfr
  have hgl := (R.own b g hg).2.2
  have cell : ∀ j (hj : j < l.length), cur[j]? = some (encW l[j]) := fun j hj => by
    have h1 := e10 j (by omega)
    rw [flats_str, getD_map_lt _ _ _ _ hj] at h1
    have h2 := encW_of h1
    have h3 : cur.toList[j]? = some (vs.getD j undef) := by
      have : vs[j]? = some (vs.getD j undef) := by rw [List.getD_eq_getElem?_getD, List.getElem?_eq_getElem (by omega)]; rfl
      rw [← e8, List.getElem?_take_of_lt (by omega)] at this
      exact this.trans (by rw [e8])
    rw [Array.getElem?_toList, h2] at h3
    exact h3
  have hH : Sort.Holds encW w g 0 l.toArray := fun j hj => by
    have hj' : j < l.length := by simpa using hj
    refine ⟨?_, ?_⟩
    · unfold World.cell?
      simp only [Nat.zero_add, e2]
      rw [cell j hj', getElem!_pos l.toArray j hj]
      simp
    · unfold World.frozen?
      simp only [e2]
      simp
  have hc := hs l g 0 c w hH hgl (by omega)
  refine Calls.mono (P := Try.prog) hc ?_
  rintro e w' ⟨rfl, n, os, rfl⟩
  have hsl : (sortW l).toArray.size = l.length := by simp [sortW_length]
  -- the world that is left
  have hnew : (sortWorld encW w g 0 n (sortW l).toArray os).heap[g]? = some (.cells (Sort.putCells encW 0 (sortW l).toArray cur) 9 (0, 0)) := by
    unfold sortWorld
    rw [Sort.heap_grow_old _ _ (by simp [Sort.ahead]; exact hgl)]
    show (w.heap.modify g _)[g]? = _
    rw [Array.getElem?_modify, if_pos rfl, e2]; rfl
  have hold : ∀ k, k < w.heap.size → k ≠ g → (sortWorld encW w g 0 n (sortW l).toArray os).heap[k]? = w.heap[k]? := fun k hk hne => by
    unfold sortWorld
    rw [Sort.heap_grow_old _ _ (by simp [Sort.ahead]; exact hk)]
    show (w.heap.modify g _)[k]? = _
    rw [Array.getElem?_modify, if_neg (fun e => hne e.symm)]
  have hgrow : w.grownBy (sortWorld encW w g 0 n (sortW l).toArray os) (some g) := ⟨rfl, rfl, rfl, by simp [sortWorld, Sort.ahead], fun k hk hk2 => hold k hk (fun e => hk2 (by rw [e]))⟩
  have hput : ∀ j, j < l.length → (Sort.putCells encW 0 (sortW l).toArray cur)[j]? = some (encW ((sortW l).getD j [])) := fun j hj => by
    unfold Sort.putCells
    rw [Array.getElem?_mapIdx, cell j hj]
    simp only [Option.map_some]
    rw [if_pos ⟨Nat.zero_le _, by rw [hsl]; omega⟩, Nat.sub_zero, getElem!_pos (sortW l).toArray j (by rw [hsl]; exact hj), List.getD_eq_getElem?_getD, List.getElem?_eq_getElem (by rw [sortW_length]; exact hj)]
    simp
  have hps : (Sort.putCells encW 0 (sortW l).toArray cur).size = cur.size := by unfold Sort.putCells; rw [Array.size_mapIdx]
  have hpl : ((Sort.putCells encW 0 (sortW l).toArray cur).toList.take l.length).length = l.length := by
    have h1 : (Sort.putCells encW 0 (sortW l).toArray cur).toList.length = cur.size := by simpa using hps
    rw [List.length_take, h1]; omega
  have R2 := R.write (b0 := b) (g0 := g) (o := .row 9 1 ((sortW l).map .str) .own) hbn hg hgrow ⟨fun x hx => by
      obtain ⟨u, _, rfl⟩ := List.mem_map.1 hx; rfl, .inl ⟨g, hg, c, Sort.putCells encW 0 (sortW l).toArray cur, (0, 0), (Sort.putCells encW 0 (sortW l).toArray cur).toList.take l.length, by rw [hbm, List.length_map, sortW_length], hnew, fun _ => rfl, by simp,
        by rw [List.length_map, sortW_length]; exact e5, e6, by rw [hps]; exact e7, by rw [List.length_map, sortW_length, Nat.mul_one], by
          rw [List.length_map, sortW_length, hpl, Nat.mul_one], fun j hj => ?_⟩⟩
  · exact ⟨_, .tup [], _, I, μ, ob, rfl, R2, .tup [] [] rfl (by simp), fun _ h => h, fun _ _ _ => rfl, by simp, fun g hg => .inl hg, fun b g hb => .inl ⟨b, hb⟩, fun k hk hno => hold k hk (fun e => hno b (by rw [e]; exact hg)), rfl, rfl⟩
  · rw [List.length_map, sortW_length, Nat.mul_one] at hj
    rw [flats_str, getD_map_lt _ _ _ _ (by rw [sortW_length]; exact hj)]
    have : ((Sort.putCells encW 0 (sortW l).toArray cur).toList.take l.length).getD j undef = encW ((sortW l).getD j []) := by
      rw [List.getD_eq_getElem?_getD, List.getElem?_take_of_lt hj, Array.getElem?_toList, hput j hj]; rfl
    rw [this, List.getD_eq_getElem?_getD, List.getElem?_eq_getElem (by rw [sortW_length]; exact hj)]
    exact pr_encW _

theorem c83 {h : List AObj} {b : Nat} (l : List (List UInt8)) (hb : h[b]? = some (.row 9 1 (l.map .str) .own)) (hsz : l.length ≤ 1000000) :
    AC Try.prog 83 [.own b l.length, .fn 84 []] h [] (fun v h' => v = .tup [] ∧ h' = h.set b (.row 9 1 ((sortW l).map .str) .own)) := c83_of sort_calls l hb hsz

/-- At no element: nothing turns, whosever the row is. -/
theorem c83n {g : FuncId} {h : List AObj} {b : Nat} : AC Try.prog 83 [.own b 0, .fn g []] h [] (fun v h' => v = .tup [] ∧ h' = h) := by
  refine ⟨entersF_of Try.func83 (by kernel_rfl) rfl, fun X I μ ob w cargs R hlen hargs _ => ?_⟩
  obtain ⟨a0, f0, rfl⟩ : ∃ a f, cargs = [a, f] := by
    match cargs, hlen with
    | [a, f], _ => exact ⟨a, f, rfl⟩
  have g0 := hargs 0 (by simp)
  simp only [List.getD_cons_zero] at g0
  obtain ⟨a, c, rfl, hbn, hbm⟩ := g0.own_inv
  have hc : Calls Try.prog 83 #[.slice a 0 c, f0] w fun e w' => e = .returned (.tuple #[]) ∧ w' = w := AnyF.slices_SortFunc_none (ρ := Try.sortS_ren) { Try.sortS with } a c f0 w
  refine Calls.mono (P := Try.prog) hc ?_
  rintro e w' ⟨rfl, rfl⟩
  exact ⟨_, .tup [], _, I, μ, ob, rfl, R, .tup [] [] rfl (by simp), fun _ h => h, fun _ _ _ => rfl, Nat.le_refl _, fun g hg => .inl hg, fun b g hb => .inl ⟨b, hb⟩, fun k hk hno => rfl, rfl, rfl⟩
end Go.Proofs.Ytpancbdaigaheaa
end

