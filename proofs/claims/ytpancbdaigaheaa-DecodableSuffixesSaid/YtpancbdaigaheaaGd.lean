/-
  Prefixes, equality of lists, what a list of indices spells; CheckAmbiguous of the program and of the reference.
-/
import Derived.Test.YtpancbdaigaheaaGc
namespace Go.Proofs.Ytpancbdaigaheaa
open Go Go.AM
set_option maxRecDepth 100000
set_option linter.unusedSimpArgs false

theorem t85 (w x : List UInt8) : PFn Try.prog 85 [.str w, .str x] [.bool (x.isPrefixOf w)] := by
  refine PFn.of_body hΓ Try.func85 (by kernel_rfl) rfl (AWp.of_awpD [] hΓ hmix (by kernel_rfl) ?_)
  simp +contextual -implicitDefEqProofs only [Try.ntmps85, Try.results85, Nat.reduceAdd, Nat.reduceSub, go_sem]
  refine ⟨fun h => ?_, fun h => ?_⟩
  · rw [Bool.eq_iff_iff, List.isPrefixOf_iff_prefix, List.prefix_iff_eq_take, decide_eq_true_eq]; exact eq_comm
  · rw [Bool.eq_iff_iff, List.isPrefixOf_iff_prefix]
    exact ⟨fun h => by simp at h, fun h' => absurd h'.length_le (by omega)⟩

theorem t69 (w x : List UInt8) : PFn Try.prog 69 [.str w, .str x] [.bool (x.isPrefixOf w)] := by
  refine PFn.of_body hΓ Try.func69 (by kernel_rfl) rfl (AWp.of_awpD [] hΓ hmix (by kernel_rfl) ?_)
  simp +contextual -implicitDefEqProofs only [Try.ntmps69, Try.results69, Nat.reduceAdd, Nat.reduceSub, go_sem]
  refine callK_fn (t85 w x) (.pures rfl) ?_
  simp +contextual -implicitDefEqProofs only [go_sem]

/-- What is left behind a beginning. -/
def cutW (w x : List UInt8) : List UInt8 := if x.isPrefixOf w then w.drop x.length else w
theorem t51 (w x : List UInt8) : PFn Try.prog 51 [.str w, .str x] [.str (cutW w x), .bool (x.isPrefixOf w)] := by
  refine PFn.of_body hΓ Try.func51 (by kernel_rfl) rfl (AWp.of_awpD [] hΓ hmix (by kernel_rfl) ?_)
  simp +contextual -implicitDefEqProofs only [Try.ntmps51, Try.results51, Nat.reduceAdd, Nat.reduceSub, go_sem]
  refine callK_fn (t85 w x) (.pures rfl) ?_
  cases hp : x.isPrefixOf w
  · simp -implicitDefEqProofs only [go_sem]
    unfold cutW; rw [if_neg (by rw [hp]; simp)]
  · simp -implicitDefEqProofs only [go_sem]
    exact ⟨(List.isPrefixOf_iff_prefix.1 hp).length_le, by unfold cutW; rw [if_pos hp]⟩

theorem t20 (w x : List UInt8) : PFn Try.prog 20 [.str w, .str x] [.str (cutW w x), .bool (x.isPrefixOf w)] := by
  refine PFn.of_body hΓ Try.func20 (by kernel_rfl) rfl (AWp.of_awpD [] hΓ hmix (by kernel_rfl) ?_)
  simp +contextual -implicitDefEqProofs only [Try.ntmps20, Try.results20, Nat.reduceAdd, Nat.reduceSub, go_sem]
  refine callK_fn (t51 w x) (.pures rfl) ?_
  simp +contextual -implicitDefEqProofs only [go_sem]

theorem t65 (a b : List Int) (hl : a.length ≤ 9223372036854775807) : PFn Try.prog 65 [.sl (a.map (.int .i64)), .sl (b.map (.int .i64))] [.bool (decide (a = b))] := by
  refine PFn.of_body hΓ Try.func65 (by kernel_rfl) rfl (AWp.of_awpD [] hΓ hmix (by kernel_rfl) ?_)
  simp +contextual -implicitDefEqProofs only [Try.ntmps65, Try.results65, Nat.reduceAdd, Nat.reduceSub, go_sem]
  refine ⟨fun he => ?_, fun hne => (decide_eq_false fun e => hne (by rw [e])).symm⟩
  refine AWp.loopI (fun k : Nat => ⟨mkF 26 [(0, .p (.sl (a.map (.int .i64)))), (1, .p (.sl (b.map (.int .i64)))), (4, .p (.bool false)), (12, .p (.int .i64 a.length)), (13, .p (.int .i64 k))], []⟩)
    (fun k => k ≤ a.length ∧ a.take k = b.take k) (fun k => a.length - k) 0 (by simp [go_sem, he]) (by simp) ?_
  rintro k ⟨hk, heq⟩
  refine AWp.of_awpD [(6, 9)] hΓ hmix (by kernel_rfl) ?_
  simp +contextual -implicitDefEqProofs only [getD_map_lt, ↓reduceIte, ← he, go_sem]
  refine ⟨fun hlt => ⟨fun hk' => ⟨by simp only [InR]; omega, k + 1, by simp, ⟨hlt, ?_⟩, by omega⟩, fun hk' => ?_⟩, fun hge => ?_⟩
  · rw [List.take_succ_eq_append_getElem hlt, List.take_succ_eq_append_getElem (by omega), heq, hk']
  · exact (decide_eq_false fun e => hk' (by subst e; rfl)).symm
  · rw [List.take_of_length_le (by omega), List.take_of_length_le (by omega)] at heq
    exact (decide_eq_true heq).symm

/-- Whether a list of indices spells a word. -/
def spellsB (ws : List (List UInt8)) : List Int → List UInt8 → Bool
  | [], w => decide (w = [])
  | i :: l, w => if 0 ≤ i ∧ i < ws.length then (if (ws.getD i.toNat []).isPrefixOf w then spellsB ws l (w.drop (ws.getD i.toNat []).length) else false) else false

theorem t66 (q : Int) (ws : List (List UInt8)) (l : List Int) (w : List UInt8) (hl : l.length ≤ 9223372036854775807) : PFn Try.prog 66 [codeV q ws, .sl (l.map (.int .i64)), .str w] [.bool (spellsB ws l w)] := by
  refine PFn.of_body hΓ Try.func66 (by kernel_rfl) rfl (AWp.of_awpD [] hΓ hmix (by kernel_rfl) ?_)
  simp +contextual -implicitDefEqProofs only [codeV, Try.ntmps66, Try.results66, Nat.reduceAdd, Nat.reduceSub, go_sem]
  refine AWp.loopI (fun p : Nat × List UInt8 => ⟨mkF 42 [(1, .p (.sl (l.map (.int .i64)))), (2, .p (.str p.2)), (3, .ptr 0 0), (6, .p (.bool false)), (11, .p (.sl (l.map (.int .i64)))), (12, .p (.int .i64 l.length)), (13, .p (.int .i64 p.1))], [codeB q ws]⟩)
    (fun p => p.1 ≤ l.length ∧ spellsB ws l w = spellsB ws (l.drop p.1) p.2) (fun p => l.length - p.1) (0, w) (by simp [go_sem, codeB]) (by simp) ?_
  rintro ⟨k, v⟩ ⟨hk, h0⟩
  simp only at hk h0
  refine AWp.of_awpD [] hΓ hmix (by kernel_rfl) ?_
  simp +contextual -implicitDefEqProofs only [getD_map_lt, ↓reduceIte, codeB, go_sem]
  have hd : ∀ hlt : k < l.length, spellsB ws l w = if 0 ≤ l[k] ∧ l[k] < ws.length then (if (ws.getD l[k].toNat []).isPrefixOf v then spellsB ws (l.drop (k + 1)) (v.drop (ws.getD l[k].toNat []).length) else false) else false := fun hlt => by
    rw [h0, List.drop_eq_getElem_cons hlt]; rfl
  refine ⟨fun hlt => ⟨fun h => by rw [hd hlt, if_neg (by omega)], fun h1 => ⟨fun h => by rw [hd hlt, if_neg (by omega)], fun h2 => ?_⟩⟩, fun hge => ?_⟩
  rotate_left
  · rw [h0, List.drop_of_length_le (by omega)]; rfl
  have hi : l[k].toNat < ws.length := by omega
  have hw : ws.getD l[k].toNat [] = ws[l[k].toNat] := by rw [List.getD_eq_getElem?_getD, List.getElem?_eq_getElem hi, Option.getD_some]
  replace hd := hd hlt
  rw [if_pos ⟨by omega, by omega⟩, hw] at hd
  simp +contextual -implicitDefEqProofs only [getD_map_lt, hi, ↓reduceIte, codeB, go_sem]
  refine ⟨⟨by omega, by omega⟩, callK_fn (t20 v ws[l[k].toNat]) (.pures rfl) ?_⟩
  cases hp : ws[l[k].toNat].isPrefixOf v
  · simp -implicitDefEqProofs only [go_sem]
    rw [hd, if_neg (by rw [hp]; simp)]
  · simp -implicitDefEqProofs only [go_sem]
    refine ⟨by simp only [InR]; omega, (k + 1, cutW v ws[l[k].toNat]), by simp, ⟨hlt, ?_⟩, by simp only; omega⟩
    rw [hd, if_pos hp]; unfold cutW; rw [if_pos hp]

theorem t67 (q : Int) (ws : List (List UInt8)) (l : List Int) (w : List UInt8) (hl : l.length ≤ 9223372036854775807) : PFn Try.prog 67 [codeV q ws, .sl (l.map (.int .i64)), .str w] [.bool (spellsB ws l w)] := by
  refine PFn.of_body hΓ Try.func67 (by kernel_rfl) rfl (AWp.of_awpD [(4, 28), (6, 11)] hΓ hmix (by kernel_rfl) ?_)
  simp +contextual -implicitDefEqProofs only [codeV, Try.ntmps67, Try.results67, Nat.reduceAdd, Nat.reduceSub, go_sem]
  refine AWp.loopI (fun p : Nat × List UInt8 => ⟨mkF 55 [(1, .p (.sl (l.map (.int .i64)))), (2, .p (.str p.2)), (3, .ptr 0 0), (6, .p (.bool false)), (7, .p (.int .i64 p.1))], [codeB q ws]⟩)
    (fun p => p.1 ≤ l.length ∧ spellsB ws l w = spellsB ws (l.drop p.1) p.2) (fun p => l.length - p.1) (0, w) (by simp [go_sem, codeB]) (by simp) ?_
  rintro ⟨k, v⟩ ⟨hk, h0⟩
  simp only at hk h0
  refine AWp.of_awpD [(4, 28), (6, 11)] hΓ hmix (by kernel_rfl) ?_
  simp +contextual -implicitDefEqProofs only [getD_map_lt, ↓reduceIte, codeB, go_sem]
  have hd : ∀ hlt : k < l.length, spellsB ws l w = if 0 ≤ l[k] ∧ l[k] < ws.length then (if (ws.getD l[k].toNat []).isPrefixOf v then spellsB ws (l.drop (k + 1)) (v.drop (ws.getD l[k].toNat []).length) else false) else false := fun hlt => by
    rw [h0, List.drop_eq_getElem_cons hlt]; rfl
  refine ⟨fun hlt => ⟨fun h => by rw [hd hlt, if_neg (by omega)], fun h1 => ⟨fun h => by rw [hd hlt, if_neg (by omega)], fun h2 => ?_⟩⟩, fun hge => ?_⟩
  rotate_left
  · rw [h0, List.drop_of_length_le (by omega)]; rfl
  have hi : l[k].toNat < ws.length := by omega
  have hw : ws.getD l[k].toNat [] = ws[l[k].toNat] := by rw [List.getD_eq_getElem?_getD, List.getElem?_eq_getElem hi, Option.getD_some]
  replace hd := hd hlt
  rw [if_pos ⟨by omega, by omega⟩, hw] at hd
  simp +contextual -implicitDefEqProofs only [getD_map_lt, hi, ↓reduceIte, codeB, go_sem]
  refine ⟨⟨by omega, by omega⟩, callVPK_fn (t60 v ws[l[k].toNat]) (.pures rfl) ?_⟩
  cases hp : ws[l[k].toNat].isPrefixOf v
  · simp -implicitDefEqProofs only [getD_map_lt, hi, hlt, ↓reduceIte, codeB, go_sem]
    rw [hd, if_neg (by rw [hp]; simp)]
  · simp -implicitDefEqProofs only [getD_map_lt, hi, hlt, ↓reduceIte, codeB, go_sem]
    refine ⟨⟨by omega, by omega⟩, (List.isPrefixOf_iff_prefix.1 hp).length_le, by simp only [InR]; omega, (k + 1, v.drop ws[l[k].toNat].length), by simp, ⟨hlt, ?_⟩, by simp only; omega⟩
    rw [hd, if_pos hp]

/-- An ambiguity as a value. -/
def ambV (m : List UInt8) (a b : List Int) : PV := .agg [.str m, .sl (a.map (.int .i64)), .sl (b.map (.int .i64))]
def ambCheck (q : Int) (ws : List (List UInt8)) (m : List UInt8) (a b : List Int) : Int :=
  if codeCheck q ws ≠ 0 then 1 else if a = b ∨ spellsB ws a m = false ∨ spellsB ws b m = false then 23 else 0

theorem t34 (q : Int) (ws : List (List UInt8)) (m : List UInt8) (a b : List Int) (ha : a.length ≤ 9223372036854775807) (hb : b.length ≤ 9223372036854775807) :
    PFn Try.prog 34 [codeV q ws, ambV m a b] [.int .i64 (ambCheck q ws m a b)] := by
  refine PFn.of_body hΓ Try.func34 (by kernel_rfl) rfl (AWp.of_awpD [] hΓ hmix (by kernel_rfl) ?_)
  simp +contextual -implicitDefEqProofs only [codeV, ambV, Try.ntmps34, Try.results34, Nat.reduceAdd, Nat.reduceSub, go_sem]
  refine callK_fn (t45 q ws) (.still rfl) ?_
  by_cases h : codeCheck q ws = 0
  rotate_left
  · simp -implicitDefEqProofs only [h, go_sem]
    unfold ambCheck; rw [if_pos h]
  rw [h]
  simp -implicitDefEqProofs only [go_sem]
  refine callK_fn (t65 a b ha) (.still rfl) ?_
  have e : ambCheck q ws m a b = if a = b ∨ spellsB ws a m = false ∨ spellsB ws b m = false then 23 else 0 := by unfold ambCheck; rw [if_neg (by omega)]
  cases h1 : decide (a = b)
  · simp -implicitDefEqProofs only [go_sem]
    refine callK_fn (t66 q ws a m ha) (.still rfl) ?_
    cases h2 : spellsB ws a m
    · simp -implicitDefEqProofs only [go_sem]
      rw [e, if_pos (.inr (.inl h2))]
    · simp -implicitDefEqProofs only [go_sem]
      refine callK_fn (t66 q ws b m hb) (.still rfl) ?_
      cases h3 : spellsB ws b m
      · simp -implicitDefEqProofs only [go_sem]
        rw [e, if_pos (.inr (.inr h3))]
      · simp -implicitDefEqProofs only [go_sem]
        rw [e, if_neg]
        rintro (h | h | h)
        · simp [h] at h1
        · rw [h] at h2; cases h2
        · rw [h] at h3; cases h3
  · simp -implicitDefEqProofs only [go_sem]
    rw [e, if_pos (.inl (by simpa using h1))]

theorem t35 (q : Int) (ws : List (List UInt8)) (m : List UInt8) (a b : List Int) (ha : a.length ≤ 9223372036854775807) (hb : b.length ≤ 9223372036854775807) :
    PFn Try.prog 35 [codeV q ws, ambV m a b] [.int .i64 (ambCheck q ws m a b)] := by
  refine PFn.of_body hΓ Try.func35 (by kernel_rfl) rfl (AWp.of_awpD [] hΓ hmix (by kernel_rfl) ?_)
  simp +contextual -implicitDefEqProofs only [codeV, ambV, Try.ntmps35, Try.results35, Nat.reduceAdd, Nat.reduceSub, go_sem]
  refine callK_fn (t44 q ws) (.still rfl) ?_
  by_cases h : codeCheck q ws = 0
  rotate_left
  · simp -implicitDefEqProofs only [h, go_sem]
    unfold ambCheck; rw [if_pos h]
  rw [h]
  simp -implicitDefEqProofs only [go_sem]
  refine callK_fn (t64 a b ha) (.still rfl) ?_
  have e : ambCheck q ws m a b = if a = b ∨ spellsB ws a m = false ∨ spellsB ws b m = false then 23 else 0 := by unfold ambCheck; rw [if_neg (by omega)]
  cases h1 : decide (a = b)
  · simp -implicitDefEqProofs only [go_sem]
    refine callK_fn (t67 q ws a m ha) (.still rfl) ?_
    cases h2 : spellsB ws a m
    · simp -implicitDefEqProofs only [go_sem]
      rw [e, if_pos (.inr (.inl h2))]
    · simp -implicitDefEqProofs only [go_sem]
      refine callK_fn (t67 q ws b m hb) (.still rfl) ?_
      cases h3 : spellsB ws b m
      · simp -implicitDefEqProofs only [go_sem]
        rw [e, if_pos (.inr (.inr h3))]
      · simp -implicitDefEqProofs only [go_sem]
        rw [e, if_neg]
        rintro (h | h | h)
        · simp [h] at h1
        · rw [h] at h2; cases h2
        · rw [h] at h3; cases h3
  · simp -implicitDefEqProofs only [go_sem]
    rw [e, if_pos (.inl (by simpa using h1))]
end Go.Proofs.Ytpancbdaigaheaa
