/-
  slices.Equal of words.
  A prefix code is decodable: nothing dangles.
  Kraft's sum of a prefix code, plain: at most 1, and 1 exactly if nothing is missing.
  Words over an alphabet, and prefix codes as lists: plain.
  Maximal of a prefix code.
  HasSuffix, Suffix.
  Prefix and Suffix of the reference, Suffix, Longest, Same, Make of the reference.
  The sizes of chapter 36 (Great); prefix codes of these sizes.
  Completed prefix codes: plain.
  Completed codes, plain.
  The reference's Sorted: words put in one by one.
  Plain facts of parsers: maps of words to numbers, proper beginnings in order, places of words.
  slices.Index of words and the reference's place; slices.Contains of numbers.
  slices.SortFunc by the parser's comparison of words.
  parser.build.
  parser.Build, parser.Automaton, parser.same.
  The reference's insert.
  The reference's build.
  Build and Automaton of both; the comparisons of parsers and automata.
  Automaton of both.
  The reference's comparisons of lists, parsers and automata; which parsers are too large.
  Which parsers are too large.
  The words that end in a parser; the reference's CodeOf and Check.
-/
import Derived.Test.YtaphjgjhpmmkmaaGreatJ002c23cea1c7
import Derived.Test.YtaphjgjhpmmkmaaGreatJa03bca4a5a4e
import Derived.Test.YtaphjgjhpmmkmaaGreatJ27e63eb992a8
import Derived.Test.YtaphjgjhpmmkmaaGreatJbbbb85f88272
import Derived.Test.YtaphjgjhpmmkmaaGreatJdc1a54cc70a2
import Derived.Test.YtaphjgjhpmmkmaaGreatJ8c2414ae8d99

section
namespace Go.Proofs.YtaphjgjhpmmkmaaGreat
open Go Go.AM
set_option maxRecDepth 100000
set_option maxHeartbeats 4000000
set_option linter.unusedSimpArgs false

theorem e24 (a b : List (List UInt8)) (hl : a.length ≤ 9223372036854775807) : PFn Tryz.prog 16 [.sl (a.map .str), .sl (b.map .str)] [.bool (decide (a = b))] := by
  refine PFn.of_body hΓ Tryz.func16 (by kernel_rfl) rfl (AWp.of_awpD [] hΓ hmix (by kernel_rfl) ?_)
  simp -implicitDefEqProofs only [Tryz.ntmps16, Tryz.results16, Nat.reduceAdd, Nat.reduceSub, go_sem]
  by_cases he : a.length = b.length
  rotate_left
  · simp -implicitDefEqProofs only [he, go_sem]
    exact (decide_eq_false fun e : a = b => he (by rw [e])).symm
  simp -implicitDefEqProofs only [he, go_sem]
  refine AWp.loopI (fun k : Nat => ⟨mkF 26 [(0, .p (.sl (a.map .str))), (1, .p (.sl (b.map .str))), (4, .p (.bool false)), (12, .p (.int .i64 b.length)), (13, .p (.int .i64 k))], []⟩)
    (fun k => k ≤ a.length ∧ a.take k = b.take k) (fun k => a.length - k) 0 (by simp [go_sem]) (by simp) ?_
  rintro k ⟨hk, heq⟩
  refine AWp.of_awpD [(6, 9)] hΓ hmix (by kernel_rfl) ?_
  by_cases hlt : k < a.length
  · have hltb : k < b.length := by omega
    by_cases hk' : a[k] = b[k]
    · simp -implicitDefEqProofs only [hlt, hltb, getD_map_lt, ↓reduceIte, hk', go_sem]
      refine ⟨by simp only [InR]; omega, k + 1, by simp, ⟨hlt, ?_⟩, by omega⟩
      rw [List.take_succ_eq_append_getElem hlt, List.take_succ_eq_append_getElem (by omega), heq, hk']
    · simp -implicitDefEqProofs only [hlt, hltb, getD_map_lt, ↓reduceIte, hk', go_sem]
      exact (decide_eq_false fun e : a = b => hk' (by subst e; rfl)).symm
  · have hltb : ¬ k < b.length := by omega
    simp -implicitDefEqProofs only [hlt, hltb, go_sem]
    rw [List.take_of_length_le (by omega), List.take_of_length_le (by omega)] at heq
    exact (decide_eq_true heq).symm
end Go.Proofs.YtaphjgjhpmmkmaaGreat
end

section
namespace Go.Proofs.YtaphjgjhpmmkmaaGreat
open Go Go.AM
set_option maxRecDepth 100000
set_option maxHeartbeats 4000000
set_option linter.unusedSimpArgs false

def cutW (w x : List UInt8) : List UInt8 := if x.isPrefixOf w then w.drop x.length else w
theorem t51 (w x : List UInt8) : PFn Tryz.prog 167 [.str w, .str x] [.str (cutW w x), .bool (x.isPrefixOf w)] := by
  refine PFn.of_body hΓ Tryz.func167 (by kernel_rfl) rfl (AWp.of_awpD [] hΓ hmix (by kernel_rfl) ?_)
  simp +contextual -implicitDefEqProofs only [Tryz.ntmps167, Tryz.results167, Nat.reduceAdd, Nat.reduceSub, go_sem]
  refine callK_fn (t85 w x) (.pures rfl) ?_
  cases hp : x.isPrefixOf w
  · simp -implicitDefEqProofs only [go_sem]
    unfold cutW; rw [if_neg (by rw [hp]; simp)]
  · simp -implicitDefEqProofs only [go_sem]
    exact ⟨(List.isPrefixOf_iff_prefix.1 hp).length_le, by unfold cutW; rw [if_pos hp]⟩

theorem t20 (w x : List UInt8) : PFn Tryz.prog 149 [.str w, .str x] [.str (cutW w x), .bool (x.isPrefixOf w)] := by
  refine PFn.of_body hΓ Tryz.func149 (by kernel_rfl) rfl (AWp.of_awpD [] hΓ hmix (by kernel_rfl) ?_)
  simp +contextual -implicitDefEqProofs only [Tryz.ntmps149, Tryz.results149, Nat.reduceAdd, Nat.reduceSub, go_sem]
  refine callK_fn (t51 w x) (.pures rfl) ?_
  simp +contextual -implicitDefEqProofs only [go_sem]

theorem c52 {h : List AObj} (q : Int) (ws : List (List UInt8)) : AC Tryz.prog 123 [.agg [.p (.int .i64 q), .p (.sl (ws.map .str))]] h [] (fun v h' => v = .fn 148 [.ptr h.length 0] ∧ h' = h ++ [codeB q ws]) := by
  refine AC.of_bodyE hΓ Tryz.func123 (by kernel_rfl) rfl (AWp.mono (Q := fun e st => AM.Ends e ∧ st.tmps.getD 2 .junk = .fn 148 [.ptr h.length 0] ∧ st.h = h ++ [codeB q ws]) ?_ ?_)
  rotate_left
  · rintro e ⟨tm, h'⟩ ⟨he, h1, h2⟩
    simp only at h1 h2
    subst h2
    refine ⟨he, _, Less.refl _, ?_⟩
    unfold DoneE
    simp +contextual -implicitDefEqProofs only [Tryz.results123, h1, go_sem]
    exact ⟨h.length + 1, by omega, .inl (by simp), List.take_of_length_le (by simp)⟩
  refine AWp.of_awpD [] hΓ hmix (by kernel_rfl) ?_
  simp +contextual -implicitDefEqProofs only [Tryz.ntmps123, Nat.reduceAdd, Nat.reduceSub, codeB, go_sem]

def Alone (ws : List (List UInt8)) : Prop := ∀ x ∈ ws, ∀ y ∈ ws, y.isPrefixOf x = true → x = y
theorem c148 {h : List AObj} {b c : Nat} (q : Int) (ws : List (List UInt8)) (hws : ws.length ≤ 1000) (ha : Alone ws) (hb0 : h[c]? = some (codeB q ws)) :
    AC Tryz.prog 148 [.yld b, .ptr c 0] h [] (fun _ h' => h' = h) := by
  refine AC.of_bodyE hΓ Tryz.func148 (by kernel_rfl) rfl (AWp.mono (Q := fun e st => AM.Ends e ∧ st.h = h) ?_ ?_)
  rotate_left
  · rintro e ⟨tm, h'⟩ ⟨he, h2⟩
    simp only at h2
    subst h2
    refine ⟨he, _, Less.refl _, ?_⟩
    unfold DoneE
    simp +contextual -implicitDefEqProofs only [Tryz.results148, go_sem]
    exact ⟨_, Nat.le_refl _, .inl rfl, List.take_length⟩
  refine AWp.of_awpD [] hΓ hmix (by kernel_rfl) ?_
  simp -implicitDefEqProofs only [Tryz.ntmps148, Nat.reduceAdd, Nat.reduceSub, hb0, codeB, go_sem]
  refine AWp.loopI (fun i : Nat => ⟨mkF 43 [(0, .yld b), (1, .ptr c 0), (10, .p (.sl (ws.map .str))), (11, .p (.int .i64 ws.length)), (12, .p (.int .i64 i))], h⟩)
    (fun i => i ≤ ws.length) (fun i => ws.length - i) 0 (by simp [go_sem, weakH_self]) (Nat.zero_le _) ?_
  intro i hi
  refine AWp.of_awpD [] hΓ hmix (by kernel_rfl) ?_
  by_cases hlt : i < ws.length
  rotate_left
  · simp -implicitDefEqProofs only [hlt, hb0, codeB, go_sem]
  simp -implicitDefEqProofs only [hlt, hb0, getD_map_lt, ↓reduceIte, codeB, go_sem]
  refine AWp.loopI (fun k : Nat => ⟨mkF 43 [(0, .yld b), (1, .ptr c 0), (4, .p (.str ws[i])), (10, .p (.sl (ws.map .str))), (11, .p (.int .i64 ws.length)), (12, .p (.int .i64 i)), (17, .p (.sl (ws.map .str))), (18, .p (.int .i64 ws.length)), (19, .p (.int .i64 k))], h⟩)
    (fun k => k ≤ ws.length) (fun k => ws.length - k) 0 (by simp [go_sem, weakH_self]) (Nat.zero_le _) ?_
  intro k hk
  refine AWp.of_awpD [] hΓ hmix (by kernel_rfl) ?_
  by_cases hlt2 : k < ws.length
  rotate_left
  · simp -implicitDefEqProofs only [hlt2, go_sem]
    exact ⟨by simp only [InR]; omega, i + 1, by simp [weakH_self], hlt, by omega⟩
  simp -implicitDefEqProofs only [hlt2, getD_map_lt, ↓reduceIte, go_sem]
  refine callK_fn (t20 ws[k] ws[i]) (.pures rfl) ?_
  have next : ∃ y : Nat, ((y : Int) = (k : Int) + 1 ∧ weakH h h = true) ∧ y ≤ ws.length ∧ ws.length - y < ws.length - k := ⟨k + 1, ⟨by simp, by simp [weakH_self]⟩, hlt2, by omega⟩
  cases hp : ws[i].isPrefixOf ws[k]
  · simp -implicitDefEqProofs only [go_sem]
    exact ⟨by simp only [InR]; omega, k + 1, by simp [weakH_self], hlt2, by omega⟩
  · have he : cutW ws[k] ws[i] = [] := by
      have := ha _ (List.getElem_mem hlt2) _ (List.getElem_mem hlt) hp
      unfold cutW
      rw [if_pos hp, this]; simp
    simp -implicitDefEqProofs only [he, go_sem]
    exact ⟨by simp only [InR]; omega, k + 1, by simp [weakH_self], hlt2, by omega⟩

theorem cm79 (a : List (List UInt8)) (x : List UInt8) (hl : a.length ≤ 9223372036854775807) : PFn Tryz.prog 45 [.sl (a.map .str), .str x] [.int .i64 (if x ∈ a then (a.idxOf x : Int) else -1)] := by
  refine PFn.of_body hΓ Tryz.func45 (by kernel_rfl) rfl (AWp.of_awpD [] hΓ hmix (by kernel_rfl) ?_)
  simp -implicitDefEqProofs only [Tryz.ntmps45, Tryz.results45, Nat.reduceAdd, Nat.reduceSub, go_sem]
  refine AWp.loopI (fun k : Nat => ⟨mkF 19 [(0, .p (.sl (a.map .str))), (1, .p (.str x)), (4, .p (.int .i64 0)), (7, .p (.int .i64 a.length)), (8, .p (.int .i64 k))], []⟩)
    (fun k => k ≤ a.length ∧ x ∉ a.take k) (fun k => a.length - k) 0 (by simp [go_sem, weakH_self]) (by simp) ?_
  rintro k ⟨hk, h0⟩
  refine AWp.of_awpD [] hΓ hmix (by kernel_rfl) ?_
  by_cases hlt : k < a.length
  · have hlt' : (k : Int) < (a.length : Int) := by omega
    have hg : (a.map PV.str).getD k default = .str a[k] := getD_map_lt _ _ _ _ hlt
    have htk : a.take (k + 1) = a.take k ++ [a[k]] := by rw [List.take_succ_eq_append_getElem hlt]
    by_cases he : x = a[k]
    · simp -implicitDefEqProofs only [hlt', hg, Int.toNat_natCast, he, List.length_map, go_sem]
      have hx : x ∈ a := he ▸ List.getElem_mem hlt
      have hi : a.idxOf x = k := by
        conv => lhs; rw [← List.take_append_drop k a, List.idxOf_append, if_neg h0]
        rw [List.drop_eq_getElem_cons hlt, he, List.idxOf_cons_self, List.length_take]
        omega
      rw [← he, if_pos hx, hi]
    · simp -implicitDefEqProofs only [hlt', hg, Int.toNat_natCast, he, List.length_map, go_sem]
      have h2 : x ∉ a.take (k + 1) := by
        rw [htk]; simp only [List.mem_append, List.mem_singleton]
        exact fun h => h.elim h0 he
      exact ⟨by simp only [InR]; omega, k + 1, by simp, ⟨hlt, h2⟩, by omega⟩
  · have hlt' : ¬ (k : Int) < (a.length : Int) := by omega
    rw [List.take_of_length_le (by omega)] at h0
    rw [if_neg h0]
    simp -implicitDefEqProofs only [hlt', go_sem]
theorem cm32 (a : List (List UInt8)) (x : List UInt8) (hl : a.length ≤ 9223372036854775807) : PFn Tryz.prog 21 [.sl (a.map .str), .str x] [.bool (decide (x ∈ a))] := by
  have e := cm79 a x hl
  by_cases hx : x ∈ a
  · rw [if_pos hx] at e
    refine PFn.of_body hΓ Tryz.func21 (by kernel_rfl) rfl (AWp.of_awpD [] hΓ hmix (by kernel_rfl) ?_)
    simp -implicitDefEqProofs only [Tryz.ntmps21, Tryz.results21, Nat.reduceAdd, Nat.reduceSub, go_sem]
    refine callK_fn e (.pures rfl) ?_
    simp -implicitDefEqProofs only [hx, go_sem]
    try simp
  · rw [if_neg hx] at e
    refine PFn.of_body hΓ Tryz.func21 (by kernel_rfl) rfl (AWp.of_awpD [] hΓ hmix (by kernel_rfl) ?_)
    simp -implicitDefEqProofs only [Tryz.ntmps21, Tryz.results21, Nat.reduceAdd, Nat.reduceSub, go_sem]
    refine callK_fn e (.pures rfl) ?_
    simp -implicitDefEqProofs only [hx, go_sem]
    try simp
theorem d93 (q : Int) (ws : List (List UInt8)) (hws : ws.length ≤ 1000) (ha : Alone ws) : PFn Tryz.prog 93 [codeV q ws] [.sl []] := by
  refine PFn.of_body hΓ Tryz.func93 (by kernel_rfl) rfl (AWp.of_awpD [(11, 5)] hΓ hmix (by kernel_rfl) ?_)
  simp -implicitDefEqProofs only [Tryz.ntmps93, Tryz.results93, Nat.reduceAdd, Nat.reduceSub, codeV, List.map_cons, List.map_nil, go_sem]
  refine callK_ac (c52 q ws) (by simp) ?_
  rintro v h' ⟨rfl, rfl⟩
  simp -implicitDefEqProofs only [killAll, List.foldl, codeB, List.cons_append, List.nil_append, go_sem]
  refine AWp.adoptBox (l := []) 3 9 1 rfl (by simp) ?_
  simp -implicitDefEqProofs only [List.set_cons_zero, List.set_cons_succ, List.length_cons, List.length_nil, List.cons_append, List.nil_append, Nat.reduceAdd, go_sem]
  rw [show (#[14, 15] : Array Nat) = [14, 15].toArray from rfl]
  refine AWp.rangeFunc (ks := []) rfl (c148 q ws hws ha rfl) (by simp) (by simp) ?_
  rintro v h' rfl
  unfold RangeK
  simp -implicitDefEqProofs only [killAll, List.foldl, codeB, List.cons_append, List.nil_append, List.length_cons, List.length_nil, Nat.reduceAdd, List.set_cons_zero, List.set_cons_succ, List.getElem?_cons_succ, List.getElem?_cons_zero, go_sem]
  refine AWp.loopI (fun _ : Unit => ⟨mkF 44 [(1, .ptr 0 0), (4, .ptr 3 0), (8, .p (.int .i64 0))], [codeB q ws, .dead, .dead, .box [.own 6 0], .dead, .dead, .row 9 1 [] .lax, .dead]⟩) (fun _ => True) (fun _ => 0) () (by simp [go_sem, codeB, weakH]) trivial ?_
  intro _ _
  refine AWp.of_awpD [(11, 5)] hΓ hmix (by kernel_rfl) ?_
  simp -implicitDefEqProofs only [codeB, show ¬ (0 : Int) < ((0 : Nat) : Int) by decide, Int.lt_irrefl, go_sem]
  refine callK_ac (c83n (b := 6)) (by simp) ?_
  rintro v h' ⟨rfl, rfl⟩
  simp -implicitDefEqProofs only [killAll, List.foldl, go_sem]
  try rfl

theorem d60 (q : Int) (ws : List (List UInt8)) (hws : ws.length ≤ 1000) (ha : Alone ws) : PFn Tryz.prog 60 [codeV q ws] [.bool true] := by
  have e := d93 q ws hws ha
  have e21 := cm32 [] [] (by simp)
  rw [decide_eq_false (by simp), List.map_nil] at e21
  refine PFn.of_body hΓ Tryz.func60 (by kernel_rfl) rfl (AWp.of_awpD [] hΓ hmix (by kernel_rfl) ?_)
  unfold codeV at e
  simp -implicitDefEqProofs only [Tryz.ntmps60, Tryz.results60, Nat.reduceAdd, Nat.reduceSub, codeV, go_sem]
  refine callK_fn e (.still rfl) ?_
  simp -implicitDefEqProofs only [go_sem]
  refine callK_fn e21 (.pures rfl) ?_
  simp -implicitDefEqProofs only [go_sem]
  try rfl

theorem d27 (q : Int) (ws : List (List UInt8)) (hc : codeCheck q ws = 0) (ha : Alone ws) : PFn Tryz.prog 27 [codeV q ws] [.bool true, .int .i64 0] := by
  have hl := (valid_of hc).len
  have e := d60 q ws (by omega) ha
  have e34 := t45 q ws
  rw [hc] at e34
  refine PFn.of_body hΓ Tryz.func27 (by kernel_rfl) rfl (AWp.of_awpD [] hΓ hmix (by kernel_rfl) ?_)
  unfold codeV at e e34
  simp -implicitDefEqProofs only [Tryz.ntmps27, Tryz.results27, Nat.reduceAdd, Nat.reduceSub, codeV, go_sem]
  refine callK_fn e34 (.still rfl) ?_
  simp -implicitDefEqProofs only [go_sem]
  refine callK_fn e (.still rfl) ?_
  simp -implicitDefEqProofs only [go_sem]
end Go.Proofs.YtaphjgjhpmmkmaaGreat
end

section
namespace Go.Proofs.YtaphjgjhpmmkmaaGreat.Kn
open Go Go.AM
set_option maxRecDepth 100000
set_option linter.unusedSimpArgs false

def ltr (a : Nat) : UInt8 := L16.getD a 0
theorem ltr_inj {a b : Nat} (ha : a < 16) (hb : b < 16) (h : ltr a = ltr b) : a = b := by
  have key : ∀ a : Fin 16, ∀ b : Fin 16, L16.getD a.val 0 = L16.getD b.val 0 → a = b := by decide
  have := key ⟨a, ha⟩ ⟨b, hb⟩ h
  exact congrArg Fin.val this
def Alph (q : Nat) (w : List UInt8) : Prop := ∀ b ∈ w, ∃ a, a < q ∧ b = ltr a

def wtN (q : Nat) (w : List UInt8) : Nat := q ^ (32 - w.length)
def taken (q : Nat) (p : List UInt8) : List (List UInt8) → Nat
  | [] => 0
  | w :: ws => (if p.isPrefixOf w then wtN q w else 0) + taken q p ws

theorem pre_iff {p w : List UInt8} : p.isPrefixOf w = true ↔ ∃ t, w = p ++ t := by
  rw [List.isPrefixOf_iff_prefix]
  exact ⟨fun ⟨t, h⟩ => ⟨t, h.symm⟩, fun ⟨t, h⟩ => ⟨t, h.symm⟩⟩
theorem pre_snoc {p w : List UInt8} {b : UInt8} (h : (p ++ [b]).isPrefixOf w = true) : p.isPrefixOf w = true := by
  obtain ⟨t, ht⟩ := pre_iff.1 h
  exact pre_iff.2 ⟨[b] ++ t, by rw [ht, List.append_assoc]⟩
theorem pre_uniq {p w : List UInt8} {b c : UInt8} (h1 : (p ++ [b]).isPrefixOf w = true) (h2 : (p ++ [c]).isPrefixOf w = true) : b = c := by
  obtain ⟨t, ht⟩ := pre_iff.1 h1
  obtain ⟨s, hs⟩ := pre_iff.1 h2
  rw [ht, List.append_assoc, List.append_assoc] at hs
  have := List.append_cancel_left hs
  simp at this
  exact this.1
theorem pre_more {p w : List UInt8} (h : p.isPrefixOf w = true) (hne : w ≠ p) : ∃ b, b ∈ w ∧ (p ++ [b]).isPrefixOf w = true := by
  obtain ⟨t, ht⟩ := pre_iff.1 h
  cases t with
  | nil => exact absurd (by simpa using ht) hne
  | cons b t => exact ⟨b, by rw [ht]; simp, pre_iff.2 ⟨t, by rw [ht]; simp⟩⟩

theorem sumN_add (F G : Nat → Nat) : ∀ n, sumN (fun j => F j + G j) n = sumN F n + sumN G n
  | 0 => rfl
  | n + 1 => by
    have ih := sumN_add F G n
    have e1 : sumN (fun j => F j + G j) (n + 1) = sumN (fun j => F j + G j) n + (F n + G n) := rfl
    have e2 : sumN F (n + 1) = sumN F n + F n := rfl
    have e3 : sumN G (n + 1) = sumN G n + G n := rfl
    omega
theorem sumN_one {F : Nat → Nat} {k c : Nat} : ∀ {n : Nat}, k < n → F k = c → (∀ j, j < n → j ≠ k → F j = 0) → sumN F n = c
  | 0, h, _, _ => by omega
  | n + 1, h, hc, h0 => by
    have e : sumN F (n + 1) = sumN F n + F n := rfl
    by_cases hk : k = n
    · subst hk
      rw [e, sumN_zero (fun j hj => h0 j (by omega) (by omega)), hc, Nat.zero_add]
    · rw [e, sumN_one (n := n) (by omega) hc (fun j hj hne => h0 j (by omega) hne), h0 n (by omega) (fun h => hk h.symm), Nat.add_zero]
theorem sumN_le {F : Nat → Nat} {B : Nat} : ∀ {n : Nat}, (∀ j, j < n → F j ≤ B) → sumN F n ≤ n * B
  | 0, _ => Nat.zero_le _
  | n + 1, h => by
    have e : sumN F (n + 1) = sumN F n + F n := rfl
    have := sumN_le (n := n) (fun j hj => h j (by omega))
    have := h n (by omega)
    rw [e, Nat.succ_mul]; omega
theorem sumN_full {F : Nat → Nat} {B : Nat} : ∀ {n : Nat}, (∀ j, j < n → F j ≤ B) → sumN F n = n * B → ∀ j, j < n → F j = B
  | 0, _, _ => fun j hj => by omega
  | n + 1, h, hs => by
    have e : sumN F (n + 1) = sumN F n + F n := rfl
    have h1 := sumN_le (n := n) (fun j hj => h j (by omega))
    have h2 := h n (by omega)
    rw [e, Nat.succ_mul] at hs
    have ih := sumN_full (n := n) (fun j hj => h j (by omega)) (by omega)
    intro j hj
    by_cases hjn : j = n
    · subst hjn; omega
    · exact ih j (by omega)
theorem sumN_const {F : Nat → Nat} {B : Nat} : ∀ {n : Nat}, (∀ j, j < n → F j = B) → sumN F n = n * B
  | 0, _ => by simp [sumN]
  | n + 1, h => by
    have e : sumN F (n + 1) = sumN F n + F n := rfl
    rw [e, sumN_const (n := n) (fun j hj => h j (by omega)), h n (by omega), Nat.succ_mul]

theorem taken_split {q : Nat} (hq : q ≤ 16) (p : List UInt8) : ∀ {ws : List (List UInt8)}, (∀ w ∈ ws, Alph q w) → (∀ w ∈ ws, w ≠ p) → taken q p ws = sumN (fun a => taken q (p ++ [ltr a]) ws) q
  | [], _, _ => by
    symm
    exact sumN_zero fun _ _ => rfl
  | w :: ws, hA, hne => by
    have ih := taken_split hq p (ws := ws) (fun x hx => hA x (by simp [hx])) (fun x hx => hne x (by simp [hx]))
    show (if p.isPrefixOf w then wtN q w else 0) + taken q p ws = sumN (fun a => (if (p ++ [ltr a]).isPrefixOf w then wtN q w else 0) + taken q (p ++ [ltr a]) ws) q
    rw [sumN_add, ← ih]
    congr 1
    by_cases hp : p.isPrefixOf w = true
    · obtain ⟨b, hb, hbw⟩ := pre_more hp (hne w (by simp))
      obtain ⟨a, ha, rfl⟩ := hA w (by simp) b hb
      rw [if_pos hp]
      symm
      refine sumN_one ha (by simp only [hbw, if_true]) fun j hj hja => ?_
      rw [if_neg]
      intro hjw
      exact hja (ltr_inj (by omega) (by omega) (pre_uniq hjw hbw))
    · rw [if_neg hp]
      symm
      refine sumN_zero fun j hj => ?_
      rw [if_neg]
      exact fun h => hp (pre_snoc h)

structure PCode (q : Nat) (ws : List (List UInt8)) : Prop where
  q0 : 0 < q
  q16 : q ≤ 16
  nodup : ws.Nodup
  free : ∀ x ∈ ws, ∀ y ∈ ws, y.isPrefixOf x = true → x = y
  alph : ∀ w ∈ ws, Alph q w
  short : ∀ w ∈ ws, w.length ≤ 32

theorem taken_none {q : Nat} {p : List UInt8} : ∀ {ws : List (List UInt8)}, (∀ w ∈ ws, ¬ p.isPrefixOf w = true) → taken q p ws = 0
  | [], _ => rfl
  | w :: ws, h => by
    show (if p.isPrefixOf w then wtN q w else 0) + taken q p ws = 0
    rw [if_neg (h w (by simp)), taken_none (fun x hx => h x (by simp [hx]))]
theorem taken_word {q : Nat} {p : List UInt8} : ∀ {ws : List (List UInt8)}, p ∈ ws → ws.Nodup → (∀ x ∈ ws, p.isPrefixOf x = true → x = p) → taken q p ws = wtN q p
  | w :: ws, hp, hd, hf => by
    show (if p.isPrefixOf w then wtN q w else 0) + taken q p ws = _
    have hd' := List.nodup_cons.1 hd
    by_cases hw : p.isPrefixOf w = true
    · have e := hf w (by simp) hw
      subst e
      rw [if_pos hw, taken_none (fun x hx h => ?_), Nat.add_zero]
      have := hf x (by simp [hx]) h
      subst this
      exact hd'.1 hx
    · rw [if_neg hw, Nat.zero_add]
      have hne : p ≠ w := fun e => hw (by rw [e]; exact List.isPrefixOf_iff_prefix.2 (List.prefix_refl _))
      exact taken_word (by simpa [hne] using hp) hd'.2 (fun x hx => hf x (by simp [hx]))
theorem taken_some {q : Nat} {p : List UInt8} {ws : List (List UInt8)} (h : taken q p ws ≠ 0) : ∃ w ∈ ws, p.isPrefixOf w = true := by
  by_cases hx : ∃ w ∈ ws, p.isPrefixOf w = true
  · exact hx
  · exact absurd (taken_none fun w hw hp => hx ⟨w, hw, hp⟩) h

theorem PCode.word {q : Nat} {ws : List (List UInt8)} (h : PCode q ws) {p : List UInt8} (hp : p ∈ ws) : taken q p ws = wtN q p :=
  taken_word hp h.nodup fun x hx hpx => h.free x hx p hp hpx

theorem PCode.le {q : Nat} {ws : List (List UInt8)} (h : PCode q ws) : ∀ (d : Nat) (p : List UInt8), p.length + d = 32 → taken q p ws ≤ q ^ d
  | d, p, hl => by
    by_cases hp : p ∈ ws
    · rw [h.word hp]
      unfold wtN
      rw [show 32 - p.length = d by omega]
      exact Nat.le_refl _
    · have hne : ∀ w ∈ ws, w ≠ p := fun w hw e => hp (e ▸ hw)
      cases d with
      | zero =>
        rw [taken_none fun w hw hpw => ?_]
        · exact Nat.zero_le _
        · obtain ⟨b, _, hb⟩ := pre_more hpw (hne w hw)
          have h1 := (List.isPrefixOf_iff_prefix.1 hb).length_le
          have h2 := h.short w hw
          simp at h1
          omega
      | succ d =>
        rw [taken_split h.q16 p h.alph hne, Nat.pow_succ, Nat.mul_comm]
        exact sumN_le fun a _ => PCode.le h d (p ++ [ltr a]) (by simp; omega)

def Inner (ws : List (List UInt8)) (p : List UInt8) : Prop := ∃ w ∈ ws, p.isPrefixOf w = true ∧ p.length < w.length
def Whole (q : Nat) (ws : List (List UInt8)) : Prop := ∀ p, Inner ws p → ∀ a, a < q → Inner ws (p ++ [ltr a]) ∨ p ++ [ltr a] ∈ ws

theorem PCode.outer {q : Nat} {ws : List (List UInt8)} (h : PCode q ws) {p : List UInt8} (hp : Inner ws p) : p ∉ ws := fun hm => by
  obtain ⟨w, hw, hpw, hl⟩ := hp
  have := h.free w hw p hm hpw
  rw [this] at hl
  omega

theorem PCode.of_whole {q : Nat} {ws : List (List UInt8)} (h : PCode q ws) (hw : Whole q ws) : ∀ (d : Nat) (p : List UInt8), p.length + d = 32 → (Inner ws p ∨ p ∈ ws) → taken q p ws = q ^ d
  | d, p, hl, hp => by
    by_cases hm : p ∈ ws
    · rw [h.word hm]
      unfold wtN
      rw [show 32 - p.length = d by omega]
    · have hi : Inner ws p := hp.elim id fun e => absurd e hm
      have hne : ∀ w ∈ ws, w ≠ p := fun w hw e => hm (e ▸ hw)
      cases d with
      | zero =>
        obtain ⟨w, hw1, hw2, hw3⟩ := hi
        have := h.short w hw1
        omega
      | succ d =>
        rw [taken_split h.q16 p h.alph hne, Nat.pow_succ, Nat.mul_comm]
        exact sumN_const fun a ha => PCode.of_whole h hw d (p ++ [ltr a]) (by simp; omega) (hw p hi a ha)

theorem inner_init {ws : List (List UInt8)} {p : List UInt8} {b : UInt8} (h : Inner ws (p ++ [b])) : Inner ws p := by
  obtain ⟨w, h1, h2, h3⟩ := h
  exact ⟨w, h1, pre_snoc h2, by simp at h3; omega⟩

theorem PCode.full {q : Nat} {ws : List (List UInt8)} (h : PCode q ws) (hT : taken q [] ws = q ^ 32) : ∀ (n : Nat) (p : List UInt8), p.length = n → Inner ws p → taken q p ws = q ^ (32 - n) ∧ ∀ a, a < q → taken q (p ++ [ltr a]) ws = q ^ (32 - (n + 1))
  | n, p, hn, hi => by
    have hm := h.outer hi
    have hne : ∀ w ∈ ws, w ≠ p := fun w hw e => hm (e ▸ hw)
    have hlen : n + 1 ≤ 32 := by
      obtain ⟨w, h1, h2, h3⟩ := hi
      have := h.short w h1
      omega
    have hfull : taken q p ws = q ^ (32 - n) := by
      cases n with
      | zero =>
        have : p = [] := List.length_eq_zero_iff.1 hn
        subst this
        exact hT
      | succ n =>
        obtain ⟨x, b, rfl⟩ : ∃ x b, p = x ++ [b] := by
          have hp0 : p ≠ [] := fun e => by subst e; simp at hn
          exact ⟨p.dropLast, p.getLast hp0, (List.dropLast_concat_getLast hp0).symm⟩
        have hxl : x.length = n := by simpa using hn
        have ih := PCode.full h hT n x hxl (inner_init hi)
        obtain ⟨w, h1, h2, h3⟩ := hi
        have hbw : b ∈ w := by
          obtain ⟨t, rfl⟩ := pre_iff.1 h2
          simp
        obtain ⟨a, ha, rfl⟩ := h.alph w h1 b hbw
        exact ih.2 a ha
    refine ⟨hfull, ?_⟩
    rw [taken_split h.q16 p h.alph hne, show 32 - n = (32 - (n + 1)) + 1 by omega, Nat.pow_succ, Nat.mul_comm] at hfull
    exact sumN_full (fun a _ => h.le (32 - (n + 1)) (p ++ [ltr a]) (by simp; omega)) hfull

theorem PCode.whole_of {q : Nat} {ws : List (List UInt8)} (h : PCode q ws) (hT : taken q [] ws = q ^ 32) : Whole q ws := fun p hi a ha => by
  have h1 := (h.full hT p.length p rfl hi).2 a ha
  have h2 : taken q (p ++ [ltr a]) ws ≠ 0 := by
    rw [h1]; exact Nat.ne_of_gt (Nat.pow_pos h.q0)
  obtain ⟨w, hw, hp⟩ := taken_some h2
  by_cases e : w = p ++ [ltr a]
  · exact .inr (e ▸ hw)
  · refine .inl ⟨w, hw, hp, ?_⟩
    obtain ⟨b, _, hb⟩ := pre_more hp e
    have := (List.isPrefixOf_iff_prefix.1 hb).length_le
    simp at this ⊢
    omega

theorem PCode.one_iff {q : Nat} {ws : List (List UInt8)} (h : PCode q ws) (hi : Inner ws []) : taken q [] ws = q ^ 32 ↔ Whole q ws :=
  ⟨h.whole_of, fun hw => h.of_whole hw 32 [] rfl (.inl hi)⟩
theorem taken_sum (q : Nat) : ∀ ws : List (List UInt8), taken q [] ws = ((ws.map List.length).map fun n => q ^ (32 - n)).sum
  | [] => rfl
  | w :: ws => by
    show (if ([] : List UInt8).isPrefixOf w then wtN q w else 0) + taken q [] ws = _
    rw [if_pos (by simp [List.isPrefixOf]), taken_sum q ws]
    simp [wtN]
end Go.Proofs.YtaphjgjhpmmkmaaGreat.Kn
end

section
namespace Go.Proofs.YtaphjgjhpmmkmaaGreat
open Go Go.AM
set_option maxRecDepth 100000
set_option linter.unusedSimpArgs false

theorem ixB_hit (c : UInt8) : ∀ (l : List UInt8) (n : Nat), 0 ≤ ixB c l n → ∃ k : Nat, ixB c l n = ((n + k : Nat) : Int) ∧ l.getD k 0 = c
  | [], n, h => by simp [ixB] at h
  | a :: l, n, h => by
    unfold ixB at h ⊢
    cases hb : Nat.beq a.toNat c.toNat with
    | true =>
      rw [hb] at h
      exact ⟨0, by simp, by simpa using UInt8.toNat_inj.1 (Nat.eq_of_beq_eq_true hb)⟩
    | false =>
      rw [hb] at h
      obtain ⟨k, h1, h2⟩ := ixB_hit c l (n + 1) h
      exact ⟨k + 1, by simp only [h1]; omega, by simpa using h2⟩
theorem alph_of {q : Int} {w : List UInt8} (h : wordCheck q w = 0) : Kn.Alph q.toNat w := fun b hb => by
  have hw : okW q w = true := by
    unfold wordCheck at h
    split at h
    · cases h
    · split at h
      · cases h
      · split at h
        · assumption
        · cases h
  have h1 := List.all_eq_true.1 hw b hb
  unfold okB at h1
  simp only [Bool.and_eq_true, decide_eq_true_eq] at h1
  obtain ⟨k, h3, h4⟩ := ixB_hit b L16 0 h1.1
  exact ⟨k, by omega, h4.symm⟩
theorem ixB_ltr {a : Nat} (ha : a < 16) : ixB (Kn.ltr a) L16 0 = a := by
  have key : ∀ a : Fin 16, ixB (L16.getD a.val 0) L16 0 = (a.val : Int) := by decide
  exact key ⟨a, ha⟩
theorem word_of {q : Nat} {w : List UInt8} (hq1 : 1 ≤ q) (hq : q ≤ 16) (hl : w.length ≤ 65536) (h : Kn.Alph q w) : wordCheck q w = 0 := by
  unfold wordCheck
  rw [if_neg (by omega), if_neg (by omega), if_pos]
  refine List.all_eq_true.2 fun b hb => ?_
  obtain ⟨a, h1, rfl⟩ := h b hb
  unfold okB
  rw [ixB_ltr (by omega)]
  simp only [Bool.and_eq_true, decide_eq_true_eq]
  omega

theorem free_of {ws : List (List UInt8)} (hn : ws.Nodup) (hp : prefB ws = true) : ∀ x ∈ ws, ∀ y ∈ ws, y.isPrefixOf x = true → x = y := fun x hx y hy h => (alone_iff (pr := fun w x => x.isPrefixOf w) hn).1 hp x hx y hy h
theorem pref_of {ws : List (List UInt8)} (hn : ws.Nodup) (h : ∀ x ∈ ws, ∀ y ∈ ws, y.isPrefixOf x = true → x = y) : prefB ws = true := (alone_iff (pr := fun w x => x.isPrefixOf w) hn).2 h
theorem pcode_of {q : Int} {ws : List (List UInt8)} (hv : Valid q ws) (hp : prefB ws = true) : Kn.PCode q.toNat ws := by
  have h2 := hv.q2
  have h16 := hv.q16
  exact { q0 := by omega, q16 := by omega, nodup := strict_nodup hv.strict, free := free_of (strict_nodup hv.strict) hp, alph := fun w hw => alph_of (hv.words w hw).2.2, short := fun w hw => (hv.words w hw).2.1 }

theorem made_len {l : List (List UInt8)} (h : l.Nodup) : (made l).length = l.length := by
  have e : made l = sortW l := strict_unique (made_strict l) (sortW_strict h) fun x => by
    rw [mem_made]
    exact (List.mergeSort_perm l _).mem_iff.symm
  rw [e, sortW_length]

end Go.Proofs.YtaphjgjhpmmkmaaGreat
end

section
namespace Go.Proofs.YtaphjgjhpmmkmaaGreat
open Go Go.AM
set_option maxRecDepth 100000
set_option maxHeartbeats 4000000
set_option linter.unusedSimpArgs false

theorem rat_oneM {q : Nat} {D : List (List UInt8)} (hq : q ≠ 0) : Kn.ratV (Kn.krS q (D.map List.length)) (q ^ 32) = oneR ↔ Kn.taken q [] D = q ^ 32 := by
  have h1 := Kn.low_eq (n := Kn.krS q (D.map List.length)) (d := q ^ 32) (m := 1) (e := 1) (Nat.pos_iff_ne_zero.1 (Nat.pow_pos (Nat.pos_of_ne_zero hq))) (by decide)
  rw [ratV_one] at h1
  have e : Kn.krS q (D.map List.length) = Kn.taken q [] D := by rw [Kn.taken_sum]; rfl
  rw [e] at h1 ⊢
  exact h1.trans (by omega)
theorem aggRnM {A B C D : List UInt8} {x y : AV} {K : AV → Prop} (hx : x.pure = some (.agg [.bool false, .str A, .bool false, .str B])) (hy : y.pure = some (.agg [.bool false, .str C, .bool false, .str D]))
    (hK : K (.p (.bool (!(decide (A = C) && decide (B = D)))))) : aggK Γ .neq 33 x y K := by
  have he : ∃ te fs, Γ 33 = some te ∧ te.td = .struct fs ∧ te.eqs = true ∧ eqAgg Γ fs [.bool false, .str A, .bool false, .str B] [.bool false, .str C, .bool false, .str D] =
      some (((false == false) && (decide (A = C) && true)) && (((false == false) && (decide (B = D) && true)) && true)) := ⟨_, _, rfl, rfl, rfl, rfl⟩
  obtain ⟨te, fs, h1, h2, h3, h4⟩ := he
  have e : (((false == false) && (decide (A = C) && true)) && (((false == false) && (decide (B = D) && true)) && true)) = (decide (A = C) && decide (B = D)) := by simp
  rw [e] at h4
  unfold aggK
  rw [hx, hy]
  simp only [tyAt, h1, h2, h3, h4]
  exact ⟨⟨trivial, rfl, rfl⟩, hK⟩

theorem m19 (q : Int) (D : List (List UInt8)) (hc : codeCheck q D = 0) (hp : prefB D = true) {A B : List UInt8}
    (hAB : Kn.ratV (Kn.krS q.toNat (D.map List.length)) (q.toNat ^ 32) = .agg [.bool false, .str A, .bool false, .str B]) :
    PFn Tryz.prog 19 [codeV q D] [.bool (decide (A = [1]) && decide (B = [1])), .int .i64 0] := by
  have e27 := d27 q D hc (free_of (strict_nodup (valid_of hc).strict) hp)
  have e9 := cm28 q D hc
  rw [hAB] at e9
  have e58 := Kn.v58
  rw [ratV_one] at e58
  unfold codeV at e27 e9
  refine PFn.of_body hΓ Tryz.func19 (by kernel_rfl) rfl (AWp.seq (AWp.of_awpD [] hΓ hmix (by kernel_rfl) ?_))
  simp -implicitDefEqProofs only [Tryz.ntmps19, Tryz.results19, Nat.reduceAdd, Nat.reduceSub, codeV, go_sem]
  refine AWp.seq (AWp.of_awpD [] hΓ hmix (by kernel_rfl) ?_)
  simp -implicitDefEqProofs only [go_sem]
  refine callK_fn e27 (.still rfl) ?_
  simp -implicitDefEqProofs only [go_sem]
  refine AWp.seq (AWp.of_awpD [] hΓ hmix (by kernel_rfl) ?_)
  simp -implicitDefEqProofs only [show ((0 : Int) = 0) = True by simp, go_sem]
  refine AWp.seq (AWp.of_awpD [] hΓ hmix (by kernel_rfl) ?_)
  simp -implicitDefEqProofs only [go_sem]
  refine AWp.seq (AWp.of_awpD [] hΓ hmix (by kernel_rfl) ?_)
  simp -implicitDefEqProofs only [go_sem]
  refine callK_fn e9 (.still rfl) ?_
  simp -implicitDefEqProofs only [go_sem]
  refine AWp.of_awpD [(7, 5)] hΓ hmix (by kernel_rfl) ?_
  simp -implicitDefEqProofs only [go_sem]
  refine callVPK_fn e58 (.pures rfl) ?_
  simp -implicitDefEqProofs only [go_sem]
  refine aggR rfl rfl ?_
  simp -implicitDefEqProofs only [go_sem]
end Go.Proofs.YtaphjgjhpmmkmaaGreat
end

section
namespace Go.Proofs.YtaphjgjhpmmkmaaGreat
open Go Go.AM
set_option maxRecDepth 100000
set_option linter.unusedSimpArgs false

theorem u52 (w x : List UInt8) : PFn Tryz.prog 65 [.str w, .str x] [.bool (x.isPrefixOf w)] := by
  refine PFn.of_body hΓ Tryz.func65 (by kernel_rfl) rfl (AWp.of_awpD [] hΓ hmix (by kernel_rfl) ?_)
  simp +contextual -implicitDefEqProofs only [Tryz.ntmps65, Tryz.results65, Nat.reduceAdd, Nat.reduceSub, go_sem]
  refine ⟨fun h => ?_, fun h => ?_⟩
  · rw [Bool.eq_iff_iff, List.isPrefixOf_iff_prefix, List.prefix_iff_eq_take, decide_eq_true_eq]; exact eq_comm
  · rw [Bool.eq_iff_iff, List.isPrefixOf_iff_prefix]
    exact ⟨fun h => by simp at h, fun h' => absurd h'.length_le (by omega)⟩
end Go.Proofs.YtaphjgjhpmmkmaaGreat
end

section
namespace Go.Proofs.YtaphjgjhpmmkmaaGreat
open Go Go.AM
set_option maxRecDepth 100000
set_option linter.unusedSimpArgs false

theorem u16 (q : Int) (ws : List (List UInt8)) : PFn Tryz.prog 31 [codeV q ws] [.bool (if codeCheck q ws = 0 then aloneB (fun w x => x.isPrefixOf w) ws else false), .int .i64 (if codeCheck q ws = 0 then 0 else 1)] := by
  refine PFn.of_body hΓ Tryz.func31 (by kernel_rfl) rfl (AWp.of_awpD [] hΓ hmix (by kernel_rfl) ?_)
  simp +contextual -implicitDefEqProofs only [codeV, Tryz.ntmps31, Tryz.results31, Nat.reduceAdd, Nat.reduceSub, go_sem]
  refine callK_fn (t44 q ws) (.still rfl) ?_
  by_cases h : codeCheck q ws = 0
  · have hv := valid_of h
    have hws := hv.len
    rw [h]
    simp -implicitDefEqProofs only [go_sem]
    refine AWp.loopI (fun i : Nat => ⟨mkF 39 [(1, .ptr 0 0), (2, .p (.bool false)), (3, .p (.int .i64 0)), (4, .p (.int .i64 i))], [codeB q ws]⟩)
      (fun i => i ≤ ws.length ∧ aloneN (fun w x => x.isPrefixOf w) ws i = true) (fun i => ws.length - i) 0 (by simp [go_sem, codeB]) ⟨by omega, rfl⟩ ?_
    rintro i ⟨hi, hal⟩
    refine AWp.of_awpD [] hΓ hmix (by kernel_rfl) ?_
    by_cases hlt : i < ws.length
    · simp -implicitDefEqProofs only [hlt, getD_map_lt, ↓reduceIte, codeB, go_sem]
      refine AWp.loopI (fun k : Nat => ⟨mkF 39 [(1, .ptr 0 0), (2, .p (.bool false)), (3, .p (.int .i64 0)), (4, .p (.int .i64 i)), (5, .p (.int .i64 k))], [codeB q ws]⟩)
        (fun k => k ≤ ws.length ∧ aloneTo (fun w x => x.isPrefixOf w) ws i k = true) (fun k => ws.length - k) 0 (by simp [go_sem, codeB]) ⟨by omega, rfl⟩ ?_
      rintro k ⟨hk, hal2⟩
      refine AWp.of_awpD [(9, 16)] hΓ hmix (by kernel_rfl) ?_
      have hwi : ws.getD i [] = ws[i] := by rw [List.getD_eq_getElem?_getD, List.getElem?_eq_getElem hlt, Option.getD_some]
      have hsh : ws[i].length ≤ 9223372036854775807 := by have := hv.short i hlt; rw [hwi] at this; omega
      by_cases hlt2 : k < ws.length
      · have hwk : ws.getD k [] = ws[k] := by rw [List.getD_eq_getElem?_getD, List.getElem?_eq_getElem hlt2, Option.getD_some]
        by_cases he : (i : Int) = k
        · simp -implicitDefEqProofs only [hlt2, he, getD_map_lt, ↓reduceIte, codeB, go_sem]
          refine ⟨by simp only [InR]; omega, k + 1, by omega, ⟨hlt2, ?_⟩, by omega⟩
          rw [aloneTo_succ, hal2, decide_eq_true (by omega)]; rfl
        · simp -implicitDefEqProofs only [hlt, hlt2, he, getD_map_lt, ↓reduceIte, codeB, go_sem]
          refine callVPK_fn (u52 ws[i] ws[k]) (.pures rfl) ?_
          cases hp : ws[k].isPrefixOf ws[i]
          · simp -implicitDefEqProofs only [hlt, hlt2, he, getD_map_lt, ↓reduceIte, codeB, go_sem]
            refine ⟨by simp only [InR]; omega, k + 1, by omega, ⟨hlt2, ?_⟩, by omega⟩
            rw [aloneTo_succ, hal2, hwi, hwk, hp]; simp
          · simp -implicitDefEqProofs only [hlt, hlt2, he, getD_map_lt, ↓reduceIte, codeB, go_sem]
            rw [alone_bad hlt hlt2 (by omega) (by rw [hwi, hwk]; exact hp)]
      · simp -implicitDefEqProofs only [hlt2, codeB, go_sem]
        refine ⟨by simp only [InR]; omega, i + 1, by omega, ⟨hlt, ?_⟩, by omega⟩
        rw [aloneN_succ, hal, show ws.length = k by omega, hal2]; rfl
    · simp -implicitDefEqProofs only [hlt, codeB, go_sem]
      rw [show i = ws.length by omega] at hal; exact hal.symm
  · simp -implicitDefEqProofs only [h, go_sem]

end Go.Proofs.YtaphjgjhpmmkmaaGreat
end

section
namespace Go.Proofs.YtaphjgjhpmmkmaaGreat
open Go Go.AM
set_option maxRecDepth 100000
set_option maxHeartbeats 4000000
set_option linter.unusedSimpArgs false

def longW (w : List UInt8) : Bool := decide (5 < w.length) && decide (w.length ≤ 32)
def muchC (q : Int) (ws : List (List UInt8)) : Bool := decide (6 < ws.length) || (decide (3 < q) && decide (q ≤ 16))
def great36 (q : Int) (ws : List (List UInt8)) : Bool := ws.any longW || muchC q ws

theorem gr36 (q : Int) (ws : List (List UInt8)) (hl : ws.length ≤ 9223372036854775807) : PFn Tryz.prog 30 [codeV q ws] [.bool (great36 q ws)] := by
  refine PFn.of_body hΓ Tryz.func30 (by kernel_rfl) rfl (AWp.of_awpD [] hΓ hmix (by kernel_rfl) ?_)
  simp -implicitDefEqProofs only [Tryz.ntmps30, Tryz.results30, Nat.reduceAdd, Nat.reduceSub, codeV, go_sem]
  refine AWp.loopI (fun k : Nat => ⟨mkF 41 [(1, .ptr 0 0), (2, .p (.bool false)), (3, .p (.int .i64 k))], [codeB q ws]⟩)
    (fun k => k ≤ ws.length ∧ (ws.take k).any longW = false) (fun k => ws.length - k) 0 (by simp [go_sem, codeB]) (by simp) ?_
  rintro k ⟨hk, hno⟩
  refine AWp.of_awpD [] hΓ hmix (by kernel_rfl) ?_
  by_cases hlt : k < ws.length
  · by_cases h5 : (5 : Int) < ws[k].length
    · by_cases h32 : (ws[k].length : Int) ≤ 32
      · simp -implicitDefEqProofs only [hlt, h5, h32, getD_map_lt, ↓reduceIte, codeB, go_sem]
        have : ws.any longW = true := List.any_eq_true.2 ⟨_, List.getElem_mem hlt, by unfold longW; simp only [Bool.and_eq_true, decide_eq_true_eq]; omega⟩
        unfold great36
        rw [this]; rfl
      · have hno' : longW ws[k] = false := by unfold longW; simp only [Bool.and_eq_false_iff, decide_eq_false_iff_not]; omega
        simp -implicitDefEqProofs only [hlt, h5, h32, getD_map_lt, ↓reduceIte, codeB, go_sem]
        exact ⟨by simp only [InR]; omega, k + 1, by simp, ⟨hlt, by rw [List.take_succ_eq_append_getElem hlt, List.any_append, hno]; simp [hno']⟩, by omega⟩
    · have hno' : longW ws[k] = false := by unfold longW; simp only [Bool.and_eq_false_iff, decide_eq_false_iff_not]; omega
      simp -implicitDefEqProofs only [hlt, h5, getD_map_lt, ↓reduceIte, codeB, go_sem]
      exact ⟨by simp only [InR]; omega, k + 1, by simp, ⟨hlt, by rw [List.take_succ_eq_append_getElem hlt, List.any_append, hno]; simp [hno']⟩, by omega⟩
  · rw [List.take_of_length_le (by omega)] at hno
    unfold great36 muchC
    rw [hno]
    by_cases h6 : (6 : Int) < ws.length
    · simp -implicitDefEqProofs only [hlt, h6, codeB, go_sem]
      rw [decide_eq_true (by omega : 6 < ws.length)]; rfl
    · by_cases h3 : 3 < q
      · simp -implicitDefEqProofs only [hlt, h6, h3, codeB, go_sem]
        rw [decide_eq_false (by omega : ¬ 6 < ws.length)]; rfl
      · simp -implicitDefEqProofs only [hlt, h6, h3, codeB, go_sem]
        rw [decide_eq_false (by omega : ¬ 6 < ws.length)]; rfl

def preS (q : Int) (ws : List (List UInt8)) : Bool := !great36 q ws && (decide (codeCheck q ws = 0) && prefB ws)
theorem p6 (q : Int) (ws : List (List UInt8)) (hl : ws.length ≤ 9223372036854775807) : PFn Tryz.prog 6 [codeV q ws] [.bool (preS q ws)] := by
  have e30 := gr36 q ws hl
  have e18 := t44 q ws
  have e31 := u16 q ws
  refine PFn.of_body hΓ Tryz.func6 (by kernel_rfl) rfl (AWp.of_awpD [] hΓ hmix (by kernel_rfl) ?_)
  simp -implicitDefEqProofs only [Tryz.ntmps6, Tryz.results6, Nat.reduceAdd, Nat.reduceSub, codeV, go_sem]
  unfold codeV at e30 e18 e31
  unfold preS
  refine callK_fn e30 (.still rfl) ?_
  cases hg : great36 q ws
  rotate_left
  · simp -implicitDefEqProofs only [go_sem]
    rfl
  by_cases hc : codeCheck q ws = 0
  rotate_left
  · simp -implicitDefEqProofs only [go_sem]
    refine callK_fn e18 (.still rfl) ?_
    simp -implicitDefEqProofs only [hc, go_sem]
    rfl
  rw [if_pos hc, if_pos hc] at e31
  rw [hc] at e18
  simp -implicitDefEqProofs only [go_sem]
  refine callK_fn e18 (.still rfl) ?_
  simp -implicitDefEqProofs only [go_sem]
  refine callK_fn e31 (.still rfl) ?_
  simp -implicitDefEqProofs only [go_sem]
  simp [hc, prefB]
end Go.Proofs.YtaphjgjhpmmkmaaGreat
end

section
namespace Go.Proofs.YtaphjgjhpmmkmaaGreat
open Go Go.AM
set_option maxRecDepth 100000
set_option linter.unusedSimpArgs false

def Miss (q : Nat) (ws : List (List UInt8)) (m : List UInt8) : Prop := ∃ p a, Kn.Inner ws p ∧ a < q ∧ m = p ++ [Kn.ltr a] ∧ begB ws m = false
theorem mem_missing {q : Nat} {ws : List (List UInt8)} {m : List UInt8} : m ∈ missing q ws ↔ Miss q ws m := by
  unfold missing Miss
  rw [mem_made]
  unfold missL missW missP missA
  simp only [List.mem_flatMap, List.mem_range]
  constructor
  · rintro ⟨i, hi, n, hn, a, ha, hm⟩
    split at hm
    · cases hm
    · rename_i hb
      have hm := List.mem_singleton.1 hm
      rw [List.getD_eq_getElem?_getD, List.getElem?_eq_getElem hi, Option.getD_some] at hn hm
      refine ⟨ws[i].take n, a, ⟨ws[i], List.getElem_mem hi, List.isPrefixOf_iff_prefix.2 (List.take_prefix _ _), by rw [List.length_take]; omega⟩, ha, hm, ?_⟩
      rw [List.getD_eq_getElem?_getD, List.getElem?_eq_getElem hi, Option.getD_some] at hb
      rw [hm]; exact eq_false_of_ne_true hb
  · rintro ⟨p, a, ⟨w, hw, hpw, hl⟩, ha, rfl, hb⟩
    obtain ⟨i, hi, rfl⟩ := List.getElem_of_mem hw
    have htk : ws[i].take p.length = p := (List.prefix_iff_eq_take.1 (List.isPrefixOf_iff_prefix.1 hpw)).symm
    refine ⟨i, hi, p.length, ?_, a, ha, ?_⟩
    · rw [List.getD_eq_getElem?_getD, List.getElem?_eq_getElem hi, Option.getD_some]; exact hl
    · rw [List.getD_eq_getElem?_getD, List.getElem?_eq_getElem hi, Option.getD_some, htk, if_neg]
      · exact List.mem_singleton.2 rfl
      · have e : p ++ [letA a] = p ++ [Kn.ltr a] := rfl
        rw [e, hb]; decide
theorem begB_iff {ws : List (List UInt8)} {x : List UInt8} : begB ws x = true ↔ ∃ w ∈ ws, x <+: w := by
  unfold begB
  rw [List.any_eq_true]
  exact ⟨fun ⟨w, h1, h2⟩ => ⟨w, h1, List.isPrefixOf_iff_prefix.1 h2⟩, fun ⟨w, h1, h2⟩ => ⟨w, h1, List.isPrefixOf_iff_prefix.2 h2⟩⟩

def extL (q : Nat) : List UInt8 → Nat → List (List UInt8)
  | w, 0 => [w]
  | w, k + 1 => (List.range q).flatMap fun a => extL q (w ++ [letA a]) k
theorem mem_extL {q : Nat} : ∀ {k : Nat} {w x : List UInt8}, x ∈ extL q w k ↔ ∃ u, x = w ++ u ∧ u.length = k ∧ Kn.Alph q u
  | 0, w, x => by
    unfold extL
    rw [List.mem_singleton]
    constructor
    · rintro rfl; exact ⟨[], by simp, rfl, fun b hb => by cases hb⟩
    · rintro ⟨u, rfl, hu, _⟩; rw [List.eq_nil_of_length_eq_zero hu, List.append_nil]
  | k + 1, w, x => by
    unfold extL
    simp only [List.mem_flatMap, List.mem_range]
    constructor
    · rintro ⟨a, ha, hx⟩
      obtain ⟨u, rfl, h1, h2⟩ := mem_extL.1 hx
      refine ⟨letA a :: u, by simp, by simp [h1], fun b hb => ?_⟩
      rcases List.mem_cons.1 hb with rfl | hb
      · exact ⟨a, ha, rfl⟩
      · exact h2 b hb
    · rintro ⟨u, rfl, h1, h2⟩
      cases u with
      | nil => simp at h1
      | cons b u =>
        obtain ⟨a, ha, rfl⟩ := h2 b (by simp)
        exact ⟨a, ha, mem_extL.2 ⟨u, by simp [letA, Kn.ltr], by simpa using h1, fun c hc => h2 c (by simp [hc])⟩⟩
theorem extL_nodup {q : Nat} (hq : q ≤ 16) : ∀ (k : Nat) (w : List UInt8), (extL q w k).Nodup
  | 0, w => by unfold extL; simp
  | k + 1, w => by
    unfold extL
    refine List.pairwise_flatMap.2 ⟨fun a _ => extL_nodup hq k _, ?_⟩
    refine List.Pairwise.imp_of_mem ?_ (List.nodup_range (n := q))
    intro a b ha hb hne x hx y hy e
    subst e
    obtain ⟨u, rfl, _, _⟩ := mem_extL.1 hx
    obtain ⟨v, hv, _, _⟩ := mem_extL.1 hy
    rw [List.append_assoc, List.append_assoc] at hv
    have := List.append_cancel_left hv
    simp only [List.singleton_append, List.cons.injEq] at this
    exact hne (Kn.ltr_inj (by have := List.mem_range.1 ha; omega) (by have := List.mem_range.1 hb; omega) this.1)

def embL (q : Nat) (ws : List (List UInt8)) (n : Nat) : List (List UInt8) := (missing q ws).flatMap fun w => extL q w (n - w.length)
theorem mem_embL {q : Nat} {ws : List (List UInt8)} {n : Nat} {x : List UInt8} : x ∈ embL q ws n ↔ ∃ m u, Miss q ws m ∧ x = m ++ u ∧ u.length = n - m.length ∧ Kn.Alph q u := by
  unfold embL
  simp only [List.mem_flatMap, mem_missing, mem_extL]
  constructor
  · rintro ⟨m, h1, u, h2, h3, h4⟩; exact ⟨m, u, h1, h2, h3, h4⟩
  · rintro ⟨m, u, h1, h2, h3, h4⟩; exact ⟨m, h1, u, h2, h3, h4⟩
theorem embL_one (q : Nat) (ws : List (List UInt8)) : embL q ws 1 = missing q ws := by
  have key : ∀ l : List (List UInt8), (∀ w ∈ l, w ≠ []) → l.flatMap (fun w => extL q w (1 - w.length)) = l := by
    intro l h
    induction l with
    | nil => rfl
    | cons w l ih =>
      rw [List.flatMap_cons, ih fun x hx => h x (by simp [hx])]
      have : 1 - w.length = 0 := by have := List.length_pos_iff.2 (h w (by simp)); omega
      rw [this]; rfl
  refine key _ fun w hw e => ?_
  obtain ⟨p, a, _, _, h, _⟩ := mem_missing.1 hw
  rw [e] at h
  exact absurd h.symm (by simp)

theorem miss_begun {q : Nat} {ws : List (List UInt8)} (_ : Kn.PCode q ws) {m x : List UInt8} (hm : Miss q ws m) (hx : x ∈ ws) : ¬ m <+: x := fun h => by
  obtain ⟨p, a, _, _, _, hb⟩ := hm
  rw [begB_iff.2 ⟨x, hx, h⟩] at hb; cases hb

section
variable {q : Nat} {ws : List (List UInt8)} (hc : Kn.PCode q ws)
include hc
theorem miss_word {m x : List UInt8} (hm : Miss q ws m) (hx : x ∈ ws) : ¬ x <+: m := fun h => by
  obtain ⟨p, a, ⟨w, hw, hpw, hl⟩, ha, rfl, hb⟩ := hm
  rcases List.prefix_concat_iff.1 h with h1 | h1
  · have : begB ws (p ++ [Kn.ltr a]) = true := begB_iff.2 ⟨x, hx, by rw [h1]; exact List.prefix_refl _⟩
    rw [hb] at this; cases this
  · have h2 : x <+: w := h1.trans (List.isPrefixOf_iff_prefix.1 hpw)
    have h3 := hc.free w hw x hx (List.isPrefixOf_iff_prefix.2 h2)
    have h4 := h1.length_le
    rw [← h3] at h4; omega
theorem miss_miss {m1 m2 : List UInt8} (h1 : Miss q ws m1) (h2 : Miss q ws m2) (h : m1 <+: m2) : m1 = m2 := by
  obtain ⟨p, a, ⟨w, hw, hpw, hl⟩, ha, rfl, hb⟩ := h2
  rcases List.prefix_concat_iff.1 h with h3 | h3
  · exact h3
  · exact absurd (h3.trans (List.isPrefixOf_iff_prefix.1 hpw)) (miss_begun hc h1 hw)
theorem miss_short {m : List UInt8} (hm : Miss q ws m) : m.length ≤ 32 ∧ m ≠ [] ∧ Kn.Alph q m := by
  obtain ⟨p, a, ⟨w, hw, hpw, hl⟩, ha, rfl, hb⟩ := hm
  have h1 := hc.short w hw
  refine ⟨by simp; omega, by simp, fun b hb => ?_⟩
  rcases List.mem_append.1 hb with h2 | h2
  · exact hc.alph w hw b ((List.isPrefixOf_iff_prefix.1 hpw).subset h2)
  · exact ⟨a, ha, List.mem_singleton.1 h2⟩

theorem all_free {n : Nat} : ∀ x ∈ ws ++ embL q ws n, ∀ y ∈ ws ++ embL q ws n, y.isPrefixOf x = true → x = y := by
  intro x hx y hy h
  have h := List.isPrefixOf_iff_prefix.1 h
  rcases List.mem_append.1 hx with hx | hx <;> rcases List.mem_append.1 hy with hy | hy
  · exact hc.free x hx y hy (List.isPrefixOf_iff_prefix.2 h)
  · obtain ⟨m, u, hm, rfl, _, _⟩ := mem_embL.1 hy
    exact absurd ((List.prefix_append m u).trans h) (miss_begun hc hm hx)
  · obtain ⟨m, u, hm, rfl, _, _⟩ := mem_embL.1 hx
    rcases List.prefix_or_prefix_of_prefix h (List.prefix_append m u) with h1 | h1
    · exact absurd h1 (miss_word hc hm hy)
    · exact absurd h1 (miss_begun hc hm hy)
  · obtain ⟨m, u, hm, rfl, hu, _⟩ := mem_embL.1 hx
    obtain ⟨m', v, hm', rfl, hv, _⟩ := mem_embL.1 hy
    have he : m' = m := by
      rcases List.prefix_or_prefix_of_prefix ((List.prefix_append m' v).trans h) (List.prefix_append m u) with h1 | h1
      · exact miss_miss hc hm' hm h1
      · exact (miss_miss hc hm hm' h1).symm
    subst he
    exact (h.eq_of_length (by simp; omega)).symm

theorem all_whole {n : Nat} : Kn.Whole q (ws ++ embL q ws n) := by
  have hq0 := hc.q0
  have fill : ∀ k, Kn.Alph q (List.replicate k (Kn.ltr 0)) := fun k b hb => ⟨0, hq0, (List.mem_replicate.1 hb).2⟩
  have step : ∀ m u a, Miss q ws m → Kn.Alph q u → u.length < n - m.length → a < q → Kn.Inner (ws ++ embL q ws n) (m ++ u ++ [Kn.ltr a]) ∨ m ++ u ++ [Kn.ltr a] ∈ ws ++ embL q ws n := by
    intro m u a hm hu hl ha
    have hua : Kn.Alph q (u ++ [Kn.ltr a]) := fun b hb => by
      rcases List.mem_append.1 hb with h | h
      · exact hu b h
      · exact ⟨a, ha, List.mem_singleton.1 h⟩
    by_cases he : u.length + 1 = n - m.length
    · exact .inr (List.mem_append_right _ (mem_embL.2 ⟨m, u ++ [Kn.ltr a], hm, by rw [List.append_assoc], by simpa using he, hua⟩))
    · left
      refine ⟨m ++ u ++ [Kn.ltr a] ++ List.replicate (n - m.length - (u.length + 1)) (Kn.ltr 0), List.mem_append_right _ (mem_embL.2 ⟨m, u ++ [Kn.ltr a] ++ List.replicate (n - m.length - (u.length + 1)) (Kn.ltr 0), hm, by simp, by simp; omega, fun b hb => ?_⟩), List.isPrefixOf_iff_prefix.2 (List.prefix_append _ _), by simp; omega⟩
      rcases List.mem_append.1 hb with h | h
      · exact hua b h
      · exact fill _ b h
  have inner : ∀ p a, Kn.Inner ws p → a < q → Kn.Inner (ws ++ embL q ws n) (p ++ [Kn.ltr a]) ∨ p ++ [Kn.ltr a] ∈ ws ++ embL q ws n := by
    intro p a hp ha
    cases hb : begB ws (p ++ [Kn.ltr a])
    · have hm : Miss q ws (p ++ [Kn.ltr a]) := ⟨p, a, hp, ha, rfl, hb⟩
      by_cases hn : n - (p ++ [Kn.ltr a]).length = 0
      · exact .inr (List.mem_append_right _ (mem_embL.2 ⟨_, [], hm, by simp, by rw [hn]; rfl, fun b hb => by cases hb⟩))
      · left
        refine ⟨p ++ [Kn.ltr a] ++ List.replicate (n - (p ++ [Kn.ltr a]).length) (Kn.ltr 0), List.mem_append_right _ (mem_embL.2 ⟨_, _, hm, rfl, by simp, fill _⟩), List.isPrefixOf_iff_prefix.2 (List.prefix_append _ _), by simp at hn ⊢; omega⟩
    · obtain ⟨w, hw, hpw⟩ := begB_iff.1 hb
      by_cases he : p ++ [Kn.ltr a] = w
      · exact .inr (List.mem_append_left _ (he ▸ hw))
      · refine .inl ⟨w, List.mem_append_left _ hw, List.isPrefixOf_iff_prefix.2 hpw, ?_⟩
        have h1 := hpw.length_le
        by_cases h2 : (p ++ [Kn.ltr a]).length = w.length
        · exact absurd (hpw.eq_of_length h2) he
        · omega
  rintro p ⟨x, hx, hpx, hl⟩ a ha
  have hpx := List.isPrefixOf_iff_prefix.1 hpx
  rcases List.mem_append.1 hx with hx | hx
  · exact inner p a ⟨x, hx, List.isPrefixOf_iff_prefix.2 hpx, hl⟩ ha
  · obtain ⟨m, u, hm, rfl, hu, hal⟩ := mem_embL.1 hx
    rcases List.prefix_or_prefix_of_prefix hpx (List.prefix_append m u) with h1 | h1
    · by_cases h2 : p = m
      · subst h2
        have := step p [] a hm (fun b hb => by cases hb) (by simp at hl ⊢; omega) ha
        simpa using this
      · obtain ⟨p2, a2, ⟨w, hw, hpw, hl2⟩, ha2, rfl, hb⟩ := hm
        rcases List.prefix_concat_iff.1 h1 with h3 | h3
        · exact absurd h3 h2
        · exact inner p a ⟨w, hw, List.isPrefixOf_iff_prefix.2 (h3.trans (List.isPrefixOf_iff_prefix.1 hpw)), by have := h3.length_le; omega⟩ ha
    · obtain ⟨v, rfl⟩ := h1
      have h2 : v <+: u := (List.prefix_append_right_inj m).1 hpx
      refine step m v a hm (fun b hb => hal b (h2.subset hb)) ?_ ha
      simp at hl
      omega

theorem all_pcode {n : Nat} (hn : n ≤ 32) : Kn.PCode q (made (ws ++ embL q ws n)) := by
  refine { q0 := hc.q0, q16 := hc.q16, nodup := strict_nodup (made_strict _), free := fun x hx y hy => all_free hc x (mem_made.1 hx) y (mem_made.1 hy), alph := fun w hw => ?_, short := fun w hw => ?_ }
  · rcases List.mem_append.1 (mem_made.1 hw) with h | h
    · exact hc.alph w h
    · obtain ⟨m, u, hm, rfl, _, hal⟩ := mem_embL.1 h
      intro b hb
      rcases List.mem_append.1 hb with h1 | h1
      · exact (miss_short hc hm).2.2 b h1
      · exact hal b h1
  · rcases List.mem_append.1 (mem_made.1 hw) with h | h
    · exact hc.short w h
    · obtain ⟨m, u, hm, rfl, hu, _⟩ := mem_embL.1 h
      have := (miss_short hc hm).1
      simp; omega
theorem all_nodup {n : Nat} : (ws ++ embL q ws n).Nodup := by
  refine List.nodup_append.2 ⟨hc.nodup, ?_, fun x hx y hy e => ?_⟩
  · unfold embL
    refine List.pairwise_flatMap.2 ⟨fun m _ => extL_nodup hc.q16 _ _, ?_⟩
    refine List.Pairwise.imp_of_mem ?_ (strict_nodup (made_strict _))
    intro m1 m2 h1 h2 hne x hx y hy e
    subst e
    have h1 := mem_missing.1 h1
    have h2 := mem_missing.1 h2
    obtain ⟨u, rfl, _, _⟩ := mem_extL.1 hx
    obtain ⟨v, hv, _, _⟩ := mem_extL.1 hy
    rcases List.prefix_or_prefix_of_prefix (List.prefix_append m1 u) (hv ▸ List.prefix_append m2 v) with h3 | h3
    · exact hne (miss_miss hc h1 h2 h3)
    · exact hne (miss_miss hc h2 h1 h3).symm
  · subst e
    obtain ⟨m, u, hm, rfl, _, _⟩ := mem_embL.1 hy
    exact miss_begun hc hm hx (List.prefix_append m u)
end

theorem whole_made {q : Nat} {l : List (List UInt8)} (h : Kn.Whole q l) : Kn.Whole q (made l) := by
  have e : ∀ p, Kn.Inner (made l) p ↔ Kn.Inner l p := fun p => ⟨fun ⟨w, h1, h2⟩ => ⟨w, mem_made.1 h1, h2⟩, fun ⟨w, h1, h2⟩ => ⟨w, mem_made.2 h1, h2⟩⟩
  intro p hp a ha
  rcases h p ((e p).1 hp) a ha with h1 | h1
  · exact .inl ((e _).2 h1)
  · exact .inr (mem_made.2 h1)
theorem missing_nil {q : Nat} {ws : List (List UInt8)} (h : Kn.Whole q ws) : missing q ws = [] := by
  refine List.eq_nil_iff_forall_not_mem.2 fun m hm => ?_
  obtain ⟨p, a, hp, ha, rfl, hb⟩ := mem_missing.1 hm
  have : begB ws (p ++ [Kn.ltr a]) = true := by
    rcases h p hp a ha with ⟨w, h1, h2, _⟩ | h1
    · exact begB_iff.2 ⟨w, h1, List.isPrefixOf_iff_prefix.1 h2⟩
    · exact begB_iff.2 ⟨_, h1, List.prefix_refl _⟩
  rw [hb] at this; cases this
end Go.Proofs.YtaphjgjhpmmkmaaGreat
end

section
namespace Go.Proofs.YtaphjgjhpmmkmaaGreat
open Go Go.AM
set_option maxRecDepth 100000
set_option maxHeartbeats 4000000
set_option linter.unusedSimpArgs false

theorem emb_code {q : Int} {ws : List (List UInt8)} {n : Nat} (hv : Valid q ws) (hp : prefB ws = true) (hn : n ≤ 32) :
    (made (ws ++ embL q.toNat ws n)).length = ws.length + (embL q.toNat ws n).length ∧ prefB (made (ws ++ embL q.toNat ws n)) = true ∧ Kn.taken q.toNat [] (made (ws ++ embL q.toNat ws n)) = q.toNat ^ 32 ∧
    missing q.toNat (made (ws ++ embL q.toNat ws n)) = [] ∧ ((made (ws ++ embL q.toNat ws n)).length ≤ 64 → codeCheck q (made (ws ++ embL q.toNat ws n)) = 0) ∧
    (64 < (made (ws ++ embL q.toNat ws n)).length → codeCheck q (made (ws ++ embL q.toNat ws n)) = 4) := by
  have hc := pcode_of hv hp
  have hD := all_pcode hc hn
  have hw := whole_made (all_whole hc (n := n))
  have hl := made_len (all_nodup hc (n := n))
  have h2 := hv.q2
  have h16 := hv.q16
  have hq : ((q.toNat : Nat) : Int) = q := by omega
  have hmem : ∀ x ∈ made (ws ++ embL q.toNat ws n), x ≠ [] := fun x hx => by
    rcases List.mem_append.1 (mem_made.1 hx) with h | h
    · exact (hv.words x h).1
    · obtain ⟨m, u, hm, rfl, _, _⟩ := mem_embL.1 h
      have := (miss_short hc hm).2.1
      simp [this]
  have hne : made (ws ++ embL q.toNat ws n) ≠ [] := fun e => by
    have : ws[0]'hv.pos ∈ made (ws ++ embL q.toNat ws n) := mem_made.2 (List.mem_append_left _ (List.getElem_mem _))
    rw [e] at this; cases this
  have hin : Kn.Inner (made (ws ++ embL q.toNat ws n)) [] := by
    refine ⟨ws[0]'hv.pos, mem_made.2 (List.mem_append_left _ (List.getElem_mem _)), rfl, ?_⟩
    exact List.length_pos_iff.2 (hv.words _ (List.getElem_mem _)).1
  refine ⟨by rw [hl, List.length_append], pref_of (strict_nodup (made_strict _)) hD.free, (hD.one_iff hin).2 hw, missing_nil hw, fun h64 => ?_, fun h64 => ?_⟩
  · refine check_of h2 h16 hne h64 (fun x hx => ⟨hmem x hx, hD.short x hx, ?_⟩) (made_strict _)
    have := word_of (q := q.toNat) (w := x) (by omega) (by omega) (by have := hD.short x hx; omega) (hD.alph x hx)
    rwa [hq] at this
  · exact codeCheck_4 (by omega) (fun e => hne (List.length_eq_zero_iff.1 e)) h64

theorem chE_ok {q : Int} {ws : List (List UInt8)} (h1 : codeCheck q ws = 0) (h2 : prefB ws = true) : chE q ws = 0 := by
  unfold chE
  rw [if_pos h1, if_pos (show preP ws = true from h2)]
theorem missV_nil {q : Int} {D : List (List UInt8)} (hc : chE q D = 0) (h : missing q.toNat D = []) : missV q D = [] := by unfold missV; rw [if_pos hc, h]
end Go.Proofs.YtaphjgjhpmmkmaaGreat
end

section
namespace Go.Proofs.YtaphjgjhpmmkmaaGreat
open Go Go.AM
set_option maxRecDepth 100000
set_option linter.unusedSimpArgs false

end Go.Proofs.YtaphjgjhpmmkmaaGreat
end

section
namespace Go.Proofs.YtaphjgjhpmmkmaaGreat
open Go Go.AM
set_option linter.unusedSimpArgs false

theorem nodup_at {α : Type} {l : List α} (hd : l.Nodup) {i j : Nat} (hi : i < l.length) (hj : j < l.length) (h : l[i] = l[j]) : i = j := by
  rcases Nat.lt_trichotomy i j with g | g | g
  · exact absurd h (List.pairwise_iff_getElem.1 hd i j hi hj g)
  · exact g
  · exact absurd h.symm (List.pairwise_iff_getElem.1 hd j i hj hi g)
/-! Maps whose values follow from the keys. -/
def entF (f : List UInt8 → PV) (k : List UInt8) : List UInt8 × PV := (k, f k)
theorem midxF (f : List UInt8 → PV) (k : List UInt8) : ∀ ks : List (List UInt8), (k ∉ ks → midx k (ks.map (entF f)) = none) ∧ (k ∈ ks → ∃ j, midx k (ks.map (entF f)) = some j ∧ ∃ h : j < ks.length, ks[j] = k)
  | [] => ⟨fun _ => rfl, fun h => by cases h⟩
  | a :: ks => by
    obtain ⟨h1, h2⟩ := midxF f k ks
    constructor
    · intro h
      simp only [List.mem_cons, not_or] at h
      rw [List.map_cons]; unfold midx; rw [if_neg (show ¬ k = (entF f a).1 from h.1)]
      rw [h1 h.2]; rfl
    · intro h
      by_cases e : k = a
      · exact ⟨0, by simp [midx, entF, e], by simp, e.symm⟩
      · simp only [List.mem_cons, e, false_or] at h
        obtain ⟨j, h3, h4, h5⟩ := h2 h
        refine ⟨j + 1, ?_, by simpa using h4, by simpa using h5⟩
        rw [List.map_cons]; unfold midx; rw [if_neg (show ¬ k = (entF f a).1 from e)]
        rw [h3]; rfl
theorem mgetF (f : List UInt8 → PV) (k : List UInt8) (ks : List (List UInt8)) : mget k (ks.map (entF f)) = if k ∈ ks then some (f k) else none := by
  unfold mget
  by_cases h : k ∈ ks
  · obtain ⟨j, h1, h2, h3⟩ := (midxF f k ks).2 h
    rw [h1, if_pos h]
    simp only [Option.map_some, List.getD_eq_getElem?_getD, List.getElem?_map, List.getElem?_eq_getElem h2, Option.map_some, Option.getD_some, entF, h3]
  · rw [(midxF f k ks).1 h, if_neg h]; rfl
theorem msetF_new {f : List UInt8 → PV} {k : List UInt8} {ks : List (List UInt8)} {v : PV} (h : k ∉ ks) (hv : v = f k) : mset k v (ks.map (entF f)) = (ks ++ [k]).map (entF f) := by
  unfold mset
  rw [(midxF f k ks).1 h, hv]; simp [entF]
theorem msetF_old {f g : List UInt8 → PV} {k : List UInt8} {ks : List (List UInt8)} (hd : ks.Nodup) (h : k ∈ ks) (hg : ∀ x ∈ ks, x ≠ k → g x = f x) : mset k (g k) (ks.map (entF f)) = ks.map (entF g) := by
  unfold mset
  obtain ⟨j, h1, h2, h3⟩ := (midxF f k ks).2 h
  rw [h1]
  apply List.ext_getElem (by simp)
  intro i hi hi2
  simp only [List.length_map] at hi2
  simp only [List.getElem_set, List.getElem_map]
  by_cases e : j = i
  · subst e; rw [if_pos rfl, h3]; rfl
  · rw [if_neg e]
    unfold entF
    rw [hg _ (List.getElem_mem hi2) (fun e2 => e (nodup_at hd h2 hi2 (h3.trans e2.symm)))]

/-! Words, each once, in the order of their coming. -/
def addK (ks : List (List UInt8)) (k : List UInt8) : List (List UInt8) := if k ∈ ks then ks else ks ++ [k]
def keysOf (l : List (List UInt8)) : List (List UInt8) := l.foldl addK []
theorem keysOf_snoc (l : List (List UInt8)) (k : List UInt8) : keysOf (l ++ [k]) = addK (keysOf l) k := by unfold keysOf; rw [List.foldl_append]; rfl
theorem keysOf_all : ∀ l : List (List UInt8), (∀ k, k ∈ keysOf l ↔ k ∈ l) ∧ (keysOf l).Nodup ∧ (keysOf l).length ≤ l.length := by
  intro l
  induction hn : l.length generalizing l with
  | zero =>
    have : l = [] := List.length_eq_zero_iff.1 hn
    subst this; simp [keysOf]
  | succ n ih =>
    obtain ⟨m, x, rfl⟩ : ∃ m x, l = m ++ [x] := by
      refine ⟨l.dropLast, l.getLast (fun e => by rw [e] at hn; cases hn), (List.dropLast_concat_getLast _).symm⟩
    simp only [List.length_append, List.length_singleton, Nat.add_right_cancel_iff] at hn
    obtain ⟨h1, h2, h3⟩ := ih m hn
    rw [keysOf_snoc]
    unfold addK
    by_cases hx : x ∈ keysOf m
    · rw [if_pos hx]
      refine ⟨fun k => ?_, h2, by omega⟩
      rw [List.mem_append, h1 k, List.mem_singleton]
      exact ⟨.inl, fun h => h.elim id fun e => by subst e; exact (h1 _).1 hx⟩
    · rw [if_neg hx]
      refine ⟨fun k => ?_, ?_, by simp only [List.length_append, List.length_singleton]; omega⟩
      · simp only [List.mem_append, h1 k, List.mem_singleton]
      · rw [List.nodup_append]
        exact ⟨h2, by simp, fun a ha b hb e => by
          rw [List.mem_singleton] at hb; subst hb; subst e; exact hx ha⟩
theorem mem_keysOf {l : List (List UInt8)} {k : List UInt8} : k ∈ keysOf l ↔ k ∈ l := (keysOf_all l).1 k
theorem keysOf_nodup (l : List (List UInt8)) : (keysOf l).Nodup := (keysOf_all l).2.1
theorem keysOf_len (l : List (List UInt8)) : (keysOf l).length ≤ l.length := (keysOf_all l).2.2
theorem keysOf_old {l : List (List UInt8)} {k : List UInt8} (h : k ∈ l) : keysOf (l ++ [k]) = keysOf l := by
  rw [keysOf_snoc]; unfold addK; rw [if_pos (mem_keysOf.2 h)]
theorem keysOf_new {l : List (List UInt8)} {k : List UInt8} (h : k ∉ l) : keysOf (l ++ [k]) = keysOf l ++ [k] := by
  rw [keysOf_snoc]; unfold addK; rw [if_neg (fun e => h (mem_keysOf.1 e))]
theorem sort_keys (l : List (List UInt8)) : sortW (keysOf l) = made l :=
  strict_unique (sortW_strict (keysOf_nodup l)) (made_strict l) fun x => by rw [mem_sortW, mem_keysOf, mem_made]

/-! Proper beginnings. -/
def inits (w : List UInt8) (n : Nat) : List (List UInt8) := (List.range n).map fun j => w.take j
theorem inits_succ (w : List UInt8) (n : Nat) : inits w (n + 1) = inits w n ++ [w.take n] := by unfold inits; rw [List.range_succ, List.map_append]; rfl
theorem inits_len (w : List UInt8) (n : Nat) : (inits w n).length = n := by simp [inits]
def propers (ws : List (List UInt8)) : List (List UInt8) := ws.flatMap fun w => inits w w.length
theorem propers_snoc (ws : List (List UInt8)) (w : List UInt8) : propers (ws ++ [w]) = propers ws ++ inits w w.length := by
  unfold propers; rw [List.flatMap_append]; simp
theorem mem_propers {ws : List (List UInt8)} {x : List UInt8} : x ∈ propers ws ↔ ∃ w ∈ ws, x <+: w ∧ x.length < w.length := by
  unfold propers inits
  simp only [List.mem_flatMap, List.mem_map, List.mem_range]
  constructor
  · rintro ⟨w, hw, j, hj, rfl⟩
    exact ⟨w, hw, List.take_prefix _ _, by rw [List.length_take]; omega⟩
  · rintro ⟨w, hw, hp, hl⟩
    exact ⟨w, hw, x.length, hl, (List.prefix_iff_eq_take.1 hp).symm⟩
theorem propers_len {ws : List (List UInt8)} {m : Nat} (h : ∀ w ∈ ws, w.length ≤ m) : (propers ws).length ≤ ws.length * m := by
  unfold propers
  induction ws with
  | nil => simp
  | cons w ws ih =>
    rw [List.flatMap_cons, List.length_append, inits_len, List.length_cons, Nat.add_mul, Nat.one_mul]
    have h1 := h w (by simp)
    have h2 := ih (fun x hx => h x (by simp [hx]))
    omega
def prefs (ws : List (List UInt8)) : List (List UInt8) := made (propers ws)
theorem mem_prefs {ws : List (List UInt8)} {x : List UInt8} : x ∈ prefs ws ↔ ∃ w ∈ ws, x <+: w ∧ x.length < w.length := mem_made.trans mem_propers
theorem prefs_strict (ws : List (List UInt8)) : (prefs ws).Pairwise ltW := made_strict _
theorem prefs_nodup (ws : List (List UInt8)) : (prefs ws).Nodup := strict_nodup (prefs_strict ws)

/-! Places. -/
def ixN {α : Type} [DecidableEq α] (w : α) : List α → Nat
  | [] => 0
  | x :: l => if x = w then 0 else ixN w l + 1
def ixW {α : Type} [DecidableEq α] (ws : List α) (w : α) : Int := if w ∈ ws then (ixN w ws : Int) else -1
theorem ixN_at {α : Type} [DecidableEq α] {w : α} : ∀ {l : List α} {k : Nat} (hk : k < l.length), (∀ j (hj : j < k), l[j] ≠ w) → l[k] = w → ixN w l = k
  | x :: l, 0, _, _, h => by unfold ixN; rw [if_pos (show x = w from h)]
  | x :: l, k + 1, hk, h0, h => by
    unfold ixN
    rw [if_neg (show ¬ x = w from h0 0 (by omega)), ixN_at (k := k) (by simpa using hk) (fun j hj => h0 (j + 1) (by omega)) h]
theorem ixN_get {α : Type} [DecidableEq α] {w : α} : ∀ {l : List α}, w ∈ l → ∃ h : ixN w l < l.length, l[ixN w l] = w
  | x :: l, h => by
    by_cases e : x = w
    · have : ixN w (x :: l) = 0 := by unfold ixN; rw [if_pos e]
      refine ⟨by rw [this]; simp, ?_⟩
      simp only [this, List.getElem_cons_zero]; exact e
    · have h' : w ∈ l := (List.mem_cons.1 h).elim (fun e2 => absurd e2.symm e) id
      obtain ⟨h1, h2⟩ := ixN_get h'
      have : ixN w (x :: l) = ixN w l + 1 := by
        show (if x = w then 0 else ixN w l + 1) = _
        rw [if_neg e]
      refine ⟨by rw [this, List.length_cons]; omega, ?_⟩
      simp only [this, List.getElem_cons_succ]; exact h2
theorem ixN_nodup {α : Type} [DecidableEq α] {l : List α} (hd : l.Nodup) {k : Nat} (hk : k < l.length) : ixN l[k] l = k :=
  ixN_at hk (fun j hj e => by have := nodup_at hd (by omega) hk e; omega) rfl
theorem ixW_in {α : Type} [DecidableEq α] {ws : List α} {w : α} (h : w ∈ ws) : ixW ws w = (ixN w ws : Int) := by unfold ixW; rw [if_pos h]
theorem ixW_no {α : Type} [DecidableEq α] {ws : List α} {w : α} (h : w ∉ ws) : ixW ws w = -1 := by unfold ixW; rw [if_neg h]
theorem ixW_ge {α : Type} [DecidableEq α] {ws : List α} {w : α} : 0 ≤ ixW ws w ↔ w ∈ ws := by
  unfold ixW; split
  · rename_i h; exact ⟨fun _ => h, fun _ => by omega⟩
  · rename_i h; exact ⟨fun h2 => by omega, fun h2 => absurd h2 h⟩
theorem ixW_lt {α : Type} [DecidableEq α] (ws : List α) (w : α) : ixW ws w < ws.length ∨ ws.length = 0 := by
  unfold ixW; split
  · rename_i h; obtain ⟨h1, _⟩ := ixN_get h; exact .inl (by omega)
  · omega

/-! Parsers as values. -/
def slI (l : List Int) : PV := .sl (l.map (.int .i64))
def psV (q : Int) (P : List (List UInt8)) (N E : List (List Int)) : PV := .agg [.int .i64 q, .sl (P.map .str), .sl (N.map slI), .sl (E.map slI)]
def nextN (ws P : List (List UInt8)) (w : List UInt8) : Int := if w ∈ ws then 0 else ixW P w
def stepW (x : List UInt8) (a : Nat) : List UInt8 := x ++ [L16.getD a 0]
def nxL (q : Nat) (ws P : List (List UInt8)) (x : List UInt8) : List Int := (List.range q).map fun a => nextN ws P (stepW x a)
def emL (q : Nat) (ws : List (List UInt8)) (x : List UInt8) : List Int := (List.range q).map fun a => ixW ws (stepW x a)
def nxP (q : Int) (ws : List (List UInt8)) : List (List Int) := (prefs ws).map (nxL q.toNat ws (prefs ws))
def emP (q : Int) (ws : List (List UInt8)) : List (List Int) := (prefs ws).map (emL q.toNat ws)
def parV (q : Int) (ws : List (List UInt8)) : PV := psV q (prefs ws) (nxP q ws) (emP q ws)
end Go.Proofs.YtaphjgjhpmmkmaaGreat
end

section
namespace Go.Proofs.YtaphjgjhpmmkmaaGreat
open Go Go.AM
set_option maxRecDepth 100000
set_option linter.unusedSimpArgs false

theorem notin_of {α : Type} {ws : List α} {w : α} {k : Nat} (hk : ws.length ≤ k) (h0 : ∀ j (hj : j < ws.length), j < k → ws[j] ≠ w) : w ∉ ws := fun h => by
  obtain ⟨j, hj, e⟩ := List.getElem_of_mem h
  exact h0 j hj (by omega) e
theorem ixW_at {α : Type} [DecidableEq α] {ws : List α} {k : Nat} (hk : k < ws.length) {w : α} (h0 : ∀ j (hj : j < ws.length), j < k → ws[j] ≠ w) (h : ws[k] = w) : (k : Int) = ixW ws w := by
  rw [ixW_in (h ▸ List.getElem_mem hk), ixN_at hk (fun j hj => h0 j (by omega) hj) h]
theorem none_step {α : Type} {ws : List α} {k : Nat} (hk : k < ws.length) {w : α} (h0 : ∀ j (hj : j < ws.length), j < k → ws[j] ≠ w) (h : ¬ ws[k] = w) : ∀ j (hj : j < ws.length), j < k + 1 → ws[j] ≠ w := fun j hj hjk => by
  by_cases e : j = k
  · subst e; exact h
  · exact h0 j hj (by omega)

theorem p60 (ws : List (List UInt8)) (w : List UInt8) (hl : ws.length ≤ 1000000) : PFn Tryz.prog 45 [.sl (ws.map .str), .str w] [.int .i64 (ixW ws w)] := by
  refine PFn.of_body hΓ Tryz.func45 (by kernel_rfl) rfl (AWp.seq (AWp.of_awpD [] hΓ hmix (by kernel_rfl) ?_))
  simp -implicitDefEqProofs only [Tryz.ntmps45, Tryz.results45, Nat.reduceAdd, Nat.reduceSub, go_sem]
  refine AWp.of_awpD [] hΓ hmix (by kernel_rfl) ?_
  simp -implicitDefEqProofs only [List.length_map, go_sem]
  refine AWp.loopI (fun k : Nat => ⟨mkF 19 [(0, .p (.sl (ws.map .str))), (1, .p (.str w)), (7, .p (.int .i64 ws.length)), (8, .p (.int .i64 k))], []⟩)
    (fun k => k ≤ ws.length ∧ ∀ j (hj : j < ws.length), j < k → ws[j] ≠ w) (fun k => ws.length - k) 0 (by simp [go_sem]) (by simp) ?_
  rintro k ⟨hk, h0⟩
  simp -implicitDefEqProofs only [go_sem]
  refine AWp.of_awpD [] hΓ hmix (by kernel_rfl) ?_
  by_cases hlt : k < ws.length
  · by_cases he : ws[k] = w
    · simp -implicitDefEqProofs only [hlt, getD_map_lt, ↓reduceIte, List.length_map, he, go_sem]
      exact ixW_at hlt h0 he
    · have he2 : ¬ w = ws[k] := fun e => he e.symm
      simp -implicitDefEqProofs only [hlt, getD_map_lt, ↓reduceIte, List.length_map, he2, go_sem]
      exact ⟨by simp only [InR]; omega, k + 1, by simp, ⟨hlt, none_step hlt h0 he⟩, by omega⟩
  · have hz : ¬ (k : Int) < ws.length := by omega
    simp -implicitDefEqProofs only [hz, hlt, go_sem]
    exact (ixW_no (notin_of (by omega) h0)).symm

end Go.Proofs.YtaphjgjhpmmkmaaGreat
end

section
namespace Go.Proofs.YtaphjgjhpmmkmaaGreat
open Go Go.AM Go.RowKit
set_option maxRecDepth 100000
set_option linter.unusedSimpArgs false

theorem k93 (x : ByteArray) (w : World) : Calls Tryz.prog 110 #[.string x] w fun e w' => e = .returned (.bool false) ∧ w' = w := by
  go_enter Tryz.func110, Tryz.ntmps110
  go_wp2
  go_ret
  exact ⟨by simp, rfl⟩

theorem cmp_lt {a b : ByteArray} (h : Op.bytesLess a.data.toList b.data.toList = true) : (-1 : Int) = cmpB a.data.toList b.data.toList := by
  unfold cmpB; rw [bLt_eq, h]
theorem cmp_gt {a b : ByteArray} (h : Op.bytesLess a.data.toList b.data.toList = false) (h2 : (!decide (a.data = b.data)) = true) : (1 : Int) = cmpB a.data.toList b.data.toList := by
  have : bEq a.data.toList b.data.toList = false := by
    rw [bEq_eq]
    simp at h2 ⊢
    exact h2
  unfold cmpB; rw [bLt_eq, h, this]
theorem cmp_eq {a b : ByteArray} (h : Op.bytesLess a.data.toList b.data.toList = false) (h2 : (!decide (a.data = b.data)) = false) : (0 : Int) = cmpB a.data.toList b.data.toList := by
  have : bEq a.data.toList b.data.toList = true := by
    rw [bEq_eq]
    simp at h2 ⊢
    exact h2
  unfold cmpB; rw [bLt_eq, h, this]

theorem k76 (a b : ByteArray) (w : World) : Calls Tryz.prog 78 #[.string a, .string b] w fun e w' => e = .returned (.int .i64 (cmpB a.data.toList b.data.toList)) ∧ w' = w := by
  have hc := k93
  have eg : binOp .gtr 9 (.string a) (.string b) = pure (.bool (!(Op.bytesLess a.data.toList b.data.toList || decide (a.data.toList = b.data.toList)))) := by
    rw [show binOp .gtr 9 (.string a) (.string b) = Op.stringOp .gtr a b from rfl]
    simp only [Op.stringOp, ByteArray.toList_eq, lbeq]
  have eF : ByteArray.toList a = a.data.toList := ByteArray.toList_eq a
  have eG : ByteArray.toList b = b.data.toList := ByteArray.toList_eq b
  go_enter Tryz.func78, Tryz.ntmps78
  go_wp2_with (go_at_call 110; refine (hc _ _).mono ?_; rintro e w' ⟨rfl, rfl⟩)
  all_goals go_ret
  · exact ⟨congrArg (fun n => Ending.returned (Value.int .i64 n)) (cmp_lt ‹_›), rfl⟩
  · exact ⟨congrArg (fun n => Ending.returned (Value.int .i64 n)) (cmp_gt ‹_› ‹_›), rfl⟩
  · exact ⟨congrArg (fun n => Ending.returned (Value.int .i64 n)) (cmp_eq ‹_› ‹_›), rfl⟩

theorem k73 (a b : ByteArray) (w : World) : Calls Tryz.prog 77 #[.string a, .string b] w fun e w' => e = .returned (.int .i64 (cmpK a.data.toList b.data.toList)) ∧ ∃ q os, w' = Sort.grow (w.drewN q) os := by
  have hc1 := k103
  have hc2 := k76
  have hc3 := k102
  go_enter Tryz.func77, Tryz.ntmps77
  go_wp2_with (first | (go_at_call 58; refine (hc1 _ _ _).mono ?_; rintro e w' ⟨rfl, rfl⟩) | (go_at_call 78; refine (hc2 _ _ _).mono ?_; rintro e w' ⟨rfl, rfl⟩) | (go_at_call 74; refine (hc3 _ _ _ _ _ (newCells _ _ _ _ _ rfl) (newCells _ _ _ _ _ rfl)).mono ?_; rintro e w' ⟨rfl, rfl⟩))
  all_goals go_ret
  all_goals have e1 : ∀ x : ByteArray, x.data.toList.length = x.size := fun x => by simp
  · refine ⟨congrArg (fun n => Ending.returned (Value.int .i64 n)) ?_, 0, #[_], by rw [Sort.alloc_eq_grow]; rfl⟩
    have hs : a.size = b.size := by
      rcases Nat.lt_trichotomy a.size b.size with g | g | g
      · rw [if_pos g] at h; cases h
      · exact g
      · rw [if_neg (by omega), if_pos g] at h; cases h
    unfold cmpK
    simp only [e1, hs]
    rw [if_pos (by simp), cmpB_eq]
  · refine ⟨congrArg (fun n => Ending.returned (Value.int .i64 n)) ?_, 0, #[_], by rw [Sort.alloc_eq_grow]; rfl⟩
    unfold cmpK
    simp only [e1]
    rw [if_pos (show (a.size : Int) < b.size by omega)]; rfl
  · refine ⟨congrArg (fun n => Ending.returned (Value.int .i64 n)) ?_, 0, #[_], by rw [Sort.alloc_eq_grow]; rfl⟩
    unfold cmpK
    simp only [e1]
    rw [if_neg (show ¬ (a.size : Int) < b.size by omega), if_pos (show (b.size : Int) < a.size by omega)]; rfl
theorem sort_calls73 (d : List (List UInt8)) (blk off cap : Nat) (w : World) (hH : Sort.Holds encW w blk off d.toArray) (hblk : blk < w.heap.size) (hsz : d.length < 4611686018427387904) :
    Calls Tryz.prog 68 #[.slice (some ⟨blk, off, none⟩) d.length cap, .func (.func 77) #[] #[]] w fun e w' => e = .returned (.tuple #[]) ∧ ∃ n os, w' = sortWorld encW w blk off n (sortW d).toArray os := by
  have eg : ∀ args w, (callFunc 77 args).run Tryz.prog w = .ok (.enter 77 args) w := entersF_of Tryz.func77 (by kernel_rfl) rfl
  have hcmp : CmpLays1 Tryz.prog 77 #[] encW cmpK blk off d.toArray.size w := fun m os dk _ x y => k73 ⟨x.toArray⟩ ⟨y.toArray⟩ _
  have h := Any.slices_SortFunc_total Tryz.sortS encW (fun _ => rfl) cmpK swoW 77 #[] blk off cap d.toArray w eg hcmp hH hblk (by simpa using hsz) (fun x y h1 h2 => ltW_total ((ltOf_false x y).1 h1) ((ltOf_false y x).1 h2))
  exact h
theorem c72b {h : List AObj} {b : Nat} (l : List (List UInt8)) (hb : h[b]? = some (.row 9 1 (l.map .str) .own)) (hsz : l.length ≤ 1000000) :
    AC Tryz.prog 68 [.own b l.length, .fn 77 []] h [] (fun v h' => v = .tup [] ∧ h' = h.set b (.row 9 1 ((sortW l).map .str) .own)) := c83_of sort_calls73 l hb hsz
end Go.Proofs.YtaphjgjhpmmkmaaGreat
end

section
namespace Go.Proofs.YtaphjgjhpmmkmaaGreat
open Go Go.AM
set_option maxRecDepth 100000
set_option linter.unusedSimpArgs false

def zi (_ : List UInt8) : PV := .int .i64 0
def pk {α : Type} (path : List α) : RK := if path.isEmpty then .lax else .own
theorem pk_snoc {α : Type} (path : List α) (k : α) : pk (path ++ [k]) = .own := by simp [pk]
theorem pk_raw {α : Type} (path : List α) : pk path ≠ .raw := by unfold pk; split <;> simp
theorem pk_own {α : Type} {path : List α} (h : path ≠ []) : pk path = .own := by
  unfold pk; rw [if_neg]; simpa using h
def buH (q : Int) (ws L : List (List UInt8)) : List AObj :=
  [codeB q ws, .box [.p (.int .i64 0), .full [], .full [], .full []], .mp ((keysOf L).map (entF zi)), .box [.p (.int .i64 q), .own 4 (keysOf L).length, .full [], .full []], .row 9 1 ((keysOf L).map .str) (pk (keysOf L))]

theorem mgetZ (k : List UInt8) (L : List (List UInt8)) : (mget k ((keysOf L).map (entF zi))).isSome = decide (k ∈ L) := by
  rw [mgetF]
  by_cases h : k ∈ L
  · rw [if_pos (mem_keysOf.2 h), decide_eq_true h]; rfl
  · rw [if_neg (fun e => h (mem_keysOf.1 e)), decide_eq_false h]; rfl

def fN (P : List (List UInt8)) (i : Nat) (x : List UInt8) : PV := .int .i64 (if ixN x P < i then (ixN x P : Int) else 0)
theorem fN_zero (P : List (List UInt8)) : entF (fN P 0) = entF zi := by
  funext x; simp [entF, fN, zi]
theorem fN_set {K P : List (List UInt8)} (hK : K.Nodup) (hP : P.Nodup) (hm : ∀ x, x ∈ K ↔ x ∈ P) {i : Nat} (hi : i < P.length) : mset P[i] (.int .i64 i) (K.map (entF (fN P i))) = K.map (entF (fN P (i + 1))) := by
  have h1 := ixN_nodup hP hi
  have h2 : fN P (i + 1) P[i] = .int .i64 i := by unfold fN; rw [h1, if_pos (by omega)]
  rw [← h2]
  refine msetF_old hK ((hm _).2 (List.getElem_mem hi)) fun x hx hne => ?_
  obtain ⟨g1, g2⟩ := ixN_get ((hm x).1 hx)
  have : ixN x P ≠ i := fun e => hne (by rw [← g2]; simp only [e])
  unfold fN
  by_cases h : ixN x P < i
  · rw [if_pos h, if_pos (by omega)]
  · rw [if_neg h, if_neg (by omega)]
theorem fN_get {K P : List (List UInt8)} (hm : ∀ x, x ∈ K ↔ x ∈ P) (w : List UInt8) : mget w (K.map (entF (fN P P.length))) = if w ∈ P then some (.int .i64 (ixN w P)) else none := by
  rw [mgetF]
  by_cases h : w ∈ P
  · rw [if_pos ((hm w).2 h), if_pos h]
    unfold fN
    rw [if_pos (ixN_get h).1]
  · rw [if_neg (fun e => h ((hm w).1 e)), if_neg h]

def rngV (q j : Nat) (f : Nat → Int) : List PV := (List.range q).map fun a => .int .i64 (if a < j then f a else 0)
theorem rngV_len (q j : Nat) (f : Nat → Int) : (rngV q j f).length = q := by simp [rngV]
theorem rngV_zero (q : Nat) (f : Nat → Int) : List.replicate q (PV.int .i64 0) = rngV q 0 f := by
  unfold rngV
  apply List.ext_getElem (by simp)
  intro i h1 h2; simp
theorem rngV_set {q j : Nat} (f : Nat → Int) : (rngV q j f).set j (.int .i64 (f j)) = rngV q (j + 1) f := by
  unfold rngV
  apply List.ext_getElem (by simp)
  intro i h1 h2
  simp only [List.getElem_set, List.getElem_map, List.getElem_range]
  by_cases e : j = i
  · subst e; rw [if_pos rfl, if_pos (by omega)]
  · rw [if_neg e]
    by_cases h : i < j
    · rw [if_pos h, if_pos (by omega)]
    · rw [if_neg h, if_neg (by omega)]
theorem rngV_all (q : Nat) (f : Nat → Int) : rngV q q f = ((List.range q).map f).map (.int .i64) := by
  unfold rngV
  rw [List.map_map]
  apply List.map_congr_left
  intro a ha
  rw [if_pos (List.mem_range.1 ha)]; rfl

def buI (qn : Nat) (ws P K : List (List UInt8)) (x : List UInt8) (i j : Nat) : List AObj :=
  [codeB qn ws, .box [.p (.int .i64 0), .full [], .full [], .full []], .mp (K.map (entF (fN P P.length))), .box [.p (.int .i64 qn), .p (.sl (P.map .str)), .own 4 i, .own 5 i],
   .row 55 1 ((P.take i).map fun x => slI (nxL qn ws P x)) .lax, .row 55 1 ((P.take i).map fun x => slI (emL qn ws x)) .lax,
   .row 3 1 (rngV qn j fun a => nextN ws P (stepW x a)) .own, .row 3 1 (rngV qn j fun a => ixW ws (stepW x a)) .own]
theorem lett_at {j : Nat} (hj : j < 16) : List.take (((j : Int) + 1).toNat - j) (List.drop j [48, 49, 50, 51, 52, 53, 54, 55, 56, 57, 97, 98, 99, 100, 101, 102]) = [L16.getD j 0] := by
  rw [show ((j : Int) + 1).toNat - j = 1 by omega]
  have : ∀ j, j < 16 → List.take 1 (List.drop j ([48, 49, 50, 51, 52, 53, 54, 55, 56, 57, 97, 98, 99, 100, 101, 102] : List UInt8)) = [L16.getD j 0] := by decide
  exact this j hj
theorem step_eq (x : List UInt8) (j : Nat) : x ++ [L16.getD j 0] = stepW x j := rfl
theorem two_and {p p' q q' A B : Prop} (hp : p) (hp' : p') (hq : q) (hq' : q') (h : A ∧ B) : (p ∧ p' ∧ A) ∧ (q ∧ q' ∧ B) := ⟨⟨hp, hp', h.1⟩, hq, hq', h.2⟩
def buG (qn : Nat) (ws P K : List (List UInt8)) (i : Nat) : List AObj :=
  [codeB qn ws, .box [.p (.int .i64 0), .full [], .full [], .full []], .mp (K.map (entF (fN P P.length))), .box [.p (.int .i64 qn), .p (.sl (P.map .str)), .own 4 i, .own 5 i],
   .row 55 1 ((P.take i).map fun x => slI (nxL qn ws P x)) .lax, .row 55 1 ((P.take i).map fun x => slI (emL qn ws x)) .lax]

set_option maxHeartbeats 2000000 in
theorem p45 {q : Int} {ws : List (List UInt8)} (hv : Valid q ws) : PFn Tryz.prog 44 [codeV q ws] [parV q ws] := by
  have hq2 := hv.q2
  have hq16 := hv.q16
  obtain ⟨qn, rfl⟩ := Int.eq_ofNat_of_zero_le (show 0 ≤ q by omega)
  have hlen := hv.len
  have hw32 : ∀ x ∈ ws, x.length ≤ 32 := fun x hx => (hv.words x hx).2.1
  have hpl := propers_len hw32
  refine PFn.of_body hΓ Tryz.func44 (by kernel_rfl) rfl (AWp.seq (AWp.of_awpD [] hΓ hmix (by kernel_rfl) ?_))
  simp -implicitDefEqProofs only [Tryz.ntmps44, Tryz.results44, Nat.reduceAdd, Nat.reduceSub, codeV, go_sem]
  refine AWp.seq (AWp.of_awpD [] hΓ hmix (by kernel_rfl) ?_)
  simp -implicitDefEqProofs only [go_sem]
  refine AWp.seq (AWp.of_awpD [] hΓ hmix (by kernel_rfl) ?_)
  simp -implicitDefEqProofs only [go_sem]
  refine ⟨by omega, ?_⟩
  refine AWp.adoptCell (l := []) 3 1 9 1 rfl rfl (by simp) ?_
  simp -implicitDefEqProofs only [List.set_cons_zero, List.set_cons_succ, go_sem]
  refine AWp.seq (AWp.seq (AWp.of_awpD [] hΓ hmix (by kernel_rfl) ?_))
  simp -implicitDefEqProofs only [List.length_map, go_sem]
  refine AWp.block ?_
  refine AWp.mono (Q := fun e st => e = .exit 0 ∧ Weak st ⟨mkF 143 [(1, .ptr 0 0), (2, .ptr 1 0), (3, .map 2), (4, .ptr 3 0)], buH qn ws (propers ws)⟩) ?_ ?_
  · refine AWp.loopI (fun i : Nat => ⟨mkF 143 [(1, .ptr 0 0), (2, .ptr 1 0), (3, .map 2), (4, .ptr 3 0), (25, .p (.sl (ws.map .str))), (26, .p (.int .i64 ws.length)), (27, .p (.int .i64 i))], buH qn ws (propers (ws.take i))⟩)
      (fun i => i ≤ ws.length) (fun i => ws.length - i) 0 (by simp [go_sem, codeB, buH, propers, keysOf, pk]) (by simp) ?_
    intro i hi
    simp -implicitDefEqProofs only [buH, codeB, go_sem]
    refine AWp.of_awpD [] hΓ hmix (by kernel_rfl) ?_
    by_cases hlt : i < ws.length
    · have hwi := hw32 _ (List.getElem_mem hlt)
      have hpli := propers_len (ws := ws.take i) (m := 32) fun x hx => hw32 x (List.mem_of_mem_take hx)
      have htl : (ws.take i).length ≤ 64 := by rw [List.length_take]; omega
      simp -implicitDefEqProofs only [hlt, getD_map_lt, ↓reduceIte, go_sem]
      refine AWp.loopI (fun n : Nat => ⟨mkF 143 [(1, .ptr 0 0), (2, .ptr 1 0), (3, .map 2), (4, .ptr 3 0), (6, .p (.str ws[i])), (25, .p (.sl (ws.map .str))), (26, .p (.int .i64 ws.length)), (27, .p (.int .i64 i)), (32, .p (.int .i64 ws[i].length)), (33, .p (.int .i64 n))], buH qn ws (propers (ws.take i) ++ inits ws[i] n)⟩)
        (fun n => n ≤ ws[i].length) (fun n => ws[i].length - n) 0 (by simp [go_sem, codeB, buH, inits]) (by simp) ?_
      intro n hn
      simp -implicitDefEqProofs only [buH, codeB, go_sem]
      refine AWp.of_awpD [(12, 1000)] hΓ hmix (by kernel_rfl) ?_
      by_cases hlt2 : n < ws[i].length
      · have hL : propers (ws.take i) ++ inits ws[i] (n + 1) = (propers (ws.take i) ++ inits ws[i] n) ++ [ws[i].take n] := by rw [inits_succ, List.append_assoc]
        have hLl : (propers (ws.take i) ++ inits ws[i] n).length ≤ 2100 := by
          rw [List.length_append, inits_len]
          have : (ws.take i).length * 32 ≤ 64 * 32 := Nat.mul_le_mul_right _ htl
          omega
        generalize propers (ws.take i) ++ inits ws[i] n = L at hL hLl
        have hkl := keysOf_len L
        by_cases hm : ws[i].take n ∈ L
        · simp -implicitDefEqProofs only [hlt2, mgetZ, hm, go_sem]
          refine ⟨by omega, by simp only [InR]; omega, n + 1, ⟨by simp, ?_⟩, hlt2, by omega⟩
          rw [hL]
          unfold buH
          rw [keysOf_old hm]
          exact weakH_refl _
        · simp -implicitDefEqProofs only [hlt2, mgetZ, hm, go_sem]
          refine ⟨by omega, by omega, ?_⟩
          have hset : mset (ws[i].take n) (.int .i64 0) ((keysOf L).map (entF zi)) = (keysOf (L ++ [ws[i].take n])).map (entF zi) := by
            rw [keysOf_new hm]; exact msetF_new (fun e => hm (mem_keysOf.1 e)) rfl
          rw [hset]
          refine AWp.planL (.q 0 (.q 1 (.q 2 (.q 3 (.q 4 (.q 5 (.e 6 (.q 7 (.e 8 .fin .nil)) .nil))))))) hΓ hmix (by kernel_rfl) ?_
          simp -implicitDefEqProofs only [go_sem]
          refine ⟨by omega, ⟨by simp [sizeOK, PV.cells], by omega⟩, ⟨by simp [sizeOK, PV.cells], by simp [oneOK, PV.cells, PV.isAgg]⟩, ⟨pk_raw _, .inl (by omega), by omega, by omega⟩, by omega, by simp only [InR]; omega, n + 1, ⟨by simp, ?_⟩, hlt2, by omega⟩
          rw [hL]
          unfold buH
          rw [keysOf_new hm, pk_snoc]
          simp only [List.map_append, List.length_append, List.length_singleton, List.map_cons, List.map_nil, List.isEmpty_cons, Bool.false_eq_true, if_false]
          exact weakH_refl _
      · have hnl : n = ws[i].length := by omega
        have hL : propers (ws.take (i + 1)) = propers (ws.take i) ++ inits ws[i] ws[i].length := by rw [List.take_succ_eq_append_getElem hlt, propers_snoc]
        rw [hnl, ← hL]
        simp -implicitDefEqProofs only [Nat.lt_irrefl, ↓reduceIte, go_sem]
        exact ⟨by simp only [InR]; omega, i + 1, ⟨by simp, weakH_refl _⟩, hlt, by omega⟩
    · have hil : i = ws.length := by omega
      rw [hil, List.take_length]
      simp -implicitDefEqProofs only [Nat.lt_irrefl, go_sem]
      exact weakH_refl _
  rintro e st ⟨rfl, hw⟩
  show AWp _ _ _ _ _
  refine AWp.weak hw ?_
  clear hw
  have hne : keysOf (propers ws) ≠ [] := fun e => by
    have hp := hv.pos
    have : ([] : List UInt8) ∈ keysOf (propers ws) := mem_keysOf.2 (mem_propers.2 ⟨ws[0], List.getElem_mem hp, List.nil_prefix, List.length_pos_iff.2 (hv.words _ (List.getElem_mem hp)).1⟩)
    rw [e] at this; cases this
  have hkl := keysOf_len (propers ws)
  have hsl : (keysOf (propers ws)).length = (prefs ws).length := by unfold prefs; rw [← sort_keys, sortW_length]
  have hmem : ∀ x, x ∈ keysOf (propers ws) ↔ x ∈ prefs ws := fun x => by unfold prefs; rw [mem_keysOf, mem_made]
  have hKd := keysOf_nodup (propers ws)
  have e72 := c72b (h := buH qn ws (propers ws)) (b := 4) (keysOf (propers ws)) (by unfold buH; rw [pk_own hne]; rfl) (by omega)
  rw [sort_keys, hsl] at e72
  have hPd := prefs_nodup ws
  change AC Tryz.prog 68 _ _ _ (fun v h' => v = .tup [] ∧ h' = (buH qn ws (propers ws)).set 4 (.row 9 1 ((prefs ws).map .str) .own)) at e72
  unfold buH at e72 ⊢
  rw [hsl] at e72 ⊢
  generalize keysOf (propers ws) = K at *
  generalize hP : prefs ws = P at *
  simp -implicitDefEqProofs only [codeB, go_sem]
  refine AWp.seq (AWp.of_awpD [] hΓ hmix (by kernel_rfl) ?_)
  simp -implicitDefEqProofs only [go_sem]
  refine callK_ac e72 (by simp) ?_
  rintro v h' ⟨rfl, rfl⟩
  clear e72
  simp -implicitDefEqProofs only [killAll, List.foldl, List.set_cons_zero, List.set_cons_succ, codeB, go_sem]
  refine AWp.freeze 4 rfl ?_
  simp -implicitDefEqProofs only [Frozen, AV.thaw, AObj.thaw, AV.thaw.thawL, List.map_cons, List.map_nil, List.set_cons_zero, List.set_cons_succ, go_sem]
  refine AWp.trimN 4 (by simp) (by simp [AV.blw, AV.blw.blwL]) (by simp [blwH, AObj.blw, AV.blw, AV.blw.blwL]) ?_
  simp -implicitDefEqProofs only [List.take_succ_cons, List.take_zero, go_sem]
  have hPl : P.length ≤ 2100 := by
    have : ws.length * 32 ≤ 64 * 32 := Nat.mul_le_mul_right _ hlen
    omega
  refine AWp.seq (AWp.seq (AWp.of_awpD [] hΓ hmix (by kernel_rfl) ?_))
  simp -implicitDefEqProofs only [List.length_map, go_sem]
  refine AWp.block ?_
  refine AWp.mono (Q := fun e st => e = .exit 4 ∧ Weak st ⟨mkF 143 [(1, .ptr 0 0), (2, .ptr 1 0), (3, .map 2), (4, .ptr 3 0)], [codeB qn ws, .box [.p (.int .i64 0), .full [], .full [], .full []], .mp (K.map (entF (fN P P.length))), .box [.p (.int .i64 qn), .p (.sl (P.map .str)), .full [], .full []]]⟩) ?_ ?_
  · refine AWp.loopI (fun i : Nat => ⟨mkF 143 [(1, .ptr 0 0), (2, .ptr 1 0), (3, .map 2), (4, .ptr 3 0), (64, .p (.sl (P.map .str))), (65, .p (.int .i64 P.length)), (66, .p (.int .i64 i))], [codeB qn ws, .box [.p (.int .i64 0), .full [], .full [], .full []], .mp (K.map (entF (fN P i))), .box [.p (.int .i64 qn), .p (.sl (P.map .str)), .full [], .full []]]⟩)
      (fun i => i ≤ P.length) (fun i => P.length - i) 0 (by simp [go_sem, codeB, fN_zero]) (by simp) ?_
    intro i hi
    simp -implicitDefEqProofs only [codeB, go_sem]
    refine AWp.of_awpD [] hΓ hmix (by kernel_rfl) ?_
    by_cases hlt : i < P.length
    · simp -implicitDefEqProofs only [hlt, getD_map_lt, ↓reduceIte, fN_set hKd hPd hmem hlt, go_sem]
      exact ⟨by simp only [InR]; omega, i + 1, ⟨by simp, .inr rfl, rfl⟩, hlt, by omega⟩
    · have hil : i = P.length := by omega
      rw [hil]
      simp -implicitDefEqProofs only [Nat.lt_irrefl, go_sem]
      exact .inr rfl
  rintro e st ⟨rfl, hw⟩
  show AWp _ _ _ _ _
  refine AWp.weak hw ?_
  clear hw
  simp -implicitDefEqProofs only [codeB, go_sem]
  refine AWp.adoptCell (l := []) 3 2 55 1 rfl rfl (by simp) ?_
  simp -implicitDefEqProofs only [List.set_cons_zero, List.set_cons_succ, go_sem]
  refine AWp.adoptCell (l := []) 3 3 55 1 rfl rfl (by simp) ?_
  simp -implicitDefEqProofs only [List.set_cons_zero, List.set_cons_succ, go_sem]
  refine AWp.seq (AWp.seq (AWp.of_awpD [] hΓ hmix (by kernel_rfl) ?_))
  simp -implicitDefEqProofs only [List.length_map, go_sem]
  refine AWp.block ?_
  refine AWp.mono (Q := fun e st => e = .exit 6 ∧ Weak st ⟨mkF 143 [(1, .ptr 0 0), (2, .ptr 1 0), (4, .ptr 3 0)], buG qn ws P K P.length⟩) ?_ ?_
  · refine AWp.loopI (fun i : Nat => ⟨mkF 143 [(1, .ptr 0 0), (2, .ptr 1 0), (3, .map 2), (4, .ptr 3 0), (76, .p (.sl (P.map .str))), (77, .p (.int .i64 P.length)), (78, .p (.int .i64 i))], buG qn ws P K i⟩)
      (fun i => i ≤ P.length) (fun i => P.length - i) 0 (by simp [go_sem, codeB, buG]) (by simp) ?_
    intro i hi
    simp -implicitDefEqProofs only [buG, codeB, go_sem]
    refine AWp.of_awpD [(24, 1000), (36, 1000)] hΓ hmix (by kernel_rfl) ?_
    by_cases hlt : i < P.length
    · simp -implicitDefEqProofs only [hlt, getD_map_lt, ↓reduceIte, go_sem]
      refine AWp.planL (.q 0 (.q 1 (.q 3 (.q 4 (.e 2 (.s 3 (.s 4 (.q 6 (.e 5 (.s 0 (.s 1 (.s 6 (.q 7 .fin)))) .nil)))) (.e 5 (.s 0 (.s 1 (.e 2 (.s 3 (.s 4 (.q 6 (.q 7 .fin)))) .nil))) .nil)))))) hΓ hmix (by kernel_rfl) ?_
      simp -implicitDefEqProofs only [go_sem]
      have hZ1 : (rngV qn 0 fun a => nextN ws P (stepW P[i] a)) = List.replicate qn (.int .i64 0) := (rngV_zero _ _).symm
      have hZ2 : (rngV qn 0 fun a => ixW ws (stepW P[i] a)) = List.replicate qn (.int .i64 0) := (rngV_zero _ _).symm
      refine two_and ⟨by omega, by omega⟩ ⟨by omega, by omega⟩ ⟨by omega, by omega⟩ ⟨by omega, by omega⟩ (AWp.two 6 7 ⟨mkF 143 [(1, .ptr 0 0), (2, .ptr 1 0), (3, .map 2), (4, .ptr 3 0), (13, .p (.str P[i])), (14, .own 6 qn), (15, .own 7 qn), (76, .p (.sl (P.map .str))), (77, .p (.int .i64 P.length)), (78, .p (.int .i64 i)), (89, .p (.int .i64 qn)), (90, .p (.int .i64 (0 : Nat)))], buI qn ws P K P[i] i 0⟩ rfl rfl (Nat.zero_le _) (Nat.zero_le _)
        (by simp [go_sem, codeB, buI, hZ1, hZ2]) (by simp [go_sem, codeB, buI, AV.sw, AV.sw.swL, AObj.sw, swN, hZ1, hZ2]) ?_)
      clear hZ1 hZ2
      refine AWp.loopI (fun j : Nat => ⟨mkF 143 [(1, .ptr 0 0), (2, .ptr 1 0), (3, .map 2), (4, .ptr 3 0), (13, .p (.str P[i])), (14, .own 6 qn), (15, .own 7 qn), (76, .p (.sl (P.map .str))), (77, .p (.int .i64 P.length)), (78, .p (.int .i64 i)), (89, .p (.int .i64 qn)), (90, .p (.int .i64 j))], buI qn ws P K P[i] i j⟩)
        (fun j => j ≤ qn) (fun j => qn - j) 0 (by simp [go_sem, codeB, buI]) (by simp) ?_
      intro j hj
      simp -implicitDefEqProofs only [buI, codeB, go_sem]
      refine AWp.of_awpD [(36, 1000)] hΓ hmix (by kernel_rfl) ?_
      by_cases hlt2 : j < qn
      · have hq16n : qn ≤ 16 := by omega
        have hws1 : ws.length ≤ 1000000 := by omega
        have e60 := p60 ws (stepW P[i] j) hws1
        have hPx : P[i].length ≤ 32 := by
          have h1 : P[i] ∈ prefs ws := by rw [hP]; exact List.getElem_mem hlt
          obtain ⟨w, hw, _, h2⟩ := mem_prefs.1 h1
          have := hw32 w hw; omega
        have hlen1 : ∀ f : Nat → Int, (rngV qn j f).length = qn := fun f => rngV_len _ _ _
        simp -implicitDefEqProofs only [hlt2, ↓reduceIte, lett_at (show j < 16 by omega), step_eq, List.length_singleton, go_sem]
        refine ⟨by simp only [InR]; omega, ⟨by omega, by omega⟩, by omega, callK_fn e60 (.pures rfl) ?_⟩
        simp -implicitDefEqProofs only [hlt2, ↓reduceIte, hlen1, go_sem]
        refine ⟨rfl, rfl, ?_⟩
        have hget := fN_get hmem (stepW P[i] j)
        have hgE : ((rngV qn j fun a => ixW ws (stepW P[i] a)).set j (.int .i64 (ixW ws (stepW P[i] j)))).getD j default = .int .i64 (ixW ws (stepW P[i] j)) := by
          rw [List.getD_eq_getElem?_getD, List.getElem?_set_self (by rw [rngV_len]; exact hlt2)]; rfl
        have hE : (rngV qn j fun a => ixW ws (stepW P[i] a)).set j (.int .i64 (ixW ws (stepW P[i] j))) = rngV qn (j + 1) fun a => ixW ws (stepW P[i] a) := rngV_set _
        have hN : ∀ V : Int, V = nextN ws P (stepW P[i] j) → (rngV qn j fun a => nextN ws P (stepW P[i] a)).set j (.int .i64 V) = rngV qn (j + 1) fun a => nextN ws P (stepW P[i] a) := by
          rintro V rfl; exact rngV_set _
        have hend : InR IntKind.i64 ((j : Int) + 1) := by simp only [InR]; omega
        by_cases he : stepW P[i] j ∈ ws
        · have hge : 0 ≤ ixW ws (stepW P[i] j) := ixW_ge.2 he
          have hV := hN 0 (by unfold nextN; rw [if_pos he])
          by_cases hp : stepW P[i] j ∈ P
          · simp -implicitDefEqProofs only [hget, hp, ↓reduceIte, Option.isSome_some, Option.getD_some, hlen1, hlt2, List.length_set, hgE, hge, List.set_set, hV, go_sem]
            exact ⟨rfl, rfl, hend, j + 1, ⟨by simp, by rw [hE]; exact weakH_refl _⟩, hlt2, by omega⟩
          · simp -implicitDefEqProofs only [hget, hp, ↓reduceIte, Option.isSome_none, Option.getD_none, hlen1, hlt2, List.length_set, hgE, hge, List.set_set, hV, go_sem]
            exact ⟨rfl, hend, j + 1, ⟨by simp, by rw [hE]; exact weakH_refl _⟩, hlt2, by omega⟩
        · have hge : ¬ 0 ≤ ixW ws (stepW P[i] j) := fun h => he (ixW_ge.1 h)
          by_cases hp : stepW P[i] j ∈ P
          · have hV := hN (ixN (stepW P[i] j) P : Int) (by unfold nextN; rw [if_neg he, ixW_in hp])
            simp -implicitDefEqProofs only [hget, hp, ↓reduceIte, Option.isSome_some, Option.getD_some, hlen1, hlt2, List.length_set, hgE, hge, List.set_set, hV, go_sem]
            exact ⟨rfl, hend, j + 1, ⟨by simp, by rw [hE]; exact weakH_refl _⟩, hlt2, by omega⟩
          · have hV := hN (-1) (by unfold nextN; rw [if_neg he, ixW_no hp])
            simp -implicitDefEqProofs only [hget, hp, ↓reduceIte, Option.isSome_none, Option.getD_none, hlen1, hlt2, List.length_set, hgE, hge, List.set_set, hV, go_sem]
            exact ⟨hend, j + 1, ⟨by simp, by rw [hE]; exact weakH_refl _⟩, hlt2, by omega⟩
      · have hjl : j = qn := by omega
        rw [hjl]
        simp -implicitDefEqProofs only [Nat.lt_irrefl, go_sem]
        have hrN := rngV_all qn fun a => nextN ws P (stepW P[i] a)
        have hrE := rngV_all qn fun a => ixW ws (stepW P[i] a)
        refine AWp.freeze 6 rfl ?_
        simp -implicitDefEqProofs only [Frozen, AV.thaw, AObj.thaw, AV.thaw.thawL, List.map_cons, List.map_nil, List.set_cons_zero, List.set_cons_succ, go_sem]
        refine AWp.freeze 7 rfl ?_
        simp -implicitDefEqProofs only [Frozen, AV.thaw, AObj.thaw, AV.thaw.thawL, List.map_cons, List.map_nil, List.set_cons_zero, List.set_cons_succ, go_sem]
        refine AWp.trimN 6 (by simp) (by simp [AV.blw, AV.blw.blwL]) (by simp [blwH, AObj.blw, AV.blw, AV.blw.blwL]) ?_
        simp -implicitDefEqProofs only [List.take_succ_cons, List.take_zero, go_sem]
        rw [hrN, hrE]
        refine AWp.planL (.q 0 (.q 1 (.q 2 (.q 3 (.q 5 (.q 6 (.q 7 (.q 8 (.e 4 (.s 5 (.s 6 (.s 7 (.s 8 (.q 10 (.e 9 (.s 10 (.e 11 (.q 12 (.e 13 .fin .nil)) .nil)) .nil)))))) .nil))))))))) hΓ hmix (by kernel_rfl) ?_
        simp -implicitDefEqProofs only [go_sem]
        have hs1 : ∀ l, sizeOK [PV.sl l] 1 := fun l => by simp [sizeOK, PV.cells]
        have ho1 : ∀ l, oneOK [PV.sl l] := fun l => by simp [oneOK, PV.cells, PV.isAgg]
        have hr1 : ((P.take i).map fun x => slI (nxL qn ws P x)) ++ [PV.sl (((List.range qn).map fun a => nextN ws P (stepW P[i] a)).map (.int .i64))] = (P.take (i + 1)).map fun x => slI (nxL qn ws P x) := by
          rw [List.take_succ_eq_append_getElem hlt, List.map_append]; rfl
        have hr2 : ((P.take i).map fun x => slI (emL qn ws x)) ++ [PV.sl (((List.range qn).map fun a => ixW ws (stepW P[i] a)).map (.int .i64))] = (P.take (i + 1)).map fun x => slI (emL qn ws x) := by
          rw [List.take_succ_eq_append_getElem hlt, List.map_append]; rfl
        rw [hr1, hr2]
        refine ⟨⟨hs1 _, by omega⟩, ⟨hs1 _, by omega⟩, ⟨hs1 _, ho1 _⟩, ⟨.inl (by omega), by omega, by omega⟩, ⟨hs1 _, by omega⟩, ⟨hs1 _, ho1 _⟩, ⟨.inl (by omega), by omega, by omega⟩, by omega, by simp only [InR]; omega, i + 1, ⟨by simp, ?_⟩, hlt, by omega⟩
        unfold buG
        simp [weakH, laxer, codeB]
    · have hil : i = P.length := by omega
      rw [hil]
      simp -implicitDefEqProofs only [Nat.lt_irrefl, go_sem]
      exact weakH_refl _
  rintro e st ⟨rfl, hw⟩
  show AWp _ _ _ _ _
  refine AWp.weak hw ?_
  clear hw
  simp -implicitDefEqProofs only [buG, codeB, go_sem]
  rw [List.take_length]
  refine AWp.freeze 4 rfl ?_
  simp -implicitDefEqProofs only [Frozen, AV.thaw, AObj.thaw, AV.thaw.thawL, List.map_cons, List.map_nil, List.set_cons_zero, List.set_cons_succ, go_sem]
  refine AWp.freeze 5 rfl ?_
  simp -implicitDefEqProofs only [Frozen, AV.thaw, AObj.thaw, AV.thaw.thawL, List.map_cons, List.map_nil, List.set_cons_zero, List.set_cons_succ, go_sem]
  refine AWp.of_awpD [] hΓ hmix (by kernel_rfl) ?_
  simp -implicitDefEqProofs only [go_sem]
  unfold parV nxP emP psV
  rw [hP, Int.toNat_natCast, List.map_map, List.map_map]
  rfl
end Go.Proofs.YtaphjgjhpmmkmaaGreat
end

section
namespace Go.Proofs.YtaphjgjhpmmkmaaGreat
open Go Go.AM
set_option maxRecDepth 100000
set_option linter.unusedSimpArgs false

theorem p36 (a b : List Int) (hl : a.length ≤ 1000000) : PFn Tryz.prog 143 [slI a, slI b] [.bool (decide (a = b))] := by
  refine PFn.of_body hΓ Tryz.func143 (by kernel_rfl) rfl (AWp.of_awpD [(6, 9)] hΓ hmix (by kernel_rfl) ?_)
  simp +contextual -implicitDefEqProofs only [slI, Tryz.ntmps143, Tryz.results143, Nat.reduceAdd, Nat.reduceSub, go_sem]
  by_cases he : a.length = b.length
  rotate_left
  · have hz : ¬ (a.length : Int) = b.length := by omega
    simp -implicitDefEqProofs only [he, hz, List.length_map, go_sem]
    exact (decide_eq_false fun e => he (by rw [e])).symm
  simp -implicitDefEqProofs only [he, List.length_map, go_sem]
  refine AWp.loopI (fun k : Nat => ⟨mkF 26 [(0, .p (.sl (a.map (.int .i64)))), (1, .p (.sl (b.map (.int .i64)))), (4, .p (.bool false)), (12, .p (.int .i64 b.length)), (13, .p (.int .i64 k))], []⟩)
    (fun k => k ≤ a.length ∧ a.take k = b.take k) (fun k => a.length - k) 0 (by simp [go_sem]) (by simp) ?_
  rintro k ⟨hk, heq⟩
  simp -implicitDefEqProofs only [go_sem]
  refine AWp.of_awpD [(6, 9)] hΓ hmix (by kernel_rfl) ?_
  by_cases hlt : k < b.length
  · have hla : k < a.length := by omega
    by_cases hk' : a[k] = b[k]
    · simp -implicitDefEqProofs only [hlt, hla, getD_map_lt, ↓reduceIte, hk', go_sem]
      refine ⟨by simp only [InR]; omega, k + 1, by simp, ⟨hla, ?_⟩, by omega⟩
      rw [List.take_succ_eq_append_getElem hla, List.take_succ_eq_append_getElem hlt, heq, hk']
    · simp -implicitDefEqProofs only [hlt, hla, getD_map_lt, ↓reduceIte, hk', go_sem]
      exact (decide_eq_false fun e => hk' (by subst e; rfl)).symm
  · have hz : ¬ (k : Int) < b.length := by omega
    simp -implicitDefEqProofs only [hz, hlt, go_sem]
    rw [List.take_of_length_le (by omega), List.take_of_length_le (by omega)] at heq
    exact (decide_eq_true heq).symm

theorem p43 (a b : List (List UInt8)) (hl : a.length ≤ 1000000) : PFn Tryz.prog 16 [.sl (a.map .str), .sl (b.map .str)] [.bool (decide (a = b))] := by
  refine PFn.of_body hΓ Tryz.func16 (by kernel_rfl) rfl (AWp.of_awpD [(6, 9)] hΓ hmix (by kernel_rfl) ?_)
  simp +contextual -implicitDefEqProofs only [Tryz.ntmps16, Tryz.results16, Nat.reduceAdd, Nat.reduceSub, go_sem]
  by_cases he : a.length = b.length
  rotate_left
  · have hz : ¬ (a.length : Int) = b.length := by omega
    simp -implicitDefEqProofs only [he, hz, List.length_map, go_sem]
    exact (decide_eq_false fun e => he (by rw [e])).symm
  simp -implicitDefEqProofs only [he, List.length_map, go_sem]
  refine AWp.loopI (fun k : Nat => ⟨mkF 26 [(0, .p (.sl (a.map .str))), (1, .p (.sl (b.map .str))), (4, .p (.bool false)), (12, .p (.int .i64 b.length)), (13, .p (.int .i64 k))], []⟩)
    (fun k => k ≤ a.length ∧ a.take k = b.take k) (fun k => a.length - k) 0 (by simp [go_sem]) (by simp) ?_
  rintro k ⟨hk, heq⟩
  simp -implicitDefEqProofs only [go_sem]
  refine AWp.of_awpD [(6, 9)] hΓ hmix (by kernel_rfl) ?_
  by_cases hlt : k < b.length
  · have hla : k < a.length := by omega
    by_cases hk' : a[k] = b[k]
    · simp -implicitDefEqProofs only [hlt, hla, getD_map_lt, ↓reduceIte, hk', go_sem]
      refine ⟨by simp only [InR]; omega, k + 1, by simp, ⟨hla, ?_⟩, by omega⟩
      rw [List.take_succ_eq_append_getElem hla, List.take_succ_eq_append_getElem hlt, heq, hk']
    · simp -implicitDefEqProofs only [hlt, hla, getD_map_lt, ↓reduceIte, hk', go_sem]
      exact (decide_eq_false fun e => hk' (by subst e; rfl)).symm
  · have hz : ¬ (k : Int) < b.length := by omega
    simp -implicitDefEqProofs only [hz, hlt, go_sem]
    rw [List.take_of_length_le (by omega), List.take_of_length_le (by omega)] at heq
    exact (decide_eq_true heq).symm

theorem c82 {h : List AObj} (a b : List (List Int)) (hl : a.length ≤ 1000000) (hs : ∀ x ∈ a, x.length ≤ 1000000) :
    AC Tryz.prog 142 [.p (.sl (a.map slI)), .p (.sl (b.map slI)), .fn 143 []] h [] (fun v h' => v = .p (.bool (decide (a = b))) ∧ h' = h) := by
  refine AC.of_bodyE hΓ Tryz.func142 (by kernel_rfl) rfl (AWp.mono (Q := fun e st => AM.Ends e ∧ st.tmps.getD 6 .junk = .p (.bool (decide (a = b))) ∧ st.h = h) ?_ ?_)
  rotate_left
  · rintro e ⟨tm, h'⟩ ⟨he, h1, h2⟩
    simp only at h1 h2
    subst h2
    refine ⟨he, _, Less.refl _, ?_⟩
    unfold DoneE
    simp +contextual -implicitDefEqProofs only [Tryz.results142, h1, go_sem]
    exact ⟨_, Nat.le_refl _, .inl rfl, List.take_length⟩
  refine AWp.of_awpD [] hΓ hmix (by kernel_rfl) ?_
  by_cases he : a.length = b.length
  rotate_left
  · have hz : ¬ (a.length : Int) = b.length := by omega
    simp -implicitDefEqProofs only [he, hz, List.length_map, Tryz.ntmps142, Nat.reduceAdd, Nat.reduceSub, go_sem]
    exact ((decide_eq_false fun e => he (by rw [e])).symm)
  simp -implicitDefEqProofs only [Tryz.ntmps142, Nat.reduceAdd, Nat.reduceSub, he, List.length_map, go_sem]
  refine AWp.loopI (fun k : Nat => ⟨mkF 32 [(0, .p (.sl (a.map slI))), (1, .p (.sl (b.map slI))), (2, .fn 143 []), (15, .p (.sl (a.map slI))), (16, .p (.int .i64 b.length)), (17, .p (.int .i64 k))], h⟩)
    (fun k => k ≤ a.length ∧ a.take k = b.take k) (fun k => a.length - k) 0 (by simp [go_sem, weakH_self]) (by simp) ?_
  rintro k ⟨hk, heq⟩
  simp -implicitDefEqProofs only [go_sem]
  refine AWp.of_awpD [] hΓ hmix (by kernel_rfl) ?_
  by_cases hlt : k < b.length
  · have hla : k < a.length := by omega
    simp -implicitDefEqProofs only [hlt, hla, getD_map_lt, ↓reduceIte, slI, go_sem]
    refine callK_fn (p36 a[k] b[k] (hs _ (List.getElem_mem hla))) (.pures rfl) ?_
    by_cases hk' : a[k] = b[k]
    · simp -implicitDefEqProofs only [hk', go_sem]
      refine ⟨by simp only [InR]; omega, k + 1, by simp [weakH_self, slI], ⟨hla, ?_⟩, by omega⟩
      rw [List.take_succ_eq_append_getElem hla, List.take_succ_eq_append_getElem hlt, heq, hk']
    · simp -implicitDefEqProofs only [hk', go_sem]
      exact ((decide_eq_false fun e => hk' (by subst e; rfl)).symm)
  · have hz : ¬ (k : Int) < b.length := by omega
    simp -implicitDefEqProofs only [hz, hlt, go_sem]
    rw [List.take_of_length_le (by omega), List.take_of_length_le (by omega)] at heq
    exact ((decide_eq_true heq).symm)

theorem p55 (q r : Int) (P R : List (List UInt8)) (N E M F : List (List Int)) (hP : P.length ≤ 1000000) (hN : N.length ≤ 1000000) (hE : E.length ≤ 1000000) (hNs : ∀ x ∈ N, x.length ≤ 1000000) (hEs : ∀ x ∈ E, x.length ≤ 1000000) :
    PFn Tryz.prog 111 [psV q P N E, psV r R M F] [.bool (decide (q = r ∧ P = R ∧ N = M ∧ E = F))] := by
  refine PFn.of_body hΓ Tryz.func111 (by kernel_rfl) rfl (AWp.of_awpD [] hΓ hmix (by kernel_rfl) ?_)
  by_cases h1 : q = r
  rotate_left
  · simp -implicitDefEqProofs only [Tryz.ntmps111, Tryz.results111, Nat.reduceAdd, Nat.reduceSub, psV, h1, go_sem]
    exact ⟨by omega, by omega, (decide_eq_false fun e => e.1).symm⟩
  simp -implicitDefEqProofs only [Tryz.ntmps111, Tryz.results111, Nat.reduceAdd, Nat.reduceSub, psV, h1, go_sem]
  refine ⟨by omega, by omega, callK_fn (p43 P R hP) (.pures rfl) ?_⟩
  by_cases h2 : P = R
  rotate_left
  · simp -implicitDefEqProofs only [h2, go_sem]
    exact (decide_eq_false fun e => e.1).symm
  simp -implicitDefEqProofs only [h2, go_sem]
  refine callK_ac (c82 N M hN hNs) (by simp) ?_
  rintro v h' ⟨rfl, rfl⟩
  by_cases h3 : N = M
  rotate_left
  · simp -implicitDefEqProofs only [killAll, List.foldl, h3, go_sem]
    simp [h3]
  simp -implicitDefEqProofs only [killAll, List.foldl, h3, go_sem]
  refine callK_ac (c82 E F hE hEs) (by simp) ?_
  rintro v h' ⟨rfl, rfl⟩
  simp -implicitDefEqProofs only [killAll, List.foldl, go_sem]
  simp [h2, h3]

theorem p44 (q : Int) (ws : List (List UInt8)) : PFn Tryz.prog 43 [codeV q ws] [.bool (decide (codeCheck q ws = 0) && aloneB (fun w x => x.isPrefixOf w) ws)] := by
  refine PFn.of_body hΓ Tryz.func43 (by kernel_rfl) rfl (AWp.of_awpD [] hΓ hmix (by kernel_rfl) ?_)
  simp +contextual -implicitDefEqProofs only [codeV, Tryz.ntmps43, Tryz.results43, Nat.reduceAdd, Nat.reduceSub, go_sem]
  refine callK_fn (t38 q ws) (.still rfl) ?_
  by_cases h : codeCheck q ws = 0
  · simp -implicitDefEqProofs only [h, go_sem]
  · have h10 : ¬ (1 : Int) = 0 := by decide
    simp -implicitDefEqProofs only [h, h10, go_sem]
    rfl

end Go.Proofs.YtaphjgjhpmmkmaaGreat
end

section
namespace Go.Proofs.YtaphjgjhpmmkmaaGreat
open Go Go.AM
set_option maxRecDepth 100000
set_option linter.unusedSimpArgs false

theorem size_strs (l : List (List UInt8)) : sizeOK (l.map PV.str) 1 := fun x hx => by
  obtain ⟨b, _, rfl⟩ := List.mem_map.1 hx
  rfl
theorem one_strs (l : List (List UInt8)) : oneOK (l.map PV.str) := fun x hx c hc => by
  obtain ⟨b, _, rfl⟩ := List.mem_map.1 hx
  have : c = PV.str b := by simpa [PV.cells] using hc
  subst this; rfl
end Go.Proofs.YtaphjgjhpmmkmaaGreat
end

section
namespace Go.Proofs.YtaphjgjhpmmkmaaGreat
open Go Go.AM
set_option maxRecDepth 100000
set_option linter.unusedSimpArgs false

end Go.Proofs.YtaphjgjhpmmkmaaGreat
end

section
namespace Go.Proofs.YtaphjgjhpmmkmaaGreat
open Go Go.AM
set_option maxRecDepth 100000
set_option linter.unusedSimpArgs false

def preB (ws : List (List UInt8)) : Bool := aloneB (fun w x => x.isPrefixOf w) ws
def pR (q : Int) (ws : List (List UInt8)) : PV := if codeCheck q ws = 0 ∧ preB ws = true then parV q ws else psV 0 [] [] []
def pE (q : Int) (ws : List (List UInt8)) : Int := if codeCheck q ws = 0 then (if preB ws = true then 0 else 8) else 1

theorem p12 (q : Int) (ws : List (List UInt8)) : PFn Tryz.prog 20 [codeV q ws] [pR q ws, .int .i64 (pE q ws)] := by
  refine PFn.of_body hΓ Tryz.func20 (by kernel_rfl) rfl (AWp.of_awpD [] hΓ hmix (by kernel_rfl) ?_)
  simp -implicitDefEqProofs only [Tryz.ntmps20, Tryz.results20, Nat.reduceAdd, Nat.reduceSub, codeV, go_sem]
  refine callK_fn (t45 q ws) (.still rfl) ?_
  by_cases h : codeCheck q ws = 0
  rotate_left
  · have e1 : pR q ws = psV 0 [] [] [] := by unfold pR; rw [if_neg (fun e => h e.1)]
    have e2 : pE q ws = 1 := by unfold pE; rw [if_neg h]
    rw [e1, e2]
    simp -implicitDefEqProofs only [h, psV, List.map_nil, go_sem]
  have hv := valid_of h
  rw [h]
  simp -implicitDefEqProofs only [go_sem]
  refine callK_fn (p44 q ws) (.still rfl) ?_
  rw [h, show aloneB (fun w x => x.isPrefixOf w) ws = preB ws from rfl]
  cases hp : preB ws
  · have e1 : pR q ws = psV 0 [] [] [] := by unfold pR; rw [if_neg (fun e => by rw [hp] at e; cases e.2)]
    have e2 : pE q ws = 8 := by unfold pE; rw [if_pos h, if_neg (by rw [hp]; simp)]
    rw [e1, e2]
    simp -implicitDefEqProofs only [psV, List.map_nil, Bool.and_false, go_sem]
  · have e1 : pR q ws = parV q ws := by unfold pR; rw [if_pos ⟨h, hp⟩]
    have e2 : pE q ws = 0 := by unfold pE; rw [if_pos h, if_pos hp]
    rw [e1, e2]
    simp -implicitDefEqProofs only [Bool.and_true, go_sem]
    refine callK_fn (p45 hv) (.still rfl) ?_
    simp -implicitDefEqProofs only [parV, psV, go_sem]

end Go.Proofs.YtaphjgjhpmmkmaaGreat
end

section
namespace Go.Proofs.YtaphjgjhpmmkmaaGreat
open Go Go.AM
set_option maxRecDepth 100000
set_option linter.unusedSimpArgs false

def holeB (q : Int) (ws : List (List UInt8)) : Bool := (nxP q ws).any fun l => decide (-1 ∈ l)
def aE (q : Int) (ws : List (List UInt8)) : Int := if codeCheck q ws = 0 ∧ preB ws = true then (if holeB q ws = true then 8 else 0) else pE q ws

theorem prefs_len {q : Int} {ws : List (List UInt8)} (hv : Valid q ws) : (prefs ws).length ≤ 2048 := by
  have h1 := made_le (propers ws)
  have h2 := propers_len (ws := ws) (m := 32) fun x hx => (hv.words x hx).2.1
  have : ws.length * 32 ≤ 64 * 32 := Nat.mul_le_mul_right _ hv.len
  unfold prefs; omega
theorem nxP_len {q : Int} {ws : List (List UInt8)} (hv : Valid q ws) : (nxP q ws).length ≤ 2048 ∧ ∀ x ∈ nxP q ws, x.length = q.toNat := by
  refine ⟨by have := prefs_len hv; simp [nxP]; exact this, fun x hx => ?_⟩
  obtain ⟨y, _, rfl⟩ := List.mem_map.1 hx
  simp [nxL]
theorem emP_len {q : Int} {ws : List (List UInt8)} (hv : Valid q ws) : (emP q ws).length ≤ 2048 ∧ ∀ x ∈ emP q ws, x.length = q.toNat := by
  refine ⟨by have := prefs_len hv; simp [emP]; exact this, fun x hx => ?_⟩
  obtain ⟨y, _, rfl⟩ := List.mem_map.1 hx
  simp [emL]

theorem nxP_ge {q : Int} {ws : List (List UInt8)} : ∀ l ∈ nxP q ws, ∀ x ∈ l, -1 ≤ x := fun l hl x hx => by
  obtain ⟨y, _, rfl⟩ := List.mem_map.1 hl
  unfold nxL at hx
  obtain ⟨a, _, rfl⟩ := List.mem_map.1 hx
  unfold nextN ixW
  split
  · omega
  · split <;> omega

end Go.Proofs.YtaphjgjhpmmkmaaGreat
end

section
namespace Go.Proofs.YtaphjgjhpmmkmaaGreat
open Go Go.AM
set_option maxRecDepth 100000
set_option linter.unusedSimpArgs false

end Go.Proofs.YtaphjgjhpmmkmaaGreat
end

section
namespace Go.Proofs.YtaphjgjhpmmkmaaGreat
open Go Go.AM
set_option maxRecDepth 100000
set_option linter.unusedSimpArgs false

end Go.Proofs.YtaphjgjhpmmkmaaGreat
end

section
namespace Go.Proofs.YtaphjgjhpmmkmaaGreat
open Go Go.AM
set_option maxRecDepth 100000
set_option linter.unusedSimpArgs false

def rowW (x : List UInt8) (l : List Int) (n : Nat) : List (List UInt8) := ((List.range n).filter fun a => decide (0 ≤ l.getD a 0)).map (stepW x)
theorem rowW_yes {x : List UInt8} {l : List Int} {n : Nat} (hn : n < l.length) (h : 0 ≤ l[n]) : rowW x l (n + 1) = rowW x l n ++ [stepW x n] := by
  unfold rowW
  rw [List.range_succ, List.filter_append, List.map_append]
  congr 1
  have : l.getD n 0 = l[n] := by rw [List.getD_eq_getElem?_getD, List.getElem?_eq_getElem hn]; rfl
  rw [List.filter_cons, this, if_pos (decide_eq_true h)]; rfl
theorem rowW_no {x : List UInt8} {l : List Int} {n : Nat} (hn : n < l.length) (h : ¬ 0 ≤ l[n]) : rowW x l (n + 1) = rowW x l n := by
  unfold rowW
  rw [List.range_succ, List.filter_append, List.map_append]
  have : l.getD n 0 = l[n] := by rw [List.getD_eq_getElem?_getD, List.getElem?_eq_getElem hn]; rfl
  rw [List.filter_cons, this, if_neg (by rw [decide_eq_false h]; simp)]; simp
theorem rowW_len (x : List UInt8) (l : List Int) (n : Nat) : (rowW x l n).length ≤ n := by
  unfold rowW
  rw [List.length_map]
  exact Nat.le_trans (List.length_filter_le _ _) (by simp)
def emW (P : List (List UInt8)) (E : List (List Int)) (m : Nat) : List (List UInt8) := (List.range m).flatMap fun s => rowW (P.getD s []) (E.getD s []) (min (E.getD s []).length 16)
theorem emW_succ {P : List (List UInt8)} {E : List (List Int)} {s : Nat} (hp : s < P.length) (he : s < E.length) : emW P E (s + 1) = emW P E s ++ rowW P[s] E[s] (min E[s].length 16) := by
  unfold emW
  rw [List.range_succ, List.flatMap_append]
  congr 1
  simp [List.getD_eq_getElem?_getD, hp, he]
theorem emW_len (P : List (List UInt8)) (E : List (List Int)) : ∀ m, (emW P E m).length ≤ m * 16
  | 0 => by simp [emW]
  | m + 1 => by
    have h := emW_len P E m
    have h2 := rowW_len (P.getD m []) (E.getD m []) (min (E.getD m []).length 16)
    have : emW P E (m + 1) = emW P E m ++ rowW (P.getD m []) (E.getD m []) (min (E.getD m []).length 16) := by
      unfold emW; rw [List.range_succ, List.flatMap_append]; simp
    rw [this, List.length_append]; omega

def codeP (P : List (List UInt8)) (E : List (List Int)) : List (List UInt8) := made (emW P E (min E.length P.length))
def IsPar (q : Int) (P : List (List UInt8)) (N E : List (List Int)) : Prop :=
  codeCheck q (codeP P E) = 0 ∧ preB (codeP P E) = true ∧ prefs (codeP P E) = P ∧ nxP q (codeP P E) = N ∧ emP q (codeP P E) = E
instance (q : Int) (P : List (List UInt8)) (N E : List (List Int)) : Decidable (IsPar q P N E) := by unfold IsPar; infer_instance
def parCheck (q : Int) (P : List (List UInt8)) (N E : List (List Int)) : Int := if IsPar q P N E then 0 else 1

end Go.Proofs.YtaphjgjhpmmkmaaGreat
end

