/-
  The law LettercostWords (f8).
  lettercost.Cost for valid costs and weights.
  Plain: the list that is given is an order of the leaves, of the least cost; the best list.
  Plain: no prefix-free list is cheaper than the best list of a tree.
  The law LettercostBest (f9).
-/
import Derived.Test.YtnaekjbbakofdaaGreatJ768278548f1e
import Derived.Test.YtnaekjbbakofdaaGreatJa3b83a975e0d
import Derived.Test.YtnaekjbbakofdaaGreatJ079e51704dac
import Derived.Test.YtnaekjbbakofdaaGreatJf1c11dd69f96

section
namespace Go.Proofs.YtnaekjbbakofdaaGreat
open Go Go.AM
set_option maxRecDepth 100000
set_option maxHeartbeats 4000000
set_option linter.unusedSimpArgs false

end Go.Proofs.YtnaekjbbakofdaaGreat
end

section
namespace Go.Proofs.YtnaekjbbakofdaaGreat
open Go Go.AM
set_option maxRecDepth 100000
set_option maxHeartbeats 4000000
set_option linter.unusedSimpArgs false

def firstE (q : Int) : List Wd → Int
  | [] => 0
  | w :: l => if wordCheck q w = 0 then firstE q l else wordCheck q w
def hitB (l : List Wd) (i k : Nat) : Bool := !decide (i = k) && (l.getD k []).isPrefixOf (l.getD i [])
def pfBad (l : List Wd) : Bool := (List.range l.length).any fun i => (List.range l.length).any fun k => hitB l i k
def costE (q n : Nat) (l : List Wd) : Int :=
  if l.length ≠ n then 11 else if firstE q l ≠ 0 then firstE q l else if pfBad l = true then 8 else 0
theorem firstE_first {q : Int} : ∀ {l : List Wd} {i : Nat} (hi : i < l.length), (∀ j (hj : j < i), wordCheck q l[j] = 0) → wordCheck q l[i] ≠ 0 → firstE q l = wordCheck q l[i]
  | w :: l, 0, _, _, h => by
    exact if_neg h
  | w :: l, i + 1, hi, h0, h => by
    show (if wordCheck q w = 0 then firstE q l else wordCheck q w) = _
    rw [if_pos (show wordCheck q w = 0 from h0 0 (by omega))]
    exact firstE_first (l := l) (i := i) (by simpa using hi) (fun j hj => h0 (j + 1) (by omega)) h
theorem firstE_zero {q : Int} : ∀ {l : List Wd}, firstE q l = 0 ↔ ∀ w ∈ l, wordCheck q w = 0
  | [] => by simp [firstE]
  | w :: l => by
    unfold firstE
    by_cases h : wordCheck q w = 0
    · rw [if_pos h, firstE_zero (l := l)]; simp [h]
    · rw [if_neg h]; simp [h]
theorem getD_lt {l : List Wd} {i : Nat} (h : i < l.length) : l.getD i [] = l[i] := by rw [List.getD_eq_getElem?_getD, List.getElem?_eq_getElem h, Option.getD_some]

theorem c31 {cs W : List Nat} (hc : OkC cs) (hw : OkW W) (l : List Wd) (hl : l.length ≤ 100) (hlw : ∀ w ∈ l, wordCheck cs.length w = 0 → w.length ≤ 1000) :
    PFn Tryz.prog 31 [.sl (cs.map Kn.nV), .sl (W.map (intN false)), .sl (l.map .str)] [intN false (if costE cs.length W.length l = 0 then totN cs W l else 0), .int .i64 (costE cs.length W.length l)] := by
  have e36 := c36 hc hw
  have hz : intN false 0 = .agg [.bool false, .str []] := rfl
  refine PFn.of_body hΓ Tryz.func31 (by kernel_rfl) rfl (AWp.seq (AWp.of_awpD [] hΓ hmix (by kernel_rfl) ?_))
  simp -implicitDefEqProofs only [Tryz.ntmps31, Tryz.results31, Nat.reduceAdd, Nat.reduceSub, go_sem]
  refine AWp.seq (AWp.seq (AWp.of_awpD [] hΓ hmix (by kernel_rfl) ?_))
  simp -implicitDefEqProofs only [go_sem]
  refine callK_fn e36 (.still rfl) ?_
  simp -implicitDefEqProofs only [go_sem]
  refine AWp.of_awpD [] hΓ hmix (by kernel_rfl) ?_
  simp -implicitDefEqProofs only [go_sem]
  refine AWp.seq (AWp.of_awpD [] hΓ hmix (by kernel_rfl) ?_)
  by_cases hne : l.length = W.length
  case neg =>
    have hne' : ¬ (l.length : Int) = (W.length : Int) := by omega
    have he : costE cs.length W.length l = 11 := by unfold costE; rw [if_pos hne]
    rw [he]
    simp -implicitDefEqProofs only [hne', List.length_map, go_sem]
    rw [if_neg (by decide)]; rfl
  have he : costE cs.length W.length l = if firstE cs.length l ≠ 0 then firstE cs.length l else if pfBad l = true then 8 else 0 := by unfold costE; rw [if_neg (by omega)]
  simp -implicitDefEqProofs only [List.length_map, hne, decide_true, Bool.not_true, decide_false, Bool.not_false, go_sem]
  refine AWp.seq (AWp.seq (AWp.of_awpD [] hΓ hmix (by kernel_rfl) ?_))
  simp -implicitDefEqProofs only [List.length_map, go_sem]
  refine AWp.block ?_
  refine AWp.loopI (fun i : Nat => ⟨mkF 92 [(0, .p (.sl (cs.map Kn.nV))), (1, .p (.sl (W.map (intN false)))), (2, .p (.sl (l.map .str))), (6, .ptr 0 0), (7, .p (.int .i64 0)), (32, .p (.sl (l.map .str))), (33, .p (.int .i64 W.length)), (34, .p (.int .i64 i))], [.box [.p (.bool false), .p (.str [])]]⟩)
    (fun i => i ≤ l.length ∧ ∀ j (hj : j < l.length), j < i → wordCheck cs.length l[j] = 0) (fun i => l.length - i) 0 (by simp [go_sem, hne]) ⟨by omega, fun j _ h => by omega⟩ ?_
  intro i ⟨hi, hj0⟩
  simp -implicitDefEqProofs only [go_sem]
  refine AWp.of_awpD [] hΓ hmix (by kernel_rfl) ?_
  by_cases hlt : i < l.length
  · have hlt' : (i : Int) < (W.length : Int) := by omega
    have hg : (l.map PV.str).getD i default = .str l[i] := getD_map_lt _ _ _ _ hlt
    have e55 := t80 (cs.length : Int) l[i]
    simp -implicitDefEqProofs only [hlt, hlt', hg, Int.toNat_natCast, List.length_map, go_sem]
    refine callK_fn e55 (.still rfl) ?_
    by_cases h0 : wordCheck cs.length l[i] = 0
    · rw [h0]
      simp -implicitDefEqProofs only [go_sem]
      refine ⟨by simp only [InR]; omega, i + 1, ?_, ⟨by omega, fun j hj hji => ?_⟩, by omega⟩
      · simp
      · rcases Nat.lt_or_ge j i with h | h
        · exact hj0 j hj h
        · obtain rfl : j = i := by omega
          exact h0
    · have hf : firstE cs.length l = wordCheck cs.length l[i] := firstE_first hlt (fun j hj => hj0 j (by omega) hj) h0
      rw [he, hf, if_pos h0, if_neg h0]
      simp -implicitDefEqProofs only [h0, go_sem]
      rfl
  have hiW : i = l.length := by omega
  have hf0 : firstE cs.length l = 0 := firstE_zero.2 fun w hw => by
    obtain ⟨j, hj, rfl⟩ := List.getElem_of_mem hw
    exact hj0 j hj (by omega)
  rw [hf0, if_neg (by simp)] at he
  rw [hne] at hiW
  subst hiW
  simp -implicitDefEqProofs only [Nat.lt_irrefl, Int.lt_irrefl, go_sem]
  refine AWp.seq (AWp.seq (AWp.of_awpD [] hΓ hmix (by kernel_rfl) ?_))
  simp -implicitDefEqProofs only [List.length_map, go_sem]
  refine AWp.block ?_
  refine AWp.loopI (fun i : Nat => ⟨mkF 92 [(0, .p (.sl (cs.map Kn.nV))), (1, .p (.sl (W.map (intN false)))), (2, .p (.sl (l.map .str))), (6, .ptr 0 0), (7, .p (.int .i64 0)), (47, .p (.sl (l.map .str))), (48, .p (.int .i64 l.length)), (49, .p (.int .i64 i))], [.box [.p (.bool false), .p (.str [])]]⟩)
    (fun i => i ≤ l.length ∧ ∀ j k, j < i → k < l.length → hitB l j k = false) (fun i => l.length - i) 0 (by simp [go_sem]) ⟨by omega, fun j _ h => by omega⟩ ?_
  intro i ⟨hi, hj0⟩
  simp -implicitDefEqProofs only [go_sem]
  refine AWp.of_awpD [] hΓ hmix (by kernel_rfl) ?_
  by_cases hlt : i < l.length
  · have hlt' : (i : Int) < (l.length : Int) := by omega
    have hg : (l.map PV.str).getD i default = .str l[i] := getD_map_lt _ _ _ _ hlt
    simp -implicitDefEqProofs only [hlt, hlt', hg, Int.toNat_natCast, List.length_map, go_sem]
    refine AWp.loopI (fun k : Nat => ⟨mkF 92 [(0, .p (.sl (cs.map Kn.nV))), (1, .p (.sl (W.map (intN false)))), (2, .p (.sl (l.map .str))), (6, .ptr 0 0), (7, .p (.int .i64 0)), (12, .p (.int .i64 i)), (13, .p (.str l[i])), (47, .p (.sl (l.map .str))), (48, .p (.int .i64 l.length)), (49, .p (.int .i64 i)), (54, .p (.sl (l.map .str))), (55, .p (.int .i64 l.length)), (56, .p (.int .i64 k))], [.box [.p (.bool false), .p (.str [])]]⟩)
      (fun k => k ≤ l.length ∧ ∀ k', k' < k → hitB l i k' = false) (fun k => l.length - k) 0 (by simp [go_sem]) ⟨by omega, fun k h => by omega⟩ ?_
    intro k ⟨hk, hk0⟩
    simp -implicitDefEqProofs only [go_sem]
    refine AWp.of_awpD [] hΓ hmix (by kernel_rfl) ?_
    by_cases hlk : k < l.length
    · have hlk' : (k : Int) < (l.length : Int) := by omega
      have hgk : (l.map PV.str).getD k default = .str l[k] := getD_map_lt _ _ _ _ hlk
      have e58 := t69 l[i] l[k]
      have hfound : hitB l i k = true → costE cs.length W.length l = 8 := fun h => by
        have : pfBad l = true := by
          unfold pfBad
          rw [List.any_eq_true]
          refine ⟨i, List.mem_range.2 hlt, ?_⟩
          rw [List.any_eq_true]
          exact ⟨k, List.mem_range.2 hlk, h⟩
        rw [he, if_pos this]
      by_cases hik : i = k
      · have hik' : (i : Int) = (k : Int) := by omega
        have hh : hitB l i k = false := by unfold hitB; simp [hik]
        simp -implicitDefEqProofs only [hlk, hlk', hgk, hik', Int.toNat_natCast, List.length_map, go_sem]
        refine ⟨by simp only [InR]; omega, k + 1, ?_, ⟨by omega, fun k' hk' => ?_⟩, by omega⟩
        · simp
        · rcases Nat.lt_or_ge k' k with h | h
          · exact hk0 k' h
          · obtain rfl : k' = k := by omega
            exact hh
      have hik' : ¬ (i : Int) = (k : Int) := by omega
      simp -implicitDefEqProofs only [hlk, hlk', hgk, hik', Int.toNat_natCast, List.length_map, go_sem]
      refine callK_fn e58 (.still rfl) ?_
      have hh : hitB l i k = (l[k]).isPrefixOf l[i] := by
        unfold hitB
        rw [getD_lt hlk, getD_lt hlt]; simp [hik]
      cases hb : (l[k]).isPrefixOf l[i]
      · simp -implicitDefEqProofs only [go_sem]
        refine ⟨by simp only [InR]; omega, k + 1, ?_, ⟨by omega, fun k' hk' => ?_⟩, by omega⟩
        · simp
        · rcases Nat.lt_or_ge k' k with h | h
          · exact hk0 k' h
          · obtain rfl : k' = k := by omega
            rw [hh, hb]
      · rw [hfound (by rw [hh, hb])]
        simp -implicitDefEqProofs only [go_sem]
        rw [if_neg (by decide)]; rfl
    have hkl : k = l.length := by omega
    subst hkl
    simp -implicitDefEqProofs only [Nat.lt_irrefl, Int.lt_irrefl, go_sem]
    refine ⟨by simp only [InR]; omega, i + 1, ?_, ⟨by omega, fun j k hj hk => ?_⟩, by omega⟩
    · simp
    · rcases Nat.lt_or_ge j i with h | h
      · exact hj0 j k h hk
      · obtain rfl : j = i := by omega
        exact hk0 k hk
  have hil : i = l.length := by omega
  subst hil
  have hpb : pfBad l = false := by
    refine Bool.eq_false_iff.2 fun h => ?_
    unfold pfBad at h
    rw [List.any_eq_true] at h
    obtain ⟨i, hi, h⟩ := h
    rw [List.any_eq_true] at h
    obtain ⟨k, hk, h⟩ := h
    rw [hj0 i k (List.mem_range.1 hi) (List.mem_range.1 hk)] at h
    cases h
  rw [hpb, if_neg (by decide)] at he
  rw [he, if_pos rfl]
  simp -implicitDefEqProofs only [Nat.lt_irrefl, Int.lt_irrefl, go_sem]
  refine AWp.seq (AWp.of_awpD [] hΓ hmix (by kernel_rfl) ?_)
  simp -implicitDefEqProofs only [go_sem]
  refine AWp.seq (AWp.seq (AWp.of_awpD [] hΓ hmix (by kernel_rfl) ?_))
  simp -implicitDefEqProofs only [List.length_map, go_sem]
  refine AWp.block ?_
  have hWl : l.length = W.length := hne
  have hfz := firstE_zero.1 hf0
  have hdc : ∀ k, dotN (W.take k) ((l.map (costW cs)).take k) < capN := fun k => by
    have h1 := dotN_le (a := W.take k) (b := (l.map (costW cs)).take k) (B := 256 ^ 100) (C := 1000000) (fun x hx => Nat.le_of_lt (hw.cap x (List.mem_of_mem_take hx))) (fun x hx => by
      obtain ⟨w, hwm, rfl⟩ := List.mem_map.1 (List.mem_of_mem_take hx)
      have h1 := costW_le hc.le w
      have h3 : w.length * 1000 ≤ 1000 * 1000 := Nat.mul_le_mul_right _ (hlw w hwm (hfz w hwm))
      omega)
    have h2 : (W.take k).length ≤ 12 := by have := hw.l5; rw [List.length_take]; omega
    have h3 : (W.take k).length * (256 ^ 100 * 1000000) ≤ 12 * (256 ^ 100 * 1000000) := Nat.mul_le_mul_right _ h2
    have h4 : 12 * (256 ^ 100 * 1000000) < capN := by unfold capN; decide
    omega
  refine AWp.loopI (fun k : Nat => ⟨mkF 92 [(0, .p (.sl (cs.map Kn.nV))), (1, .p (.sl (W.map (intN false)))), (6, .ptr 0 0), (7, .p (.int .i64 0)), (16, .ptr 1 0), (72, .p (.sl (l.map .str))), (73, .p (.int .i64 l.length)), (74, .p (.int .i64 k))],
      [.box [.p (.bool false), .p (.str [])], .box [.p (.bool false), .p (.str (magB (dotN (W.take k) ((l.map (costW cs)).take k))))]]⟩)
    (fun k => k ≤ l.length) (fun k => l.length - k) 0 (by simp [go_sem, dotN, magB_zero]) (by omega) ?_
  intro k hk
  simp -implicitDefEqProofs only [go_sem]
  refine AWp.of_awpD [(27, 11)] hΓ hmix (by kernel_rfl) ?_
  by_cases hlt : k < l.length
  · have hlt' : (k : Int) < (l.length : Int) := by omega
    have hg : (l.map PV.str).getD k default = .str l[k] := getD_map_lt _ _ _ _ hlt
    have hkS : k < W.length := by omega
    have hkC : k < (l.map (costW cs)).length := by simpa using hlt
    have hgS : (W.map (intN false)).getD k default = intN false (W.getD k 0) := by
      rw [getD_map_lt _ _ _ _ hkS, List.getD_eq_getElem?_getD, List.getElem?_eq_getElem hkS, Option.getD_some]
    have hlk := hlw _ (List.getElem_mem hlt) (hfz _ (List.getElem_mem hlt))
    have e56 := c56 cs l[k] hc.le (by have := hc.l3; omega) (by omega) (wc_ok (by have := hc.l2; omega) (by have := hc.l3; omega) (hfz _ (List.getElem_mem hlt)))
    have hcl := costW_le hc.le l[k]
    have hcl2 : l[k].length * 1000 ≤ 1000 * 1000 := Nat.mul_le_mul_right _ hlk
    have hCk : (l.map (costW cs)).getD k 0 = costW cs l[k] := by
      rw [List.getD_eq_getElem?_getD, List.getElem?_eq_getElem hkC, Option.getD_some, List.getElem_map]
    have hcS : W.getD k 0 < 256 ^ 100 := by
      rw [List.getD_eq_getElem?_getD, List.getElem?_eq_getElem hkS, Option.getD_some]; exact hw.cap _ (List.getElem_mem hkS)
    have e23 := u34 (costW cs l[k]) (by omega)
    have e22 := Kn.u36 (W.getD k 0) (costW cs l[k]) (cap_of hcS (by decide)) (cap_of (k := 3) (by omega) (by decide))
    have hmul : W.getD k 0 * costW cs l[k] < capN := by
      have h1 : W.getD k 0 * costW cs l[k] ≤ 256 ^ 100 * 1000000 := Nat.mul_le_mul (Nat.le_of_lt hcS) (by omega)
      have h4 : 256 ^ 100 * 1000000 < capN := by unfold capN; decide
      omega
    have e59 := u89 (dotN (W.take k) ((l.map (costW cs)).take k)) (W.getD k 0 * costW cs l[k]) (hdc k) hmul
    have hdt := dotN_take hkS hkC
    rw [hCk] at hdt
    rw [← hdt, intN_pos (dotN (W.take (k + 1)) _)] at e59
    simp -implicitDefEqProofs only [hlt, hlt', hg, hgS, Int.toNat_natCast, List.length_map, go_sem]
    refine ⟨hkS, by rw [intN_pos]; rfl, by rw [intN_pos]; exact Nat.le_refl _, callVPK_fn e56 (.pures rfl) ?_⟩
    simp -implicitDefEqProofs only [go_sem]
    refine callVPK_fn e23 (.pures rfl) ?_
    simp -implicitDefEqProofs only [go_sem]
    refine callVPK_fn e22 (.still rfl) ?_
    simp -implicitDefEqProofs only [go_sem]
    refine callVPK_fn e59 (.still rfl) ?_
    simp -implicitDefEqProofs only [go_sem]
    refine ⟨by simp only [InR]; omega, k + 1, ?_, by omega, by omega⟩
    first | omega | exact ⟨by omega, rfl⟩ | simp
  have hkL : k = l.length := by omega
  subst hkL
  simp -implicitDefEqProofs only [Nat.lt_irrefl, Int.lt_irrefl, go_sem]
  rw [List.take_of_length_le (by omega : W.length ≤ l.length), List.take_of_length_le (by simp)]
  refine AWp.of_awpD [] hΓ hmix (by kernel_rfl) ?_
  simp -implicitDefEqProofs only [go_sem]
  rfl
end Go.Proofs.YtnaekjbbakofdaaGreat
end

section
namespace Go.Proofs.YtnaekjbbakofdaaGreat
open List

/-! ### The list that is given -/
def Bst (cs W : List Nat) (xs : List (List Wd)) : Option (List Wd × Nat) → Prop
  | none => xs = []
  | some (b, m) => (∃ x ∈ xs, b = listOf cs W x ∧ m = matchN cs W x) ∧ ∀ y ∈ xs, m ≤ matchN cs W y
theorem Bst.run {cs W : List Nat} : ∀ (zs xs : List (List Wd)) (s : Option (List Wd × Nat)), (∀ y ∈ zs, goodB cs.length W.length y = true) → Bst cs W xs s → Bst cs W (xs ++ zs) (zs.foldl (stepG cs W) s)
  | [], xs, s, _, h => by simpa using h
  | y :: zs, xs, s, hg, h => by
    have hstep : Bst cs W (xs ++ [y]) (stepG cs W s y) := by
      unfold stepG
      rw [if_pos (hg y (by simp))]
      match s, h with
      | none, h =>
        have h : xs = [] := h
        subst h
        exact ⟨⟨y, by simp, rfl, rfl⟩, fun z hz => by simp at hz; subst hz; exact Nat.le_refl _⟩
      | some (b, m), h =>
        obtain ⟨⟨x, hx, h1, h2⟩, h3⟩ := h
        unfold stepO
        simp only
        split
        · rename_i hlt
          exact ⟨⟨x, by simp [hx], h1, h2⟩, fun z hz => by
            rcases List.mem_append.1 hz with hz | hz
            · exact h3 z hz
            · rw [List.mem_singleton.1 hz]; omega⟩
        · rename_i hge
          split
          · exact ⟨⟨y, by simp, rfl, rfl⟩, fun z hz => by
              rcases List.mem_append.1 hz with hz | hz
              · have := h3 z hz; omega
              · rw [List.mem_singleton.1 hz]; exact Nat.le_refl _⟩
          · rename_i hno
            exact ⟨⟨x, by simp [hx], h1, h2⟩, fun z hz => by
              rcases List.mem_append.1 hz with hz | hz
              · exact h3 z hz
              · rw [List.mem_singleton.1 hz]; omega⟩
    have := Bst.run zs (xs ++ [y]) _ (fun z hz => hg z (by simp [hz])) hstep
    rw [List.append_assoc] at this
    exact this
def inc (a b : Wd) : Prop := ¬ a <+: b ∧ ¬ b <+: a
def PF (l : List Wd) : Prop := l.Pairwise inc
theorem inc.symm {a b : Wd} (h : inc a b) : inc b a := ⟨h.2, h.1⟩
theorem PF.perm {l m : List Wd} (h : PF l) (hp : l ~ m) : PF m := hp.pairwise h inc.symm
end Go.Proofs.YtnaekjbbakofdaaGreat
end

section
namespace Go.Proofs.YtnaekjbbakofdaaGreat
open List Go.AM

inductive F2 {α β : Type} (R : α → β → Prop) : List α → List β → Prop
  | nil : F2 R [] []
  | cons {a b l m} (h : R a b) (t : F2 R l m) : F2 R (a :: l) (b :: m)
theorem F2.append {α β : Type} {R : α → β → Prop} {l l' : List α} {m m' : List β} (h : F2 R l m) (h' : F2 R l' m') : F2 R (l ++ l') (m ++ m') := by
  induction h with
  | nil => exact h'
  | cons h _ ih => exact .cons h ih
theorem F2.mono {α β : Type} {R S : α → β → Prop} {l : List α} {m : List β} (h : F2 R l m) (hi : ∀ a b, b ∈ m → R a b → S a b) : F2 S l m := by
  induction h with
  | nil => exact .nil
  | cons h _ ih => exact .cons (hi _ _ (by simp) h) (ih fun a b hb => hi a b (by simp [hb]))
theorem F2.map {α β γ : Type} {R : α → γ → Prop} {f : β → γ} {l : List α} {m : List β} (h : F2 (fun a b => R a (f b)) l m) : F2 R l (m.map f) := by
  induction h with
  | nil => exact .nil
  | cons h _ ih => exact .cons h ih
theorem F2.len {α β : Type} {R : α → β → Prop} {l : List α} {m : List β} (h : F2 R l m) : l.length = m.length := by
  induction h with
  | nil => rfl
  | cons _ _ ih => simp [ih]
theorem F2.perm {α β : Type} {R : α → β → Prop} {m m' : List β} (hp : m ~ m') : ∀ {l : List α}, F2 R l m → ∃ l', l' ~ l ∧ F2 R l' m' := by
  induction hp with
  | nil => exact fun h => ⟨_, .refl _, h⟩
  | cons x _ ih =>
    intro l h
    cases h with
    | cons h t =>
      obtain ⟨l', h1, h2⟩ := ih t
      exact ⟨_ :: l', h1.cons _, .cons h h2⟩
  | swap x y l0 =>
    intro l h
    cases h with
    | cons h t =>
      cases t with
      | cons h' t => exact ⟨_, .swap _ _ _, .cons h' (.cons h t)⟩
  | trans _ _ ih1 ih2 =>
    intro l h
    obtain ⟨l1, h1, h2⟩ := ih1 h
    obtain ⟨l2, h3, h4⟩ := ih2 h2
    exact ⟨l2, h3.trans h1, h4⟩
theorem PF.ne {w : Wd} {l : List Wd} (h : PF l) (h2 : 2 ≤ l.length) (hw : w ∈ l) : w ≠ [] := fun e => by
  subst e
  obtain ⟨i, hi, he⟩ := List.getElem_of_mem hw
  obtain ⟨j, hj, hij⟩ : ∃ j, j < l.length ∧ i ≠ j := by
    by_cases h0 : i = 0
    · exact ⟨1, by omega, by omega⟩
    · exact ⟨0, by omega, h0⟩
  have hp := List.pairwise_iff_getElem.1 h
  rcases Nat.lt_or_gt_of_ne hij with hlt | hlt
  · exact (hp i j hi hj hlt).1 (by rw [he]; exact List.nil_prefix)
  · exact (hp j i hj hi hlt).2 (by rw [he]; exact List.nil_prefix)
end Go.Proofs.YtnaekjbbakofdaaGreat
end

section
namespace Go.Proofs.YtnaekjbbakofdaaGreat
open Go Go.AM
set_option maxRecDepth 100000
set_option maxHeartbeats 4000000
set_option linter.unusedSimpArgs false

end Go.Proofs.YtnaekjbbakofdaaGreat
end

