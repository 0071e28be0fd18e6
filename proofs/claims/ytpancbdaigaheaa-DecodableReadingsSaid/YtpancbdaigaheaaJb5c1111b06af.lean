/-
  Plain law: the empty word dangles exactly if two different lists of words spell the same message.
  The law DecodableReadings.
  What a parameter that fits a shape is: codes, ambiguities, lists of words and numbers.
-/
import Derived.Test.YtpancbdaigaheaaJ1174a4ffe897
import Derived.Test.YtpancbdaigaheaaJebdee19fdf8b
import Derived.Test.YtpancbdaigaheaaJe2cc7cec7ec0

section
namespace Go.Proofs.Ytpancbdaigaheaa
open Go Go.AM
set_option linter.unusedSimpArgs false

/-- Two different lists of words spell one message. -/
def Amb (ws : List (List UInt8)) : Prop := ∃ A B : List (List UInt8), (∀ x ∈ A, x ∈ ws) ∧ (∀ x ∈ B, x ∈ ws) ∧ A ≠ B ∧ A.flatten = B.flatten

theorem reach_step {ws : List (List UInt8)} : ∀ (n : Nat) {A B : List (List UInt8)} {r : List UInt8}, A.length + B.length ≤ n → (∀ x ∈ A, x ∈ ws) → (∀ x ∈ B, x ∈ ws) → Reach ws r → r ++ A.flatten = B.flatten → Reach ws []
  | n, A, B, [], _, _, _, hr, _ => hr
  | n, A, [], c :: r, _, _, _, _, h => by simp at h
  | 0, A, m :: B, c :: r, hn, _, _, _, _ => by simp at hn
  | n + 1, A, m :: B, c :: r, hn, hA, hB, hr, h => by
    have hm : m ∈ ws := hB m (by simp)
    rw [List.flatten_cons, List.append_eq_append_iff] at h
    have hne : c :: r ≠ [] := by simp
    simp only [List.length_cons] at hn
    generalize c :: r = r at h hr hne
    rcases h with ⟨a, h1, h2⟩ | ⟨a, h1, h2⟩
    · cases hp : m.isPrefixOf r
      · have hu : a ∈ nextS ws r := mem_nextS.2 ⟨m, hm, .inr ⟨hp, by rw [h1, List.isPrefixOf_iff_prefix]; exact List.prefix_append _ _, by rw [h1, List.drop_left]⟩⟩
        exact reach_step n (A := B) (B := A) (by omega) (fun x hx => hB x (by simp [hx])) hA (.next r a hr hne hu) h2.symm
      · have hl := (List.isPrefixOf_iff_prefix.1 hp).length_le
        have ha : a = [] := by
          have := congrArg List.length h1
          rw [List.length_append] at this
          exact List.length_eq_zero_iff.1 (by omega)
        subst ha
        rw [List.append_nil] at h1
        exact .next r [] hr hne (mem_nextS.2 ⟨m, hm, .inl ⟨hp, by rw [h1, List.drop_length]⟩⟩)
    · have hu : a ∈ nextS ws r := mem_nextS.2 ⟨m, hm, .inl ⟨by rw [h1, List.isPrefixOf_iff_prefix]; exact List.prefix_append _ _, by rw [h1, List.drop_left]⟩⟩
      exact reach_step n (A := A) (B := B) (by omega) hA (fun x hx => hB x (by simp [hx])) (.next r a hr hne hu) h2.symm

theorem first_of {ws : List (List UInt8)} {x y u : List UInt8} (hx : x ∈ ws) (hy : y ∈ ws) (hne : x ≠ y) (h : x = y ++ u) : u ∈ firstS ws := by
  obtain ⟨i, hi, rfl⟩ := List.getElem_of_mem hx
  obtain ⟨k, hk, rfl⟩ := List.getElem_of_mem hy
  have get : ∀ i, (h : i < ws.length) → ws.getD i [] = ws[i] := fun i h => by rw [List.getD_eq_getElem?_getD, List.getElem?_eq_getElem h, Option.getD_some]
  refine mem_firstS.2 ⟨i, k, hi, hk, fun e => hne (by subst e; rfl), ?_, ?_⟩
  · rw [get i hi, get k hk, h, List.isPrefixOf_iff_prefix]; exact List.prefix_append _ _
  · rw [get i hi, get k hk, h, List.drop_left]

theorem amb_sound {ws : List (List UInt8)} (hne : ∀ x ∈ ws, x ≠ []) : ∀ {A B : List (List UInt8)}, (∀ x ∈ A, x ∈ ws) → (∀ x ∈ B, x ∈ ws) → A ≠ B → A.flatten = B.flatten → Reach ws []
  | [], [], _, _, h, _ => absurd rfl h
  | [], y :: B, _, hB, _, h => by
    rw [List.flatten_nil, List.flatten_cons] at h
    exact absurd (List.append_eq_nil_iff.1 h.symm).1 (hne y (hB y (by simp)))
  | x :: A, [], hA, _, _, h => by
    rw [List.flatten_nil, List.flatten_cons] at h
    exact absurd (List.append_eq_nil_iff.1 h).1 (hne x (hA x (by simp)))
  | x :: A, y :: B, hA, hB, hn, h => by
    have hx := hA x (by simp)
    have hy := hB y (by simp)
    by_cases e : x = y
    · subst e
      rw [List.flatten_cons, List.flatten_cons] at h
      exact amb_sound hne (A := A) (B := B) (fun z hz => hA z (by simp [hz])) (fun z hz => hB z (by simp [hz])) (fun e => hn (by rw [e])) (List.append_cancel_left h)
    · rw [List.flatten_cons, List.flatten_cons, List.append_eq_append_iff] at h
      rcases h with ⟨a, h1, h2⟩ | ⟨a, h1, h2⟩
      · exact reach_step _ (A := B) (B := A) (Nat.le_refl _) (fun z hz => hB z (by simp [hz])) (fun z hz => hA z (by simp [hz])) (.first a (first_of hy hx (Ne.symm e) h1)) h2.symm
      · exact reach_step _ (A := A) (B := B) (Nat.le_refl _) (fun z hz => hA z (by simp [hz])) (fun z hz => hB z (by simp [hz])) (.first a (first_of hx hy e h1)) h2.symm

/-- Whatever dangles is what one list of words lacks to another one that begins otherwise. -/
theorem reach_spelt {ws : List (List UInt8)} (hd : ∀ i j, i < ws.length → j < ws.length → ws.getD i [] = ws.getD j [] → i = j) {u : List UInt8} (h : Reach ws u) :
    ∃ (x y : List UInt8) (A B : List (List UInt8)), x ∈ ws ∧ y ∈ ws ∧ x ≠ y ∧ (∀ z ∈ A, z ∈ ws) ∧ (∀ z ∈ B, z ∈ ws) ∧ (x :: A).flatten = (y :: B).flatten ++ u := by
  have get : ∀ i, (h : i < ws.length) → ws.getD i [] = ws[i] := fun i h => by rw [List.getD_eq_getElem?_getD, List.getElem?_eq_getElem h, Option.getD_some]
  induction h with
  | first u h =>
    obtain ⟨i, k, hi, hk, hne, hp, rfl⟩ := mem_firstS.1 h
    refine ⟨ws.getD i [], ws.getD k [], [], [], by rw [get i hi]; exact List.getElem_mem hi, by rw [get k hk]; exact List.getElem_mem hk, fun e => hne (hd i k hi hk e), by simp, by simp, ?_⟩
    obtain ⟨t, ht⟩ := List.isPrefixOf_iff_prefix.1 hp
    rw [← ht]; simp
  | next r u hr hne h ih =>
    obtain ⟨x, y, A, B, hx, hy, hxy, hA, hB, e⟩ := ih
    obtain ⟨w, hw, ⟨hp, rfl⟩ | ⟨_, hp, rfl⟩⟩ := mem_nextS.1 h
    · obtain ⟨t, ht⟩ := List.isPrefixOf_iff_prefix.1 hp
      refine ⟨x, y, A, B ++ [w], hx, hy, hxy, hA, fun z hz => ?_, ?_⟩
      · rcases List.mem_append.1 hz with hz | hz
        · exact hB z hz
        · rw [List.mem_singleton.1 hz]; exact hw
      · rw [e, ← ht, List.drop_left]; simp
    · obtain ⟨t, ht⟩ := List.isPrefixOf_iff_prefix.1 hp
      refine ⟨y, x, B ++ [w], A, hy, hx, Ne.symm hxy, fun z hz => ?_, hA, ?_⟩
      · rcases List.mem_append.1 hz with hz | hz
        · exact hB z hz
        · rw [List.mem_singleton.1 hz]; exact hw
      · rw [e, ← ht, List.drop_left]; simp

theorem amb_iff {ws : List (List UInt8)} (hne : ∀ x ∈ ws, x ≠ []) (hd : ∀ i j, i < ws.length → j < ws.length → ws.getD i [] = ws.getD j [] → i = j) : Reach ws [] ↔ Amb ws := by
  constructor
  · intro h
    obtain ⟨x, y, A, B, hx, hy, hxy, hA, hB, e⟩ := reach_spelt hd h
    refine ⟨x :: A, y :: B, fun z hz => ?_, fun z hz => ?_, fun e => hxy (by injection e), by rw [e, List.append_nil]⟩
    · rcases List.mem_cons.1 hz with rfl | hz
      · exact hx
      · exact hA z hz
    · rcases List.mem_cons.1 hz with rfl | hz
      · exact hy
      · exact hB z hz
  · rintro ⟨A, B, hA, hB, hn, h⟩
    exact amb_sound hne hA hB hn h

/-- The reversed words are as ambiguous. -/
theorem amb_rev {ws vs : List (List UInt8)} (h : ∀ x ∈ ws, x.reverse ∈ vs) (ha : Amb ws) : Amb vs := by
  obtain ⟨A, B, hA, hB, hn, e⟩ := ha
  have hmem : ∀ A : List (List UInt8), (∀ x ∈ A, x ∈ ws) → ∀ x ∈ (A.map List.reverse).reverse, x ∈ vs := by
    intro A hA x hx
    rw [List.mem_reverse, List.mem_map] at hx
    obtain ⟨y, hy, rfl⟩ := hx
    exact h y (hA y hy)
  refine ⟨(A.map List.reverse).reverse, (B.map List.reverse).reverse, hmem A hA, hmem B hB, fun e2 => hn ?_, ?_⟩
  · have h1 := congrArg (fun l => (l.reverse.map List.reverse)) e2
    simpa [List.map_map, Function.comp_def] using h1
  · rw [← List.reverse_flatten, ← List.reverse_flatten, e]

theorem amb_sub {ws vs : List (List UInt8)} (h : ∀ x ∈ ws, x ∈ vs) (ha : Amb ws) : Amb vs := by
  obtain ⟨A, B, hA, hB, hn, e⟩ := ha
  exact ⟨A, B, fun x hx => h x (hA x hx), fun x hx => h x (hB x hx), hn, e⟩
end Go.Proofs.Ytpancbdaigaheaa
end

section
namespace Go.Proofs.Ytpancbdaigaheaa
open Go Go.AM
set_option maxRecDepth 100000
set_option linter.unusedSimpArgs false

theorem valid_nodup {q : Int} {ws : List (List UInt8)} (hv : Valid q ws) : ws.Nodup := List.pairwise_iff_getElem.2 fun i j hi hj hij e => by
  have := hv.lt i j hij hj
  rw [List.getD_eq_getElem?_getD, List.getElem?_eq_getElem hi, Option.getD_some, List.getD_eq_getElem?_getD, List.getElem?_eq_getElem hj, Option.getD_some, e] at this
  exact ltW_irrefl _ this
theorem valid_ne {q : Int} {ws : List (List UInt8)} (hv : Valid q ws) : ∀ x ∈ ws, x ≠ [] := fun x hx => by
  obtain ⟨j, hj, rfl⟩ := List.getElem_of_mem hx
  have := hv.ne j hj
  rwa [List.getD_eq_getElem?_getD, List.getElem?_eq_getElem hj, Option.getD_some] at this
/-- In a decodable code no word has two readings. -/
theorem dec_cnt {q : Int} {ws : List (List UInt8)} (hv : Valid q ws) (h : [] ∉ residL ws) (w : List UInt8) : cnt ws w ≤ 1 := by
  have hn := valid_ne hv
  have hna : ¬ Amb ws := fun ha => h (mem_residL.2 ((amb_iff hn (fun i j hi hj e => by
    rcases Nat.lt_trichotomy i j with hij | hij | hij
    · have := hv.lt i j hij hj; rw [e] at this; exact absurd this (ltW_irrefl _)
    · exact hij
    · have := hv.lt j i hij hi; rw [e] at this; exact absurd this (ltW_irrefl _))).2 ha))
  refine one_of_all (facs_nodup hn (valid_nodup hv) _ w (Nat.le_refl _)) fun l hl m hm => ?_
  obtain ⟨h1, h2⟩ := (mem_facs hn).1 hl
  obtain ⟨h3, h4⟩ := (mem_facs hn).1 hm
  exact Classical.byContradiction fun hne => hna ⟨l, m, h1, h3, hne, h2.trans h4.symm⟩

set_option maxHeartbeats 1000000 in
theorem t11g (q : Int) (ws : List (List UInt8)) (w : List UInt8) (hws : ws.length ≤ 9223372036854775807) : PFn Try.prog 11 [codeV q ws, .str w] [.bool true] := by
  refine PFn.of_body hΓ Try.func11 (by kernel_rfl) rfl (AWp.of_awpD [(9, 12)] hΓ hmix (by kernel_rfl) ?_)
  simp +contextual -implicitDefEqProofs only [codeV, Try.ntmps11, Try.results11, Nat.reduceAdd, Nat.reduceSub, go_sem]
  refine callK_fn (t12 q ws hws) (.still rfl) ?_
  cases hf : (!greatB ws && decide (codeCheck q ws = 0))
  · simp -implicitDefEqProofs only [go_sem]
    refine callK_fn awake_ok (.pures rfl) ?_
    simp -implicitDefEqProofs only [go_sem]
  simp only [Bool.and_eq_true, decide_eq_true_eq] at hf
  have h := hf.2
  have hv := valid_of h
  have hlen := hv.len
  by_cases hwl : (14 : Int) < w.length
  · simp -implicitDefEqProofs only [hwl, go_sem]
    refine callK_fn awake_ok (.pures rfl) ?_
    simp -implicitDefEqProofs only [go_sem]
  have hn := valid_ne hv
  have e15 := t15 q ws
  rw [if_pos h, if_pos h] at e15
  have e32 := u32 q ws w (fun _ => hn) (fun _ => by omega) (fun _ _ => by omega)
  rw [if_pos h] at e32
  simp -implicitDefEqProofs only [hwl, go_sem]
  refine callK_fn e15 (.still rfl) ?_
  simp -implicitDefEqProofs only [go_sem]
  by_cases h2 : wordCheck q w = 0
  · rw [if_pos h2, intN_pos] at e32
    refine callK_fn e32 (.still rfl) ?_
    cases hd : decide ([] ∈ residL ws)
    · have hone := dec_cnt hv (of_decide_eq_false hd) w
      have e1 := u34 1 (by omega)
      have e33 := u33 (cnt ws w) 1 (cap_41 (Nat.le_trans hone (by decide))) (cap_41 (by decide))
      have hle : cmpN (cnt ws w) 1 ≤ 0 := by
        unfold cmpN
        split
        · decide
        · rw [if_pos (by omega)]; decide
      rw [intN_pos] at e1
      rw [intN_pos, intN_pos] at e33
      simp -implicitDefEqProofs only [go_sem]
      refine callVPK_fn e1 (.pures rfl) ?_
      simp -implicitDefEqProofs only [go_sem]
      refine callVPK_fn e33 (.still rfl) ?_
      simp -implicitDefEqProofs only [hle, go_sem]
      refine callVPK_fn awake_ok (.pures rfl) ?_
      simp -implicitDefEqProofs only [go_sem]
    · simp -implicitDefEqProofs only [go_sem]
      refine callVPK_fn awake_ok (.pures rfl) ?_
      simp -implicitDefEqProofs only [go_sem]
  · rw [if_neg h2, intN_pos] at e32
    refine callK_fn e32 (.still rfl) ?_
    simp -implicitDefEqProofs only [h2, go_sem]
    refine callK_fn awake_ok (.pures rfl) ?_
    simp -implicitDefEqProofs only [go_sem]
end Go.Proofs.Ytpancbdaigaheaa
end

section
namespace Go.Proofs.Ytpancbdaigaheaa
open Go Go.AM Go.RowKit Go.ChangeShapes
set_option maxRecDepth 100000

theorem own : ownKnob Try.prog.godebug = none := by kernel_rfl
theorem laidOut : laidOutB Try.prog = true := by kernel_rfl

def codeSh : Sh := .agg [.int .i64, .sl .str]
def ambSh : Sh := .agg [.str, .sl (.int .i64), .sl (.int .i64)]

theorem strs_of {l : List PV} (h : ∀ i, i < l.length → Fit .str (l.getD i default)) : ∃ ws : List (List UInt8), l = ws.map .str ∧ ∀ w ∈ ws, w.length ≤ maxLen := by
  induction l with
  | nil => exact ⟨[], rfl, by simp⟩
  | cons x l ih =>
    obtain ⟨ws, h1, h2⟩ := ih (fun i hi => h (i + 1) (by simpa using hi))
    have h0 := h 0 (by simp)
    simp only [List.getD_cons_zero] at h0
    cases h0 with
    | str s hs => exact ⟨s :: ws, by rw [h1]; rfl, fun w hw => by
        rcases List.mem_cons.1 hw with rfl | hw
        · exact hs
        · exact h2 w hw⟩
theorem ints_of {l : List PV} (h : ∀ i, i < l.length → Fit (.int .i64) (l.getD i default)) : ∃ a : List Int, l = a.map (.int .i64) ∧ ∀ x ∈ a, InR .i64 x := by
  induction l with
  | nil => exact ⟨[], rfl, by simp⟩
  | cons x l ih =>
    obtain ⟨a, h1, h2⟩ := ih (fun i hi => h (i + 1) (by simpa using hi))
    have h0 := h 0 (by simp)
    simp only [List.getD_cons_zero] at h0
    cases h0 with
    | int _ n hn => exact ⟨n :: a, by rw [h1]; rfl, fun w hw => by
        rcases List.mem_cons.1 hw with rfl | hw
        · exact hn
        · exact h2 w hw⟩
theorem words_of {p : PV} (h : Fit (.sl .str) p) : ∃ ws : List (List UInt8), p = .sl (ws.map .str) ∧ ws.length ≤ maxLen ∧ ∀ w ∈ ws, w.length ≤ maxLen := by
  cases h with
  | sl _ l h1 h2 =>
    obtain ⟨ws, rfl, h3⟩ := strs_of h2
    exact ⟨ws, rfl, by simpa using h1, h3⟩
theorem nums_of {p : PV} (h : Fit (.sl (.int .i64)) p) : ∃ a : List Int, p = .sl (a.map (.int .i64)) ∧ a.length ≤ maxLen ∧ ∀ x ∈ a, InR .i64 x := by
  cases h with
  | sl _ l h1 h2 =>
    obtain ⟨a, rfl, h3⟩ := ints_of h2
    exact ⟨a, rfl, by simpa using h1, h3⟩
theorem code_of {p : PV} (h : Fit codeSh p) : ∃ (q : Int) (ws : List (List UInt8)), p = codeV q ws ∧ InR .i64 q ∧ ws.length ≤ maxLen ∧ ∀ w ∈ ws, w.length ≤ maxLen := by
  cases h with
  | agg _ l h1 h2 =>
    match l, h1 with
    | [x, y], _ =>
      have h3 := h2 0 (by simp)
      have h4 := h2 1 (by simp)
      simp only [List.getD_cons_zero, List.getD_cons_succ] at h3 h4
      obtain ⟨ws, rfl, h5⟩ := words_of h4
      cases h3 with
      | int _ n hn => exact ⟨n, ws, rfl, hn, h5⟩
theorem amb_of {p : PV} (h : Fit ambSh p) : ∃ (m : List UInt8) (a b : List Int), p = ambV m a b ∧ m.length ≤ maxLen ∧ a.length ≤ maxLen ∧ b.length ≤ maxLen := by
  cases h with
  | agg _ l h1 h2 =>
    match l, h1 with
    | [x, y, z], _ =>
      have h3 := h2 0 (by simp)
      have h4 := h2 1 (by simp)
      have h5 := h2 2 (by simp)
      simp only [List.getD_cons_zero, List.getD_cons_succ] at h3 h4 h5
      obtain ⟨a, rfl, ha, _⟩ := nums_of h4
      obtain ⟨b, rfl, hb, _⟩ := nums_of h5
      cases h3 with
      | str m hm => exact ⟨m, a, b, rfl, hm, ha, hb⟩

end Go.Proofs.Ytpancbdaigaheaa
end

