/-
  Kraft's sum of a prefix code, plain: at most 1, and 1 exactly if nothing is missing.
  Words over an alphabet, and prefix codes as lists: plain.
  Completed prefix codes: plain.
  Completed codes, plain.
  One missing word left out, plain.
  HasSuffix, Suffix.
  Prefix and Suffix of the reference, Suffix, Longest, Same, Make of the reference.
  The sizes of chapter 36 (Great); prefix codes of these sizes.
  slices.Equal of words.
-/
import Derived.Test.YtaphjgjhpmmkmaaGreatJ70026ac7efa8
import Derived.Test.YtaphjgjhpmmkmaaGreatJ01eba62d5e03
import Derived.Test.YtaphjgjhpmmkmaaGreatJb52afdf6410d

section
namespace Go.Proofs.YtaphjgjhpmmkmaaGreat.Kn
open Go Go.AM
set_option maxRecDepth 100000
set_option linter.unusedSimpArgs false

/-- A letter. -/
def ltr (a : Nat) : UInt8 := L16.getD a 0
theorem ltr_inj {a b : Nat} (ha : a < 16) (hb : b < 16) (h : ltr a = ltr b) : a = b := by
  have key : ∀ a : Fin 16, ∀ b : Fin 16, L16.getD a.val 0 = L16.getD b.val 0 → a = b := by decide
  have := key ⟨a, ha⟩ ⟨b, hb⟩ h
  exact congrArg Fin.val this
/-- A word over the first q letters. -/
def Alph (q : Nat) (w : List UInt8) : Prop := ∀ b ∈ w, ∃ a, a < q ∧ b = ltr a

/-- How much a word takes. -/
def wtN (q : Nat) (w : List UInt8) : Nat := q ^ (32 - w.length)
/-- What the words that begin with p take. -/
def taken (q : Nat) (p : List UInt8) : List (List UInt8) → Nat
  | [] => 0
  | w :: ws => (if p.isPrefixOf w then wtN q w else 0) + taken q p ws

theorem pre_iff {p w : List UInt8} : p.isPrefixOf w = true ↔ ∃ t, w = p ++ t := by
  rw [List.isPrefixOf_iff_prefix]
  exact ⟨fun ⟨t, h⟩ => ⟨t, h.symm⟩, fun ⟨t, h⟩ => ⟨t, h.symm⟩⟩
theorem pre_snoc {p w : List UInt8} {b : UInt8} (h : (p ++ [b]).isPrefixOf w = true) : p.isPrefixOf w = true := by
  obtain ⟨t, ht⟩ := pre_iff.1 h
  exact pre_iff.2 ⟨[b] ++ t, by rw [ht, List.append_assoc]⟩
theorem pre_uniq {p w : List UInt8} {b c : UInt8} (h1 : (p ++ [b]).isPrefixOf w = true) (h2 : (p ++ [c]).isPrefixOf w = true) : b = c := by
  obtain ⟨t, ht⟩ := pre_iff.1 h1
  obtain ⟨s, hs⟩ := pre_iff.1 h2
  rw [ht, List.append_assoc, List.append_assoc] at hs
  have := List.append_cancel_left hs
  simp at this
  exact this.1
theorem pre_more {p w : List UInt8} (h : p.isPrefixOf w = true) (hne : w ≠ p) : ∃ b, b ∈ w ∧ (p ++ [b]).isPrefixOf w = true := by
  obtain ⟨t, ht⟩ := pre_iff.1 h
  cases t with
  | nil => exact absurd (by simpa using ht) hne
  | cons b t => exact ⟨b, by rw [ht]; simp, pre_iff.2 ⟨t, by rw [ht]; simp⟩⟩

theorem sumN_add (F G : Nat → Nat) : ∀ n, sumN (fun j => F j + G j) n = sumN F n + sumN G n
  | 0 => rfl
  | n + 1 => by
    have ih := sumN_add F G n
    have e1 : sumN (fun j => F j + G j) (n + 1) = sumN (fun j => F j + G j) n + (F n + G n) := rfl
    have e2 : sumN F (n + 1) = sumN F n + F n := rfl
    have e3 : sumN G (n + 1) = sumN G n + G n := rfl
    omega
theorem sumN_one {F : Nat → Nat} {k c : Nat} : ∀ {n : Nat}, k < n → F k = c → (∀ j, j < n → j ≠ k → F j = 0) → sumN F n = c
  | 0, h, _, _ => by omega
  | n + 1, h, hc, h0 => by
    have e : sumN F (n + 1) = sumN F n + F n := rfl
    by_cases hk : k = n
    · subst hk
      rw [e, sumN_zero (fun j hj => h0 j (by omega) (by omega)), hc, Nat.zero_add]
    · rw [e, sumN_one (n := n) (by omega) hc (fun j hj hne => h0 j (by omega) hne), h0 n (by omega) (fun h => hk h.symm), Nat.add_zero]
theorem sumN_le {F : Nat → Nat} {B : Nat} : ∀ {n : Nat}, (∀ j, j < n → F j ≤ B) → sumN F n ≤ n * B
  | 0, _ => Nat.zero_le _
  | n + 1, h => by
    have e : sumN F (n + 1) = sumN F n + F n := rfl
    have := sumN_le (n := n) (fun j hj => h j (by omega))
    have := h n (by omega)
    rw [e, Nat.succ_mul]; omega
theorem sumN_full {F : Nat → Nat} {B : Nat} : ∀ {n : Nat}, (∀ j, j < n → F j ≤ B) → sumN F n = n * B → ∀ j, j < n → F j = B
  | 0, _, _ => fun j hj => by omega
  | n + 1, h, hs => by
    have e : sumN F (n + 1) = sumN F n + F n := rfl
    have h1 := sumN_le (n := n) (fun j hj => h j (by omega))
    have h2 := h n (by omega)
    rw [e, Nat.succ_mul] at hs
    have ih := sumN_full (n := n) (fun j hj => h j (by omega)) (by omega)
    intro j hj
    by_cases hjn : j = n
    · subst hjn; omega
    · exact ih j (by omega)
theorem sumN_const {F : Nat → Nat} {B : Nat} : ∀ {n : Nat}, (∀ j, j < n → F j = B) → sumN F n = n * B
  | 0, _ => by simp [sumN]
  | n + 1, h => by
    have e : sumN F (n + 1) = sumN F n + F n := rfl
    rw [e, sumN_const (n := n) (fun j hj => h j (by omega)), h n (by omega), Nat.succ_mul]

/-- A word that is none of the code: what begins with it goes on with a letter. -/
theorem taken_split {q : Nat} (hq : q ≤ 16) (p : List UInt8) : ∀ {ws : List (List UInt8)}, (∀ w ∈ ws, Alph q w) → (∀ w ∈ ws, w ≠ p) → taken q p ws = sumN (fun a => taken q (p ++ [ltr a]) ws) q
  | [], _, _ => by
    symm
    exact sumN_zero fun _ _ => rfl
  | w :: ws, hA, hne => by
    have ih := taken_split hq p (ws := ws) (fun x hx => hA x (by simp [hx])) (fun x hx => hne x (by simp [hx]))
    show (if p.isPrefixOf w then wtN q w else 0) + taken q p ws = sumN (fun a => (if (p ++ [ltr a]).isPrefixOf w then wtN q w else 0) + taken q (p ++ [ltr a]) ws) q
    rw [sumN_add, ← ih]
    congr 1
    by_cases hp : p.isPrefixOf w = true
    · obtain ⟨b, hb, hbw⟩ := pre_more hp (hne w (by simp))
      obtain ⟨a, ha, rfl⟩ := hA w (by simp) b hb
      rw [if_pos hp]
      symm
      refine sumN_one ha (by simp only [hbw, if_true]) fun j hj hja => ?_
      rw [if_neg]
      intro hjw
      exact hja (ltr_inj (by omega) (by omega) (pre_uniq hjw hbw))
    · rw [if_neg hp]
      symm
      refine sumN_zero fun j hj => ?_
      rw [if_neg]
      exact fun h => hp (pre_snoc h)

/-- A prefix code, as a list. -/
structure PCode (q : Nat) (ws : List (List UInt8)) : Prop where
  q0 : 0 < q
  q16 : q ≤ 16
  nodup : ws.Nodup
  free : ∀ x ∈ ws, ∀ y ∈ ws, y.isPrefixOf x = true → x = y
  alph : ∀ w ∈ ws, Alph q w
  short : ∀ w ∈ ws, w.length ≤ 32

theorem taken_none {q : Nat} {p : List UInt8} : ∀ {ws : List (List UInt8)}, (∀ w ∈ ws, ¬ p.isPrefixOf w = true) → taken q p ws = 0
  | [], _ => rfl
  | w :: ws, h => by
    show (if p.isPrefixOf w then wtN q w else 0) + taken q p ws = 0
    rw [if_neg (h w (by simp)), taken_none (fun x hx => h x (by simp [hx]))]
theorem taken_word {q : Nat} {p : List UInt8} : ∀ {ws : List (List UInt8)}, p ∈ ws → ws.Nodup → (∀ x ∈ ws, p.isPrefixOf x = true → x = p) → taken q p ws = wtN q p
  | w :: ws, hp, hd, hf => by
    show (if p.isPrefixOf w then wtN q w else 0) + taken q p ws = _
    have hd' := List.nodup_cons.1 hd
    by_cases hw : p.isPrefixOf w = true
    · have e := hf w (by simp) hw
      subst e
      rw [if_pos hw, taken_none (fun x hx h => ?_), Nat.add_zero]
      have := hf x (by simp [hx]) h
      subst this
      exact hd'.1 hx
    · rw [if_neg hw, Nat.zero_add]
      have hne : p ≠ w := fun e => hw (by rw [e]; exact List.isPrefixOf_iff_prefix.2 (List.prefix_refl _))
      exact taken_word (by simpa [hne] using hp) hd'.2 (fun x hx => hf x (by simp [hx]))
theorem taken_in {q : Nat} (hq : 0 < q) {p w : List UInt8} : ∀ {ws : List (List UInt8)}, w ∈ ws → p.isPrefixOf w = true → 0 < taken q p ws
  | x :: ws, hw, hp => by
    show 0 < (if p.isPrefixOf x then wtN q x else 0) + taken q p ws
    rcases List.mem_cons.1 hw with rfl | hw
    · rw [if_pos hp]
      have : 0 < wtN q w := Nat.pow_pos hq
      omega
    · have := taken_in hq hw hp
      omega
theorem taken_some {q : Nat} {p : List UInt8} {ws : List (List UInt8)} (h : taken q p ws ≠ 0) : ∃ w ∈ ws, p.isPrefixOf w = true := by
  by_cases hx : ∃ w ∈ ws, p.isPrefixOf w = true
  · exact hx
  · exact absurd (taken_none fun w hw hp => hx ⟨w, hw, hp⟩) h

theorem PCode.word {q : Nat} {ws : List (List UInt8)} (h : PCode q ws) {p : List UInt8} (hp : p ∈ ws) : taken q p ws = wtN q p :=
  taken_word hp h.nodup fun x hx hpx => h.free x hx p hp hpx

theorem PCode.le {q : Nat} {ws : List (List UInt8)} (h : PCode q ws) : ∀ (d : Nat) (p : List UInt8), p.length + d = 32 → taken q p ws ≤ q ^ d
  | d, p, hl => by
    by_cases hp : p ∈ ws
    · rw [h.word hp]
      unfold wtN
      rw [show 32 - p.length = d by omega]
      exact Nat.le_refl _
    · have hne : ∀ w ∈ ws, w ≠ p := fun w hw e => hp (e ▸ hw)
      cases d with
      | zero =>
        rw [taken_none fun w hw hpw => ?_]
        · exact Nat.zero_le _
        · obtain ⟨b, _, hb⟩ := pre_more hpw (hne w hw)
          have h1 := (List.isPrefixOf_iff_prefix.1 hb).length_le
          have h2 := h.short w hw
          simp at h1
          omega
      | succ d =>
        rw [taken_split h.q16 p h.alph hne, Nat.pow_succ, Nat.mul_comm]
        exact sumN_le fun a _ => PCode.le h d (p ++ [ltr a]) (by simp; omega)

/-- Proper beginnings of words. -/
def Inner (ws : List (List UInt8)) (p : List UInt8) : Prop := ∃ w ∈ ws, p.isPrefixOf w = true ∧ p.length < w.length
/-- Nothing is missing. -/
def Whole (q : Nat) (ws : List (List UInt8)) : Prop := ∀ p, Inner ws p → ∀ a, a < q → Inner ws (p ++ [ltr a]) ∨ p ++ [ltr a] ∈ ws

theorem PCode.outer {q : Nat} {ws : List (List UInt8)} (h : PCode q ws) {p : List UInt8} (hp : Inner ws p) : p ∉ ws := fun hm => by
  obtain ⟨w, hw, hpw, hl⟩ := hp
  have := h.free w hw p hm hpw
  rw [this] at hl
  omega

theorem PCode.of_whole {q : Nat} {ws : List (List UInt8)} (h : PCode q ws) (hw : Whole q ws) : ∀ (d : Nat) (p : List UInt8), p.length + d = 32 → (Inner ws p ∨ p ∈ ws) → taken q p ws = q ^ d
  | d, p, hl, hp => by
    by_cases hm : p ∈ ws
    · rw [h.word hm]
      unfold wtN
      rw [show 32 - p.length = d by omega]
    · have hi : Inner ws p := hp.elim id fun e => absurd e hm
      have hne : ∀ w ∈ ws, w ≠ p := fun w hw e => hm (e ▸ hw)
      cases d with
      | zero =>
        obtain ⟨w, hw1, hw2, hw3⟩ := hi
        have := h.short w hw1
        omega
      | succ d =>
        rw [taken_split h.q16 p h.alph hne, Nat.pow_succ, Nat.mul_comm]
        exact sumN_const fun a ha => PCode.of_whole h hw d (p ++ [ltr a]) (by simp; omega) (hw p hi a ha)

theorem inner_init {ws : List (List UInt8)} {p : List UInt8} {b : UInt8} (h : Inner ws (p ++ [b])) : Inner ws p := by
  obtain ⟨w, h1, h2, h3⟩ := h
  exact ⟨w, h1, pre_snoc h2, by simp at h3; omega⟩

theorem PCode.full {q : Nat} {ws : List (List UInt8)} (h : PCode q ws) (hT : taken q [] ws = q ^ 32) : ∀ (n : Nat) (p : List UInt8), p.length = n → Inner ws p → taken q p ws = q ^ (32 - n) ∧ ∀ a, a < q → taken q (p ++ [ltr a]) ws = q ^ (32 - (n + 1))
  | n, p, hn, hi => by
    have hm := h.outer hi
    have hne : ∀ w ∈ ws, w ≠ p := fun w hw e => hm (e ▸ hw)
    have hlen : n + 1 ≤ 32 := by
      obtain ⟨w, h1, h2, h3⟩ := hi
      have := h.short w h1
      omega
    have hfull : taken q p ws = q ^ (32 - n) := by
      cases n with
      | zero =>
        have : p = [] := List.length_eq_zero_iff.1 hn
        subst this
        exact hT
      | succ n =>
        obtain ⟨x, b, rfl⟩ : ∃ x b, p = x ++ [b] := by
          have hp0 : p ≠ [] := fun e => by subst e; simp at hn
          exact ⟨p.dropLast, p.getLast hp0, (List.dropLast_concat_getLast hp0).symm⟩
        have hxl : x.length = n := by simpa using hn
        have ih := PCode.full h hT n x hxl (inner_init hi)
        obtain ⟨w, h1, h2, h3⟩ := hi
        have hbw : b ∈ w := by
          obtain ⟨t, rfl⟩ := pre_iff.1 h2
          simp
        obtain ⟨a, ha, rfl⟩ := h.alph w h1 b hbw
        exact ih.2 a ha
    refine ⟨hfull, ?_⟩
    rw [taken_split h.q16 p h.alph hne, show 32 - n = (32 - (n + 1)) + 1 by omega, Nat.pow_succ, Nat.mul_comm] at hfull
    exact sumN_full (fun a _ => h.le (32 - (n + 1)) (p ++ [ltr a]) (by simp; omega)) hfull

theorem PCode.whole_of {q : Nat} {ws : List (List UInt8)} (h : PCode q ws) (hT : taken q [] ws = q ^ 32) : Whole q ws := fun p hi a ha => by
  have h1 := (h.full hT p.length p rfl hi).2 a ha
  have h2 : taken q (p ++ [ltr a]) ws ≠ 0 := by
    rw [h1]; exact Nat.ne_of_gt (Nat.pow_pos h.q0)
  obtain ⟨w, hw, hp⟩ := taken_some h2
  by_cases e : w = p ++ [ltr a]
  · exact .inr (e ▸ hw)
  · refine .inl ⟨w, hw, hp, ?_⟩
    obtain ⟨b, _, hb⟩ := pre_more hp e
    have := (List.isPrefixOf_iff_prefix.1 hb).length_le
    simp at this ⊢
    omega

/-- The measure is 1 exactly if nothing is missing. -/
theorem PCode.one_iff {q : Nat} {ws : List (List UInt8)} (h : PCode q ws) (hi : Inner ws []) : taken q [] ws = q ^ 32 ↔ Whole q ws :=
  ⟨h.whole_of, fun hw => h.of_whole hw 32 [] rfl (.inl hi)⟩
theorem PCode.one_le {q : Nat} {ws : List (List UInt8)} (h : PCode q ws) : taken q [] ws ≤ q ^ 32 := h.le 32 [] rfl

theorem taken_sum (q : Nat) : ∀ ws : List (List UInt8), taken q [] ws = ((ws.map List.length).map fun n => q ^ (32 - n)).sum
  | [] => rfl
  | w :: ws => by
    show (if ([] : List UInt8).isPrefixOf w then wtN q w else 0) + taken q [] ws = _
    rw [if_pos (by simp [List.isPrefixOf]), taken_sum q ws]
    simp [wtN]
end Go.Proofs.YtaphjgjhpmmkmaaGreat.Kn
end

section
namespace Go.Proofs.YtaphjgjhpmmkmaaGreat
open Go Go.AM
set_option maxRecDepth 100000
set_option linter.unusedSimpArgs false

theorem ixB_hit (c : UInt8) : ∀ (l : List UInt8) (n : Nat), 0 ≤ ixB c l n → ∃ k : Nat, ixB c l n = ((n + k : Nat) : Int) ∧ l.getD k 0 = c
  | [], n, h => by simp [ixB] at h
  | a :: l, n, h => by
    unfold ixB at h ⊢
    cases hb : Nat.beq a.toNat c.toNat with
    | true =>
      rw [hb] at h
      exact ⟨0, by simp, by simpa using UInt8.toNat_inj.1 (Nat.eq_of_beq_eq_true hb)⟩
    | false =>
      rw [hb] at h
      obtain ⟨k, h1, h2⟩ := ixB_hit c l (n + 1) h
      exact ⟨k + 1, by simp only [h1]; omega, by simpa using h2⟩
theorem alph_of {q : Int} {w : List UInt8} (h : wordCheck q w = 0) : Kn.Alph q.toNat w := fun b hb => by
  have hw : okW q w = true := by
    unfold wordCheck at h
    split at h
    · cases h
    · split at h
      · cases h
      · split at h
        · assumption
        · cases h
  have h1 := List.all_eq_true.1 hw b hb
  unfold okB at h1
  simp only [Bool.and_eq_true, decide_eq_true_eq] at h1
  obtain ⟨k, h3, h4⟩ := ixB_hit b L16 0 h1.1
  exact ⟨k, by omega, h4.symm⟩
theorem ixB_ltr {a : Nat} (ha : a < 16) : ixB (Kn.ltr a) L16 0 = a := by
  have key : ∀ a : Fin 16, ixB (L16.getD a.val 0) L16 0 = (a.val : Int) := by decide
  exact key ⟨a, ha⟩
theorem word_of {q : Nat} {w : List UInt8} (hq1 : 1 ≤ q) (hq : q ≤ 16) (hl : w.length ≤ 65536) (h : Kn.Alph q w) : wordCheck q w = 0 := by
  unfold wordCheck
  rw [if_neg (by omega), if_neg (by omega), if_pos]
  refine List.all_eq_true.2 fun b hb => ?_
  obtain ⟨a, h1, rfl⟩ := h b hb
  unfold okB
  rw [ixB_ltr (by omega)]
  simp only [Bool.and_eq_true, decide_eq_true_eq]
  omega

theorem free_of {ws : List (List UInt8)} (hn : ws.Nodup) (hp : prefB ws = true) : ∀ x ∈ ws, ∀ y ∈ ws, y.isPrefixOf x = true → x = y := fun x hx y hy h => (alone_iff (pr := fun w x => x.isPrefixOf w) hn).1 hp x hx y hy h
theorem pref_of {ws : List (List UInt8)} (hn : ws.Nodup) (h : ∀ x ∈ ws, ∀ y ∈ ws, y.isPrefixOf x = true → x = y) : prefB ws = true := (alone_iff (pr := fun w x => x.isPrefixOf w) hn).2 h
theorem pcode_of {q : Int} {ws : List (List UInt8)} (hv : Valid q ws) (hp : prefB ws = true) : Kn.PCode q.toNat ws := by
  have h2 := hv.q2
  have h16 := hv.q16
  exact { q0 := by omega, q16 := by omega, nodup := strict_nodup hv.strict, free := free_of (strict_nodup hv.strict) hp, alph := fun w hw => alph_of (hv.words w hw).2.2, short := fun w hw => (hv.words w hw).2.1 }

theorem made_len {l : List (List UInt8)} (h : l.Nodup) : (made l).length = l.length := by
  have e : made l = sortW l := strict_unique (made_strict l) (sortW_strict h) fun x => by
    rw [mem_made]
    exact (List.mergeSort_perm l _).mem_iff.symm
  rw [e, sortW_length]

end Go.Proofs.YtaphjgjhpmmkmaaGreat
end

section
namespace Go.Proofs.YtaphjgjhpmmkmaaGreat
open Go Go.AM
set_option maxRecDepth 100000
set_option linter.unusedSimpArgs false

/-- A word that is missing. -/
def Miss (q : Nat) (ws : List (List UInt8)) (m : List UInt8) : Prop := ∃ p a, Kn.Inner ws p ∧ a < q ∧ m = p ++ [Kn.ltr a] ∧ begB ws m = false
theorem mem_missing {q : Nat} {ws : List (List UInt8)} {m : List UInt8} : m ∈ missing q ws ↔ Miss q ws m := by
  unfold missing Miss
  rw [mem_made]
  unfold missL missW missP missA
  simp only [List.mem_flatMap, List.mem_range]
  constructor
  · rintro ⟨i, hi, n, hn, a, ha, hm⟩
    split at hm
    · cases hm
    · rename_i hb
      have hm := List.mem_singleton.1 hm
      rw [List.getD_eq_getElem?_getD, List.getElem?_eq_getElem hi, Option.getD_some] at hn hm
      refine ⟨ws[i].take n, a, ⟨ws[i], List.getElem_mem hi, List.isPrefixOf_iff_prefix.2 (List.take_prefix _ _), by rw [List.length_take]; omega⟩, ha, hm, ?_⟩
      rw [List.getD_eq_getElem?_getD, List.getElem?_eq_getElem hi, Option.getD_some] at hb
      rw [hm]; exact eq_false_of_ne_true hb
  · rintro ⟨p, a, ⟨w, hw, hpw, hl⟩, ha, rfl, hb⟩
    obtain ⟨i, hi, rfl⟩ := List.getElem_of_mem hw
    have htk : ws[i].take p.length = p := (List.prefix_iff_eq_take.1 (List.isPrefixOf_iff_prefix.1 hpw)).symm
    refine ⟨i, hi, p.length, ?_, a, ha, ?_⟩
    · rw [List.getD_eq_getElem?_getD, List.getElem?_eq_getElem hi, Option.getD_some]; exact hl
    · rw [List.getD_eq_getElem?_getD, List.getElem?_eq_getElem hi, Option.getD_some, htk, if_neg]
      · exact List.mem_singleton.2 rfl
      · have e : p ++ [letA a] = p ++ [Kn.ltr a] := rfl
        rw [e, hb]; decide
theorem begB_iff {ws : List (List UInt8)} {x : List UInt8} : begB ws x = true ↔ ∃ w ∈ ws, x <+: w := by
  unfold begB
  rw [List.any_eq_true]
  exact ⟨fun ⟨w, h1, h2⟩ => ⟨w, h1, List.isPrefixOf_iff_prefix.1 h2⟩, fun ⟨w, h1, h2⟩ => ⟨w, h1, List.isPrefixOf_iff_prefix.2 h2⟩⟩

/-- The words that a word leads to, with k letters more. -/
def extL (q : Nat) : List UInt8 → Nat → List (List UInt8)
  | w, 0 => [w]
  | w, k + 1 => (List.range q).flatMap fun a => extL q (w ++ [letA a]) k
theorem mem_extL {q : Nat} : ∀ {k : Nat} {w x : List UInt8}, x ∈ extL q w k ↔ ∃ u, x = w ++ u ∧ u.length = k ∧ Kn.Alph q u
  | 0, w, x => by
    unfold extL
    rw [List.mem_singleton]
    constructor
    · rintro rfl; exact ⟨[], by simp, rfl, fun b hb => by cases hb⟩
    · rintro ⟨u, rfl, hu, _⟩; rw [List.eq_nil_of_length_eq_zero hu, List.append_nil]
  | k + 1, w, x => by
    unfold extL
    simp only [List.mem_flatMap, List.mem_range]
    constructor
    · rintro ⟨a, ha, hx⟩
      obtain ⟨u, rfl, h1, h2⟩ := mem_extL.1 hx
      refine ⟨letA a :: u, by simp, by simp [h1], fun b hb => ?_⟩
      rcases List.mem_cons.1 hb with rfl | hb
      · exact ⟨a, ha, rfl⟩
      · exact h2 b hb
    · rintro ⟨u, rfl, h1, h2⟩
      cases u with
      | nil => simp at h1
      | cons b u =>
        obtain ⟨a, ha, rfl⟩ := h2 b (by simp)
        exact ⟨a, ha, mem_extL.2 ⟨u, by simp [letA, Kn.ltr], by simpa using h1, fun c hc => h2 c (by simp [hc])⟩⟩
theorem extL_nodup {q : Nat} (hq : q ≤ 16) : ∀ (k : Nat) (w : List UInt8), (extL q w k).Nodup
  | 0, w => by unfold extL; simp
  | k + 1, w => by
    unfold extL
    refine List.pairwise_flatMap.2 ⟨fun a _ => extL_nodup hq k _, ?_⟩
    refine List.Pairwise.imp_of_mem ?_ (List.nodup_range (n := q))
    intro a b ha hb hne x hx y hy e
    subst e
    obtain ⟨u, rfl, _, _⟩ := mem_extL.1 hx
    obtain ⟨v, hv, _, _⟩ := mem_extL.1 hy
    rw [List.append_assoc, List.append_assoc] at hv
    have := List.append_cancel_left hv
    simp only [List.singleton_append, List.cons.injEq] at this
    exact hne (Kn.ltr_inj (by have := List.mem_range.1 ha; omega) (by have := List.mem_range.1 hb; omega) this.1)

/-- The words that are added, all of at least n letters. -/
def embL (q : Nat) (ws : List (List UInt8)) (n : Nat) : List (List UInt8) := (missing q ws).flatMap fun w => extL q w (n - w.length)
theorem mem_embL {q : Nat} {ws : List (List UInt8)} {n : Nat} {x : List UInt8} : x ∈ embL q ws n ↔ ∃ m u, Miss q ws m ∧ x = m ++ u ∧ u.length = n - m.length ∧ Kn.Alph q u := by
  unfold embL
  simp only [List.mem_flatMap, mem_missing, mem_extL]
  constructor
  · rintro ⟨m, h1, u, h2, h3, h4⟩; exact ⟨m, u, h1, h2, h3, h4⟩
  · rintro ⟨m, u, h1, h2, h3, h4⟩; exact ⟨m, h1, u, h2, h3, h4⟩
theorem embL_one (q : Nat) (ws : List (List UInt8)) : embL q ws 1 = missing q ws := by
  have key : ∀ l : List (List UInt8), (∀ w ∈ l, w ≠ []) → l.flatMap (fun w => extL q w (1 - w.length)) = l := by
    intro l h
    induction l with
    | nil => rfl
    | cons w l ih =>
      rw [List.flatMap_cons, ih fun x hx => h x (by simp [hx])]
      have : 1 - w.length = 0 := by have := List.length_pos_iff.2 (h w (by simp)); omega
      rw [this]; rfl
  refine key _ fun w hw e => ?_
  obtain ⟨p, a, _, _, h, _⟩ := mem_missing.1 hw
  rw [e] at h
  exact absurd h.symm (by simp)

theorem miss_begun {q : Nat} {ws : List (List UInt8)} (_ : Kn.PCode q ws) {m x : List UInt8} (hm : Miss q ws m) (hx : x ∈ ws) : ¬ m <+: x := fun h => by
  obtain ⟨p, a, _, _, _, hb⟩ := hm
  rw [begB_iff.2 ⟨x, hx, h⟩] at hb; cases hb

section
variable {q : Nat} {ws : List (List UInt8)} (hc : Kn.PCode q ws)
include hc
theorem miss_word {m x : List UInt8} (hm : Miss q ws m) (hx : x ∈ ws) : ¬ x <+: m := fun h => by
  obtain ⟨p, a, ⟨w, hw, hpw, hl⟩, ha, rfl, hb⟩ := hm
  rcases List.prefix_concat_iff.1 h with h1 | h1
  · have : begB ws (p ++ [Kn.ltr a]) = true := begB_iff.2 ⟨x, hx, by rw [h1]; exact List.prefix_refl _⟩
    rw [hb] at this; cases this
  · have h2 : x <+: w := h1.trans (List.isPrefixOf_iff_prefix.1 hpw)
    have h3 := hc.free w hw x hx (List.isPrefixOf_iff_prefix.2 h2)
    have h4 := h1.length_le
    rw [← h3] at h4; omega
theorem miss_miss {m1 m2 : List UInt8} (h1 : Miss q ws m1) (h2 : Miss q ws m2) (h : m1 <+: m2) : m1 = m2 := by
  obtain ⟨p, a, ⟨w, hw, hpw, hl⟩, ha, rfl, hb⟩ := h2
  rcases List.prefix_concat_iff.1 h with h3 | h3
  · exact h3
  · exact absurd (h3.trans (List.isPrefixOf_iff_prefix.1 hpw)) (miss_begun hc h1 hw)
theorem miss_short {m : List UInt8} (hm : Miss q ws m) : m.length ≤ 32 ∧ m ≠ [] ∧ Kn.Alph q m := by
  obtain ⟨p, a, ⟨w, hw, hpw, hl⟩, ha, rfl, hb⟩ := hm
  have h1 := hc.short w hw
  refine ⟨by simp; omega, by simp, fun b hb => ?_⟩
  rcases List.mem_append.1 hb with h2 | h2
  · exact hc.alph w hw b ((List.isPrefixOf_iff_prefix.1 hpw).subset h2)
  · exact ⟨a, ha, List.mem_singleton.1 h2⟩

theorem all_free {n : Nat} : ∀ x ∈ ws ++ embL q ws n, ∀ y ∈ ws ++ embL q ws n, y.isPrefixOf x = true → x = y := by
  intro x hx y hy h
  have h := List.isPrefixOf_iff_prefix.1 h
  rcases List.mem_append.1 hx with hx | hx <;> rcases List.mem_append.1 hy with hy | hy
  · exact hc.free x hx y hy (List.isPrefixOf_iff_prefix.2 h)
  · obtain ⟨m, u, hm, rfl, _, _⟩ := mem_embL.1 hy
    exact absurd ((List.prefix_append m u).trans h) (miss_begun hc hm hx)
  · obtain ⟨m, u, hm, rfl, _, _⟩ := mem_embL.1 hx
    rcases List.prefix_or_prefix_of_prefix h (List.prefix_append m u) with h1 | h1
    · exact absurd h1 (miss_word hc hm hy)
    · exact absurd h1 (miss_begun hc hm hy)
  · obtain ⟨m, u, hm, rfl, hu, _⟩ := mem_embL.1 hx
    obtain ⟨m', v, hm', rfl, hv, _⟩ := mem_embL.1 hy
    have he : m' = m := by
      rcases List.prefix_or_prefix_of_prefix ((List.prefix_append m' v).trans h) (List.prefix_append m u) with h1 | h1
      · exact miss_miss hc hm' hm h1
      · exact (miss_miss hc hm hm' h1).symm
    subst he
    exact (h.eq_of_length (by simp; omega)).symm

theorem all_whole {n : Nat} : Kn.Whole q (ws ++ embL q ws n) := by
  have hq0 := hc.q0
  have fill : ∀ k, Kn.Alph q (List.replicate k (Kn.ltr 0)) := fun k b hb => ⟨0, hq0, (List.mem_replicate.1 hb).2⟩
  have step : ∀ m u a, Miss q ws m → Kn.Alph q u → u.length < n - m.length → a < q → Kn.Inner (ws ++ embL q ws n) (m ++ u ++ [Kn.ltr a]) ∨ m ++ u ++ [Kn.ltr a] ∈ ws ++ embL q ws n := by
    intro m u a hm hu hl ha
    have hua : Kn.Alph q (u ++ [Kn.ltr a]) := fun b hb => by
      rcases List.mem_append.1 hb with h | h
      · exact hu b h
      · exact ⟨a, ha, List.mem_singleton.1 h⟩
    by_cases he : u.length + 1 = n - m.length
    · exact .inr (List.mem_append_right _ (mem_embL.2 ⟨m, u ++ [Kn.ltr a], hm, by rw [List.append_assoc], by simpa using he, hua⟩))
    · left
      refine ⟨m ++ u ++ [Kn.ltr a] ++ List.replicate (n - m.length - (u.length + 1)) (Kn.ltr 0), List.mem_append_right _ (mem_embL.2 ⟨m, u ++ [Kn.ltr a] ++ List.replicate (n - m.length - (u.length + 1)) (Kn.ltr 0), hm, by simp, by simp; omega, fun b hb => ?_⟩), List.isPrefixOf_iff_prefix.2 (List.prefix_append _ _), by simp; omega⟩
      rcases List.mem_append.1 hb with h | h
      · exact hua b h
      · exact fill _ b h
  have inner : ∀ p a, Kn.Inner ws p → a < q → Kn.Inner (ws ++ embL q ws n) (p ++ [Kn.ltr a]) ∨ p ++ [Kn.ltr a] ∈ ws ++ embL q ws n := by
    intro p a hp ha
    cases hb : begB ws (p ++ [Kn.ltr a])
    · have hm : Miss q ws (p ++ [Kn.ltr a]) := ⟨p, a, hp, ha, rfl, hb⟩
      by_cases hn : n - (p ++ [Kn.ltr a]).length = 0
      · exact .inr (List.mem_append_right _ (mem_embL.2 ⟨_, [], hm, by simp, by rw [hn]; rfl, fun b hb => by cases hb⟩))
      · left
        refine ⟨p ++ [Kn.ltr a] ++ List.replicate (n - (p ++ [Kn.ltr a]).length) (Kn.ltr 0), List.mem_append_right _ (mem_embL.2 ⟨_, _, hm, rfl, by simp, fill _⟩), List.isPrefixOf_iff_prefix.2 (List.prefix_append _ _), by simp at hn ⊢; omega⟩
    · obtain ⟨w, hw, hpw⟩ := begB_iff.1 hb
      by_cases he : p ++ [Kn.ltr a] = w
      · exact .inr (List.mem_append_left _ (he ▸ hw))
      · refine .inl ⟨w, List.mem_append_left _ hw, List.isPrefixOf_iff_prefix.2 hpw, ?_⟩
        have h1 := hpw.length_le
        by_cases h2 : (p ++ [Kn.ltr a]).length = w.length
        · exact absurd (hpw.eq_of_length h2) he
        · omega
  rintro p ⟨x, hx, hpx, hl⟩ a ha
  have hpx := List.isPrefixOf_iff_prefix.1 hpx
  rcases List.mem_append.1 hx with hx | hx
  · exact inner p a ⟨x, hx, List.isPrefixOf_iff_prefix.2 hpx, hl⟩ ha
  · obtain ⟨m, u, hm, rfl, hu, hal⟩ := mem_embL.1 hx
    rcases List.prefix_or_prefix_of_prefix hpx (List.prefix_append m u) with h1 | h1
    · by_cases h2 : p = m
      · subst h2
        have := step p [] a hm (fun b hb => by cases hb) (by simp at hl ⊢; omega) ha
        simpa using this
      · obtain ⟨p2, a2, ⟨w, hw, hpw, hl2⟩, ha2, rfl, hb⟩ := hm
        rcases List.prefix_concat_iff.1 h1 with h3 | h3
        · exact absurd h3 h2
        · exact inner p a ⟨w, hw, List.isPrefixOf_iff_prefix.2 (h3.trans (List.isPrefixOf_iff_prefix.1 hpw)), by have := h3.length_le; omega⟩ ha
    · obtain ⟨v, rfl⟩ := h1
      have h2 : v <+: u := (List.prefix_append_right_inj m).1 hpx
      refine step m v a hm (fun b hb => hal b (h2.subset hb)) ?_ ha
      simp at hl
      omega

theorem all_pcode {n : Nat} (hn : n ≤ 32) : Kn.PCode q (made (ws ++ embL q ws n)) := by
  refine { q0 := hc.q0, q16 := hc.q16, nodup := strict_nodup (made_strict _), free := fun x hx y hy => all_free hc x (mem_made.1 hx) y (mem_made.1 hy), alph := fun w hw => ?_, short := fun w hw => ?_ }
  · rcases List.mem_append.1 (mem_made.1 hw) with h | h
    · exact hc.alph w h
    · obtain ⟨m, u, hm, rfl, _, hal⟩ := mem_embL.1 h
      intro b hb
      rcases List.mem_append.1 hb with h1 | h1
      · exact (miss_short hc hm).2.2 b h1
      · exact hal b h1
  · rcases List.mem_append.1 (mem_made.1 hw) with h | h
    · exact hc.short w h
    · obtain ⟨m, u, hm, rfl, hu, _⟩ := mem_embL.1 h
      have := (miss_short hc hm).1
      simp; omega
theorem all_nodup {n : Nat} : (ws ++ embL q ws n).Nodup := by
  refine List.nodup_append.2 ⟨hc.nodup, ?_, fun x hx y hy e => ?_⟩
  · unfold embL
    refine List.pairwise_flatMap.2 ⟨fun m _ => extL_nodup hc.q16 _ _, ?_⟩
    refine List.Pairwise.imp_of_mem ?_ (strict_nodup (made_strict _))
    intro m1 m2 h1 h2 hne x hx y hy e
    subst e
    have h1 := mem_missing.1 h1
    have h2 := mem_missing.1 h2
    obtain ⟨u, rfl, _, _⟩ := mem_extL.1 hx
    obtain ⟨v, hv, _, _⟩ := mem_extL.1 hy
    rcases List.prefix_or_prefix_of_prefix (List.prefix_append m1 u) (hv ▸ List.prefix_append m2 v) with h3 | h3
    · exact hne (miss_miss hc h1 h2 h3)
    · exact hne (miss_miss hc h2 h1 h3).symm
  · subst e
    obtain ⟨m, u, hm, rfl, _, _⟩ := mem_embL.1 hy
    exact miss_begun hc hm hx (List.prefix_append m u)
end

theorem whole_made {q : Nat} {l : List (List UInt8)} (h : Kn.Whole q l) : Kn.Whole q (made l) := by
  have e : ∀ p, Kn.Inner (made l) p ↔ Kn.Inner l p := fun p => ⟨fun ⟨w, h1, h2⟩ => ⟨w, mem_made.1 h1, h2⟩, fun ⟨w, h1, h2⟩ => ⟨w, mem_made.2 h1, h2⟩⟩
  intro p hp a ha
  rcases h p ((e p).1 hp) a ha with h1 | h1
  · exact .inl ((e _).2 h1)
  · exact .inr (mem_made.2 h1)
theorem missing_nil {q : Nat} {ws : List (List UInt8)} (h : Kn.Whole q ws) : missing q ws = [] := by
  refine List.eq_nil_iff_forall_not_mem.2 fun m hm => ?_
  obtain ⟨p, a, hp, ha, rfl, hb⟩ := mem_missing.1 hm
  have : begB ws (p ++ [Kn.ltr a]) = true := by
    rcases h p hp a ha with ⟨w, h1, h2, _⟩ | h1
    · exact begB_iff.2 ⟨w, h1, List.isPrefixOf_iff_prefix.1 h2⟩
    · exact begB_iff.2 ⟨_, h1, List.prefix_refl _⟩
  rw [hb] at this; cases this
end Go.Proofs.YtaphjgjhpmmkmaaGreat
end

section
namespace Go.Proofs.YtaphjgjhpmmkmaaGreat
open Go Go.AM
set_option maxRecDepth 100000
set_option maxHeartbeats 4000000
set_option linter.unusedSimpArgs false

theorem emb_code {q : Int} {ws : List (List UInt8)} {n : Nat} (hv : Valid q ws) (hp : prefB ws = true) (hn : n ≤ 32) :
    (made (ws ++ embL q.toNat ws n)).length = ws.length + (embL q.toNat ws n).length ∧ prefB (made (ws ++ embL q.toNat ws n)) = true ∧ Kn.taken q.toNat [] (made (ws ++ embL q.toNat ws n)) = q.toNat ^ 32 ∧
    missing q.toNat (made (ws ++ embL q.toNat ws n)) = [] ∧ ((made (ws ++ embL q.toNat ws n)).length ≤ 64 → codeCheck q (made (ws ++ embL q.toNat ws n)) = 0) ∧
    (64 < (made (ws ++ embL q.toNat ws n)).length → codeCheck q (made (ws ++ embL q.toNat ws n)) = 4) := by
  have hc := pcode_of hv hp
  have hD := all_pcode hc hn
  have hw := whole_made (all_whole hc (n := n))
  have hl := made_len (all_nodup hc (n := n))
  have h2 := hv.q2
  have h16 := hv.q16
  have hq : ((q.toNat : Nat) : Int) = q := by omega
  have hmem : ∀ x ∈ made (ws ++ embL q.toNat ws n), x ≠ [] := fun x hx => by
    rcases List.mem_append.1 (mem_made.1 hx) with h | h
    · exact (hv.words x h).1
    · obtain ⟨m, u, hm, rfl, _, _⟩ := mem_embL.1 h
      have := (miss_short hc hm).2.1
      simp [this]
  have hne : made (ws ++ embL q.toNat ws n) ≠ [] := fun e => by
    have : ws[0]'hv.pos ∈ made (ws ++ embL q.toNat ws n) := mem_made.2 (List.mem_append_left _ (List.getElem_mem _))
    rw [e] at this; cases this
  have hin : Kn.Inner (made (ws ++ embL q.toNat ws n)) [] := by
    refine ⟨ws[0]'hv.pos, mem_made.2 (List.mem_append_left _ (List.getElem_mem _)), rfl, ?_⟩
    exact List.length_pos_iff.2 (hv.words _ (List.getElem_mem _)).1
  refine ⟨by rw [hl, List.length_append], pref_of (strict_nodup (made_strict _)) hD.free, (hD.one_iff hin).2 hw, missing_nil hw, fun h64 => ?_, fun h64 => ?_⟩
  · refine check_of h2 h16 hne h64 (fun x hx => ⟨hmem x hx, hD.short x hx, ?_⟩) (made_strict _)
    have := word_of (q := q.toNat) (w := x) (by omega) (by omega) (by have := hD.short x hx; omega) (hD.alph x hx)
    rwa [hq] at this
  · exact codeCheck_4 (by omega) (fun e => hne (List.length_eq_zero_iff.1 e)) h64

theorem missV_emb {q : Int} {ws : List (List UInt8)} (hc : chE q ws = 0) : missV q ws = embL q.toNat ws 1 := by unfold missV; rw [if_pos hc, embL_one]
theorem chE_ok {q : Int} {ws : List (List UInt8)} (h1 : codeCheck q ws = 0) (h2 : prefB ws = true) : chE q ws = 0 := by
  unfold chE
  rw [if_pos h1, if_pos (show preP ws = true from h2)]
theorem missV_nil {q : Int} {D : List (List UInt8)} (hc : chE q D = 0) (h : missing q.toNat D = []) : missV q D = [] := by unfold missV; rw [if_pos hc, h]
end Go.Proofs.YtaphjgjhpmmkmaaGreat
end

section
namespace Go.Proofs.YtaphjgjhpmmkmaaGreat
open Go Go.AM
set_option maxRecDepth 100000
set_option maxHeartbeats 4000000
set_option linter.unusedSimpArgs false

/-- The missing words without one of them. -/
def lessL (L : List (List UInt8)) (k : Nat) : List (List UInt8) := L.take k ++ L.drop (k + 1)
theorem mem_less {L : List (List UInt8)} (hn : L.Nodup) {k : Nat} (hk : k < L.length) {x : List UInt8} : x ∈ lessL L k ↔ x ∈ L ∧ x ≠ L[k] := by
  have hsplit : L = L.take k ++ L[k] :: L.drop (k + 1) := by
    have h1 := (List.take_append_drop k L).symm
    rwa [List.drop_eq_getElem_cons hk] at h1
  have hn' : (L.take k ++ L[k] :: L.drop (k + 1)).Nodup := hsplit ▸ hn
  have h3 := List.nodup_append.1 hn'
  have h4 := List.nodup_cons.1 h3.2.1
  unfold lessL
  constructor
  · intro h
    rcases List.mem_append.1 h with h | h
    · exact ⟨List.mem_of_mem_take h, h3.2.2 x h _ (List.mem_cons_self ..)⟩
    · exact ⟨List.mem_of_mem_drop h, fun e => h4.1 (e ▸ h)⟩
  · rintro ⟨h1, h2⟩
    rw [hsplit] at h1
    rcases List.mem_append.1 h1 with h | h
    · exact List.mem_append_left _ h
    · rcases List.mem_cons.1 h with h | h
      · exact absurd h h2
      · exact List.mem_append_right _ h

theorem less_missing {q : Nat} {ws : List (List UInt8)} (hc : Kn.PCode q ws) {k : Nat} (hk : k < (missing q ws).length) :
    missing q (made (ws ++ lessL (missing q ws) k)) = [(missing q ws)[k]] := by
  have hn : (missing q ws).Nodup := strict_nodup (made_strict _)
  refine strict_unique (made_strict _) (List.pairwise_singleton _ _) fun x => ?_
  rw [mem_missing, List.mem_singleton]
  have hm : Miss q ws (missing q ws)[k] := mem_missing.1 (List.getElem_mem hk)
  have hin : ∀ u, u ∈ made (ws ++ lessL (missing q ws) k) ↔ u ∈ ws ∨ (Miss q ws u ∧ u ≠ (missing q ws)[k]) := fun u => by
    rw [mem_made, List.mem_append, mem_less hn hk, mem_missing]
  constructor
  · rintro ⟨p, a, ⟨u, hu, hpu, hl⟩, ha, rfl, hb⟩
    have hi : Kn.Inner ws p := by
      rcases (hin u).1 hu with hu | ⟨⟨p', b, ⟨w, hw, hpw, hlw⟩, _, rfl, _⟩, _⟩
      · exact ⟨u, hu, hpu, hl⟩
      · rcases List.prefix_concat_iff.1 (List.isPrefixOf_iff_prefix.1 hpu) with h1 | h1
        · rw [h1] at hl; omega
        · exact ⟨w, hw, List.isPrefixOf_iff_prefix.2 (h1.trans (List.isPrefixOf_iff_prefix.1 hpw)), by have := h1.length_le; omega⟩
    have hb' : begB ws (p ++ [Kn.ltr a]) = false := by
      cases h : begB ws (p ++ [Kn.ltr a])
      · rfl
      · obtain ⟨w, hw, hpw⟩ := begB_iff.1 h
        rw [begB_iff.2 ⟨w, (hin w).2 (.inl hw), hpw⟩] at hb; cases hb
    apply Classical.byContradiction
    intro hne
    have : begB (made (ws ++ lessL (missing q ws) k)) (p ++ [Kn.ltr a]) = true := begB_iff.2 ⟨_, (hin _).2 (.inr ⟨⟨p, a, hi, ha, rfl, hb'⟩, hne⟩), List.prefix_refl _⟩
    rw [hb] at this; cases this
  · rintro rfl
    obtain ⟨p, a, ⟨w, hw, hpw, hl⟩, ha, he, hb⟩ := id hm
    refine ⟨p, a, ⟨w, (hin w).2 (.inl hw), hpw, hl⟩, ha, he, ?_⟩
    cases h : begB (made (ws ++ lessL (missing q ws) k)) (missing q ws)[k]
    · rfl
    · obtain ⟨u, hu, hmu⟩ := begB_iff.1 h
      rcases (hin u).1 hu with h1 | ⟨h1, h2⟩
      · exact absurd hmu (miss_begun hc hm h1)
      · exact absurd (miss_miss hc hm h1 hmu).symm h2

/-- What is made of a prefix code and some of its missing words. -/
theorem part_code {q : Int} {ws l : List (List UInt8)} (hv : Valid q ws) (hp : prefB ws = true) (hl : ∀ x ∈ l, x ∈ missing q.toNat ws) (h64 : (made (ws ++ l)).length ≤ 64) :
    codeCheck q (made (ws ++ l)) = 0 ∧ prefB (made (ws ++ l)) = true := by
  have hc := pcode_of hv hp
  have h2 := hv.q2
  have h16 := hv.q16
  have hq : ((q.toNat : Nat) : Int) = q := by omega
  have hD := all_pcode hc (n := 1) (by omega)
  rw [embL_one] at hD
  have hsub : ∀ x ∈ made (ws ++ l), x ∈ made (ws ++ missing q.toNat ws) := fun x hx => by
    rcases List.mem_append.1 (mem_made.1 hx) with h | h
    · exact mem_made.2 (List.mem_append_left _ h)
    · exact mem_made.2 (List.mem_append_right _ (hl x h))
  have hmem : ∀ x ∈ made (ws ++ l), x ≠ [] := fun x hx => by
    rcases List.mem_append.1 (mem_made.1 hx) with h | h
    · exact (hv.words x h).1
    · exact (miss_short hc (mem_missing.1 (hl x h))).2.1
  have hne : made (ws ++ l) ≠ [] := fun e => by
    have : ws[0]'hv.pos ∈ made (ws ++ l) := mem_made.2 (List.mem_append_left _ (List.getElem_mem _))
    rw [e] at this; cases this
  refine ⟨check_of h2 h16 hne h64 (fun x hx => ⟨hmem x hx, hD.short x (hsub x hx), ?_⟩) (made_strict _), pref_of (strict_nodup (made_strict _)) fun x hx y hy => hD.free x (hsub x hx) y (hsub y hy)⟩
  have := word_of (q := q.toNat) (w := x) (by omega) (by omega) (by have := hD.short x (hsub x hx); omega) (hD.alph x (hsub x hx))
  rwa [hq] at this
end Go.Proofs.YtaphjgjhpmmkmaaGreat
end

section
namespace Go.Proofs.YtaphjgjhpmmkmaaGreat
open Go Go.AM
set_option maxRecDepth 100000
set_option linter.unusedSimpArgs false

theorem u52 (w x : List UInt8) : PFn Tryz.prog 65 [.str w, .str x] [.bool (x.isPrefixOf w)] := by
  refine PFn.of_body hΓ Tryz.func65 (by kernel_rfl) rfl (AWp.of_awpD [] hΓ hmix (by kernel_rfl) ?_)
  simp +contextual -implicitDefEqProofs only [Tryz.ntmps65, Tryz.results65, Nat.reduceAdd, Nat.reduceSub, go_sem]
  refine ⟨fun h => ?_, fun h => ?_⟩
  · rw [Bool.eq_iff_iff, List.isPrefixOf_iff_prefix, List.prefix_iff_eq_take, decide_eq_true_eq]; exact eq_comm
  · rw [Bool.eq_iff_iff, List.isPrefixOf_iff_prefix]
    exact ⟨fun h => by simp at h, fun h' => absurd h'.length_le (by omega)⟩
end Go.Proofs.YtaphjgjhpmmkmaaGreat
end

section
namespace Go.Proofs.YtaphjgjhpmmkmaaGreat
open Go Go.AM
set_option maxRecDepth 100000
set_option linter.unusedSimpArgs false

theorem u16 (q : Int) (ws : List (List UInt8)) : PFn Tryz.prog 31 [codeV q ws] [.bool (if codeCheck q ws = 0 then aloneB (fun w x => x.isPrefixOf w) ws else false), .int .i64 (if codeCheck q ws = 0 then 0 else 1)] := by
  refine PFn.of_body hΓ Tryz.func31 (by kernel_rfl) rfl (AWp.of_awpD [] hΓ hmix (by kernel_rfl) ?_)
  simp +contextual -implicitDefEqProofs only [codeV, Tryz.ntmps31, Tryz.results31, Nat.reduceAdd, Nat.reduceSub, go_sem]
  refine callK_fn (t44 q ws) (.still rfl) ?_
  by_cases h : codeCheck q ws = 0
  · have hv := valid_of h
    have hws := hv.len
    rw [h]
    simp -implicitDefEqProofs only [go_sem]
    refine AWp.loopI (fun i : Nat => ⟨mkF 39 [(1, .ptr 0 0), (2, .p (.bool false)), (3, .p (.int .i64 0)), (4, .p (.int .i64 i))], [codeB q ws]⟩)
      (fun i => i ≤ ws.length ∧ aloneN (fun w x => x.isPrefixOf w) ws i = true) (fun i => ws.length - i) 0 (by simp [go_sem, codeB]) ⟨by omega, rfl⟩ ?_
    rintro i ⟨hi, hal⟩
    refine AWp.of_awpD [] hΓ hmix (by kernel_rfl) ?_
    by_cases hlt : i < ws.length
    · simp -implicitDefEqProofs only [hlt, getD_map_lt, ↓reduceIte, codeB, go_sem]
      refine AWp.loopI (fun k : Nat => ⟨mkF 39 [(1, .ptr 0 0), (2, .p (.bool false)), (3, .p (.int .i64 0)), (4, .p (.int .i64 i)), (5, .p (.int .i64 k))], [codeB q ws]⟩)
        (fun k => k ≤ ws.length ∧ aloneTo (fun w x => x.isPrefixOf w) ws i k = true) (fun k => ws.length - k) 0 (by simp [go_sem, codeB]) ⟨by omega, rfl⟩ ?_
      rintro k ⟨hk, hal2⟩
      refine AWp.of_awpD [(9, 16)] hΓ hmix (by kernel_rfl) ?_
      have hwi : ws.getD i [] = ws[i] := by rw [List.getD_eq_getElem?_getD, List.getElem?_eq_getElem hlt, Option.getD_some]
      have hsh : ws[i].length ≤ 9223372036854775807 := by have := hv.short i hlt; rw [hwi] at this; omega
      by_cases hlt2 : k < ws.length
      · have hwk : ws.getD k [] = ws[k] := by rw [List.getD_eq_getElem?_getD, List.getElem?_eq_getElem hlt2, Option.getD_some]
        by_cases he : (i : Int) = k
        · simp -implicitDefEqProofs only [hlt2, he, getD_map_lt, ↓reduceIte, codeB, go_sem]
          refine ⟨by simp only [InR]; omega, k + 1, by omega, ⟨hlt2, ?_⟩, by omega⟩
          rw [aloneTo_succ, hal2, decide_eq_true (by omega)]; rfl
        · simp -implicitDefEqProofs only [hlt, hlt2, he, getD_map_lt, ↓reduceIte, codeB, go_sem]
          refine callVPK_fn (u52 ws[i] ws[k]) (.pures rfl) ?_
          cases hp : ws[k].isPrefixOf ws[i]
          · simp -implicitDefEqProofs only [hlt, hlt2, he, getD_map_lt, ↓reduceIte, codeB, go_sem]
            refine ⟨by simp only [InR]; omega, k + 1, by omega, ⟨hlt2, ?_⟩, by omega⟩
            rw [aloneTo_succ, hal2, hwi, hwk, hp]; simp
          · simp -implicitDefEqProofs only [hlt, hlt2, he, getD_map_lt, ↓reduceIte, codeB, go_sem]
            rw [alone_bad hlt hlt2 (by omega) (by rw [hwi, hwk]; exact hp)]
      · simp -implicitDefEqProofs only [hlt2, codeB, go_sem]
        refine ⟨by simp only [InR]; omega, i + 1, by omega, ⟨hlt, ?_⟩, by omega⟩
        rw [aloneN_succ, hal, show ws.length = k by omega, hal2]; rfl
    · simp -implicitDefEqProofs only [hlt, codeB, go_sem]
      rw [show i = ws.length by omega] at hal; exact hal.symm
  · simp -implicitDefEqProofs only [h, go_sem]

end Go.Proofs.YtaphjgjhpmmkmaaGreat
end

section
namespace Go.Proofs.YtaphjgjhpmmkmaaGreat
open Go Go.AM
set_option maxRecDepth 100000
set_option maxHeartbeats 4000000
set_option linter.unusedSimpArgs false

def longW (w : List UInt8) : Bool := decide (5 < w.length) && decide (w.length ≤ 32)
def muchC (q : Int) (ws : List (List UInt8)) : Bool := decide (6 < ws.length) || (decide (3 < q) && decide (q ≤ 16))
def great36 (q : Int) (ws : List (List UInt8)) : Bool := ws.any longW || muchC q ws

theorem gr36 (q : Int) (ws : List (List UInt8)) (hl : ws.length ≤ 9223372036854775807) : PFn Tryz.prog 30 [codeV q ws] [.bool (great36 q ws)] := by
  refine PFn.of_body hΓ Tryz.func30 (by kernel_rfl) rfl (AWp.of_awpD [] hΓ hmix (by kernel_rfl) ?_)
  simp -implicitDefEqProofs only [Tryz.ntmps30, Tryz.results30, Nat.reduceAdd, Nat.reduceSub, codeV, go_sem]
  refine AWp.loopI (fun k : Nat => ⟨mkF 41 [(1, .ptr 0 0), (2, .p (.bool false)), (3, .p (.int .i64 k))], [codeB q ws]⟩)
    (fun k => k ≤ ws.length ∧ (ws.take k).any longW = false) (fun k => ws.length - k) 0 (by simp [go_sem, codeB]) (by simp) ?_
  rintro k ⟨hk, hno⟩
  refine AWp.of_awpD [] hΓ hmix (by kernel_rfl) ?_
  by_cases hlt : k < ws.length
  · by_cases h5 : (5 : Int) < ws[k].length
    · by_cases h32 : (ws[k].length : Int) ≤ 32
      · simp -implicitDefEqProofs only [hlt, h5, h32, getD_map_lt, ↓reduceIte, codeB, go_sem]
        have : ws.any longW = true := List.any_eq_true.2 ⟨_, List.getElem_mem hlt, by unfold longW; simp only [Bool.and_eq_true, decide_eq_true_eq]; omega⟩
        unfold great36
        rw [this]; rfl
      · have hno' : longW ws[k] = false := by unfold longW; simp only [Bool.and_eq_false_iff, decide_eq_false_iff_not]; omega
        simp -implicitDefEqProofs only [hlt, h5, h32, getD_map_lt, ↓reduceIte, codeB, go_sem]
        exact ⟨by simp only [InR]; omega, k + 1, by simp, ⟨hlt, by rw [List.take_succ_eq_append_getElem hlt, List.any_append, hno]; simp [hno']⟩, by omega⟩
    · have hno' : longW ws[k] = false := by unfold longW; simp only [Bool.and_eq_false_iff, decide_eq_false_iff_not]; omega
      simp -implicitDefEqProofs only [hlt, h5, getD_map_lt, ↓reduceIte, codeB, go_sem]
      exact ⟨by simp only [InR]; omega, k + 1, by simp, ⟨hlt, by rw [List.take_succ_eq_append_getElem hlt, List.any_append, hno]; simp [hno']⟩, by omega⟩
  · rw [List.take_of_length_le (by omega)] at hno
    unfold great36 muchC
    rw [hno]
    by_cases h6 : (6 : Int) < ws.length
    · simp -implicitDefEqProofs only [hlt, h6, codeB, go_sem]
      rw [decide_eq_true (by omega : 6 < ws.length)]; rfl
    · by_cases h3 : 3 < q
      · simp -implicitDefEqProofs only [hlt, h6, h3, codeB, go_sem]
        rw [decide_eq_false (by omega : ¬ 6 < ws.length)]; rfl
      · simp -implicitDefEqProofs only [hlt, h6, h3, codeB, go_sem]
        rw [decide_eq_false (by omega : ¬ 6 < ws.length)]; rfl

/-- Whether a code is a prefix code of these sizes. -/
def preS (q : Int) (ws : List (List UInt8)) : Bool := !great36 q ws && (decide (codeCheck q ws = 0) && prefB ws)
theorem p6 (q : Int) (ws : List (List UInt8)) (hl : ws.length ≤ 9223372036854775807) : PFn Tryz.prog 6 [codeV q ws] [.bool (preS q ws)] := by
  have e30 := gr36 q ws hl
  have e18 := t44 q ws
  have e31 := u16 q ws
  refine PFn.of_body hΓ Tryz.func6 (by kernel_rfl) rfl (AWp.of_awpD [] hΓ hmix (by kernel_rfl) ?_)
  simp -implicitDefEqProofs only [Tryz.ntmps6, Tryz.results6, Nat.reduceAdd, Nat.reduceSub, codeV, go_sem]
  unfold codeV at e30 e18 e31
  unfold preS
  refine callK_fn e30 (.still rfl) ?_
  cases hg : great36 q ws
  rotate_left
  · simp -implicitDefEqProofs only [go_sem]
    rfl
  by_cases hc : codeCheck q ws = 0
  rotate_left
  · simp -implicitDefEqProofs only [go_sem]
    refine callK_fn e18 (.still rfl) ?_
    simp -implicitDefEqProofs only [hc, go_sem]
    rfl
  rw [if_pos hc, if_pos hc] at e31
  rw [hc] at e18
  simp -implicitDefEqProofs only [go_sem]
  refine callK_fn e18 (.still rfl) ?_
  simp -implicitDefEqProofs only [go_sem]
  refine callK_fn e31 (.still rfl) ?_
  simp -implicitDefEqProofs only [go_sem]
  simp [hc, prefB]
end Go.Proofs.YtaphjgjhpmmkmaaGreat
end

section
namespace Go.Proofs.YtaphjgjhpmmkmaaGreat
open Go Go.AM
set_option maxRecDepth 100000
set_option maxHeartbeats 4000000
set_option linter.unusedSimpArgs false

/-- slices.Equal of words. -/
theorem e24 (a b : List (List UInt8)) (hl : a.length ≤ 9223372036854775807) : PFn Tryz.prog 16 [.sl (a.map .str), .sl (b.map .str)] [.bool (decide (a = b))] := by
  refine PFn.of_body hΓ Tryz.func16 (by kernel_rfl) rfl (AWp.of_awpD [] hΓ hmix (by kernel_rfl) ?_)
  simp -implicitDefEqProofs only [Tryz.ntmps16, Tryz.results16, Nat.reduceAdd, Nat.reduceSub, go_sem]
  by_cases he : a.length = b.length
  rotate_left
  · simp -implicitDefEqProofs only [he, go_sem]
    exact (decide_eq_false fun e : a = b => he (by rw [e])).symm
  simp -implicitDefEqProofs only [he, go_sem]
  refine AWp.loopI (fun k : Nat => ⟨mkF 26 [(0, .p (.sl (a.map .str))), (1, .p (.sl (b.map .str))), (4, .p (.bool false)), (12, .p (.int .i64 b.length)), (13, .p (.int .i64 k))], []⟩)
    (fun k => k ≤ a.length ∧ a.take k = b.take k) (fun k => a.length - k) 0 (by simp [go_sem]) (by simp) ?_
  rintro k ⟨hk, heq⟩
  refine AWp.of_awpD [(6, 9)] hΓ hmix (by kernel_rfl) ?_
  by_cases hlt : k < a.length
  · have hltb : k < b.length := by omega
    by_cases hk' : a[k] = b[k]
    · simp -implicitDefEqProofs only [hlt, hltb, getD_map_lt, ↓reduceIte, hk', go_sem]
      refine ⟨by simp only [InR]; omega, k + 1, by simp, ⟨hlt, ?_⟩, by omega⟩
      rw [List.take_succ_eq_append_getElem hlt, List.take_succ_eq_append_getElem (by omega), heq, hk']
    · simp -implicitDefEqProofs only [hlt, hltb, getD_map_lt, ↓reduceIte, hk', go_sem]
      exact (decide_eq_false fun e : a = b => hk' (by subst e; rfl)).symm
  · have hltb : ¬ k < b.length := by omega
    simp -implicitDefEqProofs only [hlt, hltb, go_sem]
    rw [List.take_of_length_le (by omega), List.take_of_length_le (by omega)] at heq
    exact (decide_eq_true heq).symm
end Go.Proofs.YtaphjgjhpmmkmaaGreat
end

