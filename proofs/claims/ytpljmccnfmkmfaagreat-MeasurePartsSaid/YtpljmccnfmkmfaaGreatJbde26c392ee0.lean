/-
  HasSuffix, Suffix.
  Prefix and Suffix of the reference, Suffix, Longest, Same, Make of the reference.
  Codes without beginnings of others, plain.
  The sizes of chapter 36 (Great); prefix codes of these sizes.
  Kraft's sum of a prefix code, plain: at most 1, and 1 exactly if nothing is missing.
  Words over an alphabet, and prefix codes as lists: plain.
  The law MeasureAdded (f7).
-/
import Derived.Test.YtpljmccnfmkmfaaGreatJ3c93f543af5a
import Derived.Test.YtpljmccnfmkmfaaGreatJa63c9ad45381
import Derived.Test.YtpljmccnfmkmfaaGreatJa272d51661b3
import Derived.Test.YtpljmccnfmkmfaaGreatJ6a6fb67b841c
import Derived.Test.YtpljmccnfmkmfaaGreatJ7c9428a74848
import Derived.Test.YtpljmccnfmkmfaaGreatJ5a034ce207fe
import Derived.Test.YtpljmccnfmkmfaaGreatJ71936c369bef

section
namespace Go.Proofs.YtpljmccnfmkmfaaGreat
open Go Go.AM
set_option maxRecDepth 100000
set_option linter.unusedSimpArgs false

theorem u52 (w x : List UInt8) : PFn Tryz.prog 187 [.str w, .str x] [.bool (x.isPrefixOf w)] := by
  refine PFn.of_body hΓ Tryz.func187 (by kernel_rfl) rfl (AWp.of_awpD [] hΓ hmix (by kernel_rfl) ?_)
  simp +contextual -implicitDefEqProofs only [Tryz.ntmps187, Tryz.results187, Nat.reduceAdd, Nat.reduceSub, go_sem]
  refine ⟨fun h => ?_, fun h => ?_⟩
  · rw [Bool.eq_iff_iff, List.isPrefixOf_iff_prefix, List.prefix_iff_eq_take, decide_eq_true_eq]; exact eq_comm
  · rw [Bool.eq_iff_iff, List.isPrefixOf_iff_prefix]
    exact ⟨fun h => by simp at h, fun h' => absurd h'.length_le (by omega)⟩
end Go.Proofs.YtpljmccnfmkmfaaGreat
end

section
namespace Go.Proofs.YtpljmccnfmkmfaaGreat
open Go Go.AM
set_option maxRecDepth 100000
set_option linter.unusedSimpArgs false

theorem u16 (q : Int) (ws : List (List UInt8)) : PFn Tryz.prog 130 [codeV q ws] [.bool (if codeCheck q ws = 0 then aloneB (fun w x => x.isPrefixOf w) ws else false), .int .i64 (if codeCheck q ws = 0 then 0 else 1)] := by
  refine PFn.of_body hΓ Tryz.func130 (by kernel_rfl) rfl (AWp.of_awpD [] hΓ hmix (by kernel_rfl) ?_)
  simp +contextual -implicitDefEqProofs only [codeV, Tryz.ntmps130, Tryz.results130, Nat.reduceAdd, Nat.reduceSub, go_sem]
  refine callK_fn (t44 q ws) (.still rfl) ?_
  by_cases h : codeCheck q ws = 0
  · have hv := valid_of h
    have hws := hv.len
    rw [h]
    simp -implicitDefEqProofs only [go_sem]
    refine AWp.loopI (fun i : Nat => ⟨mkF 39 [(1, .ptr 0 0), (2, .p (.bool false)), (3, .p (.int .i64 0)), (4, .p (.int .i64 i))], [codeB q ws]⟩)
      (fun i => i ≤ ws.length ∧ aloneN (fun w x => x.isPrefixOf w) ws i = true) (fun i => ws.length - i) 0 (by simp [go_sem, codeB]) ⟨by omega, rfl⟩ ?_
    rintro i ⟨hi, hal⟩
    refine AWp.of_awpD [] hΓ hmix (by kernel_rfl) ?_
    by_cases hlt : i < ws.length
    · simp -implicitDefEqProofs only [hlt, getD_map_lt, ↓reduceIte, codeB, go_sem]
      refine AWp.loopI (fun k : Nat => ⟨mkF 39 [(1, .ptr 0 0), (2, .p (.bool false)), (3, .p (.int .i64 0)), (4, .p (.int .i64 i)), (5, .p (.int .i64 k))], [codeB q ws]⟩)
        (fun k => k ≤ ws.length ∧ aloneTo (fun w x => x.isPrefixOf w) ws i k = true) (fun k => ws.length - k) 0 (by simp [go_sem, codeB]) ⟨by omega, rfl⟩ ?_
      rintro k ⟨hk, hal2⟩
      refine AWp.of_awpD [(9, 16)] hΓ hmix (by kernel_rfl) ?_
      have hwi : ws.getD i [] = ws[i] := by rw [List.getD_eq_getElem?_getD, List.getElem?_eq_getElem hlt, Option.getD_some]
      have hsh : ws[i].length ≤ 9223372036854775807 := by have := hv.short i hlt; rw [hwi] at this; omega
      by_cases hlt2 : k < ws.length
      · have hwk : ws.getD k [] = ws[k] := by rw [List.getD_eq_getElem?_getD, List.getElem?_eq_getElem hlt2, Option.getD_some]
        by_cases he : (i : Int) = k
        · simp -implicitDefEqProofs only [hlt2, he, getD_map_lt, ↓reduceIte, codeB, go_sem]
          refine ⟨by simp only [InR]; omega, k + 1, by omega, ⟨hlt2, ?_⟩, by omega⟩
          rw [aloneTo_succ, hal2, decide_eq_true (by omega)]; rfl
        · simp -implicitDefEqProofs only [hlt, hlt2, he, getD_map_lt, ↓reduceIte, codeB, go_sem]
          refine callVPK_fn (u52 ws[i] ws[k]) (.pures rfl) ?_
          cases hp : ws[k].isPrefixOf ws[i]
          · simp -implicitDefEqProofs only [hlt, hlt2, he, getD_map_lt, ↓reduceIte, codeB, go_sem]
            refine ⟨by simp only [InR]; omega, k + 1, by omega, ⟨hlt2, ?_⟩, by omega⟩
            rw [aloneTo_succ, hal2, hwi, hwk, hp]; simp
          · simp -implicitDefEqProofs only [hlt, hlt2, he, getD_map_lt, ↓reduceIte, codeB, go_sem]
            rw [alone_bad hlt hlt2 (by omega) (by rw [hwi, hwk]; exact hp)]
      · simp -implicitDefEqProofs only [hlt2, codeB, go_sem]
        refine ⟨by simp only [InR]; omega, i + 1, by omega, ⟨hlt, ?_⟩, by omega⟩
        rw [aloneN_succ, hal, show ws.length = k by omega, hal2]; rfl
    · simp -implicitDefEqProofs only [hlt, codeB, go_sem]
      rw [show i = ws.length by omega] at hal; exact hal.symm
  · simp -implicitDefEqProofs only [h, go_sem]

end Go.Proofs.YtpljmccnfmkmfaaGreat
end

section
namespace Go.Proofs.YtpljmccnfmkmfaaGreat
open Go Go.AM
set_option maxRecDepth 100000
set_option maxHeartbeats 4000000
set_option linter.unusedSimpArgs false

end Go.Proofs.YtpljmccnfmkmfaaGreat
end

section
namespace Go.Proofs.YtpljmccnfmkmfaaGreat
open Go Go.AM
set_option maxRecDepth 100000
set_option maxHeartbeats 4000000
set_option linter.unusedSimpArgs false

def longW (w : List UInt8) : Bool := decide (5 < w.length) && decide (w.length ≤ 32)
def muchC (q : Int) (ws : List (List UInt8)) : Bool := decide (6 < ws.length) || (decide (3 < q) && decide (q ≤ 16))
def great36 (q : Int) (ws : List (List UInt8)) : Bool := ws.any longW || muchC q ws

theorem gr36 (q : Int) (ws : List (List UInt8)) (hl : ws.length ≤ 9223372036854775807) : PFn Tryz.prog 43 [codeV q ws] [.bool (great36 q ws)] := by
  refine PFn.of_body hΓ Tryz.func43 (by kernel_rfl) rfl (AWp.of_awpD [] hΓ hmix (by kernel_rfl) ?_)
  simp -implicitDefEqProofs only [Tryz.ntmps43, Tryz.results43, Nat.reduceAdd, Nat.reduceSub, codeV, go_sem]
  refine AWp.loopI (fun k : Nat => ⟨mkF 41 [(1, .ptr 0 0), (2, .p (.bool false)), (3, .p (.int .i64 k))], [codeB q ws]⟩)
    (fun k => k ≤ ws.length ∧ (ws.take k).any longW = false) (fun k => ws.length - k) 0 (by simp [go_sem, codeB]) (by simp) ?_
  rintro k ⟨hk, hno⟩
  refine AWp.of_awpD [] hΓ hmix (by kernel_rfl) ?_
  by_cases hlt : k < ws.length
  · by_cases h5 : (5 : Int) < ws[k].length
    · by_cases h32 : (ws[k].length : Int) ≤ 32
      · simp -implicitDefEqProofs only [hlt, h5, h32, getD_map_lt, ↓reduceIte, codeB, go_sem]
        have : ws.any longW = true := List.any_eq_true.2 ⟨_, List.getElem_mem hlt, by unfold longW; simp only [Bool.and_eq_true, decide_eq_true_eq]; omega⟩
        unfold great36
        rw [this]; rfl
      · have hno' : longW ws[k] = false := by unfold longW; simp only [Bool.and_eq_false_iff, decide_eq_false_iff_not]; omega
        simp -implicitDefEqProofs only [hlt, h5, h32, getD_map_lt, ↓reduceIte, codeB, go_sem]
        exact ⟨by simp only [InR]; omega, k + 1, by simp, ⟨hlt, by rw [List.take_succ_eq_append_getElem hlt, List.any_append, hno]; simp [hno']⟩, by omega⟩
    · have hno' : longW ws[k] = false := by unfold longW; simp only [Bool.and_eq_false_iff, decide_eq_false_iff_not]; omega
      simp -implicitDefEqProofs only [hlt, h5, getD_map_lt, ↓reduceIte, codeB, go_sem]
      exact ⟨by simp only [InR]; omega, k + 1, by simp, ⟨hlt, by rw [List.take_succ_eq_append_getElem hlt, List.any_append, hno]; simp [hno']⟩, by omega⟩
  · rw [List.take_of_length_le (by omega)] at hno
    unfold great36 muchC
    rw [hno]
    by_cases h6 : (6 : Int) < ws.length
    · simp -implicitDefEqProofs only [hlt, h6, codeB, go_sem]
      rw [decide_eq_true (by omega : 6 < ws.length)]; rfl
    · by_cases h3 : 3 < q
      · simp -implicitDefEqProofs only [hlt, h6, h3, codeB, go_sem]
        rw [decide_eq_false (by omega : ¬ 6 < ws.length)]; rfl
      · simp -implicitDefEqProofs only [hlt, h6, h3, codeB, go_sem]
        rw [decide_eq_false (by omega : ¬ 6 < ws.length)]; rfl

end Go.Proofs.YtpljmccnfmkmfaaGreat
end

section
namespace Go.Proofs.YtpljmccnfmkmfaaGreat.Kn
open Go Go.AM
set_option maxRecDepth 100000
set_option linter.unusedSimpArgs false

def ltr (a : Nat) : UInt8 := L16.getD a 0
theorem ltr_inj {a b : Nat} (ha : a < 16) (hb : b < 16) (h : ltr a = ltr b) : a = b := by
  have key : ∀ a : Fin 16, ∀ b : Fin 16, L16.getD a.val 0 = L16.getD b.val 0 → a = b := by decide
  have := key ⟨a, ha⟩ ⟨b, hb⟩ h
  exact congrArg Fin.val this
def Alph (q : Nat) (w : List UInt8) : Prop := ∀ b ∈ w, ∃ a, a < q ∧ b = ltr a

def wtN (q : Nat) (w : List UInt8) : Nat := q ^ (32 - w.length)
def taken (q : Nat) (p : List UInt8) : List (List UInt8) → Nat
  | [] => 0
  | w :: ws => (if p.isPrefixOf w then wtN q w else 0) + taken q p ws

theorem pre_iff {p w : List UInt8} : p.isPrefixOf w = true ↔ ∃ t, w = p ++ t := by
  rw [List.isPrefixOf_iff_prefix]
  exact ⟨fun ⟨t, h⟩ => ⟨t, h.symm⟩, fun ⟨t, h⟩ => ⟨t, h.symm⟩⟩
theorem pre_snoc {p w : List UInt8} {b : UInt8} (h : (p ++ [b]).isPrefixOf w = true) : p.isPrefixOf w = true := by
  obtain ⟨t, ht⟩ := pre_iff.1 h
  exact pre_iff.2 ⟨[b] ++ t, by rw [ht, List.append_assoc]⟩
theorem pre_uniq {p w : List UInt8} {b c : UInt8} (h1 : (p ++ [b]).isPrefixOf w = true) (h2 : (p ++ [c]).isPrefixOf w = true) : b = c := by
  obtain ⟨t, ht⟩ := pre_iff.1 h1
  obtain ⟨s, hs⟩ := pre_iff.1 h2
  rw [ht, List.append_assoc, List.append_assoc] at hs
  have := List.append_cancel_left hs
  simp at this
  exact this.1
theorem pre_more {p w : List UInt8} (h : p.isPrefixOf w = true) (hne : w ≠ p) : ∃ b, b ∈ w ∧ (p ++ [b]).isPrefixOf w = true := by
  obtain ⟨t, ht⟩ := pre_iff.1 h
  cases t with
  | nil => exact absurd (by simpa using ht) hne
  | cons b t => exact ⟨b, by rw [ht]; simp, pre_iff.2 ⟨t, by rw [ht]; simp⟩⟩

theorem sumN_add (F G : Nat → Nat) : ∀ n, sumN (fun j => F j + G j) n = sumN F n + sumN G n
  | 0 => rfl
  | n + 1 => by
    have ih := sumN_add F G n
    have e1 : sumN (fun j => F j + G j) (n + 1) = sumN (fun j => F j + G j) n + (F n + G n) := rfl
    have e2 : sumN F (n + 1) = sumN F n + F n := rfl
    have e3 : sumN G (n + 1) = sumN G n + G n := rfl
    omega
theorem sumN_one {F : Nat → Nat} {k c : Nat} : ∀ {n : Nat}, k < n → F k = c → (∀ j, j < n → j ≠ k → F j = 0) → sumN F n = c
  | 0, h, _, _ => by omega
  | n + 1, h, hc, h0 => by
    have e : sumN F (n + 1) = sumN F n + F n := rfl
    by_cases hk : k = n
    · subst hk
      rw [e, sumN_zero (fun j hj => h0 j (by omega) (by omega)), hc, Nat.zero_add]
    · rw [e, sumN_one (n := n) (by omega) hc (fun j hj hne => h0 j (by omega) hne), h0 n (by omega) (fun h => hk h.symm), Nat.add_zero]
theorem sumN_le {F : Nat → Nat} {B : Nat} : ∀ {n : Nat}, (∀ j, j < n → F j ≤ B) → sumN F n ≤ n * B
  | 0, _ => Nat.zero_le _
  | n + 1, h => by
    have e : sumN F (n + 1) = sumN F n + F n := rfl
    have := sumN_le (n := n) (fun j hj => h j (by omega))
    have := h n (by omega)
    rw [e, Nat.succ_mul]; omega
theorem sumN_full {F : Nat → Nat} {B : Nat} : ∀ {n : Nat}, (∀ j, j < n → F j ≤ B) → sumN F n = n * B → ∀ j, j < n → F j = B
  | 0, _, _ => fun j hj => by omega
  | n + 1, h, hs => by
    have e : sumN F (n + 1) = sumN F n + F n := rfl
    have h1 := sumN_le (n := n) (fun j hj => h j (by omega))
    have h2 := h n (by omega)
    rw [e, Nat.succ_mul] at hs
    have ih := sumN_full (n := n) (fun j hj => h j (by omega)) (by omega)
    intro j hj
    by_cases hjn : j = n
    · subst hjn; omega
    · exact ih j (by omega)
theorem taken_split {q : Nat} (hq : q ≤ 16) (p : List UInt8) : ∀ {ws : List (List UInt8)}, (∀ w ∈ ws, Alph q w) → (∀ w ∈ ws, w ≠ p) → taken q p ws = sumN (fun a => taken q (p ++ [ltr a]) ws) q
  | [], _, _ => by
    symm
    exact sumN_zero fun _ _ => rfl
  | w :: ws, hA, hne => by
    have ih := taken_split hq p (ws := ws) (fun x hx => hA x (by simp [hx])) (fun x hx => hne x (by simp [hx]))
    show (if p.isPrefixOf w then wtN q w else 0) + taken q p ws = sumN (fun a => (if (p ++ [ltr a]).isPrefixOf w then wtN q w else 0) + taken q (p ++ [ltr a]) ws) q
    rw [sumN_add, ← ih]
    congr 1
    by_cases hp : p.isPrefixOf w = true
    · obtain ⟨b, hb, hbw⟩ := pre_more hp (hne w (by simp))
      obtain ⟨a, ha, rfl⟩ := hA w (by simp) b hb
      rw [if_pos hp]
      symm
      refine sumN_one ha (by simp only [hbw, if_true]) fun j hj hja => ?_
      rw [if_neg]
      intro hjw
      exact hja (ltr_inj (by omega) (by omega) (pre_uniq hjw hbw))
    · rw [if_neg hp]
      symm
      refine sumN_zero fun j hj => ?_
      rw [if_neg]
      exact fun h => hp (pre_snoc h)

structure PCode (q : Nat) (ws : List (List UInt8)) : Prop where
  q0 : 0 < q
  q16 : q ≤ 16
  nodup : ws.Nodup
  free : ∀ x ∈ ws, ∀ y ∈ ws, y.isPrefixOf x = true → x = y
  alph : ∀ w ∈ ws, Alph q w
  short : ∀ w ∈ ws, w.length ≤ 32

theorem taken_none {q : Nat} {p : List UInt8} : ∀ {ws : List (List UInt8)}, (∀ w ∈ ws, ¬ p.isPrefixOf w = true) → taken q p ws = 0
  | [], _ => rfl
  | w :: ws, h => by
    show (if p.isPrefixOf w then wtN q w else 0) + taken q p ws = 0
    rw [if_neg (h w (by simp)), taken_none (fun x hx => h x (by simp [hx]))]
theorem taken_word {q : Nat} {p : List UInt8} : ∀ {ws : List (List UInt8)}, p ∈ ws → ws.Nodup → (∀ x ∈ ws, p.isPrefixOf x = true → x = p) → taken q p ws = wtN q p
  | w :: ws, hp, hd, hf => by
    show (if p.isPrefixOf w then wtN q w else 0) + taken q p ws = _
    have hd' := List.nodup_cons.1 hd
    by_cases hw : p.isPrefixOf w = true
    · have e := hf w (by simp) hw
      subst e
      rw [if_pos hw, taken_none (fun x hx h => ?_), Nat.add_zero]
      have := hf x (by simp [hx]) h
      subst this
      exact hd'.1 hx
    · rw [if_neg hw, Nat.zero_add]
      have hne : p ≠ w := fun e => hw (by rw [e]; exact List.isPrefixOf_iff_prefix.2 (List.prefix_refl _))
      exact taken_word (by simpa [hne] using hp) hd'.2 (fun x hx => hf x (by simp [hx]))
theorem PCode.word {q : Nat} {ws : List (List UInt8)} (h : PCode q ws) {p : List UInt8} (hp : p ∈ ws) : taken q p ws = wtN q p :=
  taken_word hp h.nodup fun x hx hpx => h.free x hx p hp hpx

theorem PCode.le {q : Nat} {ws : List (List UInt8)} (h : PCode q ws) : ∀ (d : Nat) (p : List UInt8), p.length + d = 32 → taken q p ws ≤ q ^ d
  | d, p, hl => by
    by_cases hp : p ∈ ws
    · rw [h.word hp]
      unfold wtN
      rw [show 32 - p.length = d by omega]
      exact Nat.le_refl _
    · have hne : ∀ w ∈ ws, w ≠ p := fun w hw e => hp (e ▸ hw)
      cases d with
      | zero =>
        rw [taken_none fun w hw hpw => ?_]
        · exact Nat.zero_le _
        · obtain ⟨b, _, hb⟩ := pre_more hpw (hne w hw)
          have h1 := (List.isPrefixOf_iff_prefix.1 hb).length_le
          have h2 := h.short w hw
          simp at h1
          omega
      | succ d =>
        rw [taken_split h.q16 p h.alph hne, Nat.pow_succ, Nat.mul_comm]
        exact sumN_le fun a _ => PCode.le h d (p ++ [ltr a]) (by simp; omega)

def Inner (ws : List (List UInt8)) (p : List UInt8) : Prop := ∃ w ∈ ws, p.isPrefixOf w = true ∧ p.length < w.length
theorem PCode.outer {q : Nat} {ws : List (List UInt8)} (h : PCode q ws) {p : List UInt8} (hp : Inner ws p) : p ∉ ws := fun hm => by
  obtain ⟨w, hw, hpw, hl⟩ := hp
  have := h.free w hw p hm hpw
  rw [this] at hl
  omega

theorem inner_init {ws : List (List UInt8)} {p : List UInt8} {b : UInt8} (h : Inner ws (p ++ [b])) : Inner ws p := by
  obtain ⟨w, h1, h2, h3⟩ := h
  exact ⟨w, h1, pre_snoc h2, by simp at h3; omega⟩

theorem PCode.full {q : Nat} {ws : List (List UInt8)} (h : PCode q ws) (hT : taken q [] ws = q ^ 32) : ∀ (n : Nat) (p : List UInt8), p.length = n → Inner ws p → taken q p ws = q ^ (32 - n) ∧ ∀ a, a < q → taken q (p ++ [ltr a]) ws = q ^ (32 - (n + 1))
  | n, p, hn, hi => by
    have hm := h.outer hi
    have hne : ∀ w ∈ ws, w ≠ p := fun w hw e => hm (e ▸ hw)
    have hlen : n + 1 ≤ 32 := by
      obtain ⟨w, h1, h2, h3⟩ := hi
      have := h.short w h1
      omega
    have hfull : taken q p ws = q ^ (32 - n) := by
      cases n with
      | zero =>
        have : p = [] := List.length_eq_zero_iff.1 hn
        subst this
        exact hT
      | succ n =>
        obtain ⟨x, b, rfl⟩ : ∃ x b, p = x ++ [b] := by
          have hp0 : p ≠ [] := fun e => by subst e; simp at hn
          exact ⟨p.dropLast, p.getLast hp0, (List.dropLast_concat_getLast hp0).symm⟩
        have hxl : x.length = n := by simpa using hn
        have ih := PCode.full h hT n x hxl (inner_init hi)
        obtain ⟨w, h1, h2, h3⟩ := hi
        have hbw : b ∈ w := by
          obtain ⟨t, rfl⟩ := pre_iff.1 h2
          simp
        obtain ⟨a, ha, rfl⟩ := h.alph w h1 b hbw
        exact ih.2 a ha
    refine ⟨hfull, ?_⟩
    rw [taken_split h.q16 p h.alph hne, show 32 - n = (32 - (n + 1)) + 1 by omega, Nat.pow_succ, Nat.mul_comm] at hfull
    exact sumN_full (fun a _ => h.le (32 - (n + 1)) (p ++ [ltr a]) (by simp; omega)) hfull

end Go.Proofs.YtpljmccnfmkmfaaGreat.Kn
end

section
namespace Go.Proofs.YtpljmccnfmkmfaaGreat
open Go Go.AM
set_option maxRecDepth 100000
set_option linter.unusedSimpArgs false

end Go.Proofs.YtpljmccnfmkmfaaGreat
end

section
namespace Go.Proofs.YtpljmccnfmkmfaaGreat
open Go Go.AM Go.RowKit
set_option maxRecDepth 100000
set_option maxHeartbeats 4000000
set_option linter.unusedSimpArgs false

end Go.Proofs.YtpljmccnfmkmfaaGreat
end

