/-
  The law LettercostWords (f8).
  lettercost.Cost for valid costs and weights.
  Plain: the list that is given is an order of the leaves, of the least cost; the best list.
  Plain: no prefix-free list is cheaper than the best list of a tree.
  The law LettercostBest (f9).
-/
import Derived.Test.YtnaekjbbakofdaaGreatJ3a2d5f2e6392
import Derived.Test.YtnaekjbbakofdaaGreatJ9f8c92535658
import Derived.Test.YtnaekjbbakofdaaGreatJb66f8f526fa3
import Derived.Test.YtnaekjbbakofdaaGreatJ75d8ba1040fe

section
namespace Go.Proofs.YtnaekjbbakofdaaGreat
open Go Go.AM
set_option maxRecDepth 100000
set_option maxHeartbeats 4000000
set_option linter.unusedSimpArgs false

end Go.Proofs.YtnaekjbbakofdaaGreat
end

section
namespace Go.Proofs.YtnaekjbbakofdaaGreat
open Go Go.AM
set_option maxRecDepth 100000
set_option maxHeartbeats 4000000
set_option linter.unusedSimpArgs false

theorem getD_lt {l : List Wd} {i : Nat} (h : i < l.length) : l.getD i [] = l[i] := by rw [List.getD_eq_getElem?_getD, List.getElem?_eq_getElem h, Option.getD_some]

end Go.Proofs.YtnaekjbbakofdaaGreat
end

section
namespace Go.Proofs.YtnaekjbbakofdaaGreat
open List

/-! ### The list that is given -/
theorem given_ok (cs : List Nat) : ∀ (W : List Nat) (L : List Wd), W.length = L.length → givenL cs W L (matchN cs W L) ~ L ∧ totN cs W (givenL cs W L (matchN cs W L)) = matchN cs W L
  | [], L, h => by
    have hL : L = [] := List.length_eq_zero_iff.1 (by simpa using h.symm)
    subst hL
    exact ⟨.refl _, rfl⟩
  | x :: W, L, h => by
    have hl : W.length + 1 = L.length := by simpa using h
    obtain ⟨k0, hk0, hg0⟩ := good_ex cs x W L hl
    obtain ⟨_, hkl, hkg, _⟩ := firstK_spec (p := goodK cs x W (matchN cs (x :: W) L) L) (f := L.length) (lo := 0) (Nat.zero_le k0) (by omega) hg0
    generalize hkk : firstK (goodK cs x W (matchN cs (x :: W) L) L) L.length 0 = k at *
    rw [Nat.zero_add] at hkl
    unfold goodK at hkg
    rw [decide_eq_true_eq] at hkg
    have hgD : L.getD k [] = L[k] := by rw [List.getD_eq_getElem?_getD, List.getElem?_eq_getElem hkl, Option.getD_some]
    have hcl : W.length = (cutOut L k (k + 1)).length := by unfold cutOut; simp; omega
    obtain ⟨h1, h2⟩ := given_ok cs W (cutOut L k (k + 1)) hcl
    rw [givenL_cons cs x W L _ hkk]
    have e : matchN cs (x :: W) L - x * costW cs (L.getD k []) = matchN cs W (cutOut L k (k + 1)) := by omega
    rw [e]
    refine ⟨?_, ?_⟩
    · rw [hgD]
      exact (h1.cons _).trans (perm_cut hkl).symm
    · have h3 : totN cs (x :: W) (L.getD k [] :: givenL cs W (cutOut L k (k + 1)) (matchN cs W (cutOut L k (k + 1)))) = x * costW cs (L.getD k []) + totN cs W (givenL cs W (cutOut L k (k + 1)) (matchN cs W (cutOut L k (k + 1)))) := rfl
      rw [h3, h2]; exact hkg
theorem listOf_ok (cs W : List Nat) (x : List Wd) (h : W.length = x.length) : listOf cs W x ~ x ∧ totN cs W (listOf cs W x) = matchN cs W x := by
  have hp : sortW x ~ x := List.mergeSort_perm x _
  have hm : matchN cs W x = matchN cs W (sortW x) := (matchN_perm hp).symm
  have := given_ok cs W (sortW x) (by rw [hp.length_eq]; exact h)
  unfold listOf
  rw [hm]
  exact ⟨this.1.trans hp, this.2⟩

/-! ### The best list -/
def Bst (cs W : List Nat) (xs : List (List Wd)) : Option (List Wd × Nat) → Prop
  | none => xs = []
  | some (b, m) => (∃ x ∈ xs, b = listOf cs W x ∧ m = matchN cs W x) ∧ ∀ y ∈ xs, m ≤ matchN cs W y
theorem Bst.run {cs W : List Nat} : ∀ (zs xs : List (List Wd)) (s : Option (List Wd × Nat)), (∀ y ∈ zs, goodB cs.length W.length y = true) → Bst cs W xs s → Bst cs W (xs ++ zs) (zs.foldl (stepG cs W) s)
  | [], xs, s, _, h => by simpa using h
  | y :: zs, xs, s, hg, h => by
    have hstep : Bst cs W (xs ++ [y]) (stepG cs W s y) := by
      unfold stepG
      rw [if_pos (hg y (by simp))]
      match s, h with
      | none, h =>
        have h : xs = [] := h
        subst h
        exact ⟨⟨y, by simp, rfl, rfl⟩, fun z hz => by simp at hz; subst hz; exact Nat.le_refl _⟩
      | some (b, m), h =>
        obtain ⟨⟨x, hx, h1, h2⟩, h3⟩ := h
        unfold stepO
        simp only
        split
        · rename_i hlt
          exact ⟨⟨x, by simp [hx], h1, h2⟩, fun z hz => by
            rcases List.mem_append.1 hz with hz | hz
            · exact h3 z hz
            · rw [List.mem_singleton.1 hz]; omega⟩
        · rename_i hge
          split
          · exact ⟨⟨y, by simp, rfl, rfl⟩, fun z hz => by
              rcases List.mem_append.1 hz with hz | hz
              · have := h3 z hz; omega
              · rw [List.mem_singleton.1 hz]; exact Nat.le_refl _⟩
          · rename_i hno
            exact ⟨⟨x, by simp [hx], h1, h2⟩, fun z hz => by
              rcases List.mem_append.1 hz with hz | hz
              · exact h3 z hz
              · rw [List.mem_singleton.1 hz]; omega⟩
    have := Bst.run zs (xs ++ [y]) _ (fun z hz => hg z (by simp [hz])) hstep
    rw [List.append_assoc] at this
    exact this
theorem optN_ok {cs W : List Nat} (hcl : cs.length ≤ 16) (hl : W.length ≤ 1000) : Bst cs W (treesF cs.length W.length W.length []) (optN cs W) := by
  have := Bst.run (cs := cs) (W := W) (treesF cs.length W.length W.length []) [] none (fun y hy => trees_good hcl hl hy) rfl
  rwa [List.nil_append] at this

/-! ### Trees are prefix-free -/
def inc (a b : Wd) : Prop := ¬ a <+: b ∧ ¬ b <+: a
def PF (l : List Wd) : Prop := l.Pairwise inc
theorem inc.symm {a b : Wd} (h : inc a b) : inc b a := ⟨h.2, h.1⟩
theorem PF.perm {l m : List Wd} (h : PF l) (hp : l ~ m) : PF m := hp.pairwise h inc.symm
theorem letA_inj {a b : Nat} (ha : a < 16) (hb : b < 16) (h : letA a = letA b) : a = b := by
  have h1 := ix_letA ha
  rw [h, ix_letA hb] at h1
  omega
theorem inc_letters {pre u v : Wd} {a b : Nat} (ha : a < 16) (hb : b < 16) (hab : a ≠ b) (hu : (pre ++ [letA a]) <+: u) (hv : (pre ++ [letA b]) <+: v) : inc u v := by
  have key : ∀ {u v : Wd} {a b : Nat}, a < 16 → b < 16 → a ≠ b → (pre ++ [letA a]) <+: u → (pre ++ [letA b]) <+: v → ¬ u <+: v := fun {u v a b} ha hb hab hu hv h => by
    have h1 := hu.trans h
    rcases List.prefix_or_prefix_of_prefix h1 hv with h2 | h2
    · have := h2.eq_of_length (by simp)
      have h3 := List.append_cancel_left this
      injection h3 with h3
      exact hab (letA_inj ha hb h3)
    · have := h2.eq_of_length (by simp)
      have h3 := List.append_cancel_left this
      injection h3 with h3
      exact hab (letA_inj ha hb h3.symm)
  exact ⟨key ha hb hab hu hv, key hb ha (fun e => hab e.symm) hv hu⟩
theorem growL_pf {T : Nat → Wd → List (List Wd)} {n q : Nat} {pre : Wd} (hq : q ≤ 16) (hT : ∀ k w x, x ∈ T k w → PF x ∧ ∀ u ∈ x, w <+: u) :
    ∀ {d a left ch : Nat} {leaves x : List Wd}, a + d = q → PF leaves → (∀ u ∈ leaves, ∃ b, b < a ∧ (pre ++ [letA b]) <+: u) → x ∈ growL T n pre d a left ch leaves → PF x ∧ ∀ u ∈ x, pre <+: u
  | 0, a, left, ch, leaves, x, _, h1, h2, h => by
    unfold growL at h
    split at h
    · cases h
    · have : x = leaves := by simpa using h
      subst this
      exact ⟨h1, fun u hu => by obtain ⟨b, _, hb⟩ := h2 u hu; exact (List.prefix_append _ _).trans hb⟩
  | d + 1, a, left, ch, leaves, x, ha, h1, h2, h => by
    rw [growL_succ, List.mem_append, mem_kidsL] at h
    rcases h with h | ⟨j, hj, part, hp, h⟩
    · exact growL_pf hq hT (by omega) h1 (fun u hu => by obtain ⟨b, hb, hb2⟩ := h2 u hu; exact ⟨b, by omega, hb2⟩) h
    · obtain ⟨p1, p2⟩ := hT _ _ _ hp
      refine growL_pf hq hT (by omega) ?_ (fun u hu => ?_) h
      · unfold PF
        rw [List.pairwise_append]
        refine ⟨h1, p1, fun u hu v hv => ?_⟩
        obtain ⟨b, hb, hb2⟩ := h2 u hu
        exact inc_letters (by omega) (by omega) (by omega) hb2 (p2 v hv)
      · rcases List.mem_append.1 hu with hu | hu
        · obtain ⟨b, hb, hb2⟩ := h2 u hu; exact ⟨b, by omega, hb2⟩
        · exact ⟨a, by omega, p2 u hu⟩
theorem treesF_pf {q : Nat} (hq : q ≤ 16) : ∀ {f n : Nat} {pre : Wd} {x : List Wd}, x ∈ treesF q f n pre → PF x ∧ ∀ u ∈ x, pre <+: u
  | 0, _, _, _, h => by simp [treesF] at h
  | f + 1, n, pre, x, h => by
    by_cases hn : n = 1
    · subst hn
      rw [treesF_one] at h
      have : x = [pre] := by simpa using h
      subst this
      exact ⟨by simp [PF], fun u hu => by rw [List.mem_singleton.1 hu]; exact List.prefix_refl _⟩
    · rw [treesF_more hn] at h
      exact growL_pf hq (fun k w y hy => treesF_pf hq hy) (by omega) (by simp [PF]) (by simp) h
end Go.Proofs.YtnaekjbbakofdaaGreat
end

section
namespace Go.Proofs.YtnaekjbbakofdaaGreat
open List Go.AM

inductive F2 {α β : Type} (R : α → β → Prop) : List α → List β → Prop
  | nil : F2 R [] []
  | cons {a b l m} (h : R a b) (t : F2 R l m) : F2 R (a :: l) (b :: m)
theorem F2.append {α β : Type} {R : α → β → Prop} {l l' : List α} {m m' : List β} (h : F2 R l m) (h' : F2 R l' m') : F2 R (l ++ l') (m ++ m') := by
  induction h with
  | nil => exact h'
  | cons h _ ih => exact .cons h ih
theorem F2.mono {α β : Type} {R S : α → β → Prop} {l : List α} {m : List β} (h : F2 R l m) (hi : ∀ a b, b ∈ m → R a b → S a b) : F2 S l m := by
  induction h with
  | nil => exact .nil
  | cons h _ ih => exact .cons (hi _ _ (by simp) h) (ih fun a b hb => hi a b (by simp [hb]))
theorem F2.map {α β γ : Type} {R : α → γ → Prop} {f : β → γ} {l : List α} {m : List β} (h : F2 (fun a b => R a (f b)) l m) : F2 R l (m.map f) := by
  induction h with
  | nil => exact .nil
  | cons h _ ih => exact .cons h ih
theorem F2.len {α β : Type} {R : α → β → Prop} {l : List α} {m : List β} (h : F2 R l m) : l.length = m.length := by
  induction h with
  | nil => rfl
  | cons _ _ ih => simp [ih]
theorem F2.perm {α β : Type} {R : α → β → Prop} {m m' : List β} (hp : m ~ m') : ∀ {l : List α}, F2 R l m → ∃ l', l' ~ l ∧ F2 R l' m' := by
  induction hp with
  | nil => exact fun h => ⟨_, .refl _, h⟩
  | cons x _ ih =>
    intro l h
    cases h with
    | cons h t =>
      obtain ⟨l', h1, h2⟩ := ih t
      exact ⟨_ :: l', h1.cons _, .cons h h2⟩
  | swap x y l0 =>
    intro l h
    cases h with
    | cons h t =>
      cases t with
      | cons h' t => exact ⟨_, .swap _ _ _, .cons h' (.cons h t)⟩
  | trans _ _ ih1 ih2 =>
    intro l h
    obtain ⟨l1, h1, h2⟩ := ih1 h
    obtain ⟨l2, h3, h4⟩ := ih2 h2
    exact ⟨l2, h3.trans h1, h4⟩
def catP (p : Nat → List Wd) : Nat → Nat → List Wd
  | 0, _ => []
  | d + 1, a => p a ++ catP p d (a + 1)
def cntP (p : Nat → List Wd) : Nat → Nat → Nat
  | 0, _ => 0
  | d + 1, a => (if p a = [] then 0 else 1) + cntP p d (a + 1)
theorem mem_grow {T : Nat → Wd → List (List Wd)} {n : Nat} {pre : Wd} {p : Nat → List Wd} : ∀ {d a left ch : Nat} {leaves : List Wd},
    (∀ b, a ≤ b → b < a + d → p b = [] ∨ ((p b).length ≤ n - 1 ∧ 1 ≤ (p b).length ∧ p b ∈ T (p b).length (pre ++ [letA b]))) → (catP p d a).length = left → 2 ≤ ch + cntP p d a → leaves ++ catP p d a ∈ growL T n pre d a left ch leaves
  | 0, a, left, ch, leaves, _, hl, hc => by
    unfold growL
    rw [if_neg (by simp [catP, cntP] at *; omega)]
    simp [catP]
  | d + 1, a, left, ch, leaves, hp, hl, hc => by
    rw [growL_succ, List.mem_append]
    have hp' : ∀ b, a + 1 ≤ b → b < a + 1 + d → p b = [] ∨ ((p b).length ≤ n - 1 ∧ 1 ≤ (p b).length ∧ p b ∈ T (p b).length (pre ++ [letA b])) := fun b h1 h2 => hp b (by omega) (by omega)
    simp only [catP, List.length_append] at hl
    by_cases h0 : p a = []
    · left
      have := mem_grow (leaves := leaves) (ch := ch) hp' (left := left) (by rw [h0] at hl; simpa using hl) (by simp only [cntP, h0, if_true] at hc; omega)
      simpa [catP, h0] using this
    · right
      rcases hp a (Nat.le_refl _) (by omega) with h | ⟨h1, h2, h3⟩
      · exact absurd h h0
      · rw [mem_kidsL]
        refine ⟨(p a).length - 1, by omega, p a, by rw [Nat.sub_add_cancel h2]; exact h3, ?_⟩
        rw [Nat.sub_add_cancel h2]
        have := mem_grow (leaves := leaves ++ p a) (ch := ch + 1) hp' (left := left - (p a).length) (by omega) (by simp only [cntP, if_neg h0] at hc; omega)
        simpa [catP, List.append_assoc] using this
theorem cat_F2 {R : Wd → Wd → Prop} {p g : Nat → List Wd} : ∀ {d a : Nat}, (∀ b, a ≤ b → b < a + d → F2 R (p b) (g b)) → F2 R (catP p d a) (catP g d a)
  | 0, _, _ => .nil
  | d + 1, a, h => (h a (Nat.le_refl _) (by omega)).append (cat_F2 (d := d) (a := a + 1) fun b h1 h2 => h b (by omega) (by omega))
theorem cat_perm {p g : Nat → List Wd} : ∀ {d a : Nat}, (∀ b, a ≤ b → b < a + d → p b ~ g b) → catP p d a ~ catP g d a
  | 0, _, _ => .refl _
  | d + 1, a, h => (h a (Nat.le_refl _) (by omega)).append (cat_perm (d := d) (a := a + 1) fun b h1 h2 => h b (by omega) (by omega))
theorem cat_cong {p g : Nat → List Wd} : ∀ {d a : Nat}, (∀ b, a ≤ b → b < a + d → p b = g b) → catP p d a = catP g d a
  | 0, _, _ => rfl
  | d + 1, a, h => by
    unfold catP
    rw [h a (Nat.le_refl _) (by omega), cat_cong (d := d) (a := a + 1) fun b h1 h2 => h b (by omega) (by omega)]
theorem cnt_pos {p : Nat → List Wd} : ∀ {d a : Nat}, cntP p d a = 0 → catP p d a = []
  | 0, _, _ => rfl
  | d + 1, a, h => by
    unfold cntP at h
    have h0 : p a = [] := Classical.byContradiction fun h1 => by rw [if_neg h1] at h; omega
    unfold catP
    rw [h0, cnt_pos (d := d) (a := a + 1) (by omega)]; rfl
theorem cnt_two {p : Nat → List Wd} {n : Nat} : ∀ {d a : Nat}, (∀ b, a ≤ b → b < a + d → (p b).length < n) → n ≤ (catP p d a).length → 0 < n → 2 ≤ cntP p d a
  | 0, a, h, hl, h0 => by simp [catP] at hl; omega
  | d + 1, a, h, hl, h0 => by
    unfold cntP
    unfold catP at hl
    rw [List.length_append] at hl
    by_cases hp : p a = []
    · rw [hp] at hl
      have := cnt_two (d := d) (a := a + 1) (fun b h1 h2 => h b (by omega) (by omega)) (by simpa using hl) h0
      omega
    · rw [if_neg hp]
      have h1 := h a (Nat.le_refl _) (by omega)
      have : cntP p d (a + 1) ≠ 0 := fun h2 => by
        have := cnt_pos h2
        rw [this] at hl
        simp at hl; omega
      omega
theorem groups {key : Wd → Nat} : ∀ {d a : Nat} {l : List Wd}, (∀ w ∈ l, a ≤ key w ∧ key w < a + d) → catP (fun b => l.filter fun w => decide (key w = b)) d a ~ l
  | 0, a, l, h => by
    have : l = [] := by
      cases l with
      | nil => rfl
      | cons w l => have := h w (by simp); omega
    subst this; exact .refl _
  | d + 1, a, l, h => by
    unfold catP
    have ih := groups (key := key) (d := d) (a := a + 1) (l := l.filter fun w => !decide (key w = a)) (fun w hw => by
      rw [List.mem_filter] at hw
      have h1 := h w hw.1
      have h2 : key w ≠ a := by simpa using hw.2
      omega)
    have e : catP (fun b => (l.filter fun w => !decide (key w = a)).filter fun w => decide (key w = b)) d (a + 1) = catP (fun b => l.filter fun w => decide (key w = b)) d (a + 1) :=
      cat_cong fun b h1 h2 => by
        rw [List.filter_filter]
        refine List.filter_congr fun w hw => ?_
        by_cases hk : key w = b
        · have : key w ≠ a := by omega
          simp [hk]; omega
        · simp [hk]
    rw [e] at ih
    exact (ih.append_left _).trans (List.filter_append_perm _ l)

/-! ### Letters -/
theorem letA_dig {q : Nat} {b : UInt8} (h : okB q b = true) : letA (digN b) = b ∧ digN b < q := by
  unfold okB at h
  rw [Bool.and_eq_true, decide_eq_true_eq, decide_eq_true_eq] at h
  have key : ∀ n, n < 256 → 0 ≤ ixB (UInt8.ofNat n) L16 0 → letA (ixB (UInt8.ofNat n) L16 0).toNat = UInt8.ofNat n := by decide +kernel
  have hb : UInt8.ofNat b.toNat = b := by simp
  have := key b.toNat (UInt8.toNat_lt b) (by rw [hb]; exact h.1)
  rw [hb] at this
  exact ⟨this, by unfold digN; omega⟩
def headD (w : Wd) : Nat := digN (w.headD 0)
theorem PF.ne {w : Wd} {l : List Wd} (h : PF l) (h2 : 2 ≤ l.length) (hw : w ∈ l) : w ≠ [] := fun e => by
  subst e
  obtain ⟨i, hi, he⟩ := List.getElem_of_mem hw
  obtain ⟨j, hj, hij⟩ : ∃ j, j < l.length ∧ i ≠ j := by
    by_cases h0 : i = 0
    · exact ⟨1, by omega, by omega⟩
    · exact ⟨0, by omega, h0⟩
  have hp := List.pairwise_iff_getElem.1 h
  rcases Nat.lt_or_gt_of_ne hij with hlt | hlt
  · exact (hp i j hi hj hlt).1 (by rw [he]; exact List.nil_prefix)
  · exact (hp j i hj hi hlt).2 (by rw [he]; exact List.nil_prefix)
theorem PF.tails {a : UInt8} {l : List Wd} (h : PF (l.map fun w => a :: w)) : PF l := by
  unfold PF at *
  rw [List.pairwise_map] at h
  exact h.imp fun {u v} h => ⟨fun h1 => h.1 (List.cons_prefix_cons.2 ⟨rfl, h1⟩), fun h1 => h.2 (List.cons_prefix_cons.2 ⟨rfl, h1⟩)⟩

theorem sub_sum {l m : List Nat} (h : l.Sublist m) : l.sum ≤ m.sum := by
  induction h with
  | slnil => exact Nat.le_refl _
  | cons a _ ih => rw [List.sum_cons]; omega
  | cons_cons a _ ih => rw [List.sum_cons, List.sum_cons]; omega

theorem dominate (cs : List Nat) {q : Nat} (_hq : q ≤ 16) : ∀ (f n : Nat), 1 ≤ n → n ≤ f → ∀ (t : Nat) (pre : Wd) (l : List Wd), (l.map List.length).sum ≤ t → l.length = n → PF l → (∀ w ∈ l, okW q w = true) →
    ∃ x ∈ treesF q f n pre, ∃ l', l' ~ x ∧ F2 (fun u w => costW cs u ≤ costW cs (pre ++ w)) l' l := by
  intro f
  induction f with
  | zero => intro n h1 h2; omega
  | succ f ihf =>
    intro n hn1 hnf t
    induction t with
    | zero =>
      intro pre l ht hl hpf hok
      have hn : n = 1 := by
        refine Classical.byContradiction fun h => ?_
        match l, hl with
        | [], hl => simp at hl; omega
        | w :: l, hl =>
          have hw := hpf.ne (by omega) (show w ∈ w :: l by simp)
          cases w with
          | nil => exact hw rfl
          | cons b w => simp at ht
      subst hn
      match l, hl with
      | [w], _ => exact ⟨[pre], by rw [treesF_one]; simp, [pre], .refl _, .cons (by rw [costW_append]; omega) .nil⟩
    | succ t iht =>
      intro pre l ht hl hpf hok
      by_cases hn : n = 1
      · subst hn
        match l, hl with
        | [w], _ => exact ⟨[pre], by rw [treesF_one]; simp, [pre], .refl _, .cons (by rw [costW_append]; omega) .nil⟩
      have hne : ∀ w ∈ l, w ≠ [] := fun w hw => hpf.ne (by omega) hw
      have hkey : ∀ w ∈ l, ∃ v, w = letA (headD w) :: v ∧ headD w < q ∧ okW q v = true := fun w hw => by
        cases w with
        | nil => exact absurd rfl (hne _ hw)
        | cons b v =>
          have h1 := hok _ hw
          unfold okW at h1
          rw [List.all_cons, Bool.and_eq_true] at h1
          obtain ⟨e1, e2⟩ := letA_dig h1.1
          exact ⟨v, by show b :: v = letA (digN b) :: v; rw [e1], e2, h1.2⟩
      obtain ⟨grp, hgrp⟩ : ∃ grp : Nat → List Wd, grp = fun b => l.filter fun w => decide (headD w = b) := ⟨_, rfl⟩
      have hperm : catP grp q 0 ~ l := by
        rw [hgrp]
        exact groups (key := headD) fun w hw => by obtain ⟨_, _, h, _⟩ := hkey w hw; omega
      -- the words of a group, and what is behind their letter
      have hgs : ∀ b, ∃ tl : List Wd, grp b = tl.map (fun w => letA b :: w) ∧ PF tl ∧ (∀ w ∈ tl, okW q w = true) ∧ (tl.map List.length).sum + tl.length ≤ (l.map List.length).sum := fun b => by
        refine ⟨(grp b).map List.tail, ?_, ?_, ?_, ?_⟩
        · rw [List.map_map]
          conv => lhs; rw [← List.map_id (grp b)]
          refine List.map_congr_left fun w hw => ?_
          rw [hgrp, List.mem_filter] at hw
          obtain ⟨v, hv, _, _⟩ := hkey w hw.1
          have h2 : headD w = b := by simpa using hw.2
          rw [h2] at hv
          rw [hv]; rfl
        · have e : ((grp b).map List.tail).map (fun w => letA b :: w) = grp b := by
            rw [List.map_map]
            conv => rhs; rw [← List.map_id (grp b)]
            refine List.map_congr_left fun w hw => ?_
            rw [hgrp, List.mem_filter] at hw
            obtain ⟨v, hv, _, _⟩ := hkey w hw.1
            have h2 : headD w = b := by simpa using hw.2
            rw [h2] at hv
            rw [hv]; rfl
          refine PF.tails (a := letA b) ?_
          rw [e, hgrp]
          exact hpf.sublist List.filter_sublist
        · intro w hw
          obtain ⟨u, hu, rfl⟩ := List.mem_map.1 hw
          rw [hgrp, List.mem_filter] at hu
          obtain ⟨v, hv, _, hv2⟩ := hkey u hu.1
          rw [hv]; exact hv2
        · have h1 : ∀ m : List Wd, (∀ w ∈ m, w ≠ []) → ((m.map List.tail).map List.length).sum + (m.map List.tail).length = (m.map List.length).sum := fun m hm => by
            induction m with
            | nil => rfl
            | cons w m ih =>
              have h2 := ih (fun w hw => hm w (by simp [hw]))
              cases w with
              | nil => exact absurd rfl (hm [] (by simp))
              | cons b w => simp at h2 ⊢; omega
          rw [h1 _ (fun w hw => hne w (by rw [hgrp, List.mem_filter] at hw; exact hw.1))]
          have h3 : (grp b).Sublist l := by rw [hgrp]; exact List.filter_sublist
          exact sub_sum (h3.map List.length)
      by_cases hone : ∃ b, b < q ∧ (grp b).length = n
      · obtain ⟨b, hbq, hbn⟩ := hone
        have hall : l = grp b := by
          rw [hgrp]
          refine (List.filter_eq_self.2 ?_).symm
          have h3 : (grp b).Sublist l := by rw [hgrp]; exact List.filter_sublist
          have h4 := h3.eq_of_length (by omega)
          intro w hw
          rw [← h4, hgrp, List.mem_filter] at hw
          exact hw.2
        obtain ⟨tl, e1, e2, e3, e4⟩ := hgs b
        have htl : tl.length = n := by rw [← hbn, e1, List.length_map]
        obtain ⟨x, hx, l', hl', hF⟩ := iht pre tl (by omega) htl e2 e3
        refine ⟨x, hx, l', hl', ?_⟩
        rw [hall, e1]
        refine F2.map (hF.mono fun u w _ h => ?_)
        have h5 : costW cs (letA b :: w) = costW cs [letA b] + costW cs w := costW_append cs [letA b] w
        rw [costW_append] at h ⊢
        omega
      · have hlt : ∀ b, 0 ≤ b → b < 0 + q → (grp b).length < n := fun b _ hb => by
          have h3 : (grp b).Sublist l := by rw [hgrp]; exact List.filter_sublist
          have := h3.length_le
          have h4 : (grp b).length ≠ n := fun e => hone ⟨b, by omega, e⟩
          omega
        have hch : ∀ b, ∃ xl : List Wd × List Wd, b < q → (grp b = [] → xl = ([], [])) ∧ (grp b ≠ [] → xl.1 ∈ treesF q f (grp b).length (pre ++ [letA b])) ∧ xl.2 ~ xl.1 ∧ F2 (fun u w => costW cs u ≤ costW cs (pre ++ w)) xl.2 (grp b) := fun b => by
          by_cases hbq : b < q
          · by_cases h0 : grp b = []
            · exact ⟨([], []), fun _ => ⟨fun _ => rfl, fun h => absurd h0 h, .refl _, by rw [h0]; exact .nil⟩⟩
            · obtain ⟨tl, e1, e2, e3, e4⟩ := hgs b
              have htl : tl.length = (grp b).length := by rw [e1, List.length_map]
              have hpos : 1 ≤ (grp b).length := List.length_pos_iff.2 h0
              have hlb := hlt b (Nat.zero_le _) (by omega)
              obtain ⟨x, hx, l', hl', hF⟩ := ihf (grp b).length hpos (by omega) (tl.map List.length).sum (pre ++ [letA b]) tl (Nat.le_refl _) htl e2 e3
              refine ⟨(x, l'), fun _ => ⟨fun h => absurd h h0, fun _ => hx, hl', ?_⟩⟩
              rw [e1]
              refine F2.map (hF.mono fun u w _ h => ?_)
              rw [List.append_assoc] at h
              exact h
          · exact ⟨([], []), fun h => absurd h hbq⟩
        obtain ⟨F, hF⟩ := Classical.axiomOfChoice hch
        have hFl : ∀ b, b < q → (F b).1.length = (grp b).length := fun b hb => by
          obtain ⟨_, _, h3, h4⟩ := hF b hb
          rw [← h3.length_eq, h4.len]
        refine ⟨catP (fun b => (F b).1) q 0, ?_, ?_⟩
        · rw [treesF_more hn]
          have := mem_grow (T := fun k w => treesF q f k w) (n := n) (pre := pre) (p := fun b => (F b).1) (d := q) (a := 0) (left := n) (ch := 0) (leaves := []) (fun b _ hb => ?_) ?_ ?_
          · simpa using this
          · obtain ⟨h1, h2, _, _⟩ := hF b (by omega)
            by_cases h0 : grp b = []
            · left; rw [h1 h0]
            · right
              have hlb := hlt b (Nat.zero_le _) hb
              have hpos : 1 ≤ (grp b).length := List.length_pos_iff.2 h0
              rw [hFl b (by omega)]
              exact ⟨by omega, hpos, h2 h0⟩
          · have : (catP (fun b => (F b).1) q 0).length = (catP grp q 0).length := by
              have h5 : ∀ d a, a + d ≤ q → (catP (fun b => (F b).1) d a).length = (catP grp d a).length := by
                intro d
                induction d with
                | zero => intro a _; rfl
                | succ d ih => intro a ha; simp only [catP, List.length_append]; rw [ih (a + 1) (by omega), hFl a (by omega)]
              exact h5 q 0 (by omega)
            rw [this, hperm.length_eq, hl]
          · have h6 : ∀ d a, a + d ≤ q → cntP (fun b => (F b).1) d a = cntP grp d a := by
              intro d
              induction d with
              | zero => intro a _; rfl
              | succ d ih =>
                intro a ha
                simp only [cntP]
                rw [ih (a + 1) (by omega)]
                have h7 := hFl a (by omega)
                by_cases h0 : grp a = []
                · rw [if_pos h0, if_pos (List.length_eq_zero_iff.1 (by rw [h7, h0]; rfl))]
                · rw [if_neg h0, if_neg (fun e => h0 (List.length_eq_zero_iff.1 (by rw [← h7, e]; rfl)))]
            rw [h6 q 0 (by omega)]
            have := cnt_two (p := grp) (n := n) (d := q) (a := 0) hlt (by rw [hperm.length_eq, hl]; exact Nat.le_refl _) (by omega)
            omega
        · have h8 : F2 (fun u w => costW cs u ≤ costW cs (pre ++ w)) (catP (fun b => (F b).2) q 0) (catP grp q 0) := cat_F2 fun b _ hb => (hF b (by omega)).2.2.2
          obtain ⟨l', h9, h10⟩ := F2.perm hperm h8
          exact ⟨l', h9.trans (cat_perm fun b _ hb => (hF b (by omega)).2.2.1), h10⟩

theorem best_ok {cs W : List Nat} (hc : OkC cs) (hw : OkW W) : (bestL cs W).length = W.length ∧ PF (bestL cs W) ∧ (∀ w ∈ bestL cs W, w.length ≤ 1000 ∧ okW cs.length w = true) ∧ totN cs W (bestL cs W) = leastL cs W ∧
    ∃ x, bestL cs W ~ x ∧ leastL cs W = matchN cs W x := by
  have h3 := hc.l3
  have h2 := hc.l2
  have h5 := hw.l5
  have h1 := hw.pos
  have hB := optN_ok (cs := cs) (W := W) (by omega) (by omega)
  have hex : ∃ x, x ∈ treesF cs.length W.length W.length [] := by
    -- the words 0, 10, 110, ..
    have hz : ∀ n, 1 ≤ n → ∃ l : List Wd, l.length = n ∧ PF l ∧ ∀ w ∈ l, okW cs.length w = true := by
      intro n
      induction n with
      | zero => intro h; omega
      | succ n ih =>
        intro _
        by_cases hn : n = 0
        · subst hn; exact ⟨[[]], rfl, by simp [PF], by simp [okW]⟩
        · obtain ⟨l, l1, l2, l3⟩ := ih (by omega)
          refine ⟨[letA 0] :: l.map fun w => letA 1 :: w, by simp [l1], ?_, fun w hw => ?_⟩
          · refine List.pairwise_cons.2 ⟨fun w hw => ?_, ?_⟩
            · obtain ⟨v, _, rfl⟩ := List.mem_map.1 hw
              exact inc_letters (pre := []) (a := 0) (b := 1) (by omega) (by omega) (by omega) (List.prefix_refl _) ⟨v, rfl⟩
            · rw [List.pairwise_map]
              exact l2.imp fun {u v} h => ⟨fun h1 => h.1 (List.cons_prefix_cons.1 h1).2, fun h1 => h.2 (List.cons_prefix_cons.1 h1).2⟩
          · rcases List.mem_cons.1 hw with rfl | hw
            · unfold okW; simp [okB_letA (a := 0) (q := cs.length) (by omega) (by omega)]
            · obtain ⟨v, hv, rfl⟩ := List.mem_map.1 hw
              have := l3 v hv
              unfold okW at this ⊢
              rw [List.all_cons, this, okB_letA (a := 1) (q := cs.length) (by omega) (by omega)]; rfl
    obtain ⟨l, l1, l2, l3⟩ := hz W.length h1
    obtain ⟨x, hx, _⟩ := dominate cs (q := cs.length) (by omega) W.length W.length h1 (Nat.le_refl _) _ [] l (Nat.le_refl _) l1 l2 l3
    exact ⟨x, hx⟩
  unfold leastL bestL
  generalize optN cs W = s at hB
  match s, hB with
  | none, hB => obtain ⟨x, hx⟩ := hex; rw [show treesF cs.length W.length W.length [] = [] from hB] at hx; cases hx
  | some (b, m), hB =>
    obtain ⟨⟨x, hx, rfl, rfl⟩, _⟩ := hB
    have hxl := treesF_len hx
    obtain ⟨p1, p2⟩ := listOf_ok cs W x hxl.symm
    have hg := goodB_of.1 (trees_good (q := cs.length) (by omega) (by omega) hx)
    exact ⟨by show (listOf cs W x).length = _; rw [p1.length_eq, hxl], (treesF_pf (by omega) hx).1.perm p1.symm, fun w hw => hg.2 w (p1.mem_iff.1 hw), p2, x, p1, rfl⟩
end Go.Proofs.YtnaekjbbakofdaaGreat
end

section
namespace Go.Proofs.YtnaekjbbakofdaaGreat
open Go Go.AM
set_option maxRecDepth 100000
set_option maxHeartbeats 4000000
set_option linter.unusedSimpArgs false

end Go.Proofs.YtnaekjbbakofdaaGreat
end

