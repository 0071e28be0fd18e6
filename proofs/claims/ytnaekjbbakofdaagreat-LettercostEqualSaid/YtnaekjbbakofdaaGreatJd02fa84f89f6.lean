/-
  The law LettercostWords (f8).
  lettercost.Cost for valid costs and weights.
  Plain: the list that is given is an order of the leaves, of the least cost; the best list.
  Plain: no prefix-free list is cheaper than the best list of a tree.
  The law LettercostBest (f9).
  The law LettercostEqual (f6).
-/
import Derived.Test.YtnaekjbbakofdaaGreatJ9751cac6d653
import Derived.Test.YtnaekjbbakofdaaGreatJ726157cdb904
import Derived.Test.YtnaekjbbakofdaaGreatJcc20db8e02e6
import Derived.Test.YtnaekjbbakofdaaGreatJcb255ecbe7c9

section
namespace Go.Proofs.YtnaekjbbakofdaaGreat
open Go Go.AM
set_option maxRecDepth 100000
set_option maxHeartbeats 4000000
set_option linter.unusedSimpArgs false

end Go.Proofs.YtnaekjbbakofdaaGreat
end

section
namespace Go.Proofs.YtnaekjbbakofdaaGreat
open Go Go.AM
set_option maxRecDepth 100000
set_option maxHeartbeats 4000000
set_option linter.unusedSimpArgs false

theorem getD_lt {l : List Wd} {i : Nat} (h : i < l.length) : l.getD i [] = l[i] := by rw [List.getD_eq_getElem?_getD, List.getElem?_eq_getElem h, Option.getD_some]

end Go.Proofs.YtnaekjbbakofdaaGreat
end

section
namespace Go.Proofs.YtnaekjbbakofdaaGreat
open List

/-! ### The list that is given -/
def Bst (cs W : List Nat) (xs : List (List Wd)) : Option (List Wd × Nat) → Prop
  | none => xs = []
  | some (b, m) => (∃ x ∈ xs, b = listOf cs W x ∧ m = matchN cs W x) ∧ ∀ y ∈ xs, m ≤ matchN cs W y
theorem Bst.run {cs W : List Nat} : ∀ (zs xs : List (List Wd)) (s : Option (List Wd × Nat)), (∀ y ∈ zs, goodB cs.length W.length y = true) → Bst cs W xs s → Bst cs W (xs ++ zs) (zs.foldl (stepG cs W) s)
  | [], xs, s, _, h => by simpa using h
  | y :: zs, xs, s, hg, h => by
    have hstep : Bst cs W (xs ++ [y]) (stepG cs W s y) := by
      unfold stepG
      rw [if_pos (hg y (by simp))]
      match s, h with
      | none, h =>
        have h : xs = [] := h
        subst h
        exact ⟨⟨y, by simp, rfl, rfl⟩, fun z hz => by simp at hz; subst hz; exact Nat.le_refl _⟩
      | some (b, m), h =>
        obtain ⟨⟨x, hx, h1, h2⟩, h3⟩ := h
        unfold stepO
        simp only
        split
        · rename_i hlt
          exact ⟨⟨x, by simp [hx], h1, h2⟩, fun z hz => by
            rcases List.mem_append.1 hz with hz | hz
            · exact h3 z hz
            · rw [List.mem_singleton.1 hz]; omega⟩
        · rename_i hge
          split
          · exact ⟨⟨y, by simp, rfl, rfl⟩, fun z hz => by
              rcases List.mem_append.1 hz with hz | hz
              · have := h3 z hz; omega
              · rw [List.mem_singleton.1 hz]; exact Nat.le_refl _⟩
          · rename_i hno
            exact ⟨⟨x, by simp [hx], h1, h2⟩, fun z hz => by
              rcases List.mem_append.1 hz with hz | hz
              · exact h3 z hz
              · rw [List.mem_singleton.1 hz]; omega⟩
    have := Bst.run zs (xs ++ [y]) _ (fun z hz => hg z (by simp [hz])) hstep
    rw [List.append_assoc] at this
    exact this
theorem optN_ok {cs W : List Nat} (hcl : cs.length ≤ 16) (hl : W.length ≤ 1000) : Bst cs W (treesF cs.length W.length W.length []) (optN cs W) := by
  have := Bst.run (cs := cs) (W := W) (treesF cs.length W.length W.length []) [] none (fun y hy => trees_good hcl hl hy) rfl
  rwa [List.nil_append] at this

/-! ### Trees are prefix-free -/
def inc (a b : Wd) : Prop := ¬ a <+: b ∧ ¬ b <+: a
def PF (l : List Wd) : Prop := l.Pairwise inc
theorem inc.symm {a b : Wd} (h : inc a b) : inc b a := ⟨h.2, h.1⟩
theorem PF.perm {l m : List Wd} (h : PF l) (hp : l ~ m) : PF m := hp.pairwise h inc.symm
end Go.Proofs.YtnaekjbbakofdaaGreat
end

section
namespace Go.Proofs.YtnaekjbbakofdaaGreat
open List Go.AM

inductive F2 {α β : Type} (R : α → β → Prop) : List α → List β → Prop
  | nil : F2 R [] []
  | cons {a b l m} (h : R a b) (t : F2 R l m) : F2 R (a :: l) (b :: m)
theorem F2.append {α β : Type} {R : α → β → Prop} {l l' : List α} {m m' : List β} (h : F2 R l m) (h' : F2 R l' m') : F2 R (l ++ l') (m ++ m') := by
  induction h with
  | nil => exact h'
  | cons h _ ih => exact .cons h ih
theorem F2.mono {α β : Type} {R S : α → β → Prop} {l : List α} {m : List β} (h : F2 R l m) (hi : ∀ a b, b ∈ m → R a b → S a b) : F2 S l m := by
  induction h with
  | nil => exact .nil
  | cons h _ ih => exact .cons (hi _ _ (by simp) h) (ih fun a b hb => hi a b (by simp [hb]))
theorem F2.map {α β γ : Type} {R : α → γ → Prop} {f : β → γ} {l : List α} {m : List β} (h : F2 (fun a b => R a (f b)) l m) : F2 R l (m.map f) := by
  induction h with
  | nil => exact .nil
  | cons h _ ih => exact .cons h ih
theorem F2.len {α β : Type} {R : α → β → Prop} {l : List α} {m : List β} (h : F2 R l m) : l.length = m.length := by
  induction h with
  | nil => rfl
  | cons _ _ ih => simp [ih]
theorem F2.perm {α β : Type} {R : α → β → Prop} {m m' : List β} (hp : m ~ m') : ∀ {l : List α}, F2 R l m → ∃ l', l' ~ l ∧ F2 R l' m' := by
  induction hp with
  | nil => exact fun h => ⟨_, .refl _, h⟩
  | cons x _ ih =>
    intro l h
    cases h with
    | cons h t =>
      obtain ⟨l', h1, h2⟩ := ih t
      exact ⟨_ :: l', h1.cons _, .cons h h2⟩
  | swap x y l0 =>
    intro l h
    cases h with
    | cons h t =>
      cases t with
      | cons h' t => exact ⟨_, .swap _ _ _, .cons h' (.cons h t)⟩
  | trans _ _ ih1 ih2 =>
    intro l h
    obtain ⟨l1, h1, h2⟩ := ih1 h
    obtain ⟨l2, h3, h4⟩ := ih2 h2
    exact ⟨l2, h3.trans h1, h4⟩
theorem PF.ne {w : Wd} {l : List Wd} (h : PF l) (h2 : 2 ≤ l.length) (hw : w ∈ l) : w ≠ [] := fun e => by
  subst e
  obtain ⟨i, hi, he⟩ := List.getElem_of_mem hw
  obtain ⟨j, hj, hij⟩ : ∃ j, j < l.length ∧ i ≠ j := by
    by_cases h0 : i = 0
    · exact ⟨1, by omega, by omega⟩
    · exact ⟨0, by omega, h0⟩
  have hp := List.pairwise_iff_getElem.1 h
  rcases Nat.lt_or_gt_of_ne hij with hlt | hlt
  · exact (hp i j hi hj hlt).1 (by rw [he]; exact List.nil_prefix)
  · exact (hp j i hj hi hlt).2 (by rw [he]; exact List.nil_prefix)
end Go.Proofs.YtnaekjbbakofdaaGreat
end

section
namespace Go.Proofs.YtnaekjbbakofdaaGreat
open Go Go.AM
set_option maxRecDepth 100000
set_option maxHeartbeats 4000000
set_option linter.unusedSimpArgs false

end Go.Proofs.YtnaekjbbakofdaaGreat
end

section
namespace Go.Proofs.YtnaekjbbakofdaaGreat
open Go Go.AM
set_option maxRecDepth 100000
set_option maxHeartbeats 4000000
set_option linter.unusedSimpArgs false

theorem leastL_eq {cs W : List Nat} {v : Nat} (hcl : cs.length ≤ 16) (hl : W.length ≤ 1000) (h1 : ∀ x ∈ treesF cs.length W.length W.length [], v ≤ matchN cs W x) (h2 : ∃ x ∈ treesF cs.length W.length W.length [], matchN cs W x = v) : leastL cs W = v := by
  have hB := optN_ok (cs := cs) (W := W) hcl hl
  unfold leastL
  match optN cs W, hB with
  | none, hB =>
    obtain ⟨x, hx, _⟩ := h2
    have hB : treesF cs.length W.length W.length [] = [] := hB
    rw [hB] at hx; cases hx
  | some (b, m), hB =>
    obtain ⟨⟨x, hx, _, hm⟩, hall⟩ := hB
    obtain ⟨y, hy, hyv⟩ := h2
    have a1 := h1 x hx
    have a2 := hall y hy
    show m = v
    omega
def sortedB : List Nat → Bool
  | a :: b :: l => decide (a ≤ b) && sortedB (b :: l)
  | _ => true
def eqB (a b n : Nat) : Bool :=
  let l := lensL [a, b] n
  let T := treesF 2 n n []
  let W := List.replicate n 1
  (T.all fun x => decide (l.sum ≤ matchN [a, b] W x)) && (T.any fun x => decide (matchN [a, b] W x = l.sum)) && decide (l.length = n) && sortedB l && l.all fun x => decide (x ≤ 1000)
set_option maxHeartbeats 40000000 in
theorem eq_tab : ∀ a, a < 8 → ∀ b, b < 8 → ∀ n, n < 5 → eqB (1 + a) (1 + b) (1 + n) = true := by decide +kernel

theorem sorted_of : ∀ {l : List Nat}, sortedB l = true → ∀ i, i + 1 < l.length → l.getD i 0 ≤ l.getD (i + 1) 0
  | [], _, i, hi => by simp at hi
  | [a], _, i, hi => by simp at hi
  | a :: b :: l, h, 0, _ => by
    unfold sortedB at h
    rw [Bool.and_eq_true, decide_eq_true_eq] at h
    exact h.1
  | a :: b :: l, h, i + 1, hi => by
    unfold sortedB at h
    rw [Bool.and_eq_true] at h
    have := sorted_of (l := b :: l) h.2 i (by simpa using hi)
    simpa using this
theorem sum_le : ∀ {l : List Nat}, (∀ x ∈ l, x ≤ 1000) → l.sum ≤ l.length * 1000
  | [], _ => by simp
  | x :: l, h => by
    have h1 := sum_le (l := l) (fun y hy => h y (by simp [hy]))
    have h2 := h x (by simp)
    rw [List.sum_cons, List.length_cons]; omega
theorem k83 (x : Int) : PFn Tryz.prog 83 [.int .i64 x] [.bool false] := by
  refine PFn.of_body hΓ Tryz.func83 (by kernel_rfl) rfl (AWp.of_awpD [] hΓ hmix (by kernel_rfl) ?_)
  simp -implicitDefEqProofs only [Tryz.ntmps83, Tryz.results83, Nat.reduceAdd, Nat.reduceSub, go_sem]
theorem k54 (x y : Int) : PFn Tryz.prog 54 [.int .i64 x, .int .i64 y] [.bool (decide (x < y))] := by
  refine PFn.of_body hΓ Tryz.func54 (by kernel_rfl) rfl (AWp.of_awpD [] hΓ hmix (by kernel_rfl) ?_)
  simp -implicitDefEqProofs only [Tryz.ntmps54, Tryz.results54, Nat.reduceAdd, Nat.reduceSub, go_sem]
  refine callK_fn (k83 x) (.still rfl) ?_
  simp -implicitDefEqProofs only [go_sem]
theorem c27 (l : List Nat) (hl : l.length ≤ 1000) (h0 : 1 ≤ l.length) (hs : ∀ i, i + 1 < l.length → l.getD i 0 ≤ l.getD (i + 1) 0) : PFn Tryz.prog 27 [.sl (l.map Kn.nV)] [.bool true] := by
  have hG : ∀ i, i < l.length → (l.map Kn.nV).getD i default = .int .i64 (l.getD i 0 : Nat) := fun i hi => by
    rw [getD_map_lt _ _ _ _ hi, List.getD_eq_getElem?_getD, List.getElem?_eq_getElem hi, Option.getD_some]; rfl
  refine PFn.of_body hΓ Tryz.func27 (by kernel_rfl) rfl (AWp.seq (AWp.of_awpD [] hΓ hmix (by kernel_rfl) ?_))
  simp -implicitDefEqProofs only [Tryz.ntmps27, Tryz.results27, Nat.reduceAdd, Nat.reduceSub, go_sem]
  have hin : InR .i64 ((l.length : Int) - 1) := by simp only [InR]; omega
  have hsub : (l.length : Int) - 1 = ((l.length - 1 : Nat) : Int) := by omega
  refine AWp.seq (AWp.seq (AWp.of_awpD [] hΓ hmix (by kernel_rfl) ?_))
  simp -implicitDefEqProofs only [List.length_map, go_sem]
  refine ⟨hin, ?_⟩
  rw [hsub]
  refine AWp.block ?_
  refine AWp.loopI (fun i : Nat => ⟨mkF 21 [(0, .p (.sl (l.map Kn.nV))), (2, .p (.bool false)), (3, .p (.int .i64 i))], []⟩)
    (fun i => i < l.length) (fun i => i) (l.length - 1) (by simp [go_sem]) (by omega) ?_
  intro i hi
  simp -implicitDefEqProofs only [go_sem]
  refine AWp.of_awpD [(4, 10)] hΓ hmix (by kernel_rfl) ?_
  by_cases hlt : 0 < i
  · have hlt' : (0 : Int) < (i : Int) := by omega
    have hin2 : InR .i64 ((i : Int) - 1) := by simp only [InR]; omega
    have hsu : (i : Int) - 1 = ((i - 1 : Nat) : Int) := by omega
    have hle := hs (i - 1) (by omega)
    rw [show i - 1 + 1 = i by omega] at hle
    have e54 := k54 (l.getD i 0 : Nat) (l.getD (i - 1) 0 : Nat)
    rw [decide_eq_false (by omega)] at e54
    have hi1 : i - 1 < l.length := by omega
    have hg1 := hG i hi
    have hg2 := hG (i - 1) hi1
    simp -implicitDefEqProofs only [hlt', hi, hi1, hg1, hg2, hin2, hsu, Int.toNat_natCast, List.length_map, go_sem]
    refine ⟨by simp only [InR]; omega, callVPK_fn e54 (.still rfl) ?_⟩
    simp -implicitDefEqProofs only [hsu, go_sem]
    refine ⟨by simp only [InR]; omega, i - 1, ?_, by omega, by omega⟩
    simp
  have hi0 : i = 0 := by omega
  subst hi0
  have h00 : ¬ (0 : Int) < ((0 : Nat) : Int) := by decide
  simp -implicitDefEqProofs only [h00, go_sem]
  refine AWp.of_awpD [] hΓ hmix (by kernel_rfl) ?_
  simp -implicitDefEqProofs only [go_sem]

theorem b6 (a b n : Nat) (ha : a < 256) (hb : b < 256) (hn : n < 256) : PFn Tryz.prog 6 [u8N a, u8N b, u8N n] [.bool true] := by
  unfold u8N
  obtain ⟨ca, hca⟩ : ∃ c, c = 1 + a % 8 := ⟨_, rfl⟩
  obtain ⟨cb, hcb⟩ : ∃ c, c = 1 + b % 8 := ⟨_, rfl⟩
  obtain ⟨sz, hsz⟩ : ∃ c, c = 1 + n % 5 := ⟨_, rfl⟩
  have ht := eq_tab (a % 8) (by omega) (b % 8) (by omega) (n % 5) (by omega)
  rw [← hca, ← hcb, ← hsz] at ht
  have hc : OkC [ca, cb] := ⟨by simp, by simp, by simp; omega, by simp; omega⟩
  have hw : OkW (List.replicate sz 1) := ⟨by simp; omega, by simp; omega, fun w hw => by rw [List.eq_of_mem_replicate hw]; decide⟩
  unfold eqB at ht
  simp only [Bool.and_eq_true, List.all_eq_true, List.any_eq_true, decide_eq_true_eq] at ht
  obtain ⟨⟨⟨⟨t1, t2⟩, t3⟩, t4⟩, t5⟩ := ht
  obtain ⟨L, hL⟩ : ∃ L, L = lensL [ca, cb] sz := ⟨_, rfl⟩
  rw [← hL] at t1 t2 t3 t4 t5
  have hle : leastL [ca, cb] (List.replicate sz 1) = L.sum := leastL_eq (by simp) (by simp; omega) (by simpa using t1) (by simpa using t2)
  have hsort : ∀ i, i + 1 < L.length → L.getD i 0 ≤ L.getD (i + 1) 0 := sorted_of t4
  have e15 := c15 hc hw
  have e17 := c17 hc (n := sz) (by omega) (by omega)
  rw [← hL] at e17
  rw [hle, intN_pos] at e15
  have e27 := c27 L (by omega) (by omega) hsort
  have e23 := u34 L.sum (by have := sum_le t5; omega)
  rw [intN_pos] at e23
  have ewr : ∀ x : Nat, x < 256 → IntKind.i64.wrap ((x : Nat) : Int) = (x : Nat) := fun x hx => InR.wrap (k := .i64) (by simp only [InR]; omega)
  have wa := ewr a ha
  have wb := ewr b hb
  have wn := ewr n hn
  have ra : (1 : Int) + (a : Int) % 8 = (ca : Int) := by omega
  have rb : (1 : Int) + (b : Int) % 8 = (cb : Int) := by omega
  have rn : (1 : Int) + (n : Int) % 5 = (sz : Int) := by omega
  have s2 : ∀ a b : Int, sizeOK [PV.int .i64 a, PV.int .i64 b] 1 := fun a b => by simp [sizeOK, PV.cells]
  refine PFn.of_body hΓ Tryz.func6 (by kernel_rfl) rfl (AWp.seq (AWp.of_awpD [] hΓ hmix (by kernel_rfl) ?_))
  simp -implicitDefEqProofs only [Tryz.ntmps6, Tryz.results6, Nat.reduceAdd, Nat.reduceSub, go_sem]
  refine AWp.seq (AWp.of_awpD [] hΓ hmix (by kernel_rfl) ?_)
  simp -implicitDefEqProofs only [wa, wb, wn, ra, rb, rn, s2, go_sem]
  refine ⟨by decide, by simp only [InR]; omega, by decide, by simp only [InR]; omega, by decide, by decide, by simp only [InR]; omega, ?_⟩
  refine AWp.seq (AWp.of_awpD [] hΓ hmix (by kernel_rfl) ?_)
  simp -implicitDefEqProofs only [go_sem]
  refine AWp.adopt (l := []) 9 31 2 (by rfl) (by simp) ?_
  simp -implicitDefEqProofs only [go_sem]
  refine AWp.seq (AWp.seq (AWp.of_awpD [] hΓ hmix (by kernel_rfl) ?_))
  simp -implicitDefEqProofs only [go_sem]
  refine AWp.block ?_
  have e231 := u34 1 (by omega)
  refine AWp.loopI (fun i : Nat => ⟨mkF 85 [(6, .p (.bool false)), (7, .full [.int .i64 ca, .int .i64 cb]), (8, .p (.int .i64 sz)), (9, .own 0 i), (30, .p (.int .i64 sz)), (31, .p (.int .i64 i))], [.row 31 2 ((List.replicate i 1).map (intN false)) (if i = 0 then .lax else .own)]⟩)
    (fun i => i ≤ sz) (fun i => sz - i) 0 (by simp [go_sem]) (Nat.zero_le _) ?_
  intro i hi
  simp -implicitDefEqProofs only [go_sem]
  refine AWp.of_awpD [] hΓ hmix (by kernel_rfl) ?_
  by_cases hlt : i < sz
  · have hlt' : (i : Int) < (sz : Int) := by omega
    have hs1 : sizeOK [intN false 1] 2 := size_c24 [1]
    have ho1 : oneOK [intN false 1] := one_c24 [1]
    simp -implicitDefEqProofs only [hlt', go_sem]
    refine callK_fn e231 (.still rfl) ?_
    simp -implicitDefEqProofs only [List.length_map, List.length_replicate, go_sem]
    refine ⟨⟨hs1, by omega⟩, ⟨hs1, ho1⟩, ⟨by split <;> simp, by omega, by omega⟩, by simp only [InR]; omega, i + 1, ?_, by omega, by omega⟩
    rw [List.replicate_succ', if_neg (by omega : ¬ i + 1 = 0)]
    simp
  have hiY : sz = i := by omega
  subst hiY
  simp -implicitDefEqProofs only [Nat.lt_irrefl, Int.lt_irrefl, go_sem]
  rw [if_neg (by omega)]
  refine AWp.freeze 0 rfl ?_
  refine AWp.seq (AWp.of_awpD [] hΓ hmix (by kernel_rfl) ?_)
  simp -implicitDefEqProofs only [Frozen, go_sem]
  refine callK_fn e15 (.still rfl) ?_
  simp -implicitDefEqProofs only [go_sem]
  refine AWp.seq (AWp.of_awpD [] hΓ hmix (by kernel_rfl) ?_)
  simp -implicitDefEqProofs only [go_sem]
  refine callK_fn e17 (.still rfl) ?_
  simp -implicitDefEqProofs only [go_sem]
  refine AWp.seq (AWp.of_awpD [] hΓ hmix (by kernel_rfl) ?_)
  simp -implicitDefEqProofs only [go_sem]
  refine AWp.seq (AWp.seq (AWp.of_awpD [] hΓ hmix (by kernel_rfl) ?_))
  simp -implicitDefEqProofs only [List.length_map, go_sem]
  refine AWp.block ?_
  refine AWp.loopI (fun i : Nat => ⟨mkF 85 [(6, .p (.bool false)), (8, .p (.int .i64 sz)), (10, .ptr 1 0), (11, .p (.int .i64 0)), (12, .p (.sl (L.map Kn.nV))), (13, .p (.int .i64 0)), (14, .p (.int .i64 (L.take i).sum)), (50, .p (.sl (L.map Kn.nV))), (51, .p (.int .i64 L.length)), (52, .p (.int .i64 i))], [.dead, .box [.p (.bool false), .p (.str (magB L.sum))]]⟩)
    (fun i => i ≤ L.length) (fun i => L.length - i) 0 (by simp [go_sem]) (Nat.zero_le _) ?_
  intro i hi
  simp -implicitDefEqProofs only [go_sem]
  refine AWp.of_awpD [] hΓ hmix (by kernel_rfl) ?_
  by_cases hlt : i < L.length
  · have hlt' : (i : Int) < (L.length : Int) := by omega
    have hg : (L.map Kn.nV).getD i default = .int .i64 (L[i] : Nat) := getD_map_lt _ _ _ _ hlt
    have hts : (L.take (i + 1)).sum = (L.take i).sum + L[i] := by rw [List.take_succ_eq_append_getElem hlt, List.sum_append]; simp
    have hti : ((L.take i).sum : Int) + (L[i] : Int) = ((L.take (i + 1)).sum : Nat) := by omega
    have hb1 := sum_le (l := L.take (i + 1)) (fun x hx => t5 x (List.mem_of_mem_take hx))
    rw [List.length_take] at hb1
    simp -implicitDefEqProofs only [hlt, hlt', hg, hti, Int.toNat_natCast, List.length_map, go_sem]
    refine ⟨by simp only [InR]; omega, by simp only [InR]; omega, i + 1, ?_, by omega, by omega⟩
    simp
  have hiY : i = L.length := by omega
  subst hiY
  simp -implicitDefEqProofs only [Nat.lt_irrefl, Int.lt_irrefl, go_sem]
  rw [List.take_length]
  refine AWp.of_awpD [(15, 26)] hΓ hmix (by kernel_rfl) ?_
  simp -implicitDefEqProofs only [t3, List.length_map, go_sem]
  refine callVPK_fn e27 (.still rfl) ?_
  simp -implicitDefEqProofs only [go_sem]
  refine callVPK_fn e23 (.still rfl) ?_
  simp -implicitDefEqProofs only [go_sem]
  refine aggI rfl rfl ?_
  rw [decide_eq_true rfl]
  simp -implicitDefEqProofs only [go_sem]
  refine callVPK_fn awake41 (.still rfl) ?_
  simp -implicitDefEqProofs only [go_sem]
end Go.Proofs.YtnaekjbbakofdaaGreat
end

