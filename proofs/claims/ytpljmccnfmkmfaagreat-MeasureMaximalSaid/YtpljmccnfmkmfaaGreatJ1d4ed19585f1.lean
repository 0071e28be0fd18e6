/-
  Texts of this claim, joined.
-/
import Derived.Shelf.Strings.Builder1
import Derived.Test.YtpljmccnfmkmfaaGreatProg
import Derived.Test.YtpljmccnfmkmfaaGreatJ108f0c0dd468
import Derived.Test.YtpljmccnfmkmfaaGreatJ1faccba7ec4a
import Derived.Test.YtpljmccnfmkmfaaGreatJ72f161f3b035
import Derived.Test.YtpljmccnfmkmfaaGreatJd1a375910626
import Derived.Test.YtpljmccnfmkmfaaGreatJ5a93604294fc
import Derived.Test.YtpljmccnfmkmfaaGreatJe7a7d4a1b7e9
import Derived.Test.YtpljmccnfmkmfaaGreatJ02141047724e
import Derived.Test.YtpljmccnfmkmfaaGreatJa031b9cf500e
import Derived.Test.YtpljmccnfmkmfaaGreatJba35b49b9597
import Derived.Test.YtpljmccnfmkmfaaGreatJe24918c6a56c
import Derived.Test.YtpljmccnfmkmfaaGreatJ3bcda6c5808f

set_option linter.unusedSimpArgs false
set_option linter.unusedVariables false
set_option maxRecDepth 100000
set_option maxHeartbeats 4000000
section
namespace Go.Proofs
open Go.Shelf
end Go.Proofs
end

section
namespace Go.Proofs.YtpljmccnfmkmfaaGreat
open Go Go.AM Go.RowKit

end Go.Proofs.YtpljmccnfmkmfaaGreat
end

section
namespace Go.Proofs.YtpljmccnfmkmfaaGreat
open Go Go.AM

end Go.Proofs.YtpljmccnfmkmfaaGreat
end

section
namespace Go.Proofs.YtpljmccnfmkmfaaGreat
open Go Go.AM

end Go.Proofs.YtpljmccnfmkmfaaGreat
end

section
namespace Go.Proofs.YtpljmccnfmkmfaaGreat
open Go Go.AM Go.RowKit

theorem fac_iff {q : Int} {ws : List (List UInt8)} (hv : Valid q ws) (w : List UInt8) : facB ws w = true ↔ Mc.Part ws w := by
  unfold facB
  rw [decide_eq_true_iff, List.length_pos_iff]
  refine Mc.run_iff (fun l x => mem_canL) (fun x hx => (hv.words x hx).1) ?_ w
  intro e
  have := hv.pos
  rw [e] at this
  simp at this
end Go.Proofs.YtpljmccnfmkmfaaGreat
end

section
namespace Go.Mc

structure Bfs {S : Type} (q : Nat) (run : Nat → S) (dead : S → Prop) (Q : List Nat) (i a : Nat) : Prop where
  root : 0 ∈ Q
  sorted : Q.Pairwise fun x y => x < y
  dist : Q.Pairwise fun x y => run x ≠ run y
  alive : ∀ x ∈ Q, ¬ dead (run x)
  cov : ∀ k b, (hk : k < Q.length) → b < q → (k < i ∨ k = i ∧ b < a) → ∃ m ∈ Q, run m = run (Q[k] * q + b + 1) ∧ m ≤ Q[k] * q + b + 1
  top : ∀ (hi : i < Q.length), ∀ x ∈ Q, x ≤ Q[i] * q + a

section
variable {S : Type} {q : Nat} {run : Nat → S} {dead : S → Prop} {Q : List Nat} {i a : Nat}

theorem Bfs.start (h : ¬ dead (run 0)) : Bfs q run dead [0] 0 0 where
  root := by simp
  sorted := by simp
  dist := by simp
  alive := fun x hx => by rw [List.mem_singleton.1 hx]; exact h
  cov := fun k b hk hb h => by omega
  top := fun hi x hx => by rw [List.mem_singleton.1 hx]; omega
theorem Bfs.skip (B : Bfs q run dead Q i a) (hi : i < Q.length) (h : ∃ m ∈ Q, run m = run (Q[i] * q + a + 1)) : Bfs q run dead Q i (a + 1) where
  root := B.root
  sorted := B.sorted
  dist := B.dist
  alive := B.alive
  cov := fun k b hk hb h2 => by
    by_cases e : k = i ∧ b = a
    · obtain ⟨e1, e2⟩ := e
      subst e1 e2
      obtain ⟨m, h3, h4⟩ := h
      exact ⟨m, h3, h4, Nat.le_succ_of_le (B.top hi m h3)⟩
    · exact B.cov k b hk hb (by omega)
  top := fun hi x hx => Nat.le_succ_of_le (B.top hi x hx)
theorem Bfs.add (B : Bfs q run dead Q i a) (hi : i < Q.length) (h : ∀ m ∈ Q, run m ≠ run (Q[i] * q + a + 1)) (hd : ¬ dead (run (Q[i] * q + a + 1))) :
    Bfs q run dead (Q ++ [Q[i] * q + a + 1]) i (a + 1) where
  root := List.mem_append_left _ B.root
  sorted := List.pairwise_append.2 ⟨B.sorted, by simp, fun x hx y hy => by rw [List.mem_singleton.1 hy]; have := B.top hi x hx; omega⟩
  dist := List.pairwise_append.2 ⟨B.dist, by simp, fun x hx y hy => by rw [List.mem_singleton.1 hy]; exact h x hx⟩
  alive := fun x hx => by
    rcases List.mem_append.1 hx with hx | hx
    · exact B.alive x hx
    · rw [List.mem_singleton.1 hx]; exact hd
  cov := fun k b hk hb h2 => by
    have hkQ : k < Q.length := by omega
    have e0 : (Q ++ [Q[i] * q + a + 1])[k] = Q[k] := List.getElem_append_left hkQ
    rw [e0]
    by_cases e : k = i ∧ b = a
    · obtain ⟨e1, e2⟩ := e
      subst e1 e2
      exact ⟨_, List.mem_append_right _ (List.mem_singleton.2 rfl), rfl, Nat.le_refl _⟩
    · obtain ⟨m, h3, h4⟩ := B.cov k b hkQ hb (by omega)
      exact ⟨m, List.mem_append_left _ h3, h4⟩
  top := fun hi2 x hx => by
    have e0 : (Q ++ [Q[i] * q + a + 1])[i] = Q[i] := List.getElem_append_left hi
    rw [e0]
    rcases List.mem_append.1 hx with hx | hx
    · exact Nat.le_succ_of_le (B.top hi x hx)
    · rw [List.mem_singleton.1 hx]; omega
theorem Bfs.next (B : Bfs q run dead Q i q) : Bfs q run dead Q (i + 1) 0 where
  root := B.root
  sorted := B.sorted
  dist := B.dist
  alive := B.alive
  cov := fun k b hk hb h2 => B.cov k b hk hb (by omega)
  top := fun hi x hx => by
    have h1 := B.top (by omega) x hx
    have h2 : Q[i] < Q[i + 1] := List.pairwise_iff_getElem.1 B.sorted i (i + 1) (by omega) hi (by omega)
    have h3 : (Q[i] + 1) * q ≤ Q[i + 1] * q := Nat.mul_le_mul_right _ h2
    rw [Nat.add_mul, Nat.one_mul] at h3
    omega
theorem Bfs.cover (hq : 0 < q) (hstep : ∀ u v b, b < q → run u = run v → run (u * q + b + 1) = run (v * q + b + 1)) (B : Bfs q run dead Q i a) (hi : i < Q.length) (ha : a ≤ q) (v : Nat) (hv : v ≤ Q[i] * q + a) :
    ∃ m ∈ Q, run m = run v ∧ m ≤ v := by
  induction v using Nat.strongRecOn with
  | _ v ih =>
    rcases Nat.eq_zero_or_pos v with h0 | h0
    · subst h0
      exact ⟨0, B.root, rfl, Nat.le_refl _⟩
    · have hb : (v - 1) % q < q := Nat.mod_lt _ hq
      have hu : (v - 1) / q * q + (v - 1) % q + 1 = v := by
        have := Nat.div_add_mod (v - 1) q
        rw [Nat.mul_comm] at this
        omega
      generalize (v - 1) / q = u at hu
      generalize (v - 1) % q = b at hb hu
      have huq : u ≤ u * q := Nat.le_mul_of_pos_right _ hq
      obtain ⟨m, h1, h2, h3⟩ := ih u (by omega) (by omega)
      obtain ⟨k, hk, rfl⟩ := List.getElem_of_mem h1
      have hle : Q[k] * q ≤ u * q := Nat.mul_le_mul_right _ h3
      have hki : k < i ∨ k = i ∧ b < a := by
        rcases Nat.lt_trichotomy k i with e | e | e
        · exact .inl e
        · subst e
          exact .inr ⟨rfl, by omega⟩
        · have h4 : Q[i] < Q[k] := List.pairwise_iff_getElem.1 B.sorted i k hi hk e
          have h5 : (Q[i] + 1) * q ≤ Q[k] * q := Nat.mul_le_mul_right _ h4
          rw [Nat.add_mul, Nat.one_mul] at h5
          omega
      obtain ⟨m2, h4, h5, h6⟩ := B.cov k b hk hb hki
      refine ⟨m2, h4, ?_, by omega⟩
      rw [h5, ← hu]
      exact hstep _ _ b hb h2
theorem Bfs.least (hq : 0 < q) (hstep : ∀ u v b, b < q → run u = run v → run (u * q + b + 1) = run (v * q + b + 1)) (B : Bfs q run dead Q i a) (hi : i < Q.length) (ha : a ≤ q) (v : Nat) (hv : v ≤ Q[i] * q + a) : ¬ dead (run v) := by
  obtain ⟨m, h1, h2, _⟩ := B.cover hq hstep hi ha v hv
  rw [← h2]
  exact B.alive m h1
theorem Bfs.done (hq : 0 < q) (hstep : ∀ u v b, b < q → run u = run v → run (u * q + b + 1) = run (v * q + b + 1)) (B : Bfs q run dead Q i 0) (hi : Q.length ≤ i) (v : Nat) : ¬ dead (run v) := by
  have h : ∃ m ∈ Q, run m = run v := by
    induction v using Nat.strongRecOn with
    | _ v ih =>
      rcases Nat.eq_zero_or_pos v with h0 | h0
      · subst h0
        exact ⟨0, B.root, rfl⟩
      · have hb : (v - 1) % q < q := Nat.mod_lt _ hq
        have hu : (v - 1) / q * q + (v - 1) % q + 1 = v := by
          have := Nat.div_add_mod (v - 1) q
          rw [Nat.mul_comm] at this
          omega
        generalize (v - 1) / q = u at hu
        generalize (v - 1) % q = b at hb hu
        have huq : u ≤ u * q := Nat.le_mul_of_pos_right _ hq
        obtain ⟨m, h1, h2⟩ := ih u (by omega)
        obtain ⟨k, hk, rfl⟩ := List.getElem_of_mem h1
        obtain ⟨m2, h4, h5, h6⟩ := B.cov k b hk hb (.inl (by omega))
        refine ⟨m2, h4, ?_⟩
        rw [h5, ← hu]
        exact hstep _ _ b hb h2
  obtain ⟨m, h1, h2⟩ := h
  rw [← h2]
  exact B.alive m h1
end
end Go.Mc
end

section
namespace Go.Proofs.YtpljmccnfmkmfaaGreat
open Go Go.AM

theorem bltW_left {x y : List UInt8} : ∀ {a b : List UInt8}, a.length = b.length → bLt a b = true → bLt (a ++ x) (b ++ y) = true
  | [], [], _, h => by cases h
  | u :: a, v :: b, hl, h => by
    rw [List.cons_append, List.cons_append, bLt_cons]
    rcases (bLt_cons u v a b).1 h with h1 | ⟨h1, h2⟩
    · exact .inl h1
    · exact .inr ⟨h1, bltW_left (by simpa using hl) h2⟩
theorem bltW_same {x y : List UInt8} (h : bLt x y = true) : ∀ a : List UInt8, bLt (a ++ x) (a ++ y) = true
  | [] => h
  | u :: a => by rw [List.cons_append, List.cons_append, bLt_cons]; exact .inr ⟨rfl, bltW_same h a⟩
theorem ltrW_lt {a b : Nat} (hb : b < 16) (h : a < b) : (Kn.ltr a).toNat < (Kn.ltr b).toNat := by
  have key : ∀ a : Fin 16, ∀ b : Fin 16, a.val < b.val → (L16.getD a.val 0).toNat < (L16.getD b.val 0).toNat := by decide
  exact key ⟨a, by omega⟩ ⟨b, hb⟩ h
def wnF (q : Nat) : Nat → Nat → List UInt8
  | 0, _ => []
  | f + 1, v => if v = 0 then [] else wnF q f ((v - 1) / q) ++ [Kn.ltr ((v - 1) % q)]
def wn (q v : Nat) : List UInt8 := wnF q v v
theorem wnF_eq {q : Nat} (hq : 0 < q) : ∀ (f g v : Nat), v ≤ f → v ≤ g → wnF q f v = wnF q g v
  | 0, 0, v, _, _ => rfl
  | 0, g + 1, v, h, _ => by
    have : v = 0 := by omega
    subst this; rfl
  | f + 1, 0, v, _, h => by
    have : v = 0 := by omega
    subst this; rfl
  | f + 1, g + 1, v, h1, h2 => by
    unfold wnF
    split
    · rfl
    · have h3 : (v - 1) / q ≤ v - 1 := Nat.div_le_self _ _
      rw [wnF_eq hq f g ((v - 1) / q) (by omega) (by omega)]
theorem wn_zero (q : Nat) : wn q 0 = [] := rfl
theorem wn_succ {q : Nat} (hq : 0 < q) (u b : Nat) (hb : b < q) : wn q (u * q + b + 1) = wn q u ++ [Kn.ltr b] := by
  have h1 : (u * q + b) / q = u := by
    rw [Nat.mul_comm, Nat.mul_add_div hq, Nat.div_eq_of_lt hb, Nat.add_zero]
  have h2 : (u * q + b) % q = b := by
    rw [Nat.mul_comm, Nat.mul_add_mod, Nat.mod_eq_of_lt hb]
  have e : wn q (u * q + b + 1) = wnF q (u * q + b) ((u * q + b) / q) ++ [Kn.ltr ((u * q + b) % q)] := by
    have e0 : ∀ v, wn q (v + 1) = if v + 1 = 0 then [] else wnF q v ((v + 1 - 1) / q) ++ [Kn.ltr ((v + 1 - 1) % q)] := fun v => rfl
    rw [e0, if_neg (by omega), Nat.add_sub_cancel]
  rw [e, h1, h2]
  have h3 : u ≤ u * q := Nat.le_mul_of_pos_right _ hq
  rw [wnF_eq hq (u * q + b) u u (by omega) (Nat.le_refl _)]
  rfl
theorem num_cases {q : Nat} (hq : 0 < q) (v : Nat) : v = 0 ∨ ∃ u b, b < q ∧ v = u * q + b + 1 ∧ u < v := by
  rcases Nat.eq_zero_or_pos v with h | h
  · exact .inl h
  · refine .inr ⟨(v - 1) / q, (v - 1) % q, Nat.mod_lt _ hq, ?_, ?_⟩
    · have := Nat.div_add_mod (v - 1) q
      rw [Nat.mul_comm] at this
      omega
    · have := Nat.div_le_self (v - 1) q
      omega
theorem wn_surj {q : Nat} (hq : 0 < q) : ∀ w : List UInt8, (∀ b ∈ w, ∃ a, a < q ∧ b = Kn.ltr a) → ∃ v, wn q v = w := by
  refine Mc.rev_ind (P := fun w => (∀ b ∈ w, ∃ a, a < q ∧ b = Kn.ltr a) → ∃ v, wn q v = w) ?_ ?_
  · intro _; exact ⟨0, rfl⟩
  · intro w c ih h
    obtain ⟨u, hu⟩ := ih fun b hb => h b (List.mem_append_left _ hb)
    obtain ⟨a, ha, rfl⟩ := h c (by simp)
    exact ⟨u * q + a + 1, by rw [wn_succ hq u a ha, hu]⟩
theorem wn_lt {q : Nat} (hq : 0 < q) (hq16 : q ≤ 16) (u : Nat) : ∀ v, v < u → ltW (wn q v) (wn q u) := by
  induction u using Nat.strongRecOn with
  | _ u ih =>
    intro v hv
    rcases num_cases hq u with h | ⟨u', b, hb, rfl, hu⟩
    · omega
    rcases num_cases hq v with h | ⟨v', c, hc, rfl, hv'⟩
    · subst h
      rw [wn_succ hq _ _ hb]
      left
      rw [wn_zero]; simp
    · rw [wn_succ hq _ _ hb, wn_succ hq _ _ hc]
      rcases Nat.lt_trichotomy v' u' with e | e | e
      · rcases ih u' hu v' e with h | ⟨h1, h2⟩
        · left; simp only [List.length_append, List.length_singleton]; omega
        · right
          exact ⟨by simp only [List.length_append, List.length_singleton]; omega, bltW_left h1 h2⟩
      · subst e
        right
        refine ⟨by simp, bltW_same ?_ _⟩
        rw [bLt_cons]
        exact .inl (ltrW_lt (by omega) (by omega))
      · have h5 : (u' + 1) * q ≤ v' * q := Nat.mul_le_mul_right _ e
        rw [Nat.add_mul, Nat.one_mul] at h5
        omega
theorem wn_len {q : Nat} (hq : 0 < q) (hq16 : q ≤ 16) {v u : Nat} (h : v ≤ u) : (wn q v).length ≤ (wn q u).length := by
  rcases Nat.lt_or_ge v u with h1 | h1
  · rcases wn_lt hq hq16 u v h1 with h2 | ⟨h2, _⟩
    · omega
    · omega
  · have : v = u := by omega
    subst this; exact Nat.le_refl _
theorem wn_short {q : Nat} (hq : 0 < q) (hq16 : q ≤ 16) {v u : Nat} (h : (wn q v).length ≤ (wn q u).length) : v ≤ u * q := by
  apply Classical.byContradiction
  intro hn
  have h1 := wn_len hq hq16 (v := u * q + 0 + 1) (u := v) (by omega)
  rw [wn_succ hq u 0 hq, List.length_append, List.length_singleton] at h1
  omega
def stN (ws : List (List UInt8)) (q v : Nat) : List (List UInt8) := Mc.runSt canL ws (wn q v)
theorem stN_succ {ws : List (List UInt8)} {q : Nat} (hq : 0 < q) (u b : Nat) (hb : b < q) : stN ws q (u * q + b + 1) = canL (Mc.rdS ws (stN ws q u) (Kn.ltr b)) := by
  unfold stN
  rw [wn_succ hq u b hb, Mc.runSt_snoc]
theorem stN_step {ws : List (List UInt8)} {q : Nat} (hq : 0 < q) (u v b : Nat) (hb : b < q) (h : stN ws q u = stN ws q v) : stN ws q (u * q + b + 1) = stN ws q (v * q + b + 1) := by
  rw [stN_succ hq u b hb, stN_succ hq v b hb, h]
theorem run_ends {ws : List (List UInt8)} : ∀ (w : List UInt8), ∀ x ∈ Mc.runSt canL ws w, ∃ y ∈ ws, x <:+ y := by
  refine Mc.rev_ind (P := fun w => ∀ x ∈ Mc.runSt canL ws w, ∃ y ∈ ws, x <:+ y) ?_ ?_
  · intro x hx
    have hx : x ∈ Mc.begL ws := mem_canL.1 hx
    obtain ⟨y, hy, h⟩ := List.mem_flatMap.1 hx
    exact ⟨y, hy, Mc.mem_ends.1 h⟩
  · intro w c ih x hx
    rw [Mc.runSt_snoc] at hx
    have hx := mem_canL.1 hx
    unfold Mc.rdS at hx
    rcases List.mem_append.1 hx with h | h
    · obtain ⟨y, hy, hs⟩ := ih _ (Mc.mem_tails.1 h)
      exact ⟨y, hy, (List.suffix_cons c x).trans hs⟩
    · split at h
      · exact ⟨_, Mc.mem_tails.1 h, List.suffix_cons c x⟩
      · cases h
end Go.Proofs.YtpljmccnfmkmfaaGreat
end

section
namespace Go.Proofs.YtpljmccnfmkmfaaGreat
open Go Go.AM Go.RowKit

theorem least_nat {P : Nat → Prop} (v : Nat) (h : P v) : ∃ u, P u ∧ ∀ x, x < u → ¬ P x := by
  induction v using Nat.strongRecOn with
  | _ v ih =>
    by_cases hx : ∃ x, x < v ∧ P x
    · obtain ⟨x, h1, h2⟩ := hx
      exact ih x h1 h2
    · exact ⟨v, h, fun x h1 h2 => hx ⟨x, h1, h2⟩⟩
theorem wn_alph {q : Nat} (hq : 0 < q) (v : Nat) : Kn.Alph q (wn q v) := by
  induction v using Nat.strongRecOn with
  | _ v ih =>
    rcases num_cases hq v with h | ⟨u, b, hb, rfl, hu⟩
    · subst h
      intro b hb
      rw [wn_zero] at hb
      cases hb
    · intro c hc
      rw [wn_succ hq u b hb] at hc
      rcases List.mem_append.1 hc with hc | hc
      · exact ih u hu c hc
      · exact ⟨b, hb, List.mem_singleton.1 hc⟩
structure SeA (q : Nat) (ws : List (List UInt8)) (n : Int) (r : Option Nat) : Prop where
  some : ∀ v, r = some v → stN ws q v = [] ∧ (∀ u, u < v → stN ws q u ≠ []) ∧ (0 ≤ n → ((wn q v).length : Int) ≤ n)
  none : r = none → ∀ v, (0 ≤ n → ((wn q v).length : Int) ≤ n) → stN ws q v ≠ []
theorem seA (q : Nat) (hq : 0 < q) (h16 : q ≤ 16) (ws : List (List UInt8)) (n : Int) : ∃ r, SeA q ws n r := by
  by_cases h : ∃ v, stN ws q v = [] ∧ (0 ≤ n → ((wn q v).length : Int) ≤ n)
  · obtain ⟨v, h⟩ := h
    obtain ⟨u, ⟨h1, h2⟩, h3⟩ := least_nat (P := fun v => stN ws q v = [] ∧ (0 ≤ n → ((wn q v).length : Int) ≤ n)) v h
    refine ⟨.some u, fun v hv => ?_, fun e => by cases e⟩
    cases hv
    refine ⟨h1, fun x hx hd => h3 x hx ⟨hd, fun h0 => ?_⟩, h2⟩
    have := wn_len hq h16 (Nat.le_of_lt hx)
    have := h2 h0
    omega
  · exact ⟨.none, fun v e => (by cases e), fun _ v hl hd => h ⟨v, hd, hl⟩⟩
theorem dead_fac {ws : List (List UInt8)} {q v : Nat} : stN ws q v = [] ↔ facB ws (wn q v) = false := by
  have e : facB ws (wn q v) = decide (0 < (stN ws q v).length) := rfl
  rw [e]
  simp
theorem all_part {q : Nat} {ws : List (List UInt8)} (hv : Valid q ws) (hall : ∀ v, stN ws q v ≠ []) {w : List UInt8} (hw : Kn.Alph q w) : Mc.Part ws w := by
  have h2 := hv.q2
  obtain ⟨x, rfl⟩ := wn_surj (by omega) w hw
  refine (fac_iff hv _).1 ?_
  cases hf : facB ws (wn q x) with
  | true => rfl
  | false => exact absurd (dead_fac.2 hf) (hall x)
theorem no_part {q : Nat} {ws : List (List UInt8)} (hv : Valid q ws) {v : Nat} (hd : stN ws q v = []) : ¬ Mc.Part ws (wn q v) := fun h => by
  have := (fac_iff hv _).2 h
  rw [dead_fac.1 hd] at this
  cases this
end Go.Proofs.YtpljmccnfmkmfaaGreat
end

section
namespace Go.Proofs.YtpljmccnfmkmfaaGreat.Kn
open Go Go.AM

def ratQ (a b : Nat) : PV := .agg [.bool false, .str (magB a), .bool false, .str (magB b)]
theorem ratV_Q (n d : Nat) : ratV n d = ratQ (lowN n d) (lowD n d) := rfl

theorem v248 (a b c d : Nat) (ha : a < capN) (hb : b < capN) (hc : c < capN) (hd : d < capN) (h1 : a * d < capN) (h2 : c * b < capN) : PFn Tryz.prog 248 [ratQ a b, ratQ c d] [intN false (a * d + c * b), intN false (b * d)] := by
  have m1 := u36 a d ha hd
  have m2 := u36 c b hc hb
  have m3 := u36 b d hb hd
  have s := u89 (a * d) (c * b) h1 h2
  refine PFn.of_body hΓ Tryz.func248 (by kernel_rfl) rfl (AWp.of_awpD [(1, 1000)] hΓ hmix (by kernel_rfl) ?_)
  simp -implicitDefEqProofs only [Tryz.ntmps248, Tryz.results248, Nat.reduceAdd, Nat.reduceSub, intN_pos, ratQ, go_sem]
  refine AWp.planL (.q 0 (.q 1 (.q 2 (.q 3 (.q 5 (.q 6 (.q 7 (.q 8 (.q 11 (.q 12 (.q 13 (.q 14 (.e 4 (.s 5 (.s 6 (.s 7 (.s 8 (.s 11 (.s 12 (.s 13 (.s 14 (.e 9 (.s 11 (.s 12 (.s 13 (.s 14 (.e 10 (.s 11 (.s 12 (.s 13 (.s 14 (.e 15 (.e 16 (.e 17 .fin .nil) .nil) .nil))))) .nil))))) .nil))))))))) .nil))))))))))))) hΓ hmix (by kernel_rfl) ?_
  simp -implicitDefEqProofs only [go_sem]
  refine ⟨by omega, by omega, callK_fn m1 (.still rfl) ?_⟩
  simp -implicitDefEqProofs only [intN_pos, go_sem]
  refine ⟨by omega, callK_fn m2 (.still rfl) ?_⟩
  simp -implicitDefEqProofs only [intN_pos, go_sem]
  refine callK_fn s (.still rfl) ?_
  simp -implicitDefEqProofs only [intN_pos, go_sem]
  refine callK_fn m3 (.still rfl) ?_
  simp -implicitDefEqProofs only [intN_pos, go_sem]
  try rfl
theorem v250 (a b c d : Nat) (ha : a < capN) (hb : b < capN) (hc : c < capN) (hd : d < capN) : PFn Tryz.prog 250 [ratQ a b, ratQ c d] [intN false (a * c), intN false (b * d)] := by
  have m1 := u36 a c ha hc
  have m3 := u36 b d hb hd
  refine PFn.of_body hΓ Tryz.func250 (by kernel_rfl) rfl (AWp.of_awpD [(1, 1000)] hΓ hmix (by kernel_rfl) ?_)
  simp -implicitDefEqProofs only [Tryz.ntmps250, Tryz.results250, Nat.reduceAdd, Nat.reduceSub, intN_pos, ratQ, go_sem]
  refine AWp.planL (.q 0 (.q 1 (.q 2 (.q 3 (.q 5 (.q 6 (.q 7 (.q 8 (.e 4 (.s 5 (.s 6 (.s 7 (.s 8 (.e 9 (.e 10 (.e 11 .fin .nil) .nil) .nil))))) .nil))))))))) hΓ hmix (by kernel_rfl) ?_
  simp -implicitDefEqProofs only [go_sem]
  refine ⟨by omega, by omega, callK_fn m1 (.still rfl) ?_⟩
  simp -implicitDefEqProofs only [intN_pos, go_sem]
  refine callK_fn m3 (.still rfl) ?_
  simp -implicitDefEqProofs only [intN_pos, go_sem]
  try rfl
def rbox (a b : Nat) : AObj := .box [.p (.bool false), .p (.str (magB a)), .p (.bool false), .p (.str (magB b))]
def zbox : AObj := .box [.p (.bool false), .p (.str []), .p (.bool false), .p (.str [])]
theorem c217 (a b c d : Nat) : AC Tryz.prog 217 [] [rbox a b, rbox c d, zbox] [] (fun v h' => v = .agg [.fn 248 [], .fn 249 [], .fn 250 [], .fn 251 []] ∧ h' = [rbox a b, rbox c d, zbox]) := by
  unfold rbox zbox
  refine AC.of_body 3 hΓ Tryz.func217 (by kernel_rfl) rfl (by simp) ?_
  refine AWp.seq ?_
  refine AWp.of_awpD [] hΓ hmix (by kernel_rfl) ?_
  simp -implicitDefEqProofs only [Tryz.ntmps217, Tryz.results217, Nat.reduceAdd, Nat.reduceSub, go_sem]
  refine AWp.seq ?_
  refine AWp.of_awpD [] hΓ hmix (by kernel_rfl) ?_
  simp -implicitDefEqProofs only [go_sem]
  refine AWp.of_awpD [] hΓ hmix (by kernel_rfl) ?_
  simp -implicitDefEqProofs only [go_sem]
  simp [AV.one, AV.under, AV.under.underL, setL, AObj.under]
theorem low_add' {a b x y n d m e : Nat} (f1 : a * d = n * b) (f2 : x * e = m * y) : (a * y + x * b) * (d * e) = (n * e + m * d) * (b * y) := by grind
theorem low_mul' {a b x y n d m e : Nat} (f1 : a * d = n * b) (f2 : x * e = m * y) : (a * x) * (d * e) = (n * m) * (b * y) := by grind
theorem low_addV {n d m e : Nat} (hd : d ≠ 0) (he : e ≠ 0) : ratV (lowN n d * lowD m e + lowN m e * lowD n d) (lowD n d * lowD m e) = ratV (n * e + m * d) (d * e) :=
  (low_eq (Nat.mul_ne_zero (lowD_pos hd) (lowD_pos he)) (Nat.mul_ne_zero hd he)).2 (low_add' low_mul low_mul)
theorem low_mulV {n d m e : Nat} (hd : d ≠ 0) (he : e ≠ 0) : ratV (lowN n d * lowN m e) (lowD n d * lowD m e) = ratV (n * m) (d * e) :=
  (low_eq (Nat.mul_ne_zero (lowD_pos hd) (lowD_pos he)) (Nat.mul_ne_zero hd he)).2 (low_mul' low_mul low_mul)
theorem low_le (n d : Nat) : lowN n d ≤ n ∧ lowD n d ≤ d := ⟨Nat.div_le_self _ _, Nat.div_le_self _ _⟩

theorem v174s (n d m e : Nat) (hn : n < capN) (hd : d < capN) (hm : m < capN) (he : e < capN) (hd0 : d ≠ 0) (he0 : e ≠ 0) (h1 : n * e + m * d < capN) (h2 : d * e < capN) :
    PFn Tryz.prog 174 [.int .i64 0, ratV n d, ratV m e] [ratV (n * e + m * d) (d * e)] := by
  obtain ⟨a1, a2⟩ := low_cap hn hd
  obtain ⟨b1, b2⟩ := low_cap hm he
  have l1 := low_le n d
  have l2 := low_le m e
  have k1 : lowN n d * lowD m e ≤ n * e := Nat.mul_le_mul l1.1 l2.2
  have k2 : lowN m e * lowD n d ≤ m * d := Nat.mul_le_mul l2.1 l1.2
  have k3 : lowD n d * lowD m e ≤ d * e := Nat.mul_le_mul l1.2 l2.2
  have e1 := v97 n d hn hd hd0
  have e2 := v97 m e hm he he0
  have e3 := v248 (lowN n d) (lowD n d) (lowN m e) (lowD m e) a1 a2 b1 b2 (by omega) (by omega)
  have e4 := v100 (lowN n d * lowD m e + lowN m e * lowD n d) (lowD n d * lowD m e) (by omega) (by omega) (Nat.mul_ne_zero (lowD_pos hd0) (lowD_pos he0))
  rw [low_addV hd0 he0] at e4
  obtain ⟨x, y, hR⟩ : ∃ x y, ratV (n * e + m * d) (d * e) = ratQ x y := ⟨_, _, ratV_Q _ _⟩
  rw [hR] at e4 ⊢
  clear hR
  rw [ratV_Q n d] at e1 ⊢
  rw [ratV_Q m e] at e2 ⊢
  have e0 := c217 (lowN n d) (lowD n d) (lowN m e) (lowD m e)
  unfold ratQ at e1 e2 e3 e4 ⊢
  unfold rbox zbox at e0
  refine PFn.of_body hΓ Tryz.func174 (by kernel_rfl) rfl (AWp.of_awpD [(1, 1000)] hΓ hmix (by kernel_rfl) ?_)
  simp -implicitDefEqProofs only [Tryz.ntmps174, Tryz.results174, Nat.reduceAdd, Nat.reduceSub, go_sem]
  refine AWp.planL (.q 1 (.q 4 (.q 6 (.e 0 (.s 1 (.s 4 (.s 6 (.q 2 (.q 3 (.e 5 (.s 1 (.s 6 (.s 2 (.s 3 (.e 7 (.s 1 (.s 2 (.s 3 (.e 8 (.q 9 (.q 10 (.e 11 (.e 12 .fin .nil) .nil))) .nil)))) .nil))))) .nil)))))) .nil)))) hΓ hmix (by kernel_rfl) ?_
  simp -implicitDefEqProofs only [go_sem]
  refine callK_ac e0 (by simp) ?_
  rintro v h' ⟨rfl, rfl⟩
  have hsl : List.take 1 (List.drop (Int.toNat 0 * 1) [AV.fn 248 [], AV.fn 249 [], AV.fn 250 [], AV.fn 251 []]) = [AV.fn 248 []] := rfl
  have h4 : (0 : Int) < ((4 : Nat) : Int) := by decide
  simp -implicitDefEqProofs only [killAll, List.foldl, hsl, h4, List.length_cons, List.length_nil, go_sem]
  refine ⟨by decide, callK_fn e1 (.still rfl) ?_⟩
  simp -implicitDefEqProofs only [go_sem]
  refine ⟨⟨by decide, by decide, rfl⟩, callK_fn e2 (.still rfl) ?_⟩
  simp -implicitDefEqProofs only [go_sem]
  refine ⟨⟨by decide, by decide, rfl⟩, callK_fn e3 (.still rfl) ?_⟩
  simp -implicitDefEqProofs only [intN_pos, go_sem]
  refine callK_fn e4 (.still rfl) ?_
  simp -implicitDefEqProofs only [go_sem]
theorem v112 (n d m e : Nat) (hn : n < capN) (hd : d < capN) (hm : m < capN) (he : e < capN) (hd0 : d ≠ 0) (he0 : e ≠ 0) (h1 : n * e + m * d < capN) (h2 : d * e < capN) :
    PFn Tryz.prog 112 [ratV n d, ratV m e] [ratV (n * e + m * d) (d * e)] := by
  have e1 := v174s n d m e hn hd hm he hd0 he0 h1 h2
  obtain ⟨x, y, hR⟩ : ∃ x y, ratV (n * e + m * d) (d * e) = ratQ x y := ⟨_, _, ratV_Q _ _⟩
  rw [hR] at e1 ⊢
  clear hR
  rw [ratV_Q n d, ratV_Q m e] at e1 ⊢
  unfold ratQ at e1 ⊢
  refine PFn.of_body hΓ Tryz.func112 (by kernel_rfl) rfl (AWp.of_awpD [] hΓ hmix (by kernel_rfl) ?_)
  simp -implicitDefEqProofs only [Tryz.ntmps112, Tryz.results112, Nat.reduceAdd, Nat.reduceSub, go_sem]
  refine callK_fn e1 (.still rfl) ?_
  simp -implicitDefEqProofs only [go_sem]
theorem v174p (n d m e : Nat) (hn : n < capN) (hd : d < capN) (hm : m < capN) (he : e < capN) (hd0 : d ≠ 0) (he0 : e ≠ 0) (h1 : n * m < capN) (h2 : d * e < capN) :
    PFn Tryz.prog 174 [.int .i64 2, ratV n d, ratV m e] [ratV (n * m) (d * e)] := by
  obtain ⟨a1, a2⟩ := low_cap hn hd
  obtain ⟨b1, b2⟩ := low_cap hm he
  have l1 := low_le n d
  have l2 := low_le m e
  have k1 : lowN n d * lowN m e ≤ n * m := Nat.mul_le_mul l1.1 l2.1
  have k3 : lowD n d * lowD m e ≤ d * e := Nat.mul_le_mul l1.2 l2.2
  have e1 := v97 n d hn hd hd0
  have e2 := v97 m e hm he he0
  have e3 := v250 (lowN n d) (lowD n d) (lowN m e) (lowD m e) a1 a2 b1 b2
  have e4 := v100 (lowN n d * lowN m e) (lowD n d * lowD m e) (by omega) (by omega) (Nat.mul_ne_zero (lowD_pos hd0) (lowD_pos he0))
  rw [low_mulV hd0 he0] at e4
  obtain ⟨x, y, hR⟩ : ∃ x y, ratV (n * m) (d * e) = ratQ x y := ⟨_, _, ratV_Q _ _⟩
  rw [hR] at e4 ⊢
  clear hR
  rw [ratV_Q n d] at e1 ⊢
  rw [ratV_Q m e] at e2 ⊢
  have e0 := c217 (lowN n d) (lowD n d) (lowN m e) (lowD m e)
  unfold ratQ at e1 e2 e3 e4 ⊢
  unfold rbox zbox at e0
  refine PFn.of_body hΓ Tryz.func174 (by kernel_rfl) rfl (AWp.of_awpD [(1, 1000)] hΓ hmix (by kernel_rfl) ?_)
  simp -implicitDefEqProofs only [Tryz.ntmps174, Tryz.results174, Nat.reduceAdd, Nat.reduceSub, go_sem]
  refine AWp.planL (.q 1 (.q 4 (.q 6 (.e 0 (.s 1 (.s 4 (.s 6 (.q 2 (.q 3 (.e 5 (.s 1 (.s 6 (.s 2 (.s 3 (.e 7 (.s 1 (.s 2 (.s 3 (.e 8 (.q 9 (.q 10 (.e 11 (.e 12 .fin .nil) .nil))) .nil)))) .nil))))) .nil)))))) .nil)))) hΓ hmix (by kernel_rfl) ?_
  simp -implicitDefEqProofs only [go_sem]
  refine callK_ac e0 (by simp) ?_
  rintro v h' ⟨rfl, rfl⟩
  have hsl : List.take 1 (List.drop (Int.toNat 2 * 1) [AV.fn 248 [], AV.fn 249 [], AV.fn 250 [], AV.fn 251 []]) = [AV.fn 250 []] := rfl
  have h4 : (2 : Int) < ((4 : Nat) : Int) := by decide
  simp -implicitDefEqProofs only [killAll, List.foldl, hsl, h4, List.length_cons, List.length_nil, go_sem]
  refine ⟨by decide, by decide, callK_fn e1 (.still rfl) ?_⟩
  simp -implicitDefEqProofs only [go_sem]
  refine ⟨⟨by decide, by decide, rfl⟩, callK_fn e2 (.still rfl) ?_⟩
  simp -implicitDefEqProofs only [go_sem]
  refine ⟨⟨by decide, by decide, rfl⟩, callK_fn e3 (.still rfl) ?_⟩
  simp -implicitDefEqProofs only [intN_pos, go_sem]
  refine callK_fn e4 (.still rfl) ?_
  simp -implicitDefEqProofs only [go_sem]
theorem v113 (n d m e : Nat) (hn : n < capN) (hd : d < capN) (hm : m < capN) (he : e < capN) (hd0 : d ≠ 0) (he0 : e ≠ 0) (h1 : n * m < capN) (h2 : d * e < capN) :
    PFn Tryz.prog 113 [ratV n d, ratV m e] [ratV (n * m) (d * e)] := by
  have e1 := v174p n d m e hn hd hm he hd0 he0 h1 h2
  obtain ⟨x, y, hR⟩ : ∃ x y, ratV (n * m) (d * e) = ratQ x y := ⟨_, _, ratV_Q _ _⟩
  rw [hR] at e1 ⊢
  clear hR
  rw [ratV_Q n d, ratV_Q m e] at e1 ⊢
  unfold ratQ at e1 ⊢
  refine PFn.of_body hΓ Tryz.func113 (by kernel_rfl) rfl (AWp.of_awpD [] hΓ hmix (by kernel_rfl) ?_)
  simp -implicitDefEqProofs only [Tryz.ntmps113, Tryz.results113, Nat.reduceAdd, Nat.reduceSub, go_sem]
  refine callK_fn e1 (.still rfl) ?_
  simp -implicitDefEqProofs only [go_sem]
end Go.Proofs.YtpljmccnfmkmfaaGreat.Kn
end

section
namespace Go.Proofs.YtpljmccnfmkmfaaGreat.Kn
open Go Go.AM

theorem v111 (n d : Nat) (hn : n < capN) (hd : d < capN) (hd0 : d ≠ 0) : PFn Tryz.prog 111 [ratV n d] [.int .i64 0] := by
  have e1 := v97 n d hn hd hd0
  rw [ratV_low] at *
  refine PFn.of_body hΓ Tryz.func111 (by kernel_rfl) rfl (AWp.seq (AWp.of_awpD [] hΓ hmix (by kernel_rfl) ?_))
  simp -implicitDefEqProofs only [Tryz.ntmps111, Tryz.results111, Nat.reduceAdd, Nat.reduceSub, go_sem]
  refine AWp.of_awpD [(1, 1000)] hΓ hmix (by kernel_rfl) ?_
  simp -implicitDefEqProofs only [go_sem]
  refine AWp.planL (.q 0 (.q 2 (.e 1 (.s 2 (.q 3 .fin)) .nil))) hΓ hmix (by kernel_rfl) ?_
  simp -implicitDefEqProofs only [go_sem]
  refine callK_fn e1 (.still rfl) ?_
  simp -implicitDefEqProofs only [go_sem]
  refine aggN55 rfl rfl ?_
  rw [decide_eq_true rfl, decide_eq_true rfl]
  simp -implicitDefEqProofs only [Bool.and_self, Bool.not_true, go_sem]
theorem v110 (n d : Nat) (hn : n < capN) (hd : d < capN) (hd0 : d ≠ 0) : PFn Tryz.prog 110 [ratV n d] [.bool false] := by
  have e1 := v111 n d hn hd hd0
  rw [ratV_low] at *
  refine PFn.of_body hΓ Tryz.func110 (by kernel_rfl) rfl (AWp.of_awpD [] hΓ hmix (by kernel_rfl) ?_)
  simp -implicitDefEqProofs only [Tryz.ntmps110, Tryz.results110, Nat.reduceAdd, Nat.reduceSub, go_sem]
  refine callK_fn e1 (.still rfl) ?_
  simp -implicitDefEqProofs only [go_sem]

theorem c173 {h : List AObj} {g : FuncId} {caps : List AV} (rs : List (Nat × Nat)) (hl : rs.length ≤ 9223372036854775807)
    (hg : ∀ r ∈ rs, AC Tryz.prog g (.p (ratV r.1 r.2) :: caps) h [] (fun v h' => v = .p (.bool false) ∧ h' = h)) :
    AC Tryz.prog 173 [.p (.sl (rs.map fun r => ratV r.1 r.2)), .fn g caps] h [] (fun v h' => v = .p (.int .i64 (-1)) ∧ h' = h) := by
  refine AC.of_bodyE hΓ Tryz.func173 (by kernel_rfl) rfl (AWp.mono (Q := fun e st => AM.Ends e ∧ st.tmps.getD 4 .junk = .p (.int .i64 (-1)) ∧ st.h = h) ?_ ?_)
  rotate_left
  · rintro e ⟨tm, h'⟩ ⟨he, h1, h2⟩
    simp only at h1 h2
    subst h2
    refine ⟨he, _, Less.refl _, ?_⟩
    unfold DoneE
    simp +contextual -implicitDefEqProofs only [Tryz.results173, h1, go_sem]
    exact ⟨_, Nat.le_refl _, .inl rfl, List.take_length⟩
  refine AWp.of_awpD [] hΓ hmix (by kernel_rfl) ?_
  simp +contextual -implicitDefEqProofs only [Tryz.ntmps173, Nat.reduceAdd, Nat.reduceSub, go_sem]
  refine AWp.loopI (fun k : Nat => ⟨mkF 19 [(0, .p (.sl (rs.map fun r => ratV r.1 r.2))), (1, .fn g caps), (7, .p (.int .i64 rs.length)), (8, .p (.int .i64 k))], h⟩)
    (fun k => k ≤ rs.length) (fun k => rs.length - k) 0 (by simp [go_sem, weakH_self]) (by simp) ?_
  rintro k hk
  refine AWp.of_awpD [] hΓ hmix (by kernel_rfl) ?_
  by_cases hlt : k < rs.length
  · have hgk : (rs.map fun r => ratV r.1 r.2).getD k default = ratV rs[k].1 rs[k].2 := getD_map_lt _ _ _ _ hlt
    have hac := hg rs[k] (List.getElem_mem hlt)
    rw [ratV_low] at hgk hac
    simp -implicitDefEqProofs only [List.length_map, hlt, hgk, Int.toNat_natCast, go_sem]
    refine callK_ac hac (by simp) ?_
    rintro v h' ⟨rfl, rfl⟩
    simp -implicitDefEqProofs only [killAll, List.foldl, go_sem]
    exact ⟨by simp only [InR]; omega, k + 1, by simp [weakH_self], hlt, by omega⟩
  · simp -implicitDefEqProofs only [hlt, go_sem]
theorem c109 {h : List AObj} {g : FuncId} {caps : List AV} (rs : List (Nat × Nat)) (hl : rs.length ≤ 9223372036854775807)
    (hg : ∀ r ∈ rs, AC Tryz.prog g (.p (ratV r.1 r.2) :: caps) h [] (fun v h' => v = .p (.bool false) ∧ h' = h)) :
    AC Tryz.prog 109 [.p (.sl (rs.map fun r => ratV r.1 r.2)), .fn g caps] h [] (fun v h' => v = .p (.bool false) ∧ h' = h) := by
  refine AC.of_bodyE hΓ Tryz.func109 (by kernel_rfl) rfl (AWp.mono (Q := fun e st => AM.Ends e ∧ st.tmps.getD 4 .junk = .p (.bool false) ∧ st.h = h) ?_ ?_)
  rotate_left
  · rintro e ⟨tm, h'⟩ ⟨he, h1, h2⟩
    simp only at h1 h2
    subst h2
    refine ⟨he, _, Less.refl _, ?_⟩
    unfold DoneE
    simp +contextual -implicitDefEqProofs only [Tryz.results109, h1, go_sem]
    exact ⟨_, Nat.le_refl _, .inl rfl, List.take_length⟩
  refine AWp.of_awpD [] hΓ hmix (by kernel_rfl) ?_
  simp +contextual -implicitDefEqProofs only [Tryz.ntmps109, Nat.reduceAdd, Nat.reduceSub, go_sem]
  refine callK_ac (c173 rs hl hg) (by simp) ?_
  rintro v h' ⟨rfl, rfl⟩
  simp -implicitDefEqProofs only [killAll, List.foldl, go_sem]
  omega
end Go.Proofs.YtpljmccnfmkmfaaGreat.Kn
end

section
namespace Go.Proofs.YtpljmccnfmkmfaaGreat
open Go Go.AM

def wN (pk : List UInt8) (i : Nat) : Nat := if pk = [] then 1 else 1 + (pk.getD (i % pk.length) 0).toNat % 9
def wL (q : Nat) (pk : List UInt8) : List Nat := (List.range q).map (wN pk)
theorem wN_b (pk : List UInt8) (i : Nat) : 1 ≤ wN pk i ∧ wN pk i ≤ 9 := by unfold wN; split <;> omega
theorem wL_len (q : Nat) (pk : List UInt8) : (wL q pk).length = q := by unfold wL; simp
theorem wL_succ (q : Nat) (pk : List UInt8) : wL (q + 1) pk = wL q pk ++ [wN pk q] := by unfold wL; rw [List.range_succ, List.map_append]; rfl
theorem wL_sum (pk : List UInt8) : ∀ q, q ≤ (wL q pk).sum ∧ (wL q pk).sum ≤ 9 * q
  | 0 => by simp [wL]
  | q + 1 => by
    have h1 := wL_sum pk q
    have h2 := wN_b pk q
    rw [wL_succ, List.sum_append]
    simp only [List.sum_cons, List.sum_nil]
    omega
theorem wL_mem {q : Nat} {pk : List UInt8} {n : Nat} (h : n ∈ wL q pk) : 1 ≤ n ∧ n ≤ 9 := by
  unfold wL at h
  obtain ⟨i, _, rfl⟩ := List.mem_map.1 h
  exact wN_b pk i
theorem others {q : Nat} {L : List Nat} (hl : L.length = q) (h2 : 2 ≤ q) (h3 : q ≤ 3) (hb : ∀ n ∈ L, 1 ≤ n ∧ n ≤ 9) {k : Nat} (hk : k < L.length) : L[k] + 1 ≤ L.sum ∧ L.sum ≤ L[k] + 18 := by
  match L, hl, hb, hk with
  | [], h, _, _ => simp at h; omega
  | [a], h, _, _ => simp at h; omega
  | [a, b], _, hb, hk =>
    have := hb a (by simp); have := hb b (by simp)
    match k, hk with
    | 0, _ => simp; omega
    | 1, _ => simp; omega
  | [a, b, c], _, hb, hk =>
    have := hb a (by simp); have := hb b (by simp); have := hb c (by simp)
    match k, hk with
    | 0, _ => simp; omega
    | 1, _ => simp; omega
    | 2, _ => simp; omega
  | _ :: _ :: _ :: _ :: l, h, _, _ => simp at h; omega
theorem size_nV (l : List Nat) : sizeOK (l.map Kn.nV) 1 := fun x hx => by
  obtain ⟨b, _, rfl⟩ := List.mem_map.1 hx
  rfl
theorem one_nV (l : List Nat) : oneOK (l.map Kn.nV) := fun x hx c hc => by
  obtain ⟨b, _, rfl⟩ := List.mem_map.1 hx
  have : c = Kn.nV b := by simpa [PV.cells, Kn.nV] using hc
  rw [this]; rfl

theorem c56 (q : Nat) (hq1 : 2 ≤ q) (hq : q ≤ 3) (pk : List UInt8) (hpk : pk.length ≤ 9223372036854775807)
    (h57 : ∀ n d : Nat, 1 ≤ n → n ≤ 9 → n + 1 ≤ d → d ≤ n + 18 → PFn Tryz.prog 57 [.int .i64 n, .int .i64 d] [Kn.ratV n d]) : PFn Tryz.prog 56 [.int .i64 q, .sl (pk.map u8V)] [.sl ((wL q pk).map fun n => Kn.ratV n (wL q pk).sum)] := by
  refine PFn.of_body hΓ Tryz.func56 (by kernel_rfl) rfl (AWp.seq (AWp.of_awpD [] hΓ hmix (by kernel_rfl) ?_))
  simp -implicitDefEqProofs only [Tryz.ntmps56, Tryz.results56, Nat.reduceAdd, Nat.reduceSub, go_sem]
  refine AWp.seq (AWp.of_awpD [] hΓ hmix (by kernel_rfl) ?_)
  simp -implicitDefEqProofs only [go_sem]
  refine AWp.seq (AWp.of_awpD [] hΓ hmix (by kernel_rfl) ?_)
  simp -implicitDefEqProofs only [go_sem]
  refine AWp.adopt (l := []) 6 3 1 (by rfl) (by simp) ?_
  simp -implicitDefEqProofs only [go_sem]
  refine AWp.seq (AWp.seq (AWp.of_awpD [] hΓ hmix (by kernel_rfl) ?_))
  simp -implicitDefEqProofs only [go_sem]
  refine AWp.block ?_
  refine AWp.loopJ (fun i : Nat => ⟨mkF 51 [(0, .p (.int .i64 q)), (1, .p (.sl (pk.map u8V))), (5, .p (.int .i64 ((wL i pk).sum : Nat))), (6, .own 0 i), (12, .p (.int .i64 q)), (13, .p (.int .i64 i))], [.row 3 1 ((wL i pk).map Kn.nV) .lax]⟩)
    (fun i => i ≤ q) (fun i => q - i) 0 (fun x => by simp [BelowAll, mkF, AV.blw, AV.blw.blwL, blwH, AObj.blw]) (by simp [go_sem, wL]) (Nat.zero_le _) ?_
  intro i hi
  simp -implicitDefEqProofs only [go_sem]
  refine AWp.of_awpD [] hΓ hmix (by kernel_rfl) ?_
  by_cases hlt : i < q
  · have hlt' : (i : Int) < (q : Int) := by omega
    have hs := wL_sum pk i
    have hb := wN_b pk i
    have hs1 : ∀ x : Nat, sizeOK [PV.int .i64 (x : Int)] 1 := fun x => size_nV [x]
    have ho1 : ∀ x : Nat, oneOK [PV.int .i64 (x : Int)] := fun x => one_nV [x]
    by_cases hp : pk = []
    · have hw : wN pk i = 1 := by unfold wN; rw [if_pos hp]
      have hp0 : ¬ (0 : Int) < (pk.length : Int) := by rw [hp]; simp
      simp -implicitDefEqProofs only [hlt', hp0, List.length_map, go_sem]
      refine ⟨⟨hs1 1, by omega⟩, ⟨hs1 1, ho1 1⟩, ⟨by omega, by omega⟩, by simp only [InR]; omega, by simp only [InR]; omega, i + 1, ⟨⟨?_, rfl, by omega⟩, .inr (.inl ?_)⟩, by omega, by omega⟩
      · rw [wL_succ, List.sum_append, hw]; simp
      · rw [wL_succ, List.map_append, hw]; rfl
    · have hpl : 0 < pk.length := List.length_pos_iff.2 hp
      have hp0 : (0 : Int) < (pk.length : Int) := by omega
      have him : i % pk.length < pk.length := Nat.mod_lt _ hpl
      have hgm : (pk.map u8V).getD (i % pk.length) default = .int .u8 ((pk.getD (i % pk.length) 0).toNat : Int) := by
        rw [getD_map_lt _ _ _ _ him, List.getD_eq_getElem?_getD, List.getElem?_eq_getElem him, Option.getD_some]; rfl
      have hw : wN pk i = 1 + (pk.getD (i % pk.length) 0).toNat % 9 := by unfold wN; rw [if_neg hp]
      have hB : (pk.getD (i % pk.length) 0).toNat < 256 := UInt8.toNat_lt _
      generalize (pk.getD (i % pk.length) 0).toNat = B at *
      have hmod : (i : Int) % (pk.length : Int) = ((i % pk.length : Nat) : Int) := by simp
      have hwr : IntKind.i64.wrap ((B : Nat) : Int) = (B : Nat) := InR.wrap (k := .i64) (by simp only [InR]; omega)
      have hnn : (0 : Int) ≤ ((i % pk.length : Nat) : Int) := by omega
      have hlm : ((i % pk.length : Nat) : Int) < (pk.length : Int) := by omega
      have hsum : (1 : Int) + (B : Int) % 9 = ((wN pk i : Nat) : Int) := by omega
      simp -implicitDefEqProofs only [hlt', hp0, hmod, hnn, hlm, hgm, hwr, him, hsum, Int.toNat_natCast, List.length_map, go_sem]
      refine ⟨by omega, by simp only [InR]; omega, ⟨hs1 _, by omega⟩, ⟨hs1 _, ho1 _⟩, ⟨by omega, by omega⟩, by simp only [InR]; omega, by simp only [InR]; omega, i + 1, ⟨⟨?_, rfl, by omega⟩, .inr (.inl ?_)⟩, by omega, by omega⟩
      · rw [wL_succ, List.sum_append]; simp
      · rw [wL_succ, List.map_append]; rfl
  have hiq : q = i := by omega
  subst hiq
  have hs := wL_sum pk q
  have hll := wL_len q pk
  have hmem := fun n => wL_mem (q := q) (pk := pk) (n := n)
  generalize hL : wL q pk = L at *
  simp -implicitDefEqProofs only [Int.lt_irrefl, go_sem]
  refine AWp.freeze 0 rfl ?_
  simp -implicitDefEqProofs only [Frozen, AV.thaw, AObj.thaw, AV.thaw.thawL, List.map_cons, List.map_nil, List.set_cons_zero, List.set_cons_succ, go_sem]
  refine AWp.seq (AWp.of_awpD [] hΓ hmix (by kernel_rfl) ?_)
  simp -implicitDefEqProofs only [go_sem]
  refine AWp.adopt (l := []) 9 55 4 (by rfl) (by simp) ?_
  simp -implicitDefEqProofs only [go_sem]
  refine AWp.seq (AWp.seq (AWp.of_awpD [] hΓ hmix (by kernel_rfl) ?_))
  simp -implicitDefEqProofs only [List.length_map, go_sem]
  refine AWp.block ?_
  generalize hS : L.sum = S at *
  obtain ⟨rv, hrv⟩ : ∃ rv : Nat → PV, rv = fun n => Kn.ratV n S := ⟨_, rfl⟩
  have hrc : ∀ n, ∃ A B, rv n = .agg [.bool false, .str A, .bool false, .str B] := fun n => by rw [hrv]; exact ⟨_, _, rfl⟩
  have hcall : ∀ k (hk : k < L.length), PFn Tryz.prog 57 [.int .i64 (L[k] : Nat), .int .i64 S] [rv L[k]] := fun k hk => by
    have := hmem _ (List.getElem_mem hk)
    rw [hrv]
    have hot := others hll hq1 hq hmem hk
    rw [hS] at hot
    exact h57 L[k] S this.1 this.2 (by omega) (by omega)
  rw [← hrv]
  refine AWp.loopJ (fun k : Nat => ⟨mkF 51 [(5, .p (.int .i64 S)), (9, .own 1 k), (37, .p (.sl (L.map Kn.nV))), (38, .p (.int .i64 L.length)), (39, .p (.int .i64 k))], [.dead, .row 55 4 ((L.take k).map rv) .lax]⟩)
    (fun k => k ≤ L.length) (fun k => L.length - k) 0 (fun x => by simp [BelowAll, mkF, AV.blw, AV.blw.blwL, blwH, AObj.blw]) (by simp [go_sem, Kn.nV]) (Nat.zero_le _) ?_
  intro k hk
  simp -implicitDefEqProofs only [go_sem]
  refine AWp.of_awpD [] hΓ hmix (by kernel_rfl) ?_
  by_cases hlt : k < L.length
  rotate_left
  · have hkl : L.length = k := by omega
    subst hkl
    simp -implicitDefEqProofs only [Int.lt_irrefl, go_sem]
    refine AWp.of_awpD [] hΓ hmix (by kernel_rfl) ?_
    simp -implicitDefEqProofs only [List.take_length, go_sem]
  have hlt' : (k : Int) < (L.length : Int) := by omega
  have hg : (L.map Kn.nV).getD k default = .int .i64 (L[k] : Nat) := getD_map_lt _ _ _ _ hlt
  obtain ⟨A, B, hAB⟩ := hrc L[k]
  have e57 := hcall k hlt
  have htk : (L.take (k + 1)).map rv = (L.take k).map rv ++ [.agg [.bool false, .str A, .bool false, .str B]] := by
    rw [List.take_succ_eq_append_getElem hlt, List.map_append, ← hAB]; rfl
  rw [hAB] at e57
  simp -implicitDefEqProofs only [hlt, hlt', hg, Int.toNat_natCast, List.length_map, go_sem]
  refine callK_fn e57 (.pures rfl) ?_
  simp -implicitDefEqProofs only [go_sem]
  have hsz : sizeOK [PV.agg [.bool false, .str A, .bool false, .str B]] 4 := by simp [sizeOK, PV.cells]
  have hon : oneOK [PV.agg [.bool false, .str A, .bool false, .str B]] := by simp [oneOK, PV.cells, PV.isAgg]
  exact ⟨⟨hsz, by omega⟩, ⟨by omega, hsz, hon⟩, ⟨.inl (by omega), by omega, by omega⟩, by simp only [InR]; omega, k + 1, ⟨⟨rfl, by omega⟩, .inr (.inl (by rw [htk]))⟩, by omega, by omega⟩
end Go.Proofs.YtpljmccnfmkmfaaGreat
end

section
namespace Go.Proofs.YtpljmccnfmkmfaaGreat
open Go Go.AM

end Go.Proofs.YtpljmccnfmkmfaaGreat
end

section
namespace Go.Proofs.YtpljmccnfmkmfaaGreat
open Go Go.AM

end Go.Proofs.YtpljmccnfmkmfaaGreat
end

section
namespace Go.Proofs.YtpljmccnfmkmfaaGreat
open Go Go.AM

theorem mem_le_sum {x : Nat} : ∀ {l : List Nat}, x ∈ l → x ≤ l.sum
  | y :: l, h => by
    rw [List.sum_cons]
    rcases List.mem_cons.1 h with rfl | h
    · omega
    · have := mem_le_sum h; omega
def nlW (L : List Nat) (b : UInt8) : Nat := L.getD (ixB b L16 0).toNat 0
theorem nlW_le {L : List Nat} (b : UInt8) : nlW L b ≤ L.sum := by
  unfold nlW
  rw [List.getD_eq_getElem?_getD]
  cases h : L[(ixB b L16 0).toNat]? with
  | none => exact Nat.zero_le _
  | some x => exact mem_le_sum (List.mem_of_getElem? h)
theorem nu_le {L : List Nat} : ∀ w : List UInt8, Mc.nu (nlW L) w ≤ L.sum ^ w.length
  | [] => by simp [Mc.nu]
  | b :: w => by
    rw [Mc.nu_cons, List.length_cons, Nat.pow_succ, Nat.mul_comm]
    exact Nat.mul_le_mul (nu_le w) (nlW_le b)
theorem tot_le5 {L : List Nat} : ∀ X : List (List UInt8), (∀ w ∈ X, w.length ≤ 5) → Mc.tot (nlW L) L.sum 5 X ≤ X.length * L.sum ^ 5
  | [], _ => by simp [Mc.tot]
  | w :: X, h => by
    rw [Mc.tot_cons, List.length_cons, Nat.succ_mul, Nat.add_comm]
    have h1 := tot_le5 (L := L) X fun x hx => h x (by simp [hx])
    have h2 := Nat.mul_le_mul (nu_le (L := L) w) (Nat.le_refl (L.sum ^ (5 - w.length)))
    rw [← Nat.pow_add, show w.length + (5 - w.length) = 5 by have := h w (by simp); omega] at h2
    omega
theorem add_same {a n S : Nat} (hS : S ≠ 0) : Kn.ratV (a * S + n * S) (S * S) = Kn.ratV (a + n) S :=
  (Kn.low_eq (Nat.mul_ne_zero hS hS) hS).2 (by grind)
theorem out_step {a b S k : Nat} (hS : S ≠ 0) (hk : k ≤ 5) : Kn.ratV (a * S ^ k + b * S ^ 5) (S ^ 5 * S ^ k) = Kn.ratV (a + b * S ^ (5 - k)) (S ^ 5) := by
  have h5 : S ^ 5 = S ^ (5 - k) * S ^ k := by rw [← Nat.pow_add]; congr 1; omega
  have hp : ∀ m, S ^ m ≠ 0 := fun m => Nat.ne_of_gt (Nat.pow_pos (Nat.pos_of_ne_zero hS))
  refine (Kn.low_eq (Nat.mul_ne_zero (hp 5) (hp k)) (hp 5)).2 ?_
  generalize S ^ 5 = A at *
  generalize S ^ (5 - k) = B at *
  generalize S ^ k = C at *
  subst h5
  grind
theorem rat_zero {S : Nat} (hS : S ≠ 0) : Kn.ratV 0 1 = Kn.ratV 0 S := (Kn.low_eq (by decide) hS).2 (by simp)
theorem rat_one {S : Nat} (hS : S ≠ 0) : Kn.ratV S S = Kn.ratV 1 1 := (Kn.low_eq hS (by decide)).2 (by simp)
theorem cap40 {x : Nat} (h : x < 256 ^ 40) : x < capN := cap_of h (by decide)

theorem c53 (q : Nat) (ws : List (List UInt8)) (L : List Nat) (hv : Valid q ws) (hw5 : ∀ w ∈ ws, w.length ≤ 5) (hq : q ≤ 3) (hLl : L.length = q) (hLb : ∀ n ∈ L, 1 ≤ n ∧ n ≤ 9) :
    PFn Tryz.prog 53 [codeV q ws, .sl (L.map fun n => Kn.ratV n L.sum)] [Kn.ratV (Mc.tot (nlW L) L.sum 5 ws) (L.sum ^ 5), .int .i64 0] := by
  have hlen := hv.len
  have h2 := hv.q2
  have hws := hv.words
  have hs27 : 1 ≤ L.sum ∧ L.sum ≤ 27 := by
    match L, hLl, hLb with
    | [], h, _ => simp at h; omega
    | [a], h, _ => simp at h; omega
    | [a, b], _, hb => have := hb a (by simp); have := hb b (by simp); simp; omega
    | [a, b, c], _, hb => have := hb a (by simp); have := hb b (by simp); have := hb c (by simp); simp; omega
    | _ :: _ :: _ :: _ :: l, h, _ => simp at h; omega
  have hcode : codeCheck (q : Int) ws = 0 := check_of hv.q2 hv.q16 (fun e => by have := hv.pos; rw [e] at this; simp at this) hv.len hv.words hv.strict
  have e80 := t45 (q : Int) ws
  rw [hcode] at e80
  obtain ⟨S, hS⟩ : ∃ S, S = L.sum := ⟨_, rfl⟩
  rw [← hS] at hs27 ⊢
  have hS0 : S ≠ 0 := by omega
  obtain ⟨rs, hrs⟩ : ∃ rs : List (Nat × Nat), rs = L.map fun n => (n, S) := ⟨_, rfl⟩
  have hrsV : (L.map fun n => Kn.ratV n S) = rs.map fun r => Kn.ratV r.1 r.2 := by rw [hrs, List.map_map]; rfl
  have hrl : rs.length = q := by rw [hrs, List.length_map, hLl]
  have hSc : ∀ k, k ≤ 10 → S ^ k < capN := fun k hk => by
    have h1 : S ^ k ≤ 27 ^ k := Nat.pow_le_pow_left hs27.2 k
    have h2 : 27 ^ k ≤ 27 ^ 10 := Nat.pow_le_pow_right (by decide) hk
    have h3 : 27 ^ 10 < 256 ^ 40 := by decide
    exact cap40 (by omega)
  have hsm : ∀ x : Nat, x < 1000000000000000000000 → x < capN := fun x h => cap40 (Nat.lt_trans h (by decide))
  have hc109 := fun h => Kn.c109 (h := h) (g := 110) (caps := []) rs (by omega) (fun r hr => by
    rw [hrs] at hr
    obtain ⟨n, hn, rfl⟩ := List.mem_map.1 hr
    have := hLb n hn
    exact AC.of_fn (h := h) (args := [.p (Kn.ratV n S)]) (Kn.v110 n S (hsm n (by omega)) (hsm S (by omega)) hS0) (.inl rfl))
  obtain ⟨sA, hsA⟩ : ∃ f : Nat → List UInt8, f = fun i => magB (Kn.lowN (L.take i).sum S) := ⟨_, rfl⟩
  obtain ⟨sB, hsB⟩ : ∃ f : Nat → List UInt8, f = fun i => magB (Kn.lowD (L.take i).sum S) := ⟨_, rfl⟩
  have hsV : ∀ i, Kn.ratV (L.take i).sum S = .agg [.bool false, .str (sA i), .bool false, .str (sB i)] := fun i => by rw [hsA, hsB]; rfl
  have hz : Kn.ratV 0 S = .agg [.bool false, .str (sA 0), .bool false, .str (sB 0)] := hsV 0
  have hone : Kn.ratV 1 1 = .agg [.bool false, .str (sA q), .bool false, .str (sB q)] := by
    rw [← rat_one hS0, ← hsV q, List.take_of_length_le (by omega), ← hS]
  have e72 := Kn.v52 0 capN_pos
  have e91 := Kn.v58
  rw [rat_zero hS0, hz] at e72
  rw [hone] at e91
  rw [hrsV]
  obtain ⟨PL, hPL⟩ : ∃ PL, PL = rs.map fun r => Kn.ratV r.1 r.2 := ⟨_, rfl⟩
  have hPLl : PL.length = q := by rw [hPL, List.length_map, hrl]
  have hPLg : ∀ k (hk : k < L.length), PL.getD k default = Kn.ratV L[k] S := fun k hk => by
    have : k < rs.length := by omega
    rw [hPL, getD_map_lt _ _ _ _ this]
    have : rs[k] = (L[k], S) := by simp [hrs]
    rw [this]
  rw [← hPL] at hc109 ⊢
  unfold codeV at e80
  obtain ⟨x, y, hR⟩ : ∃ x y, Kn.ratV (Mc.tot (nlW L) S 5 ws) (S ^ 5) = .agg [.bool false, .str x, .bool false, .str y] := ⟨_, _, rfl⟩
  refine PFn.of_body hΓ Tryz.func53 (by kernel_rfl) rfl (AWp.seq (AWp.of_awpD [] hΓ hmix (by kernel_rfl) ?_))
  simp -implicitDefEqProofs only [Tryz.ntmps53, Tryz.results53, Nat.reduceAdd, Nat.reduceSub, codeV, go_sem]
  refine AWp.seq (AWp.block ?_)
  refine AWp.of_awpD [] hΓ hmix (by kernel_rfl) ?_
  simp -implicitDefEqProofs only [go_sem]
  refine callK_fn e80 (.still rfl) ?_
  simp -implicitDefEqProofs only [hPLl, go_sem]
  refine callK_ac (hc109 _) (by simp) ?_
  rintro v h' ⟨rfl, rfl⟩
  simp -implicitDefEqProofs only [killAll, List.foldl, go_sem]
  refine AWp.seq (AWp.of_awpD [] hΓ hmix (by kernel_rfl) ?_)
  simp -implicitDefEqProofs only [go_sem]
  refine callK_fn e72 (.still rfl) ?_
  simp -implicitDefEqProofs only [go_sem]
  refine AWp.seq (AWp.of_awpD [] hΓ hmix (by kernel_rfl) ?_)
  simp -implicitDefEqProofs only [go_sem]
  refine AWp.seq (AWp.seq (AWp.of_awpD [] hΓ hmix (by kernel_rfl) ?_))
  simp -implicitDefEqProofs only [hPLl, go_sem]
  refine AWp.block ?_
  refine AWp.loopJ (fun i : Nat => ⟨mkF 82 [(1, .p (.sl PL)), (2, .ptr 0 0), (4, .ptr 1 0), (5, .p (.int .i64 0)), (6, .ptr 2 0), (7, .ptr 3 0), (34, .p (.sl PL)), (35, .p (.int .i64 q)), (36, .p (.int .i64 i))],
      [.box [.p (.int .i64 q), .p (.sl (ws.map .str))], .box [.p (.bool false), .p (.str []), .p (.bool false), .p (.str [])], .box [.p (.bool false), .p (.str (sA 0)), .p (.bool false), .p (.str (sB 0))], .box [.p (.bool false), .p (.str (sA i)), .p (.bool false), .p (.str (sB i))]]⟩)
    (fun i => i ≤ q) (fun i => q - i) 0 (fun x => by simp [BelowAll, mkF, AV.blw, AV.blw.blwL, blwH, AObj.blw]) (by simp [go_sem]) (Nat.zero_le _) ?_
  intro i hi
  simp -implicitDefEqProofs only [go_sem]
  refine AWp.of_awpD [] hΓ hmix (by kernel_rfl) ?_
  by_cases hlt : i < q
  · have hlt' : (i : Int) < (q : Int) := by omega
    have hiL : i < L.length := by omega
    have hgi := hPLg i hiL
    have hb := hLb _ (List.getElem_mem hiL)
    have hsum : (L.take i).sum ≤ 27 ∧ (L.take (i + 1)).sum = (L.take i).sum + L[i] := by
      have h1 := List.take_succ_eq_append_getElem hiL
      have h2 : (L.take (i + 1)).sum = (L.take i).sum + L[i] := by rw [h1, List.sum_append]; simp
      have h3 : (L.take i).sum + (L.drop i).sum = L.sum := by rw [← List.sum_append, List.take_append_drop]
      exact ⟨by omega, h2⟩
    have e49 := Kn.v51 L[i] S 0 S (hsm _ (by omega)) (hsm _ (by omega)) capN_pos (hsm _ (by omega)) hS0 hS0 (hsm _ (by
      have := Nat.mul_le_mul (show L[i] ≤ 9 by omega) hs27.2; omega)) (by rw [Nat.zero_mul]; exact capN_pos)
    rw [Nat.zero_mul, cmpN_gt (Nat.mul_pos (by omega) (by omega)), hz] at e49
    have m1 : (L.take i).sum * S ≤ 27 * 27 := Nat.mul_le_mul hsum.1 hs27.2
    have m2 : L[i] * S ≤ 9 * 27 := Nat.mul_le_mul hb.2 hs27.2
    have m3 : S * S ≤ 27 * 27 := Nat.mul_le_mul hs27.2 hs27.2
    have e112 := Kn.v112 (L.take i).sum S L[i] S (hsm _ (by omega)) (hsm _ (by omega)) (hsm _ (by omega)) (hsm _ (by omega)) hS0 hS0 (hsm _ (by omega)) (hsm _ (by omega))
    rw [add_same hS0, ← hsum.2, hsV (i + 1), hsV i] at e112
    obtain ⟨xa, xb, hx⟩ : ∃ xa xb, Kn.ratV L[i] S = .agg [.bool false, .str xa, .bool false, .str xb] := ⟨_, _, rfl⟩
    rw [hx] at hgi e49 e112
    simp -implicitDefEqProofs only [hlt', hgi, hPLl, hlt, Int.toNat_natCast, go_sem]
    have h10 : ¬ (1 : Int) ≤ 0 := by omega
    refine callK_fn e49 (.still rfl) ?_
    simp -implicitDefEqProofs only [h10, go_sem]
    refine callK_fn e112 (.still rfl) ?_
    simp -implicitDefEqProofs only [go_sem]
    exact ⟨by simp only [InR]; omega, i + 1, ⟨by omega, rfl, rfl⟩, by omega, by omega⟩
  have hiq : q = i := by omega
  subst hiq
  simp -implicitDefEqProofs only [Int.lt_irrefl, go_sem]
  refine AWp.seq (AWp.of_awpD [(16, 1000)] hΓ hmix (by kernel_rfl) ?_)
  simp -implicitDefEqProofs only [go_sem]
  refine AWp.planL (.q 0 (.e 1 (.s 0 (.q 2 .fin)) .nil)) hΓ hmix (by kernel_rfl) ?_
  simp -implicitDefEqProofs only [go_sem]
  refine callK_fn e91 (.still rfl) ?_
  simp -implicitDefEqProofs only [go_sem]
  refine aggN55 rfl rfl ?_
  rw [decide_eq_true rfl, decide_eq_true rfl]
  simp -implicitDefEqProofs only [Bool.and_self, Bool.not_true, go_sem]
  obtain ⟨oA, hoA⟩ : ∃ f : Nat → List UInt8, f = fun i => magB (Kn.lowN (Mc.tot (nlW L) S 5 (ws.take i)) (S ^ 5)) := ⟨_, rfl⟩
  obtain ⟨oB, hoB⟩ : ∃ f : Nat → List UInt8, f = fun i => magB (Kn.lowD (Mc.tot (nlW L) S 5 (ws.take i)) (S ^ 5)) := ⟨_, rfl⟩
  have hoV : ∀ i, Kn.ratV (Mc.tot (nlW L) S 5 (ws.take i)) (S ^ 5) = .agg [.bool false, .str (oA i), .bool false, .str (oB i)] := fun i => by rw [hoA, hoB]; rfl
  have hS5 : S ^ 5 ≠ 0 := Nat.ne_of_gt (Nat.pow_pos (by omega))
  have hz2 : sA 0 = oA 0 ∧ sB 0 = oB 0 := by
    have h1 := hoV 0
    rw [List.take_zero, show Mc.tot (nlW L) S 5 [] = 0 from rfl, ← rat_zero hS5, rat_zero hS0, hz] at h1
    injection h1 with h1
    injection h1 with _ h1
    injection h1 with h2 h1
    injection h1 with _ h1
    injection h1 with h3 _
    injection h2 with h2
    injection h3 with h3
    exact ⟨h2, h3⟩
  refine AWp.seq (AWp.of_awpD [] hΓ hmix (by kernel_rfl) ?_)
  simp -implicitDefEqProofs only [go_sem]
  refine AWp.seq (AWp.seq (AWp.of_awpD [] hΓ hmix (by kernel_rfl) ?_))
  simp -implicitDefEqProofs only [List.length_map, go_sem]
  refine AWp.block ?_
  refine AWp.loopJ (fun i : Nat => ⟨mkF 82 [(1, .p (.sl PL)), (2, .ptr 0 0), (4, .ptr 1 0), (5, .p (.int .i64 0)), (10, .ptr 4 0), (55, .p (.sl (ws.map .str))), (56, .p (.int .i64 ws.length)), (57, .p (.int .i64 i))],
      [.box [.p (.int .i64 q), .p (.sl (ws.map .str))], .box [.p (.bool false), .p (.str []), .p (.bool false), .p (.str [])], .box [.p (.bool false), .p (.str (sA 0)), .p (.bool false), .p (.str (sB 0))], .box [.p (.bool false), .p (.str (sA q)), .p (.bool false), .p (.str (sB q))],
        .box [.p (.bool false), .p (.str (oA i)), .p (.bool false), .p (.str (oB i))]]⟩)
    (fun i => i ≤ ws.length) (fun i => ws.length - i) 0 (fun x => by simp [BelowAll, mkF, AV.blw, AV.blw.blwL, blwH, AObj.blw]) (by simp [go_sem, hz2]) (Nat.zero_le _) ?_
  clear hi
  intro i hi
  simp -implicitDefEqProofs only [go_sem]
  refine AWp.of_awpD [(26, 1000)] hΓ hmix (by kernel_rfl) ?_
  by_cases hlt : i < ws.length
  rotate_left
  · have hiw : ws.length = i := by omega
    subst hiw
    have hfin := hoV ws.length
    rw [List.take_length] at hfin
    rw [hfin]
    simp -implicitDefEqProofs only [Int.lt_irrefl, go_sem]
    refine AWp.of_awpD [] hΓ hmix (by kernel_rfl) ?_
    simp -implicitDefEqProofs only [go_sem]
  have hlt' : (i : Int) < (ws.length : Int) := by omega
  have hmw := List.getElem_mem hlt
  have hw := hw5 _ hmw
  have hal := alph_of (hws _ hmw).2.2
  rw [Int.toNat_natCast] at hal
  have hgw : (ws.map PV.str).getD i default = .str ws[i] := getD_map_lt _ _ _ _ hlt
  have htot : Mc.tot (nlW L) S 5 (ws.take (i + 1)) = Mc.tot (nlW L) S 5 (ws.take i) + Mc.nu (nlW L) ws[i] * S ^ (5 - ws[i].length) := by
    rw [List.take_succ_eq_append_getElem hlt, Mc.tot_app, Mc.tot_cons]; rfl
  have hT : Mc.tot (nlW L) S 5 (ws.take i) ≤ 64 * S ^ 5 := by
    have h1 := tot_le5 (L := L) (ws.take i) fun w h => hw5 w (List.mem_of_mem_take h)
    rw [← hS] at h1
    have h3 : (ws.take i).length ≤ 64 := by rw [List.length_take]; omega
    exact Nat.le_trans h1 (Nat.mul_le_mul_right _ h3)
  have hN := nu_le (L := L) ws[i]
  rw [← hS] at hN
  have h27 : ∀ k, k ≤ 5 → S ^ k ≤ 14348907 := fun k hk => by
    have h1 : S ^ k ≤ 27 ^ k := Nat.pow_le_pow_left hs27.2 k
    have h2 : 27 ^ k ≤ 27 ^ 5 := Nat.pow_le_pow_right (by decide) hk
    omega
  have hp0 : ∀ k, S ^ k ≠ 0 := fun k => Nat.ne_of_gt (Nat.pow_pos (by omega))
  have b5 := h27 5 (by omega)
  have bw := h27 ws[i].length hw
  have m1 : Mc.tot (nlW L) S 5 (ws.take i) * S ^ ws[i].length ≤ (64 * 14348907) * 14348907 := Nat.mul_le_mul (by omega) bw
  have m2 : Mc.nu (nlW L) ws[i] * S ^ 5 ≤ 14348907 * 14348907 := Nat.mul_le_mul (by omega) b5
  have m3 : S ^ 5 * S ^ ws[i].length ≤ 14348907 * 14348907 := Nat.mul_le_mul b5 bw
  have e112 := Kn.v112 (Mc.tot (nlW L) S 5 (ws.take i)) (S ^ 5) (Mc.nu (nlW L) ws[i]) (S ^ ws[i].length) (hsm _ (by omega)) (hsm _ (by omega)) (hsm _ (by omega)) (hsm _ (by omega)) (hp0 5) (hp0 _) (hsm _ (by omega)) (hsm _ (by omega))
  rw [out_step hS0 hw, ← htot, hoV (i + 1), hoV i] at e112
  generalize ws[i] = w at *
  obtain ⟨pA, hpA⟩ : ∃ f : Nat → List UInt8, f = fun k => magB (Kn.lowN (Mc.nu (nlW L) (w.take k)) (S ^ k)) := ⟨_, rfl⟩
  obtain ⟨pB, hpB⟩ : ∃ f : Nat → List UInt8, f = fun k => magB (Kn.lowD (Mc.nu (nlW L) (w.take k)) (S ^ k)) := ⟨_, rfl⟩
  have hpV : ∀ k, Kn.ratV (Mc.nu (nlW L) (w.take k)) (S ^ k) = .agg [.bool false, .str (pA k), .bool false, .str (pB k)] := fun k => by rw [hpA, hpB]; rfl
  have hpw : Kn.ratV (Mc.nu (nlW L) w) (S ^ w.length) = .agg [.bool false, .str (pA w.length), .bool false, .str (pB w.length)] := by rw [← hpV, List.take_length]
  rw [hpw] at e112
  have hp02 : sA q = pA 0 ∧ sB q = pB 0 := by
    have h1 := hpV 0
    rw [List.take_zero, Mc.nu_nil, Nat.pow_zero, hone] at h1
    injection h1 with h1
    injection h1 with _ h1
    injection h1 with h2 h1
    injection h1 with _ h1
    injection h1 with h3 _
    injection h2 with h2
    injection h3 with h3
    exact ⟨h2, h3⟩
  simp -implicitDefEqProofs only [hlt', hgw, hlt, Int.toNat_natCast, List.length_map, go_sem]
  refine callK_fn e91 (.still rfl) ?_
  simp -implicitDefEqProofs only [go_sem]
  refine AWp.loopJ (fun k : Nat => ⟨mkF 82 [(1, .p (.sl PL)), (2, .ptr 0 0), (4, .ptr 1 0), (5, .p (.int .i64 0)), (10, .ptr 4 0), (12, .p (.str w)), (13, .ptr 5 0), (55, .p (.sl (ws.map .str))), (56, .p (.int .i64 ws.length)), (57, .p (.int .i64 i)), (63, .p (.int .i64 w.length)), (64, .p (.int .i64 k))],
      [.box [.p (.int .i64 q), .p (.sl (ws.map .str))], .box [.p (.bool false), .p (.str []), .p (.bool false), .p (.str [])], .box [.p (.bool false), .p (.str (sA 0)), .p (.bool false), .p (.str (sB 0))], .box [.p (.bool false), .p (.str (sA q)), .p (.bool false), .p (.str (sB q))],
        .box [.p (.bool false), .p (.str (oA i)), .p (.bool false), .p (.str (oB i))], .box [.p (.bool false), .p (.str (pA k)), .p (.bool false), .p (.str (pB k))]]⟩)
    (fun k => k ≤ w.length) (fun k => w.length - k) 0 (fun x => by simp [BelowAll, mkF, AV.blw, AV.blw.blwL, blwH, AObj.blw]) (by simp [go_sem, hp02]) (Nat.zero_le _) ?_
  intro k hk
  simp -implicitDefEqProofs only [go_sem]
  refine AWp.of_awpD [(26, 1000)] hΓ hmix (by kernel_rfl) ?_
  by_cases hkl : k < w.length
  rotate_left
  · have hkw : w.length = k := by omega
    rw [hkw] at e112
    have hkw' : ¬ (k : Int) < (w.length : Int) := by omega
    simp -implicitDefEqProofs only [hkw', go_sem]
    refine callK_fn e112 (.still rfl) ?_
    simp -implicitDefEqProofs only [go_sem]
    exact ⟨by simp only [InR]; omega, i + 1, ⟨by omega, rfl, rfl⟩, by omega, by omega⟩
  have hkl' : (k : Int) < (w.length : Int) := by omega
  obtain ⟨a, ha, hba⟩ := hal w[k] (List.getElem_mem hkl)
  have hix : ixB w[k] L16 0 = a := by rw [hba]; exact ixB_ltr (by omega)
  have haL : a < L.length := by omega
  have hnl : nlW L w[k] = L[a] := by
    unfold nlW
    rw [hix, Int.toNat_natCast, List.getD_eq_getElem?_getD, List.getElem?_eq_getElem haL, Option.getD_some]
  have hgb : w.getD k 0 = w[k] := by rw [List.getD_eq_getElem?_getD, List.getElem?_eq_getElem hkl, Option.getD_some]
  have e114 := t101 [48, 49, 50, 51, 52, 53, 54, 55, 56, 57, 97, 98, 99, 100, 101, 102] (w[k].toNat : Int)
  rw [show ((w[k].toNat : Int)).toNat.toUInt8 = w[k] by simp, show ixB w[k] [48, 49, 50, 51, 52, 53, 54, 55, 56, 57, 97, 98, 99, 100, 101, 102] 0 = a from hix] at e114
  have hnu : Mc.nu (nlW L) (w.take (k + 1)) = Mc.nu (nlW L) (w.take k) * L[a] := by
    rw [List.take_succ_eq_append_getElem hkl, Mc.nu_app, Mc.nu_cons, Mc.nu_nil, Nat.mul_one, hnl]
  have hb := hLb _ (List.getElem_mem haL)
  have hNk := nu_le (L := L) (w.take k)
  rw [← hS, List.length_take, Nat.min_eq_left hk] at hNk
  have bk := h27 k (by omega)
  have mm1 : Mc.nu (nlW L) (w.take k) * L[a] ≤ 14348907 * 9 := Nat.mul_le_mul (by omega) hb.2
  have mm2 : S ^ k * S ≤ 14348907 * 27 := Nat.mul_le_mul bk hs27.2
  have e113 := Kn.v113 (Mc.nu (nlW L) (w.take k)) (S ^ k) L[a] S (hsm _ (by omega)) (hsm _ (by omega)) (hsm _ (by omega)) (hsm _ (by omega)) (hp0 k) hS0 (hsm _ (by omega)) (hsm _ (by omega))
  rw [← hnu, ← Nat.pow_succ, hpV (k + 1), hpV k] at e113
  have hga := hPLg a haL
  obtain ⟨xa, xb, hx⟩ : ∃ xa xb, Kn.ratV L[a] S = .agg [.bool false, .str xa, .bool false, .str xb] := ⟨_, _, rfl⟩
  rw [hx] at hga e113
  have haP : a < PL.length := by omega
  simp -implicitDefEqProofs only [hkl', go_sem]
  refine AWp.planL (.q 0 (.q 1 (.q 2 (.q 3 (.q 4 (.e 5 (.s 0 (.s 1 (.q 6 (.q 7 (.e 8 (.e 9 .fin .nil) .nil))))) .nil)))))) hΓ hmix (by kernel_rfl) ?_
  simp -implicitDefEqProofs only [hkl, hgb, Int.toNat_natCast, go_sem]
  refine callK_fn e114 (.still rfl) ?_
  simp -implicitDefEqProofs only [haP, hga, Int.toNat_natCast, go_sem]
  refine callK_fn e113 (.still rfl) ?_
  simp -implicitDefEqProofs only [go_sem]
  exact ⟨by simp only [InR]; omega, k + 1, ⟨by omega, rfl, rfl⟩, by omega, by omega⟩
end Go.Proofs.YtpljmccnfmkmfaaGreat
end

section
namespace Go.Proofs.YtpljmccnfmkmfaaGreat
open Go Go.AM

theorem wL_letters {q : Nat} {L : List Nat} (hq : q ≤ 16) (hL : L.length = q) : ((List.range q).map Kn.ltr).map (nlW L) = L := by
  refine List.ext_getElem (by simp [hL]) fun i h1 h2 => ?_
  have hi : i < q := by simpa using h1
  simp only [List.getElem_map, List.getElem_range]
  unfold nlW
  rw [ixB_ltr (by omega), Int.toNat_natCast, List.getD_eq_getElem?_getD, List.getElem?_eq_getElem h2, Option.getD_some]
theorem sum_ones {α : Type} : ∀ l : List α, (l.map fun _ => 1).sum = l.length
  | [] => rfl
  | a :: l => by rw [List.map_cons, List.sum_cons, sum_ones l, List.length_cons, Nat.add_comm]
theorem nu_one : ∀ w : List UInt8, Mc.nu (fun _ => 1) w = 1
  | [] => rfl
  | b :: w => by rw [Mc.nu_cons, nu_one w]
theorem krS_tot (q : Nat) : ∀ ws : List (List UInt8), Kn.krS q (ws.map List.length) = Mc.tot (fun _ => 1) q 32 ws
  | [] => rfl
  | w :: ws => by
    have ih := krS_tot q ws
    rw [Mc.tot_cons, nu_one, Nat.one_mul, ← ih]
    unfold Kn.krS
    rw [List.map_cons, List.map_cons, List.sum_cons]
end Go.Proofs.YtpljmccnfmkmfaaGreat
end

section
namespace Go.Mc

def tailsW : W → List W → List W
  | [], l => l
  | b :: u, l => tailsW u (tails b l)
theorem mem_tailsW : ∀ {u : W} {l : List W} {y : W}, y ∈ tailsW u l ↔ u ++ y ∈ l
  | [], l, y => Iff.rfl
  | b :: u, l, y => (mem_tailsW (u := u) (l := tails b l)).trans mem_tails
theorem tailsW_nodup : ∀ {u : W} {l : List W}, l.Nodup → (tailsW u l).Nodup
  | [], l, h => h
  | b :: u, l, h => tailsW_nodup (u := u) (tails_nodup h)
theorem emp_zero {l : List W} (h : ∀ x ∈ l, 1 ≤ x.length) : emp l = 0 := by
  unfold emp
  rw [List.countP_eq_zero]
  intro y hy he
  have h1 : y = [] := List.isEmpty_iff.1 he
  have := h y hy
  rw [h1] at this; simp at this
section
variable {A : List UInt8} {n : UInt8 → Nat}
theorem blk1 {N C : Nat} : ∀ {m : Nat} {l : List W}, (∀ x ∈ l, ∀ b ∈ x, b ∈ A) → (∀ x ∈ l, m ≤ x.length) → (∀ u : W, u.length = m → tot n (A.map n).sum N (tailsW u l) ≤ C) →
    tot n (A.map n).sum (N + m) l ≤ (A.map n).sum ^ m * C
  | 0, l, hA, hl, h => by
    have h0 : tot n (A.map n).sum N l ≤ C := h [] rfl
    simpa using h0
  | m + 1, l, hA, hl, h => by
    refine Nat.le_trans (tot_split (N := N + m) hA) ?_
    rw [emp_zero fun x hx => Nat.le_trans (by omega) (hl x hx), Nat.zero_mul, Nat.zero_add]
    have key : ∀ (D : Nat) (B : List UInt8), (∀ b ∈ B, tot n (A.map n).sum (N + m) (tails b l) ≤ D) → (B.map fun b => n b * tot n (A.map n).sum (N + m) (tails b l)).sum ≤ (B.map n).sum * D := by
      intro D B hB
      induction B with
      | nil => simp
      | cons b B ih =>
        rw [List.map_cons, List.map_cons, List.sum_cons, List.sum_cons, Nat.add_mul]
        have i1 := Nat.mul_le_mul_left (n b) (hB b (by simp))
        have i2 := ih fun c hc => hB c (by simp [hc])
        omega
    have := key ((A.map n).sum ^ m * C) A fun b hb => blk1 (fun x hx c hc => hA _ (mem_tails.1 hx) c (by simp [hc])) (fun x hx => by have := hl _ (mem_tails.1 hx); rw [List.length_cons] at this; omega) fun u hu => h (b :: u) (by rw [List.length_cons, hu])
    rw [Nat.pow_succ, Nat.mul_comm (_ ^ m), Nat.mul_assoc]
    exact this
theorem blk2 {N C : Nat} : ∀ {v : W} {l : List W}, (∀ b ∈ v, b ∈ A) → (∀ x ∈ l, ∀ b ∈ x, b ∈ A) → (∀ x ∈ l, v.length ≤ x.length) → (∀ u : W, u.length = v.length → tot n (A.map n).sum N (tailsW u l) ≤ C) →
    tot n (A.map n).sum N (tailsW v l) = 0 → tot n (A.map n).sum (N + v.length) l + nu n v * C ≤ (A.map n).sum ^ v.length * C
  | [], l, hv, hA, hl, h, h0 => by
    have h0' : tot n (A.map n).sum N l = 0 := h0
    simp [nu_nil, h0']
  | b :: v, l, hv, hA, hl, h, h0 => by
    have h1 := tot_split (n := n) (S := (A.map n).sum) (N := N + v.length) hA
    rw [emp_zero fun x hx => by have := hl x hx; rw [List.length_cons] at this; omega, Nat.zero_mul, Nat.zero_add] at h1
    have hl2 : ∀ c, ∀ x ∈ tails c l, v.length ≤ x.length := fun c x hx => by have := hl _ (mem_tails.1 hx); rw [List.length_cons, List.length_cons] at this; omega
    have hA2 : ∀ c, ∀ x ∈ tails c l, ∀ e ∈ x, e ∈ A := fun c x hx e he => hA _ (mem_tails.1 hx) e (by simp [he])
    have h2 : ∀ c, ∀ u : W, u.length = v.length → tot n (A.map n).sum N (tailsW u (tails c l)) ≤ C := fun c u hu => h (c :: u) (by rw [List.length_cons, List.length_cons, hu])
    have ih := blk2 (v := v) (l := tails b l) (fun c hc => hv c (by simp [hc])) (hA2 b) (hl2 b) (h2 b) h0
    have h3 := sum_one (A := A) (hv b (by simp)) (fun c => n c * tot n (A.map n).sum (N + v.length) (tails c l)) (fun c => n c * ((A.map n).sum ^ v.length * C))
      (fun c _ => Nat.mul_le_mul_left _ (blk1 (hA2 c) (hl2 c) (h2 c))) (d := n b * (nu n v * C)) (by
        show n b * _ + _ ≤ n b * _
        rw [← Nat.mul_add]; exact Nat.mul_le_mul_left _ ih)
    have h4 : ∀ (D : Nat) (B : List UInt8), (B.map fun c => n c * D).sum = (B.map n).sum * D := by
      intro D B
      induction B with
      | nil => simp
      | cons c B ih => rw [List.map_cons, List.map_cons, List.sum_cons, List.sum_cons, Nat.add_mul, ih]
    rw [h4] at h3
    rw [List.length_cons, nu_cons, Nat.pow_succ, Nat.mul_comm (_ ^ _) ((A.map n).sum), Nat.mul_assoc, Nat.mul_assoc]
    exact Nat.le_trans (Nat.add_le_add_right h1 _) h3
theorem tot_avoid {v : W} (hv : ∀ b ∈ v, b ∈ A) {N : Nat} : ∀ {k : Nat} {l : List W}, l.Nodup → (∀ x ∈ l, ∀ b ∈ x, b ∈ A) → (∀ x ∈ l, ¬ v <:+: x) → (∀ x ∈ l, k * v.length ≤ x.length ∧ x.length ≤ N + k * v.length) →
    tot n (A.map n).sum (N + k * v.length) l ≤ (N + 1) * (A.map n).sum ^ N * ((A.map n).sum ^ v.length - nu n v) ^ k
  | 0, l, hd, hA, ha, hl => by
    have := tot_le (n := n) (N := N) hd hA fun x hx => by have := (hl x hx).2; omega
    simpa using this
  | k + 1, l, hd, hA, ha, hl => by
    have hlen : ∀ u : W, u.length = v.length → ∀ y ∈ tailsW u l, k * v.length ≤ y.length ∧ y.length ≤ N + k * v.length := fun u hu y hy => by
      have := hl _ (mem_tailsW.1 hy)
      rw [List.length_append, hu, Nat.add_mul, Nat.one_mul] at this
      omega
    have h1 : ∀ u : W, u.length = v.length → tot n (A.map n).sum (N + k * v.length) (tailsW u l) ≤ (N + 1) * (A.map n).sum ^ N * ((A.map n).sum ^ v.length - nu n v) ^ k := fun u hu =>
      tot_avoid hv (tailsW_nodup hd) (fun y hy b hb => hA _ (mem_tailsW.1 hy) b (by simp [hb])) (fun y hy hi => ha _ (mem_tailsW.1 hy) (hi.trans (List.suffix_append u y).isInfix)) (hlen u hu)
    have h0 : tot n (A.map n).sum (N + k * v.length) (tailsW v l) = 0 := by
      have : tailsW v l = [] := List.eq_nil_iff_forall_not_mem.2 fun y hy => ha _ (mem_tailsW.1 hy) (List.prefix_append v y).isInfix
      rw [this]; rfl
    have h2 := blk2 hv hA (fun x hx => by have := (hl x hx).1; rw [Nat.add_mul, Nat.one_mul] at this; omega) h1 h0
    have e : N + (k + 1) * v.length = N + k * v.length + v.length := by rw [Nat.add_mul, Nat.one_mul]; omega
    rw [e, Nat.pow_succ, ← Nat.mul_assoc, Nat.mul_comm (_ * _ ^ k), Nat.sub_mul]
    omega
theorem avoid_lt {X : List W} {L : Nat} (hX : X.Nodup) (hU : UD X) (hA : ∀ x ∈ X, ∀ b ∈ x, b ∈ A) (hL : ∀ w ∈ X, w.length ≤ L) (hne : ∀ w ∈ X, w ≠ []) (hn : ∀ b ∈ A, 0 < n b) (hS : 0 < (A.map n).sum)
    {v : W} (hv : ∀ b ∈ v, b ∈ A) (ha : ∀ a : List W, (∀ w ∈ a, w ∈ X) → ¬ v <:+: a.flatten) : tot n (A.map n).sum L X < (A.map n).sum ^ L := by
  refine Nat.lt_of_not_le fun hge => ?_
  have hv0 : v ≠ [] := fun e => ha [] (by simp) (by rw [e]; exact ⟨[], [], rfl⟩)
  have hm : 0 < v.length := List.length_pos_iff.2 hv0
  have hL1 : 1 ≤ L := by
    cases X with
    | nil =>
      have h0 : tot n (A.map n).sum L [] = 0 := rfl
      rw [h0] at hge
      have := Nat.pow_pos (n := L) hS
      omega
    | cons w X =>
      have h1 := hL w (by simp)
      have h2 := List.length_pos_iff.2 (hne w (by simp))
      omega
  have hnv : ∀ v : W, (∀ b ∈ v, b ∈ A) → 0 < nu n v := by
    intro v
    induction v with
    | nil => intro _; rw [nu_nil]; omega
    | cons b v ih => intro h; rw [nu_cons]; exact Nat.mul_pos (hn b (h b (by simp))) (ih fun c hc => h c (by simp [hc]))
  have hnv := hnv v hv
  have hvle := nu_le (n := n) hv
  have key : ∀ k, ((A.map n).sum ^ v.length) ^ k ≤ (k * (v.length * (L - 1)) + 1) * ((A.map n).sum ^ v.length - nu n v) ^ k := by
    intro k
    have h1 := tot_avoid (n := n) (N := k * (v.length * (L - 1))) (k := k) (l := msgs X (k * v.length)) hv (msgs_nodup hX hU _) (fun x hx b hb => by
      obtain ⟨a, ha', rfl⟩ := List.mem_map.1 hx
      obtain ⟨w, hw, hb⟩ := List.mem_flatten.1 hb
      exact hA w ((mem_tup.1 ha').2 w hw) b hb) (fun x hx => by
      obtain ⟨a, ha', rfl⟩ := List.mem_map.1 hx
      exact ha a (mem_tup.1 ha').2) (fun x hx => by
      obtain ⟨a, ha', rfl⟩ := List.mem_map.1 hx
      obtain ⟨t1, t2⟩ := mem_tup.1 ha'
      have t3 := flat_len hL t2
      have hbl : ∀ b : List W, (∀ w ∈ b, w ∈ X) → b.length ≤ b.flatten.length := by
        intro b
        induction b with
        | nil => intro _; simp
        | cons w b ih =>
          intro h
          have h1 := ih fun v hv => h v (by simp [hv])
          have h2 := List.length_pos_iff.2 (hne w (h w (by simp)))
          rw [List.flatten_cons, List.length_append, List.length_cons]; omega
      have t4 := hbl a t2
      rw [t1] at t3 t4
      refine ⟨t4, Nat.le_trans t3 (Nat.le_of_eq ?_)⟩
      rw [← Nat.mul_assoc, ← Nat.mul_succ, Nat.succ_eq_add_one, Nat.sub_add_cancel hL1])
    have e1 : k * (v.length * (L - 1)) + k * v.length = k * v.length * L := by rw [← Nat.mul_assoc, ← Nat.mul_succ, Nat.succ_eq_add_one, Nat.sub_add_cancel hL1]
    rw [e1, tot_msgs hL] at h1
    have h2 := Nat.le_trans (Nat.pow_le_pow_left hge (k * v.length)) h1
    have e2 : ((A.map n).sum ^ L) ^ (k * v.length) = ((A.map n).sum ^ v.length) ^ k * (A.map n).sum ^ (k * (v.length * (L - 1))) := by
      rw [← Nat.pow_mul, ← Nat.pow_mul, ← Nat.pow_add]
      congr 1
      rw [Nat.mul_comm L, ← e1, Nat.mul_comm v.length k]; omega
    rw [e2, Nat.mul_right_comm] at h2
    exact Nat.le_of_mul_le_mul_right h2 (Nat.pow_pos hS)
  by_cases hr : 0 < (A.map n).sum ^ v.length - nu n v
  · have := lin_pow hr key
    omega
  · have h1 := key 1
    have h2 : (A.map n).sum ^ v.length - nu n v = 0 := by omega
    rw [h2] at h1
    have := Nat.pow_pos (n := v.length) hS
    simp at h1
    omega
end
end Go.Mc
end

section
namespace Go.Proofs.YtpljmccnfmkmfaaGreat
open Go Go.AM

theorem lettersN {q : Nat} (h16 : q ≤ 16) : ((List.range q).map Kn.ltr).Nodup := by
  rw [List.nodup_iff_pairwise_ne, List.pairwise_map]
  refine (List.nodup_iff_pairwise_ne.1 List.nodup_range).imp_of_mem fun {a b} ha hb h e => h ?_
  exact Kn.ltr_inj (by have := List.mem_range.1 ha; omega) (by have := List.mem_range.1 hb; omega) e
theorem alph_in {q : Nat} {w : List UInt8} : (∀ b ∈ w, b ∈ (List.range q).map Kn.ltr) ↔ Kn.Alph q w := by
  constructor
  · intro h b hb
    obtain ⟨a, ha, rfl⟩ := List.mem_map.1 (h b hb)
    exact ⟨a, List.mem_range.1 ha, rfl⟩
  · intro h b hb
    obtain ⟨a, ha, rfl⟩ := h b hb
    exact List.mem_map.2 ⟨a, List.mem_range.2 ha, rfl⟩
structure Plain (q : Nat) (ws : List (List UInt8)) : Prop where
  val : Valid q ws
  nd : ws.Nodup
  al : ∀ x ∈ ws, ∀ b ∈ x, b ∈ (List.range q).map Kn.ltr
  ne : ∀ w ∈ ws, w ≠ []
theorem plain_of {q : Nat} {ws : List (List UInt8)} (hv : Valid q ws) : Plain q ws where
  val := hv
  nd := hv.strict.imp fun {a b} h e => by subst e; exact ltW_irrefl _ h
  al := fun x hx => by
    have := alph_of (hv.words x hx).2.2
    rw [Int.toNat_natCast] at this
    exact alph_in.2 this
  ne := fun x hx => (hv.words x hx).1
theorem weigh_all {q : Nat} {ws : List (List UInt8)} (P : Plain q ws) (hU : Mc.UD ws) {n : UInt8 → Nat} {L : Nat} (hL : ∀ w ∈ ws, w.length ≤ L) (hS : 0 < (((List.range q).map Kn.ltr).map n).sum)
    (hall : ∀ v, stN ws q v ≠ []) : Mc.tot n (((List.range q).map Kn.ltr).map n).sum L ws = (((List.range q).map Kn.ltr).map n).sum ^ L :=
  Nat.le_antisymm (Mc.mcmillan P.nd hU P.al hL hS) (Mc.complete_ge (lettersN (by have := P.val.q16; omega)) P.al hL P.ne hS fun x hx => all_part P.val hall (alph_in.1 hx))
theorem weigh_less {q : Nat} {ws : List (List UInt8)} (P : Plain q ws) (hU : Mc.UD ws) {n : UInt8 → Nat} {L : Nat} (hL : ∀ w ∈ ws, w.length ≤ L) (hn : ∀ b ∈ (List.range q).map Kn.ltr, 0 < n b) (hS : 0 < (((List.range q).map Kn.ltr).map n).sum)
    {v : Nat} (hd : stN ws q v = []) : Mc.tot n (((List.range q).map Kn.ltr).map n).sum L ws < (((List.range q).map Kn.ltr).map n).sum ^ L := by
  have h2 := P.val.q2
  refine Mc.avoid_lt (v := wn q v) P.nd hU P.al hL P.ne hn hS (alph_in.2 (wn_alph (by omega) v)) fun a ha hi => no_part P.val hd ?_
  obtain ⟨p, s, h⟩ := hi
  exact ⟨a, p, s, ha, h⟩
theorem krS_one {q : Nat} {ws : List (List UInt8)} (P : Plain q ws) (hU : Mc.UD ws) : Kn.krS q (ws.map List.length) = q ^ 32 ↔ ∀ v, stN ws q v ≠ [] := by
  have h2 := P.val.q2
  have hs : (((List.range q).map Kn.ltr).map fun _ => 1).sum = q := by rw [sum_ones, List.length_map, List.length_range]
  have hL : ∀ w ∈ ws, w.length ≤ 32 := fun w hw => (P.val.words w hw).2.1
  rw [krS_tot]
  constructor
  · intro h v hd
    have := weigh_less P hU (n := fun _ => 1) hL (fun _ _ => Nat.one_pos) (by rw [hs]; omega) hd
    rw [hs] at this
    omega
  · intro h
    have := weigh_all P hU (n := fun _ => 1) hL (by rw [hs]; omega) h
    rwa [hs] at this
end Go.Proofs.YtpljmccnfmkmfaaGreat
end

section
namespace Go.Proofs.YtpljmccnfmkmfaaGreat
open Go Go.AM Go.RowKit

def keyS (S : List (List UInt8)) : List UInt8 := joinE S [32] ++ [46]
theorem c145 (S : List (List UInt8)) (h1 : S.length ≤ 1000000) (h2 : (joinE S [32]).length ≤ 1000000000) : PFn Tryz.prog 145 [.sl (S.map .str)] [.str (keyS S)] := by
  have e := join_fn S [32] (by omega) (by rw [← joinE_eq]; omega)
  rw [← joinE_eq] at e
  refine PFn.of_body hΓ Tryz.func145 (by kernel_rfl) rfl (AWp.of_awpD [] hΓ hmix (by kernel_rfl) ?_)
  simp -implicitDefEqProofs only [Tryz.ntmps145, Tryz.results145, Nat.reduceAdd, Nat.reduceSub, go_sem]
  refine callK_fn e (.pures rfl) ?_
  simp -implicitDefEqProofs only [keyS, go_sem]
  omega
theorem joinE_len : ∀ (S : List (List UInt8)), (∀ x ∈ S, x.length ≤ 32) → (joinE S [32]).length ≤ 33 * S.length
  | [], _ => Nat.le_refl _
  | [x], h => by
    have := h x (by simp)
    show x.length ≤ 33 * 1
    omega
  | x :: y :: r, h => by
    have h1 := h x (by simp)
    have h2 := joinE_len (y :: r) fun z hz => h z (List.mem_cons_of_mem _ hz)
    have e : joinE (x :: y :: r) [32] = x ++ ([32] ++ joinE (y :: r) [32]) := rfl
    rw [e, List.length_append, List.length_append, List.length_singleton]
    simp only [List.length_cons] at h2 ⊢
    omega
theorem cut32 : ∀ {x y A B : List UInt8}, 32 ∉ x → 32 ∉ y → x ++ 32 :: A = y ++ 32 :: B → x = y ∧ A = B
  | [], [], A, B, _, _, h => ⟨rfl, by simpa using h⟩
  | [], b :: y, A, B, _, hy, h => by
    rw [List.nil_append, List.cons_append] at h
    injection h with h _
    exact absurd (by rw [← h]; simp) hy
  | a :: x, [], A, B, hx, _, h => by
    rw [List.nil_append, List.cons_append] at h
    injection h with h _
    exact absurd (by rw [h]; simp) hx
  | a :: x, b :: y, A, B, hx, hy, h => by
    rw [List.cons_append, List.cons_append] at h
    injection h with h1 h2
    obtain ⟨h3, h4⟩ := cut32 (fun e => hx (List.mem_cons_of_mem _ e)) (fun e => hy (List.mem_cons_of_mem _ e)) h2
    exact ⟨by rw [h1, h3], h4⟩
theorem join_inj : ∀ {S T : List (List UInt8)}, S ≠ [] → T ≠ [] → (∀ x ∈ S, 32 ∉ x) → (∀ x ∈ T, 32 ∉ x) → joinE S [32] = joinE T [32] → S = T
  | [], _, h, _, _, _, _ => absurd rfl h
  | _ :: _, [], _, h, _, _, _ => absurd rfl h
  | [x], [y], _, _, _, _, h => by rw [show joinE [x] [32] = x from rfl, show joinE [y] [32] = y from rfl] at h; rw [h]
  | [x], y :: z :: r, _, _, hs, _, h => by
    rw [show joinE [x] [32] = x from rfl, show joinE (y :: z :: r) [32] = y ++ 32 :: joinE (z :: r) [32] from rfl] at h
    exact absurd (by rw [h]; simp) (hs x (by simp))
  | x :: z :: r, [y], _, _, _, ht, h => by
    rw [show joinE [y] [32] = y from rfl, show joinE (x :: z :: r) [32] = x ++ 32 :: joinE (z :: r) [32] from rfl] at h
    exact absurd (by rw [← h]; simp) (ht y (by simp))
  | x :: z :: r, y :: u :: v, _, _, hs, ht, h => by
    rw [show joinE (x :: z :: r) [32] = x ++ 32 :: joinE (z :: r) [32] from rfl, show joinE (y :: u :: v) [32] = y ++ 32 :: joinE (u :: v) [32] from rfl] at h
    obtain ⟨h1, h2⟩ := cut32 (hs x (by simp)) (ht y (by simp)) h
    have ih := join_inj (S := z :: r) (T := u :: v) (by simp) (by simp) (fun a ha => hs a (List.mem_cons_of_mem _ ha)) (fun a ha => ht a (List.mem_cons_of_mem _ ha)) h2
    rw [h1, ih]
theorem key_inj {S T : List (List UInt8)} (hS : S ≠ []) (hT : T ≠ []) (h1 : ∀ x ∈ S, 32 ∉ x) (h2 : ∀ x ∈ T, 32 ∉ x) (h : keyS S = keyS T) : S = T :=
  join_inj hS hT h1 h2 (List.append_cancel_right h)
end Go.Proofs.YtpljmccnfmkmfaaGreat
end

section
namespace Go.Proofs.YtpljmccnfmkmfaaGreat
open Go Go.AM

def qmE (kf : Nat → List UInt8) (Q : List Nat) : List (List UInt8 × PV) := Q.map fun v => (kf v, .bool true)
theorem qm_none {kf : Nat → List UInt8} {k : List UInt8} : ∀ {Q : List Nat}, (∀ m ∈ Q, kf m ≠ k) → midx k (qmE kf Q) = none
  | [], _ => rfl
  | m :: Q, h => by
    have e : qmE kf (m :: Q) = (kf m, .bool true) :: qmE kf Q := rfl
    rw [e]
    unfold midx
    rw [if_neg (fun e => h m (by simp) e.symm), qm_none fun x hx => h x (List.mem_cons_of_mem _ hx)]
    rfl
theorem qm_some {kf : Nat → List UInt8} {k : List UInt8} : ∀ {Q : List Nat}, (∃ m ∈ Q, kf m = k) → ∃ j, midx k (qmE kf Q) = some j ∧ (qmE kf Q).getD j default = (k, .bool true)
  | [], h => by obtain ⟨_, h, _⟩ := h; cases h
  | m :: Q, h => by
    have e : qmE kf (m :: Q) = (kf m, .bool true) :: qmE kf Q := rfl
    rw [e]
    unfold midx
    by_cases hk : k = kf m
    · exact ⟨0, if_pos hk, by rw [hk]; rfl⟩
    · rw [if_neg hk]
      obtain ⟨x, hx, hxk⟩ := h
      have hx2 : x ∈ Q := (List.mem_cons.1 hx).resolve_left fun e => hk (by rw [← hxk, e])
      obtain ⟨j, h1, h2⟩ := qm_some ⟨x, hx2, hxk⟩
      refine ⟨j + 1, by rw [h1]; rfl, ?_⟩
      rw [List.getD_cons_succ]
      exact h2
theorem qm_hit {kf : Nat → List UInt8} {k : List UInt8} {Q : List Nat} (h : ∃ m ∈ Q, kf m = k) : mget k (qmE kf Q) = some (.bool true) := by
  obtain ⟨j, h1, h2⟩ := qm_some h
  unfold mget
  rw [h1, Option.map_some, h2]
theorem qm_miss {kf : Nat → List UInt8} {k : List UInt8} {Q : List Nat} (h : ∀ m ∈ Q, kf m ≠ k) : mget k (qmE kf Q) = none := by
  unfold mget
  rw [qm_none h]
  rfl
theorem qm_set {kf : Nat → List UInt8} {v : Nat} {Q : List Nat} (h : ∀ m ∈ Q, kf m ≠ kf v) : mset (kf v) (.bool true) (qmE kf Q) = qmE kf (Q ++ [v]) := by
  unfold mset
  rw [qm_none h]
  unfold qmE
  rw [List.map_append]
  rfl
theorem st_no32 {q : Nat} {ws : List (List UInt8)} (hv : Valid q ws) (v : Nat) : ∀ x ∈ stN ws q v, 32 ∉ x := by
  intro x hx h
  obtain ⟨y, hy, hs⟩ := run_ends _ x hx
  obtain ⟨a, ha, e⟩ := alph_of (hv.words y hy).2.2 32 (hs.subset h)
  have h16 := hv.q16
  have key : ∀ a : Fin 16, L16.getD a.val 0 ≠ 32 := by decide
  exact key ⟨a, by omega⟩ e.symm
theorem key_st {q : Nat} {ws : List (List UInt8)} (hv : Valid q ws) {u v : Nat} (hu : stN ws q u ≠ []) (hw : stN ws q v ≠ []) : keyS (stN ws q u) = keyS (stN ws q v) ↔ stN ws q u = stN ws q v :=
  ⟨key_inj hu hw (st_no32 hv u) (st_no32 hv v), fun e => by rw [e]⟩
end Go.Proofs.YtpljmccnfmkmfaaGreat
end

section
namespace Go.Proofs.YtpljmccnfmkmfaaGreat
open Go Go.AM

def nodV (S : List (List UInt8)) (w : List UInt8) : PV := .agg [.sl (S.map .str), .str w]
def nodN (ws : List (List UInt8)) (q v : Nat) : PV := nodV (stN ws q v) (wn q v)
def seH (q : Nat) (ws : List (List UInt8)) (Q : List Nat) : List AObj := [.box [.p (.int .i64 q), .p (.sl (ws.map .str))], .mp (qmE (fun v => keyS (stN ws q v)) Q), .row 143 2 (Q.map (nodN ws q)) .lax]
def seR (q : Nat) (r : Option Nat) : List UInt8 := match r with
  | some v => wn q v
  | none => []
theorem st_root {q : Nat} {ws : List (List UInt8)} (hv : Valid q ws) : stN ws q 0 ≠ [] := by
  intro e
  have hp := hv.pos
  have : ws[0] ∈ stN ws q 0 := by
    refine mem_canL.2 (List.mem_flatMap.2 ⟨ws[0], List.getElem_mem hp, Mc.mem_ends.2 (List.suffix_refl _)⟩)
  rw [e] at this
  cases this
end Go.Proofs.YtpljmccnfmkmfaaGreat
end

section
namespace Go.Proofs.YtpljmccnfmkmfaaGreat
open Go Go.AM Go.Mc

/-! ### plain: a list without repetitions -/
def addU (o : List (List UInt8)) (s : List UInt8) : List (List UInt8) := if s ∈ o then o else o ++ [s]
theorem addU_mem {o : List (List UInt8)} {s x : List UInt8} : x ∈ addU o s ↔ x ∈ o ∨ x = s := by
  unfold addU
  split
  · rename_i h
    exact ⟨.inl, fun h2 => h2.elim id fun e => e ▸ h⟩
  · simp
theorem addU_nodup {o : List (List UInt8)} {s : List UInt8} (h : o.Nodup) : (addU o s).Nodup := by
  unfold addU
  split
  · exact h
  · rename_i h2
    refine List.nodup_append.2 ⟨h, by simp, fun a ha b hb e => ?_⟩
    rw [List.mem_singleton.1 hb] at e
    exact h2 (e ▸ ha)
theorem addU_len (o : List (List UInt8)) (s : List UInt8) : (addU o s).length ≤ o.length + 1 := by
  unfold addU; split <;> simp
theorem foldU_mem {x : List UInt8} : ∀ {l o : List (List UInt8)}, x ∈ l.foldl addU o ↔ x ∈ o ∨ x ∈ l
  | [], o => by simp
  | s :: l, o => by rw [List.foldl_cons, foldU_mem, addU_mem, List.mem_cons]; simp only [or_assoc]
theorem foldU_nodup : ∀ {l o : List (List UInt8)}, o.Nodup → (l.foldl addU o).Nodup
  | [], _, h => h
  | s :: l, o, h => by rw [List.foldl_cons]; exact foldU_nodup (addU_nodup h)
theorem foldU_len : ∀ (l o : List (List UInt8)), (l.foldl addU o).length ≤ o.length + l.length
  | [], o => by simp
  | s :: l, o => by
    rw [List.foldl_cons]
    have := foldU_len l (addU o s)
    have := addU_len o s
    simp only [List.length_cons]; omega

theorem h152 (a : List (List UInt8)) (x : List UInt8) (hl : a.length ≤ 1000000000) : PFn Tryz.prog 152 [.sl (a.map .str), .str x] [.bool (decide (x ∈ a))] := by
  refine PFn.of_body hΓ Tryz.func152 (by kernel_rfl) rfl (AWp.of_awpD [] hΓ hmix (by kernel_rfl) ?_)
  simp -implicitDefEqProofs only [Tryz.ntmps152, Tryz.results152, Nat.reduceAdd, Nat.reduceSub, go_sem]
  refine AWp.loopI (fun k : Nat => ⟨mkF 18 [(0, .p (.sl (a.map .str))), (1, .p (.str x)), (5, .p (.int .i64 k))], []⟩)
    (fun k => k ≤ a.length ∧ x ∉ a.take k) (fun k => a.length - k) 0 (by simp [go_sem, weakH_self]) (by simp) ?_
  rintro k ⟨hk, h0⟩
  refine AWp.of_awpD [] hΓ hmix (by kernel_rfl) ?_
  by_cases hlt : k < a.length
  · have hlt' : (k : Int) < (a.length : Int) := by omega
    have hg : (a.map PV.str).getD k default = .str a[k] := getD_map_lt _ _ _ _ hlt
    have htk : a.take (k + 1) = a.take k ++ [a[k]] := by rw [List.take_succ_eq_append_getElem hlt]
    by_cases he : a[k] = x
    · simp -implicitDefEqProofs only [hlt', hg, Int.toNat_natCast, he, List.length_map, go_sem]
      have hx : x ∈ a := he ▸ List.getElem_mem hlt
      simp -implicitDefEqProofs only [hx, go_sem]
    · simp -implicitDefEqProofs only [hlt', hg, Int.toNat_natCast, he, List.length_map, go_sem]
      have h2 : x ∉ a.take (k + 1) := by
        rw [htk]; simp only [List.mem_append, List.mem_singleton]
        exact fun h => h.elim h0 fun e => he e.symm
      exact ⟨by simp only [InR]; omega, k + 1, by simp, ⟨hlt, h2⟩, by omega⟩
  · have hlt' : ¬ (k : Int) < (a.length : Int) := by omega
    rw [List.take_of_length_le (by omega)] at h0
    simp -implicitDefEqProofs only [hlt', h0, List.length_map, go_sem]

def SameL (a b : List (List UInt8)) : Prop := a.length = b.length ∧ ∀ x ∈ a, x ∈ b
instance (a b : List (List UInt8)) : Decidable (SameL a b) := by unfold SameL; exact inferInstance
theorem h144 (a b : List (List UInt8)) (ha : a.length ≤ 1000000000) (hb : b.length ≤ 1000000000) : PFn Tryz.prog 144 [.sl (a.map .str), .sl (b.map .str)] [.bool (decide (SameL a b))] := by
  refine PFn.of_body hΓ Tryz.func144 (by kernel_rfl) rfl (AWp.seq (AWp.of_awpD [] hΓ hmix (by kernel_rfl) ?_))
  simp -implicitDefEqProofs only [Tryz.ntmps144, Tryz.results144, Nat.reduceAdd, Nat.reduceSub, go_sem]
  refine AWp.seq (AWp.of_awpD [] hΓ hmix (by kernel_rfl) ?_)
  by_cases hl : a.length = b.length
  rotate_left
  · have hl' : ¬ (a.length : Int) = (b.length : Int) := by omega
    have hn : ¬ SameL a b := fun h => hl h.1
    simp -implicitDefEqProofs only [hl', hn, List.length_map, go_sem]
  have hl' : (a.length : Int) = (b.length : Int) := by omega
  simp -implicitDefEqProofs only [hl', List.length_map, go_sem]
  refine AWp.seq (AWp.of_awpD [] hΓ hmix (by kernel_rfl) ?_)
  simp -implicitDefEqProofs only [go_sem]
  refine AWp.loopI (fun k : Nat => ⟨mkF 24 [(0, .p (.sl (a.map .str))), (1, .p (.sl (b.map .str))), (5, .p (.int .i64 k))], []⟩)
    (fun k => k ≤ a.length ∧ ∀ x ∈ a.take k, x ∈ b) (fun k => a.length - k) 0 (by simp [go_sem, weakH_self]) (by simp) ?_
  rintro k ⟨hk, h0⟩
  refine AWp.of_awpD [] hΓ hmix (by kernel_rfl) ?_
  by_cases hlt : k < a.length
  · have hlt' : (k : Int) < (a.length : Int) := by omega
    have hg : (a.map PV.str).getD k default = .str a[k] := getD_map_lt _ _ _ _ hlt
    simp -implicitDefEqProofs only [hlt', hg, Int.toNat_natCast, List.length_map, go_sem]
    refine callK_fn (h152 b a[k] hb) (.pures rfl) ?_
    by_cases hin : a[k] ∈ b
    · simp -implicitDefEqProofs only [hin, go_sem]
      refine ⟨by simp only [InR]; omega, k + 1, by simp, ⟨hlt, fun x hx => ?_⟩, by omega⟩
      rw [List.take_succ_eq_append_getElem hlt, List.mem_append, List.mem_singleton] at hx
      exact hx.elim (h0 x) fun e => e ▸ hin
    · have hn : ¬ SameL a b := fun h => hin (h.2 _ (List.getElem_mem hlt))
      simp -implicitDefEqProofs only [hin, hn, go_sem]
  · have hlt' : ¬ (k : Int) < (a.length : Int) := by omega
    rw [List.take_of_length_le (by omega)] at h0
    have hs : SameL a b := ⟨hl, h0⟩
    simp -implicitDefEqProofs only [hlt', hs, List.length_map, go_sem]
    refine AWp.of_awpD [] hΓ hmix (by kernel_rfl) ?_
    simp -implicitDefEqProofs only [go_sem]

def dropsW (w : List UInt8) : List (List UInt8) := (List.range w.length).map fun k => w.drop k
def startL (ws : List (List UInt8)) : List (List UInt8) := (ws.flatMap dropsW).foldl addU [[]]
def stI (ws : List (List UInt8)) (i : Nat) : List (List UInt8) := ((ws.take i).flatMap dropsW).foldl addU [[]]
def stK (ws : List (List UInt8)) (i : Nat) (w : List UInt8) (k : Nat) : List (List UInt8) := ((List.range k).map fun j => w.drop j).foldl addU (stI ws i)
theorem stI_succ {ws : List (List UInt8)} {i : Nat} (hi : i < ws.length) : stI ws (i + 1) = stK ws i ws[i] ws[i].length := by
  unfold stI stK dropsW
  rw [List.take_succ_eq_append_getElem hi, List.flatMap_append, List.foldl_append]
  simp only [List.flatMap_cons, List.flatMap_nil, List.append_nil]
  rfl
theorem stK_succ {ws : List (List UInt8)} {i : Nat} (w : List UInt8) (k : Nat) : stK ws i w (k + 1) = addU (stK ws i w k) (w.drop k) := by
  unfold stK
  rw [List.range_succ, List.map_append, List.foldl_append]; rfl
theorem stK_len {ws : List (List UInt8)} {i : Nat} (w : List UInt8) (k : Nat) : (stK ws i w k).length ≤ (stI ws i).length + k := by
  unfold stK
  have := foldU_len ((List.range k).map fun j => w.drop j) (stI ws i)
  simpa using this
theorem stI_len {ws : List (List UInt8)} (hw : ∀ x ∈ ws, x.length ≤ 32) : ∀ i, i ≤ ws.length → (stI ws i).length ≤ 1 + 32 * i
  | 0, _ => by simp [stI]
  | i + 1, h => by
    have h1 := stI_len hw i (by omega)
    have h2 := hw ws[i] (List.getElem_mem (by omega))
    have h3 := stK_len (ws := ws) (i := i) ws[i] ws[i].length
    rw [stI_succ (by omega)]; omega
theorem mem_startL {ws : List (List UInt8)} (hp : ws ≠ []) {x : List UInt8} : x ∈ startL ws ↔ x ∈ begL ws := by
  unfold startL begL
  rw [foldU_mem, List.mem_flatMap, List.mem_flatMap]
  constructor
  · rintro (h | ⟨w, hw, h⟩)
    · obtain ⟨w, r, rfl⟩ := List.exists_cons_of_ne_nil hp
      exact ⟨w, by simp, by rw [List.mem_singleton.1 h]; exact mem_ends.2 (List.nil_suffix)⟩
    · refine ⟨w, hw, mem_ends.2 ?_⟩
      unfold dropsW at h
      obtain ⟨k, _, rfl⟩ := List.mem_map.1 h
      exact List.drop_suffix k w
  · rintro ⟨w, hw, h⟩
    obtain ⟨p, rfl⟩ := mem_ends.1 h
    rcases List.eq_nil_or_concat x with h0 | ⟨y, c, h0⟩
    · left; subst h0; simp
    · right
      refine ⟨_, hw, ?_⟩
      unfold dropsW
      refine List.mem_map.2 ⟨p.length, List.mem_range.2 ?_, List.drop_left⟩
      rw [List.length_append, h0]; simp
theorem startL_nodup (ws : List (List UInt8)) : (startL ws).Nodup := foldU_nodup (by simp)

theorem h89 (q : Int) (ws : List (List UInt8)) (hv : Valid q ws) : PFn Tryz.prog 89 [codeV q ws] [.sl ((startL ws).map .str)] := by
  have hlen := hv.len
  have hw32 : ∀ x ∈ ws, x.length ≤ 32 := fun x hx => (hv.words x hx).2.1
  refine PFn.of_body hΓ Tryz.func89 (by kernel_rfl) rfl (AWp.seq (AWp.of_awpD [] hΓ hmix (by kernel_rfl) ?_))
  simp -implicitDefEqProofs only [Tryz.ntmps89, Tryz.results89, Nat.reduceAdd, Nat.reduceSub, codeV, go_sem]
  refine AWp.seq (AWp.of_awpD [] hΓ hmix (by kernel_rfl) ?_)
  simp -implicitDefEqProofs only [go_sem]
  refine ⟨by simp [sizeOK, PV.cells], ?_⟩
  refine AWp.adopt (l := [.str []]) 3 9 1 (by rfl) (by simp [PV.cells]) ?_
  simp -implicitDefEqProofs only [go_sem]
  refine AWp.seq (AWp.of_awpD [] hΓ hmix (by kernel_rfl) ?_)
  simp -implicitDefEqProofs only [go_sem]
  refine AWp.loopI (fun i : Nat => ⟨mkF 41 [(1, .ptr 0 0), (3, .own 1 (stI ws i).length), (4, .p (.int .i64 i))], [.box [.p (.int .i64 q), .p (.sl (ws.map .str))], .row 9 1 ((stI ws i).map .str) .lax]⟩)
    (fun i => i ≤ ws.length) (fun i => ws.length - i) 0 (by simp [go_sem, stI, weakH_self]) (by simp) ?_
  intro i hi
  have hiL := stI_len hw32 i hi
  refine AWp.of_awpD [] hΓ hmix (by kernel_rfl) ?_
  by_cases hlt : i < ws.length
  rotate_left
  · have hlt' : ¬ (i : Int) < (ws.length : Int) := by omega
    have hst : stI ws i = startL ws := by unfold stI startL; rw [List.take_of_length_le (by omega)]
    simp -implicitDefEqProofs only [hlt', List.length_map, hst, go_sem]
    refine AWp.of_awpD [] hΓ hmix (by kernel_rfl) ?_
    simp -implicitDefEqProofs only [go_sem]
  have hlt' : (i : Int) < (ws.length : Int) := by omega
  have hw := hw32 ws[i] (List.getElem_mem hlt)
  simp -implicitDefEqProofs only [hlt', List.length_map, go_sem]
  refine AWp.loopI (fun k : Nat => ⟨mkF 41 [(1, .ptr 0 0), (3, .own 1 (stK ws i ws[i] k).length), (4, .p (.int .i64 i)), (5, .p (.int .i64 k))], [.box [.p (.int .i64 q), .p (.sl (ws.map .str))], .row 9 1 ((stK ws i ws[i] k).map .str) .lax]⟩)
    (fun k => k ≤ ws[i].length) (fun k => ws[i].length - k) 0 (by simp [go_sem, stK, weakH_self]) (by simp) ?_
  intro k hk
  have hkL := stK_len (ws := ws) (i := i) ws[i] k
  have hg : (ws.map PV.str).getD i default = .str ws[i] := getD_map_lt _ _ _ _ hlt
  refine AWp.of_awpD [] hΓ hmix (by kernel_rfl) ?_
  by_cases hkl : k < ws[i].length
  rotate_left
  · have hkl' : ¬ (k : Int) < (ws[i].length : Int) := by omega
    have hkk : k = ws[i].length := by omega
    subst hkk
    have hs := stI_succ hlt
    simp -implicitDefEqProofs only [hlt', hg, Int.toNat_natCast, hkl', List.length_map, go_sem]
    exact ⟨by simp only [InR]; omega, i + 1, ⟨by rw [hs]; simp, by rw [hs]⟩, by omega, by omega⟩
  have hkl' : (k : Int) < (ws[i].length : Int) := by omega
  have hs := stK_succ (ws := ws) (i := i) ws[i] k
  simp -implicitDefEqProofs only [hlt', hg, Int.toNat_natCast, hkl', List.length_map, go_sem]
  refine ⟨by omega, ?_⟩
  refine callK_fn (h152 (stK ws i ws[i] k) (ws[i].drop k) (by omega)) (.owned rfl rfl) ?_
  by_cases hin : ws[i].drop k ∈ stK ws i ws[i] k
  · have hs : stK ws i ws[i] (k + 1) = stK ws i ws[i] k := by rw [hs]; exact if_pos hin
    simp -implicitDefEqProofs only [hin, go_sem]
    exact ⟨by simp only [InR]; omega, k + 1, ⟨⟨by rw [hs], by simp⟩, by rw [hs]⟩, by omega, by omega⟩
  · have hs : stK ws i ws[i] (k + 1) = stK ws i ws[i] k ++ [ws[i].drop k] := by rw [hs]; exact if_neg hin
    simp -implicitDefEqProofs only [hin, go_sem]
    have hs1 : sizeOK [PV.str (ws[i].drop k)] 1 := by simp [sizeOK, PV.cells]
    have ho1 : oneOK [PV.str (ws[i].drop k)] := by simp [oneOK, PV.cells, PV.isAgg]
    refine ⟨⟨hs1, by omega⟩, ⟨hs1, ho1⟩, ⟨by simp, by omega, by omega⟩, by simp only [InR]; omega, k + 1, ⟨⟨by rw [hs]; simp, by simp⟩, by rw [hs]; simp⟩, by omega, by omega⟩
end Go.Proofs.YtpljmccnfmkmfaaGreat
end

section
namespace Go.Proofs.YtpljmccnfmkmfaaGreat
open Go Go.AM Go.Mc

theorem nodup_lenM {α : Type} [DecidableEq α] : ∀ {l m : List α}, l.Nodup → (∀ a ∈ l, a ∈ m) → l.length ≤ m.length
  | [], _, _, _ => by simp
  | a :: l, m, h, hs => by
    rw [List.nodup_cons] at h
    have ha : a ∈ m := hs a (by simp)
    have h2 := nodup_lenM (l := l) (m := m.erase a) h.2 (fun b hb => by
      have hne : b ≠ a := fun e => h.1 (e ▸ hb)
      exact (List.mem_erase_of_ne hne).2 (hs b (by simp [hb])))
    have h3 := List.length_erase_of_mem ha
    have h4 : 0 < m.length := List.length_pos_of_mem ha
    simp; omega
theorem canL_ext {l m : List (List UInt8)} (h : ∀ x, x ∈ l ↔ x ∈ m) : canL l = canL m := canL_of (canL_strict m) fun x => (h x).trans mem_canL.symm
theorem canL_mem {l m : List (List UInt8)} (h : canL l = canL m) (x : List UInt8) : x ∈ l ↔ x ∈ m := by rw [← mem_canL, h, mem_canL]
theorem canL_nil {l : List (List UInt8)} : canL l = [] ↔ l = [] := by
  constructor
  · intro h
    cases l with
    | nil => rfl
    | cons a l => have : a ∈ canL (a :: l) := mem_canL.2 (by simp); rw [h] at this; cases this
  · rintro rfl
    cases h : canL [] with
    | nil => rfl
    | cons a l => have : a ∈ canL [] := by rw [h]; simp
                  cases mem_canL.1 this
theorem same_iff {a b : List (List UInt8)} (ha : a.Nodup) (hb : b.Nodup) : SameL a b ↔ canL a = canL b := by
  constructor
  · rintro ⟨h1, h2⟩
    refine canL_ext fun x => ⟨h2 x, fun hx => Classical.byContradiction fun hn => ?_⟩
    have h3 := nodup_lenM ha (m := b.erase x) fun y hy => (List.mem_erase_of_ne (fun e => hn (by rw [← e]; exact hy))).2 (h2 y hy)
    have h4 := List.length_erase_of_mem hx
    have h5 : 0 < b.length := List.length_pos_of_mem hx
    omega
  · intro h
    have hm := canL_mem h
    exact ⟨Nat.le_antisymm (nodup_lenM ha fun x hx => (hm x).1 hx) (nodup_lenM hb fun x hx => (hm x).2 hx), fun x hx => (hm x).1 hx⟩

def readL (ws S : List (List UInt8)) (c : UInt8) : List (List UInt8) := (rdS ws S c).foldl addU []
theorem mem_readL {ws S : List (List UInt8)} {c : UInt8} {x : List UInt8} : x ∈ readL ws S c ↔ x ∈ rdS ws S c := by unfold readL; rw [foldU_mem]; simp
theorem readL_nodup (ws S : List (List UInt8)) (c : UInt8) : (readL ws S c).Nodup := foldU_nodup (by simp)
theorem rdS_ext {ws S T : List (List UInt8)} (h : ∀ x, x ∈ S ↔ x ∈ T) (c : UInt8) (x : List UInt8) : x ∈ rdS ws S c ↔ x ∈ rdS ws T c := by
  unfold rdS
  rw [List.mem_append, List.mem_append, mem_tails, mem_tails, h]
  simp only [h]
theorem readL_canL {ws S : List (List UInt8)} {c : UInt8} : canL (readL ws S c) = canL (rdS ws (canL S) c) := canL_ext fun x => mem_readL.trans (rdS_ext (fun _ => mem_canL.symm) c x)

def FewS (ws : List (List UInt8)) (q : Nat) : Prop := ∃ T : List (List (List UInt8)), T.length ≤ 300 ∧ ∀ v, stN ws q v = [] ∨ stN ws q v ∈ T

structure ManyI (ws : List (List UInt8)) (q : Nat) (sets : List (List (List UInt8))) (i a : Nat) : Prop where
  nd : ∀ s ∈ sets, s.Nodup
  reach : ∀ s ∈ sets, ∃ v, canL s = stN ws q v ∧ stN ws q v ≠ []
  dist : sets.Pairwise fun s t => canL s ≠ canL t
  root : ∃ s ∈ sets, canL s = stN ws q 0
  closed : ∀ k b, (hk : k < sets.length) → b < q → (k < i ∨ k = i ∧ b < a) → canL (readL ws sets[k] (Kn.ltr b)) = [] ∨ ∃ s ∈ sets, canL s = canL (readL ws sets[k] (Kn.ltr b))
theorem read_st {ws : List (List UInt8)} {q : Nat} (hq : 0 < q) {s : List (List UInt8)} {v b : Nat} (hb : b < q) (h : canL s = stN ws q v) : canL (readL ws s (Kn.ltr b)) = stN ws q (v * q + b + 1) := by
  rw [readL_canL, stN_succ hq v b hb, h]
theorem ManyI.start {ws : List (List UInt8)} {q : Nat} (hp : ws ≠ []) : ManyI ws q [startL ws] 0 0 := by
  have h0 : canL (startL ws) = stN ws q 0 := canL_ext fun x => mem_startL hp
  have hne : stN ws q 0 ≠ [] := by
    rw [← h0]
    intro e
    have h1 := canL_nil.1 e
    have : ([] : List UInt8) ∈ startL ws := foldU_mem.2 (.inl (by simp))
    rw [h1] at this
    cases this
  exact { nd := fun s hs => by rw [List.mem_singleton.1 hs]; exact startL_nodup ws
          reach := fun s hs => ⟨0, by rw [List.mem_singleton.1 hs, h0], hne⟩
          dist := by simp
          root := ⟨_, by simp, h0⟩
          closed := fun k b hk hb h => by omega }
theorem ManyI.skip {ws : List (List UInt8)} {q : Nat} {sets : List (List (List UInt8))} {i a : Nat} (M : ManyI ws q sets i a) (hi : i < sets.length)
    (h : readL ws sets[i] (Kn.ltr a) = [] ∨ ∃ s ∈ sets, SameL s (readL ws sets[i] (Kn.ltr a))) : ManyI ws q sets i (a + 1) :=
  { M with
    closed := fun k b hk hb h2 => by
      by_cases e : k = i ∧ b = a
      · obtain ⟨e1, e2⟩ := e
        subst e1 e2
        rcases h with h | ⟨s, hs, h⟩
        · exact .inl (canL_nil.2 h)
        · exact .inr ⟨s, hs, (same_iff (M.nd s hs) (readL_nodup _ _ _)).1 h⟩
      · exact M.closed k b hk hb (by omega) }
theorem ManyI.add {ws : List (List UInt8)} {q : Nat} (hq : 0 < q) {sets : List (List (List UInt8))} {i a : Nat} (M : ManyI ws q sets i a) (hi : i < sets.length) (ha : a < q)
    (h0 : readL ws sets[i] (Kn.ltr a) ≠ []) (h : ∀ s ∈ sets, ¬ SameL s (readL ws sets[i] (Kn.ltr a))) : ManyI ws q (sets ++ [readL ws sets[i] (Kn.ltr a)]) i (a + 1) where
  nd := fun s hs => by
    rcases List.mem_append.1 hs with hs | hs
    · exact M.nd s hs
    · rw [List.mem_singleton.1 hs]; exact readL_nodup _ _ _
  reach := fun s hs => by
    rcases List.mem_append.1 hs with hs | hs
    · exact M.reach s hs
    · rw [List.mem_singleton.1 hs]
      obtain ⟨v, hv, _⟩ := M.reach _ (List.getElem_mem hi)
      have e := read_st hq ha hv
      exact ⟨_, e, by rw [← e]; exact fun e2 => h0 (canL_nil.1 e2)⟩
  dist := List.pairwise_append.2 ⟨M.dist, by simp, fun x hx y hy => by
    rw [List.mem_singleton.1 hy]
    exact fun e => h x hx ((same_iff (M.nd x hx) (readL_nodup _ _ _)).2 e)⟩
  root := by obtain ⟨s, hs, h⟩ := M.root; exact ⟨s, List.mem_append_left _ hs, h⟩
  closed := fun k b hk hb h2 => by
    have hkQ : k < sets.length := by omega
    have e0 : (sets ++ [readL ws sets[i] (Kn.ltr a)])[k] = sets[k] := List.getElem_append_left hkQ
    rw [e0]
    by_cases e : k = i ∧ b = a
    · obtain ⟨e1, e2⟩ := e
      subst e1 e2
      exact .inr ⟨_, List.mem_append_right _ (List.mem_singleton.2 rfl), rfl⟩
    · rcases M.closed k b hkQ hb (by omega) with h3 | ⟨s, hs, h3⟩
      · exact .inl h3
      · exact .inr ⟨s, List.mem_append_left _ hs, h3⟩
theorem ManyI.next {ws : List (List UInt8)} {q : Nat} {sets : List (List (List UInt8))} {i : Nat} (M : ManyI ws q sets i q) : ManyI ws q sets (i + 1) 0 :=
  { M with closed := fun k b hk hb h2 => M.closed k b hk hb (by omega) }
theorem ManyI.few {ws : List (List UInt8)} {q : Nat} (hq : 0 < q) {sets : List (List (List UInt8))} (M : ManyI ws q sets sets.length 0) (hl : sets.length ≤ 300) : FewS ws q := by
  refine ⟨sets.map canL, by simpa using hl, fun v => ?_⟩
  induction v using Nat.strongRecOn with
  | _ v ih =>
    rcases num_cases hq v with h | ⟨u, b, hb, rfl, hu⟩
    · subst h
      obtain ⟨s, hs, h⟩ := M.root
      exact .inr (List.mem_map.2 ⟨s, hs, h⟩)
    · rcases ih u hu with h | h
      · left
        rw [stN_succ hq u b hb, h]
        exact canL_nil.2 rfl
      · obtain ⟨s, hs, h⟩ := List.mem_map.1 h
        obtain ⟨k, hk, rfl⟩ := List.getElem_of_mem hs
        rw [← read_st hq hb h]
        rcases M.closed k b hk hb (.inl hk) with h2 | ⟨t, ht, h2⟩
        · exact .inl h2
        · exact .inr (List.mem_map.2 ⟨t, ht, h2⟩)
theorem ManyI.many {ws : List (List UInt8)} {q : Nat} {sets : List (List (List UInt8))} {i a : Nat} (M : ManyI ws q sets i a) (hl : 300 < sets.length) : ¬ FewS ws q := by
  rintro ⟨T, hT, h⟩
  have h1 : (sets.map canL).Nodup := List.pairwise_map.2 M.dist
  have h2 := nodup_lenM h1 (m := T) fun s hs => by
    obtain ⟨t, ht, rfl⟩ := List.mem_map.1 hs
    obtain ⟨v, hv, hne⟩ := M.reach t ht
    rw [hv]
    exact (h v).resolve_left hne
  rw [List.length_map] at h2
  omega
theorem few_queue {ws : List (List UInt8)} {q : Nat} (hF : FewS ws q) {Q : List Nat} {i a : Nat} (B : Bfs q (stN ws q) (fun S => S = []) Q i a) : Q.length ≤ 300 := by
  obtain ⟨T, hT, h⟩ := hF
  have h1 : (Q.map (stN ws q)).Nodup := List.pairwise_map.2 B.dist
  have h2 := nodup_lenM h1 (m := T) fun s hs => by
    obtain ⟨v, hv, rfl⟩ := List.mem_map.1 hs
    exact (h v).resolve_left (B.alive v hv)
  rw [List.length_map] at h2
  omega
end Go.Proofs.YtpljmccnfmkmfaaGreat
end

section
namespace Go.Proofs.YtpljmccnfmkmfaaGreat
open Go Go.AM Go.Mc

def r1S (S : List (List UInt8)) (c : UInt8) (i : Nat) : List (List UInt8) := (tails c (S.take i)).foldl addU []
def r2S (ws S : List (List UInt8)) (c : UInt8) (k : Nat) : List (List UInt8) := (tails c S ++ tails c (ws.take k)).foldl addU []
theorem r1S_succ {S : List (List UInt8)} {c : UInt8} {i : Nat} (hi : i < S.length) : r1S S c (i + 1) = (tl1 c S[i]).foldl addU (r1S S c i) := by
  unfold r1S; rw [tails_succ hi, List.foldl_append]
theorem r2S_succ {ws S : List (List UInt8)} {c : UInt8} {k : Nat} (hk : k < ws.length) : r2S ws S c (k + 1) = (tl1 c ws[k]).foldl addU (r2S ws S c k) := by
  unfold r2S; rw [tails_succ hk, ← List.append_assoc, List.foldl_append]
theorem r1S_len (S : List (List UInt8)) (c : UInt8) (i : Nat) : (r1S S c i).length ≤ S.length := by
  unfold r1S
  have h1 := foldU_len (tails c (S.take i)) []
  have h2 := tails_len c (S.take i)
  rw [List.length_take] at h2
  simp only [List.length_nil] at h1
  omega
theorem r2S_len (ws S : List (List UInt8)) (c : UInt8) (k : Nat) : (r2S ws S c k).length ≤ S.length + ws.length := by
  unfold r2S
  have h1 := foldU_len (tails c S ++ tails c (ws.take k)) []
  have h2 := tails_len c (ws.take k)
  have h3 := tails_len c S
  rw [List.length_take] at h2
  rw [List.length_append] at h1
  simp only [List.length_nil] at h1
  omega

theorem h90 (q : Int) (ws S : List (List UInt8)) (c : UInt8) (hv : Valid q ws) (hS : S.length ≤ 1000000) :
    PFn Tryz.prog 90 [codeV q ws, .sl (S.map .str), .int .u8 c.toNat] [.sl ((readL ws S c).map .str)] := by
  have hlen := hv.len
  have hne : ∀ x ∈ ws, x ≠ [] := fun x hx e => by have := (hv.words x hx).1; rw [e] at this; simp at this
  refine PFn.of_body hΓ Tryz.func90 (by kernel_rfl) rfl (AWp.seq (AWp.of_awpD [] hΓ hmix (by kernel_rfl) ?_))
  simp -implicitDefEqProofs only [Tryz.ntmps90, Tryz.results90, Nat.reduceAdd, Nat.reduceSub, codeV, go_sem]
  refine AWp.seq (AWp.of_awpD [] hΓ hmix (by kernel_rfl) ?_)
  simp -implicitDefEqProofs only [go_sem]
  refine ⟨by simp [sizeOK], ?_⟩
  refine AWp.adopt (l := []) 7 9 1 (by rfl) (by simp) ?_
  simp -implicitDefEqProofs only [go_sem]
  refine AWp.seq (AWp.seq (AWp.of_awpD [] hΓ hmix (by kernel_rfl) ?_))
  simp -implicitDefEqProofs only [go_sem]
  refine AWp.block ?_
  refine AWp.loopI (fun i : Nat => ⟨mkF 89 [(1, .p (.sl (S.map .str))), (2, .p (.int .u8 c.toNat)), (3, .ptr 0 0), (7, .own 1 (r1S S c i).length), (8, .p (.int .i64 i))], [.box [.p (.int .i64 q), .p (.sl (ws.map .str))], .row 9 1 ((r1S S c i).map .str) .lax]⟩)
    (fun i => i ≤ S.length) (fun i => S.length - i) 0 (by simp [go_sem, r1S, tails, weakH_self]) (by simp) ?_
  intro i hi
  have hoL := r1S_len S c i
  refine AWp.of_awpD [] hΓ hmix (by kernel_rfl) ?_
  by_cases hlt : i < S.length
  · have hlt' : (i : Int) < (S.length : Int) := by omega
    have hg : (S.map PV.str).getD i default = .str S[i] := getD_map_lt _ _ _ _ hlt
    have hs := r1S_succ (c := c) hlt
    by_cases hx0 : S[i] = []
    · rw [hx0] at hg hs
      have hs : r1S S c (i + 1) = r1S S c i := hs
      simp -implicitDefEqProofs only [hlt', hg, Int.toNat_natCast, List.length_map, go_sem]
      exact ⟨by simp only [InR]; omega, i + 1, ⟨⟨by rw [hs], by simp⟩, by rw [hs]⟩, by omega, by omega⟩
    obtain ⟨d, y, hx⟩ := List.exists_cons_of_ne_nil hx0
    rw [hx] at hg hs
    rw [tl1_cons] at hs
    have hg0 : (d :: y).getD (Int.toNat 0) 0 = d := rfl
    have hd1 : List.drop (Int.toNat 1) (d :: y) = y := rfl
    have hp : 0 < (((y.length + 1 : Nat)) : Int) := by omega
    by_cases hd : d = c
    · subst hd
      rw [if_pos rfl] at hs
      simp -implicitDefEqProofs only [hlt', hg, Int.toNat_natCast, List.length_cons, hg0, hp, hd1, List.length_map, go_sem]
      refine ⟨⟨by omega, by omega⟩, ?_⟩
      refine callK_fn (h152 (r1S S d i) y (by omega)) (.owned rfl rfl) ?_
      have hs : r1S S d (i + 1) = addU (r1S S d i) y := hs
      by_cases hin : y ∈ r1S S d i
      · have hs : r1S S d (i + 1) = r1S S d i := hs.trans (if_pos hin)
        simp -implicitDefEqProofs only [hin, go_sem]
        exact ⟨by simp only [InR]; omega, i + 1, ⟨⟨by rw [hs], by simp⟩, by rw [hs]⟩, by omega, by omega⟩
      · have hs : r1S S d (i + 1) = r1S S d i ++ [y] := hs.trans (if_neg hin)
        simp -implicitDefEqProofs only [hin, hlt', hg, Int.toNat_natCast, List.length_cons, hp, hd1, List.length_map, go_sem]
        have hs1 : sizeOK [PV.str y] 1 := by simp [sizeOK, PV.cells]
        have ho1 : oneOK [PV.str y] := by simp [oneOK, PV.cells, PV.isAgg]
        exact ⟨⟨by omega, by omega⟩, ⟨hs1, by omega⟩, ⟨hs1, ho1⟩, ⟨by simp, by omega, by omega⟩, by simp only [InR]; omega, i + 1, ⟨⟨by rw [hs]; simp, by simp⟩, by rw [hs]; simp⟩, by omega, by omega⟩
    · rw [if_neg hd] at hs
      have hs : r1S S c (i + 1) = r1S S c i := hs
      have hdc : ¬ d.toNat = c.toNat := fun e => hd (UInt8.toNat_inj.1 e)
      simp -implicitDefEqProofs only [hlt', hg, Int.toNat_natCast, List.length_cons, hg0, hp, hdc, List.length_map, go_sem]
      exact ⟨by simp only [InR]; omega, i + 1, ⟨⟨by rw [hs], by simp⟩, by rw [hs]⟩, by omega, by omega⟩
  have hlt' : ¬ (i : Int) < (S.length : Int) := by omega
  have h0 : r1S S c i = r2S ws S c 0 := by unfold r1S r2S; rw [List.take_of_length_le (by omega)]; simp [tails]
  rw [h0]
  simp -implicitDefEqProofs only [hlt', List.length_map, go_sem]
  refine AWp.seq (AWp.seq (AWp.of_awpD [] hΓ hmix (by kernel_rfl) ?_))
  simp -implicitDefEqProofs only [go_sem]
  refine AWp.block ?_
  refine AWp.loopI (fun k : Nat => ⟨mkF 89 [(1, .p (.sl (S.map .str))), (2, .p (.int .u8 c.toNat)), (3, .ptr 0 0), (7, .own 1 (r2S ws S c k).length), (9, .p (.int .i64 k))], [.box [.p (.int .i64 q), .p (.sl (ws.map .str))], .row 9 1 ((r2S ws S c k).map .str) .lax]⟩)
    (fun k => k ≤ ws.length ∧ ([] ∈ S ∨ k = 0)) (fun k => ws.length - k) 0 (by simp [go_sem, weakH_self]) (by simp) ?_
  rintro k ⟨hk, hin0⟩
  have hoL := r2S_len ws S c k
  have hpos := hv.pos
  refine AWp.of_awpD [] hΓ hmix (by kernel_rfl) ?_
  by_cases hkl : k < ws.length
  rotate_left
  · have hkl' : ¬ (k : Int) < (ws.length : Int) := by omega
    have hkk : k = ws.length := by omega
    have hS0 : [] ∈ S := hin0.resolve_right (by omega)
    have hr : r2S ws S c k = readL ws S c := by unfold r2S readL rdS; rw [if_pos hS0, List.take_of_length_le (by omega)]
    simp -implicitDefEqProofs only [hkl', List.length_map, hr, go_sem]
    refine AWp.of_awpD [] hΓ hmix (by kernel_rfl) ?_
    simp -implicitDefEqProofs only [go_sem]
  have hkl' : (k : Int) < (ws.length : Int) := by omega
  simp -implicitDefEqProofs only [hkl', List.length_map, go_sem]
  refine callK_fn (h152 S [] (by omega)) (.pures rfl) ?_
  by_cases hS0 : [] ∈ S
  rotate_left
  · have hk0 : k = 0 := hin0.resolve_left hS0
    subst hk0
    have hr : r2S ws S c 0 = readL ws S c := by unfold r2S readL rdS; rw [if_neg hS0]; rfl
    simp -implicitDefEqProofs only [hS0, hr, go_sem]
    refine AWp.of_awpD [] hΓ hmix (by kernel_rfl) ?_
    simp -implicitDefEqProofs only [go_sem]
  have hg : (ws.map PV.str).getD k default = .str ws[k] := getD_map_lt _ _ _ _ hkl
  have hs := r2S_succ (S := S) (c := c) hkl
  obtain ⟨d, y, hx⟩ := List.exists_cons_of_ne_nil (hne ws[k] (List.getElem_mem hkl))
  rw [hx] at hg hs
  rw [tl1_cons] at hs
  have hg0 : (d :: y).getD (Int.toNat 0) 0 = d := rfl
  have hd1 : List.drop (Int.toNat 1) (d :: y) = y := rfl
  have hp : 0 < (((y.length + 1 : Nat)) : Int) := by omega
  by_cases hd : d = c
  · subst hd
    rw [if_pos rfl] at hs
    simp -implicitDefEqProofs only [hkl', hS0, hg, Int.toNat_natCast, List.length_cons, hg0, hp, hd1, List.length_map, go_sem]
    refine ⟨⟨by omega, by omega⟩, ?_⟩
    refine callK_fn (h152 (r2S ws S d k) y (by omega)) (.owned rfl rfl) ?_
    have hs : r2S ws S d (k + 1) = addU (r2S ws S d k) y := hs
    by_cases hin : y ∈ r2S ws S d k
    · have hs : r2S ws S d (k + 1) = r2S ws S d k := hs.trans (if_pos hin)
      simp -implicitDefEqProofs only [hin, go_sem]
      exact ⟨by simp only [InR]; omega, k + 1, ⟨⟨by rw [hs], by simp⟩, by rw [hs]⟩, by omega, by omega⟩
    · have hs : r2S ws S d (k + 1) = r2S ws S d k ++ [y] := hs.trans (if_neg hin)
      simp -implicitDefEqProofs only [hin, hkl', hg, Int.toNat_natCast, List.length_cons, hp, hd1, List.length_map, go_sem]
      have hs1 : sizeOK [PV.str y] 1 := by simp [sizeOK, PV.cells]
      have ho1 : oneOK [PV.str y] := by simp [oneOK, PV.cells, PV.isAgg]
      exact ⟨⟨by omega, by omega⟩, ⟨hs1, by omega⟩, ⟨hs1, ho1⟩, ⟨by simp, by omega, by omega⟩, by simp only [InR]; omega, k + 1, ⟨⟨by rw [hs]; simp, by simp⟩, by rw [hs]; simp⟩, by omega, by omega⟩
  · rw [if_neg hd] at hs
    have hs : r2S ws S c (k + 1) = r2S ws S c k := hs
    have hdc : ¬ d.toNat = c.toNat := fun e => hd (UInt8.toNat_inj.1 e)
    simp -implicitDefEqProofs only [hkl', hS0, hg, Int.toNat_natCast, List.length_cons, hg0, hp, hdc, List.length_map, go_sem]
    exact ⟨by simp only [InR]; omega, k + 1, ⟨⟨by rw [hs], by simp⟩, by rw [hs]⟩, by omega, by omega⟩

theorem set_len {ws : List (List UInt8)} (hw : ∀ x ∈ ws, x.length ≤ 32) {q v : Nat} {s : List (List UInt8)} (hs : s.Nodup) (h : canL s = stN ws q v) : s.length ≤ 33 * ws.length := by
  have h1 := nodup_lenM hs (m := begL ws) fun x hx => by
    have hx2 : x ∈ stN ws q v := by rw [← h]; exact mem_canL.2 hx
    obtain ⟨y, hy, h3⟩ := run_ends _ x hx2
    exact List.mem_flatMap.2 ⟨y, hy, mem_ends.2 h3⟩
  have h2 := begT_len hw ws.length (Nat.le_refl _)
  unfold begT at h2
  rw [List.take_length] at h2
  unfold begL at h1
  omega
def slW (l : List (List UInt8)) : PV := .sl (l.map .str)
open Classical in
theorem h83 (q : Nat) (ws : List (List UInt8)) (hv : Valid q ws) : PFn Tryz.prog 83 [codeV q ws] [.bool (decide (¬ FewS ws q))] := by
  have hlen := hv.len
  have h2 := hv.q2
  have h16 := hv.q16
  have hw32 : ∀ x ∈ ws, x.length ≤ 32 := fun x hx => (hv.words x hx).2.1
  have hne : ws ≠ [] := fun e => by have := hv.pos; rw [e] at this; simp at this
  have e89 := h89 q ws hv
  unfold codeV at e89
  refine PFn.of_body hΓ Tryz.func83 (by kernel_rfl) rfl (AWp.seq (AWp.of_awpD [] hΓ hmix (by kernel_rfl) ?_))
  simp -implicitDefEqProofs only [Tryz.ntmps83, Tryz.results83, Nat.reduceAdd, Nat.reduceSub, codeV, go_sem]
  refine AWp.seq (AWp.of_awpD [] hΓ hmix (by kernel_rfl) ?_)
  simp -implicitDefEqProofs only [go_sem]
  refine callK_fn e89 (.still rfl) ?_
  simp -implicitDefEqProofs only [go_sem]
  refine ⟨⟨by simp [sizeOK, PV.cells], by omega⟩, ?_⟩
  refine AWp.adopt (l := [slW (startL ws)]) 3 22 1 (by rfl) (by simp [slW, PV.cells]) ?_
  simp -implicitDefEqProofs only [go_sem]
  refine AWp.seq (AWp.seq (AWp.of_awpD [] hΓ hmix (by kernel_rfl) ?_))
  simp -implicitDefEqProofs only [go_sem]
  refine AWp.block ?_
  refine AWp.loopI (fun x : List (List (List UInt8)) × Nat => ⟨mkF 60 [(1, .ptr 0 0), (3, .own 1 x.1.length), (4, .p (.int .i64 x.2))], [.box [.p (.int .i64 q), .p (.sl (ws.map .str))], .row 22 1 (x.1.map slW) .lax]⟩)
    (fun x => ManyI ws q x.1 x.2 0 ∧ x.2 ≤ x.1.length ∧ x.1.length ≤ 300) (fun x => 300 - x.2) ([startL ws], 0) (by simp [go_sem, slW, weakH_self]) ⟨ManyI.start hne, by simp, by simp⟩ ?_
  rintro ⟨sets, i⟩ ⟨M, hi, hl⟩
  simp only at M hi hl
  refine AWp.of_awpD [] hΓ hmix (by kernel_rfl) ?_
  by_cases hlt : i < sets.length
  rotate_left
  · have hlt' : ¬ (i : Int) < (sets.length : Int) := by omega
    have hii : i = sets.length := by omega
    rw [hii] at M
    have hF := M.few (by omega) hl
    simp -implicitDefEqProofs only [hlt', List.length_map, hF, not_true_eq_false, decide_false, go_sem]
    refine AWp.of_awpD [] hΓ hmix (by kernel_rfl) ?_
    simp -implicitDefEqProofs only [go_sem]
  have hlt' : (i : Int) < (sets.length : Int) := by omega
  simp -implicitDefEqProofs only [hlt', List.length_map, go_sem]
  refine AWp.loopI (fun y : List (List (List UInt8)) × Nat => ⟨mkF 60 [(1, .ptr 0 0), (3, .own 1 y.1.length), (4, .p (.int .i64 i)), (5, .p (.int .i64 y.2))], [.box [.p (.int .i64 q), .p (.sl (ws.map .str))], .row 22 1 (y.1.map slW) .lax]⟩)
    (fun y => ManyI ws q y.1 i y.2 ∧ i < y.1.length ∧ y.1.length ≤ 300 ∧ y.2 ≤ q) (fun y => q - y.2) (sets, 0) (by simp [go_sem, weakH_self]) ⟨M, hlt, hl, by simp⟩ ?_
  clear M hlt hlt' hl hi sets
  rintro ⟨sets, a⟩ ⟨M, hi, hl, ha⟩
  simp only at M hi hl ha
  refine AWp.of_awpD [(8, 1000)] hΓ hmix (by kernel_rfl) ?_
  by_cases hlt : a < q
  rotate_left
  · have hlt' : ¬ (a : Int) < (q : Int) := by omega
    have haa : a = q := by omega
    rw [haa] at M
    simp -implicitDefEqProofs only [hlt', go_sem]
    exact ⟨by simp only [InR]; omega, (sets, i + 1), by simp, ⟨M.next, hi, hl⟩, by simp; omega⟩
  have hlt' : (a : Int) < (q : Int) := by omega
  simp -implicitDefEqProofs only [hlt', List.length_map, go_sem]
  have hg : (sets.map slW).getD i default = slW sets[i] := getD_map_lt _ _ _ _ hi
  have ha16 : a < 16 := by omega
  have ha16' : (a : Int) < 16 := by omega
  have hsl : ∀ s ∈ sets, s.length ≤ 33 * ws.length := fun s hs => by
    obtain ⟨v, hv2, _⟩ := M.reach s hs
    exact set_len hw32 (M.nd s hs) hv2
  have hSl := hsl _ (List.getElem_mem hi)
  have e90 := h90 q ws sets[i] (Kn.ltr a) hv (by omega)
  unfold codeV at e90
  have hL : ([48, 49, 50, 51, 52, 53, 54, 55, 56, 57, 97, 98, 99, 100, 101, 102] : List UInt8).getD a 0 = Kn.ltr a := rfl
  obtain ⟨N, hN⟩ : ∃ N, N = readL ws sets[i] (Kn.ltr a) := ⟨_, rfl⟩
  have hNl : N.length ≤ 100000 := by
    have h1 := tails_len (Kn.ltr a) sets[i]
    have h2 := tails_len (Kn.ltr a) ws
    have h3 := foldU_len (rdS ws sets[i] (Kn.ltr a)) []
    rw [hN]; unfold readL
    simp only [List.length_nil] at h3
    unfold rdS at h3 ⊢
    rw [List.length_append] at h3
    split at h3
    · rename_i h4; rw [if_pos h4]; omega
    · rename_i h4; rw [if_neg h4]; simp only [List.length_nil] at h3; omega
  rw [← hN] at e90
  refine AWp.planL (.q 0 (.q 1 (.q 2 (.q 3 (.q 4 (.q 5 (.q 6 (.e 7 (.q 8 .fin) .nil)))))))) hΓ hmix (by kernel_rfl) ?_
  simp -implicitDefEqProofs only [hg, slW, List.length_map, ha16', Int.toNat_natCast, hL, go_sem]
  refine ⟨hi, hi, by omega, ?_⟩
  refine callK_fn e90 (.still rfl) ?_
  simp -implicitDefEqProofs only [go_sem]
  refine AWp.of_awpD [] hΓ hmix (by kernel_rfl) ?_
  simp -implicitDefEqProofs only [List.length_map, go_sem]
  refine AWp.loopI (fun y : Nat × Bool => ⟨mkF 60 [(1, .ptr 0 0), (3, .own 1 sets.length), (4, .p (.int .i64 i)), (5, .p (.int .i64 a)), (6, .p (.sl (N.map .str))), (7, .p (.bool y.2)), (8, .p (.int .i64 y.1))], [.box [.p (.int .i64 q), .p (.sl (ws.map .str))], .row 22 1 (sets.map slW) .lax]⟩)
    (fun y => y.1 ≤ sets.length ∧ (y.2 = true → N = [] ∨ ∃ s ∈ sets, SameL s N) ∧ (y.2 = false → N ≠ [] ∧ ∀ s ∈ sets.take y.1, ¬ SameL s N)) (fun y => sets.length - y.1) (0, decide ((N.length : Int) = 0)) (by simp [go_sem, weakH_self])
    ⟨by simp, fun h => .inl (by simpa using h), fun h => ⟨by simpa using h, by simp⟩⟩ ?_
  rintro ⟨k, kn⟩ ⟨hk, hk1, hk2⟩
  simp only at hk hk1 hk2
  refine AWp.of_awpD [] hΓ hmix (by kernel_rfl) ?_
  cases kn with
  | true =>
    have hM := M.skip hi (by rw [← hN]; exact hk1 rfl)
    have hno : ¬ (300 : Int) < (sets.length : Int) := by omega
    by_cases hkl : k < sets.length
    · have hkl' : (k : Int) < (sets.length : Int) := by omega
      simp -implicitDefEqProofs only [hkl', hno, List.length_map, go_sem]
      exact ⟨by simp only [InR]; omega, (sets, a + 1), by simp, ⟨hM, hi, hl, hlt⟩, by show q - (a + 1) < q - a; omega⟩
    · have hkl' : ¬ (k : Int) < (sets.length : Int) := by omega
      simp -implicitDefEqProofs only [hkl', hno, List.length_map, go_sem]
      exact ⟨by simp only [InR]; omega, (sets, a + 1), by simp, ⟨hM, hi, hl, hlt⟩, by show q - (a + 1) < q - a; omega⟩
  | false =>
    obtain ⟨hN0, hkn⟩ := hk2 rfl
    by_cases hkl : k < sets.length
    · have hkl' : (k : Int) < (sets.length : Int) := by omega
      have hgk : (sets.map slW).getD k default = slW sets[k] := getD_map_lt _ _ _ _ hkl
      have hskl := hsl _ (List.getElem_mem hkl)
      simp -implicitDefEqProofs only [hkl', hgk, slW, Int.toNat_natCast, List.length_map, go_sem]
      refine ⟨hkl, ?_⟩
      refine callK_fn (h144 sets[k] N (by omega) (by omega)) (.pures rfl) ?_
      simp -implicitDefEqProofs only [go_sem]
      refine ⟨by simp only [InR]; omega, (k + 1, decide (SameL sets[k] N)), by simp, ⟨hkl, fun h => .inr ⟨_, List.getElem_mem hkl, of_decide_eq_true h⟩, fun h => ⟨hN0, fun s hs => ?_⟩⟩, by show sets.length - (k + 1) < sets.length - k; omega⟩
      simp only at hs
      rw [List.take_succ_eq_append_getElem hkl, List.mem_append, List.mem_singleton] at hs
      rcases hs with hs | hs
      · exact hkn s hs
      · rw [hs]; exact of_decide_eq_false h
    · have hkl' : ¬ (k : Int) < (sets.length : Int) := by omega
      rw [List.take_of_length_le (by omega)] at hkn
      have hM := M.add (by omega) hi hlt (by rw [← hN]; exact hN0) (by rw [← hN]; exact hkn)
      rw [← hN] at hM
      have hs1 : sizeOK [PV.sl (List.map PV.str N)] 1 := by simp [sizeOK, PV.cells]
      have ho1 : oneOK [PV.sl (List.map PV.str N)] := by simp [oneOK, PV.cells, PV.isAgg]
      simp -implicitDefEqProofs only [hkl', List.length_map, go_sem]
      refine ⟨⟨hs1, by omega⟩, ⟨hs1, ho1⟩, ⟨by simp, by omega, by omega⟩, fun h300 => ?_, fun h300 => ?_⟩
      · have hF := hM.many (by simp only [List.length_append, List.length_singleton]; omega)
        exact (decide_eq_true hF).symm
      · exact ⟨by simp only [InR]; omega, (sets ++ [N], a + 1), ⟨by simp, by simp [slW]⟩, ⟨hM, by simp only [List.length_append]; omega, by simp only [List.length_append, List.length_singleton]; omega, hlt⟩, by show q - (a + 1) < q - a; omega⟩

open Classical in
theorem h30 (q : Int) (ws : List (List UInt8)) (hl : ws.length ≤ 9223372036854775807) : PFn Tryz.prog 30 [codeV q ws] [.bool (great36 q ws || decide (codeCheck q ws = 0 ∧ ¬ FewS ws q.toNat))] := by
  have e43 := gr36 q ws hl
  have e40 := t44 q ws
  unfold codeV at e43 e40
  refine PFn.of_body hΓ Tryz.func30 (by kernel_rfl) rfl (AWp.seq (AWp.of_awpD [] hΓ hmix (by kernel_rfl) ?_))
  simp -implicitDefEqProofs only [Tryz.ntmps30, Tryz.results30, Nat.reduceAdd, Nat.reduceSub, codeV, go_sem]
  refine AWp.of_awpD [] hΓ hmix (by kernel_rfl) ?_
  simp -implicitDefEqProofs only [go_sem]
  refine callK_fn e43 (.still rfl) ?_
  cases hg : great36 q ws with
  | true => simp -implicitDefEqProofs only [Bool.true_or, go_sem]
  | false =>
    simp -implicitDefEqProofs only [go_sem]
    refine callK_fn e40 (.still rfl) ?_
    by_cases hc : codeCheck q ws = 0
    rotate_left
    · simp -implicitDefEqProofs only [hc, false_and, decide_false, Bool.or_false, go_sem]
    have hv := valid_of hc
    have h2 := hv.q2
    obtain ⟨p, rfl⟩ : ∃ p : Nat, q = p := ⟨q.toNat, by omega⟩
    have e83 := h83 p ws hv
    unfold codeV at e83
    simp -implicitDefEqProofs only [hc, go_sem]
    refine callK_fn e83 (.still rfl) ?_
    simp -implicitDefEqProofs only [hc, true_and, Int.toNat_natCast, Bool.false_or, go_sem]
end Go.Proofs.YtpljmccnfmkmfaaGreat
end

