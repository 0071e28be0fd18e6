/-
  Texts of this claim, joined.
-/
import Derived.Shelf.Strings.Builder1
import Derived.Test.YtpljmccnfmkmfaaGreatProg
import Derived.Test.YtpljmccnfmkmfaaGreatJ87370f26952d
import Derived.Test.YtpljmccnfmkmfaaGreatJ4f3daeb92d9a
import Derived.Test.YtpljmccnfmkmfaaGreatJ68c5aa50e6a9
import Derived.Test.YtpljmccnfmkmfaaGreatJ1ec3ed0cc4d8
import Derived.Test.YtpljmccnfmkmfaaGreatJ764180b901fc
import Derived.Test.YtpljmccnfmkmfaaGreatJab67d4f4af45
import Derived.Test.YtpljmccnfmkmfaaGreatJ5c0fbbf3c148
import Derived.Test.YtpljmccnfmkmfaaGreatJe798e1ef6087
import Derived.Test.YtpljmccnfmkmfaaGreatJ5eec9807ac87
import Derived.Test.YtpljmccnfmkmfaaGreatJ0a7fb04c7a58

set_option linter.unusedSimpArgs false
set_option linter.unusedVariables false
set_option maxRecDepth 1000000
set_option maxHeartbeats 4000000
section
namespace Go.Proofs
open Go.Shelf
end Go.Proofs
end

section
namespace Go.Proofs.YtpljmccnfmkmfaaGreat
open Go Go.AM Go.RowKit

end Go.Proofs.YtpljmccnfmkmfaaGreat
end

section
namespace Go.Proofs.YtpljmccnfmkmfaaGreat
open Go Go.AM


end Go.Proofs.YtpljmccnfmkmfaaGreat
end

section
namespace Go.Proofs.YtpljmccnfmkmfaaGreat
open Go Go.AM Go.RowKit

end Go.Proofs.YtpljmccnfmkmfaaGreat
end

section
namespace Go.Mc

structure Bfs {S : Type} (q : Nat) (run : Nat → S) (dead : S → Prop) (Q : List Nat) (i a : Nat) : Prop where
  root : 0 ∈ Q
  sorted : Q.Pairwise fun x y => x < y
  dist : Q.Pairwise fun x y => run x ≠ run y
  alive : ∀ x ∈ Q, ¬ dead (run x)
  cov : ∀ k b, (hk : k < Q.length) → b < q → (k < i ∨ k = i ∧ b < a) → ∃ m ∈ Q, run m = run (Q[k] * q + b + 1) ∧ m ≤ Q[k] * q + b + 1
  top : ∀ (hi : i < Q.length), ∀ x ∈ Q, x ≤ Q[i] * q + a

section
variable {S : Type} {q : Nat} {run : Nat → S} {dead : S → Prop} {Q : List Nat} {i a : Nat}

theorem Bfs.start (h : ¬ dead (run 0)) : Bfs q run dead [0] 0 0 where
  root := by simp
  sorted := by simp
  dist := by simp
  alive := fun x hx => by rw [List.mem_singleton.1 hx]; exact h
  cov := fun k b hk hb h => by omega
  top := fun hi x hx => by rw [List.mem_singleton.1 hx]; omega
theorem Bfs.skip (B : Bfs q run dead Q i a) (hi : i < Q.length) (h : ∃ m ∈ Q, run m = run (Q[i] * q + a + 1)) : Bfs q run dead Q i (a + 1) where
  root := B.root
  sorted := B.sorted
  dist := B.dist
  alive := B.alive
  cov := fun k b hk hb h2 => by
    by_cases e : k = i ∧ b = a
    · obtain ⟨e1, e2⟩ := e
      subst e1 e2; obtain ⟨m, h3, h4⟩ := h; exact ⟨m, h3, h4, Nat.le_succ_of_le (B.top hi m h3)⟩
    · exact B.cov k b hk hb (by omega)
  top := fun hi x hx => Nat.le_succ_of_le (B.top hi x hx)
theorem Bfs.add (B : Bfs q run dead Q i a) (hi : i < Q.length) (h : ∀ m ∈ Q, run m ≠ run (Q[i] * q + a + 1)) (hd : ¬ dead (run (Q[i] * q + a + 1))) :
    Bfs q run dead (Q ++ [Q[i] * q + a + 1]) i (a + 1) where
  root := List.mem_append_left _ B.root
  sorted := List.pairwise_append.2 ⟨B.sorted, by simp, fun x hx y hy => by rw [List.mem_singleton.1 hy]; have := B.top hi x hx; omega⟩
  dist := List.pairwise_append.2 ⟨B.dist, by simp, fun x hx y hy => by rw [List.mem_singleton.1 hy]; exact h x hx⟩
  alive := fun x hx => by
    rcases List.mem_append.1 hx with hx | hx
    · exact B.alive x hx
    · rw [List.mem_singleton.1 hx]; exact hd
  cov := fun k b hk hb h2 => by
    have hkQ : k < Q.length := by omega
    have e0 : (Q ++ [Q[i] * q + a + 1])[k] = Q[k] := List.getElem_append_left hkQ; rw [e0]; by_cases e : k = i ∧ b = a
    · obtain ⟨e1, e2⟩ := e
      subst e1 e2; exact ⟨_, List.mem_append_right _ (List.mem_singleton.2 rfl), rfl, Nat.le_refl _⟩
    · obtain ⟨m, h3, h4⟩ := B.cov k b hkQ hb (by omega)
      exact ⟨m, List.mem_append_left _ h3, h4⟩
  top := fun hi2 x hx => by
    have e0 : (Q ++ [Q[i] * q + a + 1])[i] = Q[i] := List.getElem_append_left hi; rw [e0]; rcases List.mem_append.1 hx with hx | hx
    · exact Nat.le_succ_of_le (B.top hi x hx)
    · rw [List.mem_singleton.1 hx]; omega
theorem Bfs.next (B : Bfs q run dead Q i q) : Bfs q run dead Q (i + 1) 0 where
  root := B.root
  sorted := B.sorted
  dist := B.dist
  alive := B.alive
  cov := fun k b hk hb h2 => B.cov k b hk hb (by omega)
  top := fun hi x hx => by
    have h1 := B.top (by omega) x hx; have h2 : Q[i] < Q[i + 1] := List.pairwise_iff_getElem.1 B.sorted i (i + 1) (by omega) hi (by omega); have h3 : (Q[i] + 1) * q ≤ Q[i + 1] * q := Nat.mul_le_mul_right _ h2; rw [Nat.add_mul, Nat.one_mul] at h3; omega
theorem Bfs.cover (hq : 0 < q) (hstep : ∀ u v b, b < q → run u = run v → run (u * q + b + 1) = run (v * q + b + 1)) (B : Bfs q run dead Q i a) (hi : i < Q.length) (ha : a ≤ q) (v : Nat) (hv : v ≤ Q[i] * q + a) :
    ∃ m ∈ Q, run m = run v ∧ m ≤ v := by
  induction v using Nat.strongRecOn with
  | _ v ih =>
    rcases Nat.eq_zero_or_pos v with h0 | h0
    · subst h0
      exact ⟨0, B.root, rfl, Nat.le_refl _⟩
    · have hb : (v - 1) % q < q := Nat.mod_lt _ hq
      have hu : (v - 1) / q * q + (v - 1) % q + 1 = v := by
        have := Nat.div_add_mod (v - 1) q; rw [Nat.mul_comm] at this; omega
      generalize (v - 1) / q = u at hu; generalize (v - 1) % q = b at hb hu; have huq : u ≤ u * q := Nat.le_mul_of_pos_right _ hq; obtain ⟨m, h1, h2, h3⟩ := ih u (by omega) (by omega); obtain ⟨k, hk, rfl⟩ := List.getElem_of_mem h1; have hle : Q[k] * q ≤ u * q := Nat.mul_le_mul_right _ h3; have hki : k < i ∨ k = i ∧ b < a := by
        rcases Nat.lt_trichotomy k i with e | e | e
        · exact .inl e
        · subst e
          exact .inr ⟨rfl, by omega⟩
        · have h4 : Q[i] < Q[k] := List.pairwise_iff_getElem.1 B.sorted i k hi hk e
          have h5 : (Q[i] + 1) * q ≤ Q[k] * q := Nat.mul_le_mul_right _ h4; rw [Nat.add_mul, Nat.one_mul] at h5; omega
      obtain ⟨m2, h4, h5, h6⟩ := B.cov k b hk hb hki; refine ⟨m2, h4, ?_, by omega⟩; rw [h5, ← hu]; exact hstep _ _ b hb h2
theorem Bfs.least (hq : 0 < q) (hstep : ∀ u v b, b < q → run u = run v → run (u * q + b + 1) = run (v * q + b + 1)) (B : Bfs q run dead Q i a) (hi : i < Q.length) (ha : a ≤ q) (v : Nat) (hv : v ≤ Q[i] * q + a) : ¬ dead (run v) := by
  obtain ⟨m, h1, h2, _⟩ := B.cover hq hstep hi ha v hv; rw [← h2]; exact B.alive m h1
theorem Bfs.done (hq : 0 < q) (hstep : ∀ u v b, b < q → run u = run v → run (u * q + b + 1) = run (v * q + b + 1)) (B : Bfs q run dead Q i 0) (hi : Q.length ≤ i) (v : Nat) : ¬ dead (run v) := by
  have h : ∃ m ∈ Q, run m = run v := by
    induction v using Nat.strongRecOn with
    | _ v ih =>
      rcases Nat.eq_zero_or_pos v with h0 | h0
      · subst h0
        exact ⟨0, B.root, rfl⟩
      · have hb : (v - 1) % q < q := Nat.mod_lt _ hq
        have hu : (v - 1) / q * q + (v - 1) % q + 1 = v := by
          have := Nat.div_add_mod (v - 1) q; rw [Nat.mul_comm] at this; omega
        generalize (v - 1) / q = u at hu; generalize (v - 1) % q = b at hb hu; have huq : u ≤ u * q := Nat.le_mul_of_pos_right _ hq; obtain ⟨m, h1, h2⟩ := ih u (by omega); obtain ⟨k, hk, rfl⟩ := List.getElem_of_mem h1; obtain ⟨m2, h4, h5, h6⟩ := B.cov k b hk hb (.inl (by omega)); refine ⟨m2, h4, ?_⟩; rw [h5, ← hu]; exact hstep _ _ b hb h2
  obtain ⟨m, h1, h2⟩ := h; rw [← h2]; exact B.alive m h1
end
end Go.Mc
end

section
namespace Go.Proofs.YtpljmccnfmkmfaaGreat
open Go Go.AM

theorem Zci {x y : List UInt8} : ∀ {a b : List UInt8}, a.length = b.length → bLt a b = true → bLt (a ++ x) (b ++ y) = true
  | [], [], _, h => by cases h
  | u :: a, v :: b, hl, h => by
    rw [List.cons_append, List.cons_append, Z0p]; rcases (Z0p u v a b).1 h with h1 | ⟨h1, h2⟩
    · exact .inl h1
    · exact .inr ⟨h1, Zci (by simpa using hl) h2⟩
theorem Zch {x y : List UInt8} (h : bLt x y = true) : ∀ a : List UInt8, bLt (a ++ x) (a ++ y) = true
  | [] => h
  | u :: a => by rw [List.cons_append, List.cons_append, Z0p]; exact .inr ⟨rfl, Zch h a⟩
theorem Zpd {a b : Nat} (hb : b < 16) (h : a < b) : (Kn.ltr a).toNat < (Kn.ltr b).toNat := by
  have key : ∀ a : Fin 16, ∀ b : Fin 16, a.val < b.val → (L16.getD a.val 0).toNat < (L16.getD b.val 0).toNat := by decide
  exact key ⟨a, by omega⟩ ⟨b, hb⟩ h
def wnF (q : Nat) : Nat → Nat → List UInt8
  | 0, _ => []
  | f + 1, v => if v = 0 then [] else wnF q f ((v - 1) / q) ++ [Kn.ltr ((v - 1) % q)]
def wn (q v : Nat) : List UInt8 := wnF q v v
theorem Zmp {q : Nat} (hq : 0 < q) : ∀ (f g v : Nat), v ≤ f → v ≤ g → wnF q f v = wnF q g v
  | 0, 0, v, _, _ => rfl
  | 0, g + 1, v, h, _ => by
    have : v = 0 := by omega
    subst this; rfl
  | f + 1, 0, v, _, h => by
    have : v = 0 := by omega
    subst this; rfl
  | f + 1, g + 1, v, h1, h2 => by
    unfold wnF
    split
    · rfl
    · have h3 : (v - 1) / q ≤ v - 1 := Nat.div_le_self _ _
      rw [Zmp hq f g ((v - 1) / q) (by omega) (by omega)]
theorem Z31 (q : Nat) : wn q 0 = [] := rfl
theorem Z3m {q : Nat} (hq : 0 < q) (u b : Nat) (hb : b < q) : wn q (u * q + b + 1) = wn q u ++ [Kn.ltr b] := by
  have h1 : (u * q + b) / q = u := by
    rw [Nat.mul_comm, Nat.mul_add_div hq, Nat.div_eq_of_lt hb, Nat.add_zero]
  have h2 : (u * q + b) % q = b := by
    rw [Nat.mul_comm, Nat.mul_add_mod, Nat.mod_eq_of_lt hb]
  have e : wn q (u * q + b + 1) = wnF q (u * q + b) ((u * q + b) / q) ++ [Kn.ltr ((u * q + b) % q)] := by
    have e0 : ∀ v, wn q (v + 1) = if v + 1 = 0 then [] else wnF q v ((v + 1 - 1) / q) ++ [Kn.ltr ((v + 1 - 1) % q)] := fun v => rfl
    rw [e0, if_neg (by omega), Nat.add_sub_cancel]
  rw [e, h1, h2]; have h3 : u ≤ u * q := Nat.le_mul_of_pos_right _ hq; rw [Zmp hq (u * q + b) u u (by omega) (Nat.le_refl _)]
  rfl
theorem Z84 {q : Nat} (hq : 0 < q) (v : Nat) : v = 0 ∨ ∃ u b, b < q ∧ v = u * q + b + 1 ∧ u < v := by
  rcases Nat.eq_zero_or_pos v with h | h
  · exact .inl h
  · refine .inr ⟨(v - 1) / q, (v - 1) % q, Nat.mod_lt _ hq, ?_, ?_⟩
    · have := Nat.div_add_mod (v - 1) q
      rw [Nat.mul_comm] at this; omega
    · have := Nat.div_le_self (v - 1) q
      omega
theorem wn_lt {q : Nat} (hq : 0 < q) (hq16 : q ≤ 16) (u : Nat) : ∀ v, v < u → ltW (wn q v) (wn q u) := by
  induction u using Nat.strongRecOn with
  | _ u ih =>
    intro v hv; rcases Z84 hq u with h | ⟨u', b, hb, rfl, hu⟩
    · omega
    rcases Z84 hq v with h | ⟨v', c, hc, rfl, hv'⟩
    · subst h
      rw [Z3m hq _ _ hb]
      left
      rw [Z31]; simp
    · rw [Z3m hq _ _ hb, Z3m hq _ _ hc]
      rcases Nat.lt_trichotomy v' u' with e | e | e
      · rcases ih u' hu v' e with h | ⟨h1, h2⟩
        · left; simp only [List.length_append, List.length_singleton]; omega
        · right
          exact ⟨by simp only [List.length_append, List.length_singleton]; omega, Zci h1 h2⟩
      · subst e
        right
        refine ⟨by simp, Zch ?_ _⟩; rw [Z0p]; exact .inl (Zpd (by omega) (by omega))
      · have h5 : (u' + 1) * q ≤ v' * q := Nat.mul_le_mul_right _ e
        rw [Nat.add_mul, Nat.one_mul] at h5; omega
theorem Zmo {q : Nat} (hq : 0 < q) (hq16 : q ≤ 16) {v u : Nat} (h : v ≤ u) : (wn q v).length ≤ (wn q u).length := by
  rcases Nat.lt_or_ge v u with h1 | h1
  · rcases wn_lt hq hq16 u v h1 with h2 | ⟨h2, _⟩
    · omega
    · omega
  · have : v = u := by omega
    subst this; exact Nat.le_refl _
theorem Zdw {q : Nat} (hq : 0 < q) (hq16 : q ≤ 16) {v u : Nat} (h : (wn q v).length ≤ (wn q u).length) : v ≤ u * q := by
  apply Classical.byContradiction
  intro hn; have h1 := Zmo hq hq16 (v := u * q + 0 + 1) (u := v) (by omega); rw [Z3m hq u 0 hq, List.length_append, List.length_singleton] at h1; omega
def stN (ws : List (List UInt8)) (q v : Nat) : List (List UInt8) := Mc.runSt canL ws (wn q v)
theorem Z5d {ws : List (List UInt8)} {q : Nat} (hq : 0 < q) (u b : Nat) (hb : b < q) : stN ws q (u * q + b + 1) = canL (Mc.rdS ws (stN ws q u) (Kn.ltr b)) := by
  unfold stN; rw [Z3m hq u b hb, Mc.runSt_snoc]
theorem Ze6 {ws : List (List UInt8)} {q : Nat} (hq : 0 < q) (u v b : Nat) (hb : b < q) (h : stN ws q u = stN ws q v) : stN ws q (u * q + b + 1) = stN ws q (v * q + b + 1) := by
  rw [Z5d hq u b hb, Z5d hq v b hb, h]
theorem Z78 {ws : List (List UInt8)} : ∀ (w : List UInt8), ∀ x ∈ Mc.runSt canL ws w, ∃ y ∈ ws, x <:+ y := by
  refine Mc.rev_ind (P := fun w => ∀ x ∈ Mc.runSt canL ws w, ∃ y ∈ ws, x <:+ y) ?_ ?_
  · intro x hx
    have hx : x ∈ Mc.begL ws := mem_canL.1 hx; obtain ⟨y, hy, h⟩ := List.mem_flatMap.1 hx; exact ⟨y, hy, Mc.mem_ends.1 h⟩
  · intro w c ih x hx
    rw [Mc.runSt_snoc] at hx; have hx := mem_canL.1 hx; unfold Mc.rdS at hx; rcases List.mem_append.1 hx with h | h
    · obtain ⟨y, hy, hs⟩ := ih _ (Mc.mem_tails.1 h)
      exact ⟨y, hy, (List.suffix_cons c x).trans hs⟩
    · split at h
      · exact ⟨_, Mc.mem_tails.1 h, List.suffix_cons c x⟩
      · cases h
end Go.Proofs.YtpljmccnfmkmfaaGreat
end

section
namespace Go.Proofs.YtpljmccnfmkmfaaGreat
open Go Go.AM Go.RowKit

theorem Zi8 {P : Nat → Prop} (v : Nat) (h : P v) : ∃ u, P u ∧ ∀ x, x < u → ¬ P x := by
  induction v using Nat.strongRecOn with
  | _ v ih =>
    by_cases hx : ∃ x, x < v ∧ P x
    · obtain ⟨x, h1, h2⟩ := hx
      exact ih x h1 h2
    · exact ⟨v, h, fun x h1 h2 => hx ⟨x, h1, h2⟩⟩
structure SeA (q : Nat) (ws : List (List UInt8)) (n : Int) (r : Option Nat) : Prop where
  some : ∀ v, r = some v → stN ws q v = [] ∧ (∀ u, u < v → stN ws q u ≠ []) ∧ (0 ≤ n → ((wn q v).length : Int) ≤ n)
  none : r = none → ∀ v, (0 ≤ n → ((wn q v).length : Int) ≤ n) → stN ws q v ≠ []
theorem seA (q : Nat) (hq : 0 < q) (h16 : q ≤ 16) (ws : List (List UInt8)) (n : Int) : ∃ r, SeA q ws n r := by
  by_cases h : ∃ v, stN ws q v = [] ∧ (0 ≤ n → ((wn q v).length : Int) ≤ n)
  · obtain ⟨v, h⟩ := h
    obtain ⟨u, ⟨h1, h2⟩, h3⟩ := Zi8 (P := fun v => stN ws q v = [] ∧ (0 ≤ n → ((wn q v).length : Int) ≤ n)) v h; refine ⟨.some u, fun v hv => ?_, fun e => by cases e⟩
    cases hv
    refine ⟨h1, fun x hx hd => h3 x hx ⟨hd, fun h0 => ?_⟩, h2⟩; have := Zmo hq h16 (Nat.le_of_lt hx); have := h2 h0; omega
  · exact ⟨.none, fun v e => (by cases e), fun _ v hl hd => h ⟨v, hd, hl⟩⟩
end Go.Proofs.YtpljmccnfmkmfaaGreat
end

section
namespace Go.Proofs.YtpljmccnfmkmfaaGreat
open Go Go.AM

end Go.Proofs.YtpljmccnfmkmfaaGreat
end

section
namespace Go.Mc

section
variable {A : List UInt8} {n : UInt8 → Nat}
end
end Go.Mc
end

section
namespace Go.Proofs.YtpljmccnfmkmfaaGreat
open Go Go.AM

structure Plain (q : Nat) (ws : List (List UInt8)) : Prop where
  val : Valid q ws
  nd : ws.Nodup
  al : ∀ x ∈ ws, ∀ b ∈ x, b ∈ (List.range q).map Kn.ltr
  ne : ∀ w ∈ ws, w ≠ []
end Go.Proofs.YtpljmccnfmkmfaaGreat
end

section
namespace Go.Proofs.YtpljmccnfmkmfaaGreat
open Go Go.AM Go.RowKit

def keyS (S : List (List UInt8)) : List UInt8 := Z1p S [32] ++ [46]
theorem c145 (S : List (List UInt8)) (h1 : S.length ≤ 1000000) (h2 : (Z1p S [32]).length ≤ 1000000000) : PFn Tryz.prog 145 [.sl (S.map .str)] [.str (keyS S)] := by
  have e := Zib S [32] (by omega) (by rw [← Z5r]; omega); rw [← Z5r] at e; refine PFn.of_body hΓ Tryz.func145 (by kernel_rfl) rfl (Wd [] ?_); simp -implicitDefEqProofs only [Tryz.ntmps145, Tryz.results145, Nat.reduceAdd, Nat.reduceSub, go_sem]; refine Z0 e (.pures rfl) ?_; simp -implicitDefEqProofs only [keyS, go_sem]; omega
theorem Zc2 : ∀ (S : List (List UInt8)), (∀ x ∈ S, x.length ≤ 32) → (Z1p S [32]).length ≤ 33 * S.length
  | [], _ => Nat.le_refl _
  | [x], h => by
    have := h x (by simp); show x.length ≤ 33 * 1; omega
  | x :: y :: r, h => by
    have h1 := h x (by simp); have h2 := Zc2 (y :: r) fun z hz => h z (List.mem_cons_of_mem _ hz)
    have e : Z1p (x :: y :: r) [32] = x ++ ([32] ++ Z1p (y :: r) [32]) := rfl; rw [e, List.length_append, List.length_append, List.length_singleton]; simp only [List.length_cons] at h2 ⊢; omega
theorem Zuq : ∀ {x y A B : List UInt8}, 32 ∉ x → 32 ∉ y → x ++ 32 :: A = y ++ 32 :: B → x = y ∧ A = B
  | [], [], A, B, _, _, h => ⟨rfl, by simpa using h⟩
  | [], b :: y, A, B, _, hy, h => by
    rw [List.nil_append, List.cons_append] at h
    injection h with h _
    exact absurd (by rw [← h]; simp) hy
  | a :: x, [], A, B, hx, _, h => by
    rw [List.nil_append, List.cons_append] at h
    injection h with h _
    exact absurd (by rw [h]; simp) hx
  | a :: x, b :: y, A, B, hx, hy, h => by
    rw [List.cons_append, List.cons_append] at h
    injection h with h1 h2
    obtain ⟨h3, h4⟩ := Zuq (fun e => hx (List.mem_cons_of_mem _ e)) (fun e => hy (List.mem_cons_of_mem _ e)) h2; exact ⟨by rw [h1, h3], h4⟩
theorem Zer : ∀ {S T : List (List UInt8)}, S ≠ [] → T ≠ [] → (∀ x ∈ S, 32 ∉ x) → (∀ x ∈ T, 32 ∉ x) → Z1p S [32] = Z1p T [32] → S = T
  | [], _, h, _, _, _, _ => absurd rfl h
  | _ :: _, [], _, h, _, _, _ => absurd rfl h
  | [x], [y], _, _, _, _, h => by rw [show Z1p [x] [32] = x from rfl, show Z1p [y] [32] = y from rfl] at h; rw [h]
  | [x], y :: z :: r, _, _, hs, _, h => by
    rw [show Z1p [x] [32] = x from rfl, show Z1p (y :: z :: r) [32] = y ++ 32 :: Z1p (z :: r) [32] from rfl] at h; exact absurd (by rw [h]; simp) (hs x (by simp))
  | x :: z :: r, [y], _, _, _, ht, h => by
    rw [show Z1p [y] [32] = y from rfl, show Z1p (x :: z :: r) [32] = x ++ 32 :: Z1p (z :: r) [32] from rfl] at h; exact absurd (by rw [← h]; simp) (ht y (by simp))
  | x :: z :: r, y :: u :: v, _, _, hs, ht, h => by
    rw [show Z1p (x :: z :: r) [32] = x ++ 32 :: Z1p (z :: r) [32] from rfl, show Z1p (y :: u :: v) [32] = y ++ 32 :: Z1p (u :: v) [32] from rfl] at h; obtain ⟨h1, h2⟩ := Zuq (hs x (by simp)) (ht y (by simp)) h; have ih := Zer (S := z :: r) (T := u :: v) (by simp) (by simp) (fun a ha => hs a (List.mem_cons_of_mem _ ha)) (fun a ha => ht a (List.mem_cons_of_mem _ ha)) h2; rw [h1, ih]
theorem Zpq {S T : List (List UInt8)} (hS : S ≠ []) (hT : T ≠ []) (h1 : ∀ x ∈ S, 32 ∉ x) (h2 : ∀ x ∈ T, 32 ∉ x) (h : keyS S = keyS T) : S = T :=
  Zer hS hT h1 h2 (List.append_cancel_right h)
end Go.Proofs.YtpljmccnfmkmfaaGreat
end

section
namespace Go.Proofs.YtpljmccnfmkmfaaGreat
open Go Go.AM

def qmE (kf : Nat → List UInt8) (Q : List Nat) : List (List UInt8 × PV) := Q.map fun v => (kf v, .bool true)
theorem Zd0 {kf : Nat → List UInt8} {k : List UInt8} : ∀ {Q : List Nat}, (∀ m ∈ Q, kf m ≠ k) → midx k (qmE kf Q) = none
  | [], _ => rfl
  | m :: Q, h => by
    have e : qmE kf (m :: Q) = (kf m, .bool true) :: qmE kf Q := rfl; rw [e]; unfold midx; rw [if_neg (fun e => h m (by simp) e.symm), Zd0 fun x hx => h x (List.mem_cons_of_mem _ hx)]
    rfl
theorem Zha {kf : Nat → List UInt8} {k : List UInt8} : ∀ {Q : List Nat}, (∃ m ∈ Q, kf m = k) → ∃ j, midx k (qmE kf Q) = some j ∧ (qmE kf Q).getD j default = (k, .bool true)
  | [], h => by obtain ⟨_, h, _⟩ := h; cases h
  | m :: Q, h => by
    have e : qmE kf (m :: Q) = (kf m, .bool true) :: qmE kf Q := rfl; rw [e]; unfold midx; by_cases hk : k = kf m
    · exact ⟨0, if_pos hk, by rw [hk]; rfl⟩
    · rw [if_neg hk]
      obtain ⟨x, hx, hxk⟩ := h; have hx2 : x ∈ Q := (List.mem_cons.1 hx).resolve_left fun e => hk (by rw [← hxk, e])
      obtain ⟨j, h1, h2⟩ := Zha ⟨x, hx2, hxk⟩; refine ⟨j + 1, by rw [h1]; rfl, ?_⟩; rw [List.getD_cons_succ]; exact h2
theorem Zt3 {kf : Nat → List UInt8} {k : List UInt8} {Q : List Nat} (h : ∃ m ∈ Q, kf m = k) : mget k (qmE kf Q) = some (.bool true) := by
  obtain ⟨j, h1, h2⟩ := Zha h; unfold mget; rw [h1, Option.map_some, h2]
theorem Zoi {kf : Nat → List UInt8} {k : List UInt8} {Q : List Nat} (h : ∀ m ∈ Q, kf m ≠ k) : mget k (qmE kf Q) = none := by
  unfold mget; rw [Zd0 h]
  rfl
theorem Zt2 {kf : Nat → List UInt8} {v : Nat} {Q : List Nat} (h : ∀ m ∈ Q, kf m ≠ kf v) : mset (kf v) (.bool true) (qmE kf Q) = qmE kf (Q ++ [v]) := by
  unfold mset; rw [Zd0 h]; unfold qmE; rw [List.map_append]
  rfl
theorem Zgk {q : Nat} {ws : List (List UInt8)} (hv : Valid q ws) (v : Nat) : ∀ x ∈ stN ws q v, 32 ∉ x := by
  intro x hx h; obtain ⟨y, hy, hs⟩ := Z78 _ x hx; obtain ⟨a, ha, e⟩ := Zqr (hv.words y hy).2.2 32 (hs.subset h); have h16 := hv.q16; have key : ∀ a : Fin 16, L16.getD a.val 0 ≠ 32 := by decide
  exact key ⟨a, by omega⟩ e.symm
theorem Zud {q : Nat} {ws : List (List UInt8)} (hv : Valid q ws) {u v : Nat} (hu : stN ws q u ≠ []) (hw : stN ws q v ≠ []) : keyS (stN ws q u) = keyS (stN ws q v) ↔ stN ws q u = stN ws q v :=
  ⟨Zpq hu hw (Zgk hv u) (Zgk hv v), fun e => by rw [e]⟩

def nodV (S : List (List UInt8)) (w : List UInt8) : PV := .agg [.sl (S.map .str), .str w]
def nodN (ws : List (List UInt8)) (q v : Nat) : PV := nodV (stN ws q v) (wn q v)
def seH (q : Nat) (ws : List (List UInt8)) (Q : List Nat) : List AObj := [.box [.p (.int .i64 q), .p (.sl (ws.map .str))], .mp (qmE (fun v => keyS (stN ws q v)) Q), .row 143 2 (Q.map (nodN ws q)) .lax]
def seR (q : Nat) (r : Option Nat) : List UInt8 := match r with
  | some v => wn q v
  | none => []
theorem Zgj {q : Nat} {ws : List (List UInt8)} (hv : Valid q ws) : stN ws q 0 ≠ [] := by
  intro e; have hp := hv.pos; have : ws[0] ∈ stN ws q 0 := by
    refine mem_canL.2 (List.mem_flatMap.2 ⟨ws[0], List.getElem_mem hp, Mc.mem_ends.2 (List.suffix_refl _)⟩)
  rw [e] at this
  cases this
end Go.Proofs.YtpljmccnfmkmfaaGreat
end

section
namespace Go.Proofs.YtpljmccnfmkmfaaGreat
open Go Go.AM Go.Mc

/-! ### plain: a list without repetitions -/
def addU (o : List (List UInt8)) (s : List UInt8) : List (List UInt8) := if s ∈ o then o else o ++ [s]
theorem Zml {o : List (List UInt8)} {s x : List UInt8} : x ∈ addU o s ↔ x ∈ o ∨ x = s := by
  unfold addU
  split
  · rename_i h
    exact ⟨.inl, fun h2 => h2.elim id fun e => e ▸ h⟩
  · simp
theorem Zg6 {o : List (List UInt8)} {s : List UInt8} (h : o.Nodup) : (addU o s).Nodup := by
  unfold addU
  split
  · exact h
  · rename_i h2
    refine List.nodup_append.2 ⟨h, by simp, fun a ha b hb e => ?_⟩; rw [List.mem_singleton.1 hb] at e; exact h2 (e ▸ ha)
theorem Zmm (o : List (List UInt8)) (s : List UInt8) : (addU o s).length ≤ o.length + 1 := by
  unfold addU; split <;> simp
theorem Z5u {x : List UInt8} : ∀ {l o : List (List UInt8)}, x ∈ l.foldl addU o ↔ x ∈ o ∨ x ∈ l
  | [], o => by simp
  | s :: l, o => by rw [List.foldl_cons, Z5u, Zml, List.mem_cons]; simp only [or_assoc]
theorem Z50 : ∀ {l o : List (List UInt8)}, o.Nodup → (l.foldl addU o).Nodup
  | [], _, h => h
  | s :: l, o, h => by rw [List.foldl_cons]; exact Z50 (Zg6 h)
theorem Z41 : ∀ (l o : List (List UInt8)), (l.foldl addU o).length ≤ o.length + l.length
  | [], o => by simp
  | s :: l, o => by
    rw [List.foldl_cons]; have := Z41 l (addU o s); have := Zmm o s; simp only [List.length_cons]; omega

theorem h152 (a : List (List UInt8)) (x : List UInt8) (hl : a.length ≤ 1000000000) : PFn Tryz.prog 152 [.sl (a.map .str), .str x] [.bool (decide (x ∈ a))] := by
  refine PFn.of_body hΓ Tryz.func152 (by kernel_rfl) rfl (Wd [] ?_); simp -implicitDefEqProofs only [Tryz.ntmps152, Tryz.results152, Nat.reduceAdd, Nat.reduceSub, go_sem]
  refine AWp.loopI (fun k : Nat => ⟨mkF 18 [(0, .p (.sl (a.map .str))), (1, .p (.str x)), (5, .p (.int .i64 k))], []⟩)
    (fun k => k ≤ a.length ∧ x ∉ a.take k) (fun k => a.length - k) 0 (by simp [go_sem, Z8]) (by simp) ?_
  rintro k ⟨hk, h0⟩; refine Wd [] ?_; by_cases hlt : k < a.length
  · have hlt' : (k : Int) < (a.length : Int) := by omega
    have hg : (a.map PV.str).getD k default = .str a[k] := Z2 _ _ _ _ hlt; have htk : a.take (k + 1) = a.take k ++ [a[k]] := by rw [List.take_succ_eq_append_getElem hlt]
    by_cases he : a[k] = x
    · simp -implicitDefEqProofs only [hlt', hg, Int.toNat_natCast, he, List.length_map, go_sem]
      have hx : x ∈ a := he ▸ List.getElem_mem hlt; simp -implicitDefEqProofs only [hx, go_sem]
    · simp -implicitDefEqProofs only [hlt', hg, Int.toNat_natCast, he, List.length_map, go_sem]
      have h2 : x ∉ a.take (k + 1) := by
        rw [htk]; simp only [List.mem_append, List.mem_singleton]; exact fun h => h.elim h0 fun e => he e.symm
      exact ⟨by simp only [InR]; omega, k + 1, by simp, ⟨hlt, h2⟩, by omega⟩
  · have hlt' : ¬ (k : Int) < (a.length : Int) := by omega
    rw [List.take_of_length_le (by omega)] at h0; simp -implicitDefEqProofs only [hlt', h0, List.length_map, go_sem]

def Z60 (a b : List (List UInt8)) : Prop := a.length = b.length ∧ ∀ x ∈ a, x ∈ b
instance (a b : List (List UInt8)) : Decidable (Z60 a b) := by unfold Z60; exact inferInstance
theorem h144 (a b : List (List UInt8)) (ha : a.length ≤ 1000000000) (hb : b.length ≤ 1000000000) : PFn Tryz.prog 144 [.sl (a.map .str), .sl (b.map .str)] [.bool (decide (Z60 a b))] := by
  refine PFn.of_body hΓ Tryz.func144 (by kernel_rfl) rfl (AWp.seq (Wd [] ?_)); simp -implicitDefEqProofs only [Tryz.ntmps144, Tryz.results144, Nat.reduceAdd, Nat.reduceSub, go_sem]; refine AWp.seq (Wd [] ?_); by_cases hl : a.length = b.length
  rotate_left
  · have hl' : ¬ (a.length : Int) = (b.length : Int) := by omega
    have hn : ¬ Z60 a b := fun h => hl h.1
    simp -implicitDefEqProofs only [hl', hn, List.length_map, go_sem]
  have hl' : (a.length : Int) = (b.length : Int) := by omega
  simp -implicitDefEqProofs only [hl', List.length_map, go_sem]; refine AWp.seq (Wd [] ?_); simp -implicitDefEqProofs only [go_sem]
  refine AWp.loopI (fun k : Nat => ⟨mkF 24 [(0, .p (.sl (a.map .str))), (1, .p (.sl (b.map .str))), (5, .p (.int .i64 k))], []⟩)
    (fun k => k ≤ a.length ∧ ∀ x ∈ a.take k, x ∈ b) (fun k => a.length - k) 0 (by simp [go_sem, Z8]) (by simp) ?_
  rintro k ⟨hk, h0⟩; refine Wd [] ?_; by_cases hlt : k < a.length
  · have hlt' : (k : Int) < (a.length : Int) := by omega
    have hg : (a.map PV.str).getD k default = .str a[k] := Z2 _ _ _ _ hlt; simp -implicitDefEqProofs only [hlt', hg, Int.toNat_natCast, List.length_map, go_sem]; refine Z0 (h152 b a[k] hb) (.pures rfl) ?_; by_cases hin : a[k] ∈ b
    · simp -implicitDefEqProofs only [hin, go_sem]
      refine ⟨by simp only [InR]; omega, k + 1, by simp, ⟨hlt, fun x hx => ?_⟩, by omega⟩; rw [List.take_succ_eq_append_getElem hlt, List.mem_append, List.mem_singleton] at hx; exact hx.elim (h0 x) fun e => e ▸ hin
    · have hn : ¬ Z60 a b := fun h => hin (h.2 _ (List.getElem_mem hlt))
      simp -implicitDefEqProofs only [hin, hn, go_sem]
  · have hlt' : ¬ (k : Int) < (a.length : Int) := by omega
    rw [List.take_of_length_le (by omega)] at h0; have hs : Z60 a b := ⟨hl, h0⟩; simp -implicitDefEqProofs only [hlt', hs, List.length_map, go_sem]; refine Wd [] ?_; simp -implicitDefEqProofs only [go_sem]

def Zcc (w : List UInt8) : List (List UInt8) := (List.range w.length).map fun k => w.drop k
def Z0f (ws : List (List UInt8)) : List (List UInt8) := (ws.flatMap Zcc).foldl addU [[]]
def stI (ws : List (List UInt8)) (i : Nat) : List (List UInt8) := ((ws.take i).flatMap Zcc).foldl addU [[]]
def stK (ws : List (List UInt8)) (i : Nat) (w : List UInt8) (k : Nat) : List (List UInt8) := ((List.range k).map fun j => w.drop j).foldl addU (stI ws i)
theorem Ze7 {ws : List (List UInt8)} {i : Nat} (hi : i < ws.length) : stI ws (i + 1) = stK ws i ws[i] ws[i].length := by
  unfold stI stK Zcc; rw [List.take_succ_eq_append_getElem hi, List.flatMap_append, List.foldl_append]; simp only [List.flatMap_cons, List.flatMap_nil, List.append_nil]
  rfl
theorem Zkk {ws : List (List UInt8)} {i : Nat} (w : List UInt8) (k : Nat) : stK ws i w (k + 1) = addU (stK ws i w k) (w.drop k) := by
  unfold stK; rw [List.range_succ, List.map_append, List.foldl_append]; rfl
theorem Zgl {ws : List (List UInt8)} {i : Nat} (w : List UInt8) (k : Nat) : (stK ws i w k).length ≤ (stI ws i).length + k := by
  unfold stK; have := Z41 ((List.range k).map fun j => w.drop j) (stI ws i)
  simpa using this
theorem Zgm {ws : List (List UInt8)} (hw : ∀ x ∈ ws, x.length ≤ 32) : ∀ i, i ≤ ws.length → (stI ws i).length ≤ 1 + 32 * i
  | 0, _ => by simp [stI]
  | i + 1, h => by
    have h1 := Zgm hw i (by omega); have h2 := hw ws[i] (List.getElem_mem (by omega)); have h3 := Zgl (ws := ws) (i := i) ws[i] ws[i].length; rw [Ze7 (by omega)]; omega
theorem Z9k {ws : List (List UInt8)} (hp : ws ≠ []) {x : List UInt8} : x ∈ Z0f ws ↔ x ∈ begL ws := by
  unfold Z0f begL; rw [Z5u, List.mem_flatMap, List.mem_flatMap]
  constructor
  · rintro (h | ⟨w, hw, h⟩)
    · obtain ⟨w, r, rfl⟩ := List.exists_cons_of_ne_nil hp
      exact ⟨w, by simp, by rw [List.mem_singleton.1 h]; exact mem_ends.2 (List.nil_suffix)⟩
    · refine ⟨w, hw, mem_ends.2 ?_⟩
      unfold Zcc at h; obtain ⟨k, _, rfl⟩ := List.mem_map.1 h; exact List.drop_suffix k w
  · rintro ⟨w, hw, h⟩
    obtain ⟨p, rfl⟩ := mem_ends.1 h; rcases List.eq_nil_or_concat x with h0 | ⟨y, c, h0⟩
    · left; subst h0; simp
    · right
      refine ⟨_, hw, ?_⟩; unfold Zcc; refine List.mem_map.2 ⟨p.length, List.mem_range.2 ?_, List.drop_left⟩; rw [List.length_append, h0]; simp
theorem Z6n (ws : List (List UInt8)) : (Z0f ws).Nodup := Z50 (by simp)

theorem h89 (q : Int) (ws : List (List UInt8)) (hv : Valid q ws) : PFn Tryz.prog 89 [Z7 q ws] [.sl ((Z0f ws).map .str)] := by
  have hlen := hv.len; have hw32 : ∀ x ∈ ws, x.length ≤ 32 := fun x hx => (hv.words x hx).2.1
  refine PFn.of_body hΓ Tryz.func89 (by kernel_rfl) rfl (AWp.seq (Wd [] ?_)); simp -implicitDefEqProofs only [Tryz.ntmps89, Tryz.results89, Nat.reduceAdd, Nat.reduceSub, Z7, go_sem]; refine AWp.seq (Wd [] ?_); simp -implicitDefEqProofs only [go_sem]; refine ⟨by simp [Zc, PV.cells], ?_⟩; refine AWp.adopt (l := [.str []]) 3 9 1 (by rfl) (by simp [PV.cells]) ?_; simp -implicitDefEqProofs only [go_sem]; refine AWp.seq (Wd [] ?_); simp -implicitDefEqProofs only [go_sem]
  refine AWp.loopI (fun i : Nat => ⟨mkF 41 [(1, .ptr 0 0), (3, .own 1 (stI ws i).length), (4, .p (.int .i64 i))], [.box [.p (.int .i64 q), .p (.sl (ws.map .str))], .row 9 1 ((stI ws i).map .str) .lax]⟩)
    (fun i => i ≤ ws.length) (fun i => ws.length - i) 0 (by simp [go_sem, stI, Z8]) (by simp) ?_
  intro i hi; have hiL := Zgm hw32 i hi; refine Wd [] ?_; by_cases hlt : i < ws.length
  rotate_left
  · have hlt' : ¬ (i : Int) < (ws.length : Int) := by omega
    have hst : stI ws i = Z0f ws := by unfold stI Z0f; rw [List.take_of_length_le (by omega)]
    simp -implicitDefEqProofs only [hlt', List.length_map, hst, go_sem]; refine Wd [] ?_; simp -implicitDefEqProofs only [go_sem]
  have hlt' : (i : Int) < (ws.length : Int) := by omega
  have hw := hw32 ws[i] (List.getElem_mem hlt); simp -implicitDefEqProofs only [hlt', List.length_map, go_sem]
  refine AWp.loopI (fun k : Nat => ⟨mkF 41 [(1, .ptr 0 0), (3, .own 1 (stK ws i ws[i] k).length), (4, .p (.int .i64 i)), (5, .p (.int .i64 k))], [.box [.p (.int .i64 q), .p (.sl (ws.map .str))], .row 9 1 ((stK ws i ws[i] k).map .str) .lax]⟩)
    (fun k => k ≤ ws[i].length) (fun k => ws[i].length - k) 0 (by simp [go_sem, stK, Z8]) (by simp) ?_
  intro k hk; have hkL := Zgl (ws := ws) (i := i) ws[i] k; have hg : (ws.map PV.str).getD i default = .str ws[i] := Z2 _ _ _ _ hlt; refine Wd [] ?_; by_cases hkl : k < ws[i].length
  rotate_left
  · have hkl' : ¬ (k : Int) < (ws[i].length : Int) := by omega
    have hkk : k = ws[i].length := by omega
    subst hkk; have hs := Ze7 hlt; simp -implicitDefEqProofs only [hlt', hg, Int.toNat_natCast, hkl', List.length_map, go_sem]; exact ⟨by simp only [InR]; omega, i + 1, ⟨by rw [hs]; simp, by rw [hs]⟩, by omega, by omega⟩
  have hkl' : (k : Int) < (ws[i].length : Int) := by omega
  have hs := Zkk (ws := ws) (i := i) ws[i] k; simp -implicitDefEqProofs only [hlt', hg, Int.toNat_natCast, hkl', List.length_map, go_sem]; refine ⟨by omega, ?_⟩; refine Z0 (h152 (stK ws i ws[i] k) (ws[i].drop k) (by omega)) (.owned rfl rfl) ?_; by_cases hin : ws[i].drop k ∈ stK ws i ws[i] k
  · have hs : stK ws i ws[i] (k + 1) = stK ws i ws[i] k := by rw [hs]; exact if_pos hin
    simp -implicitDefEqProofs only [hin, go_sem]; exact ⟨by simp only [InR]; omega, k + 1, ⟨⟨by rw [hs], by simp⟩, by rw [hs]⟩, by omega, by omega⟩
  · have hs : stK ws i ws[i] (k + 1) = stK ws i ws[i] k ++ [ws[i].drop k] := by rw [hs]; exact if_neg hin
    simp -implicitDefEqProofs only [hin, go_sem]; have hs1 : Zc [PV.str (ws[i].drop k)] 1 := by simp [Zc, PV.cells]
    have ho1 : Z0k [PV.str (ws[i].drop k)] := by simp [Z0k, PV.cells, PV.isAgg]
    refine ⟨⟨hs1, by omega⟩, ⟨hs1, ho1⟩, ⟨by simp, by omega, by omega⟩, by simp only [InR]; omega, k + 1, ⟨⟨by rw [hs]; simp, by simp⟩, by rw [hs]; simp⟩, by omega, by omega⟩

theorem Z13 {α : Type} [DecidableEq α] : ∀ {l m : List α}, l.Nodup → (∀ a ∈ l, a ∈ m) → l.length ≤ m.length
  | [], _, _, _ => by simp
  | a :: l, m, h, hs => by
    rw [List.nodup_cons] at h; have ha : a ∈ m := hs a (by simp); have h2 := Z13 (l := l) (m := m.erase a) h.2 (fun b hb => by
      have hne : b ≠ a := fun e => h.1 (e ▸ hb)
      exact (List.mem_erase_of_ne hne).2 (hs b (by simp [hb])))
    have h3 := List.length_erase_of_mem ha; have h4 : 0 < m.length := List.length_pos_of_mem ha
    simp; omega
theorem Z7j {l m : List (List UInt8)} (h : ∀ x, x ∈ l ↔ x ∈ m) : canL l = canL m := Zqb (Z54 m) fun x => (h x).trans mem_canL.symm
theorem Zm4 {l m : List (List UInt8)} (h : canL l = canL m) (x : List UInt8) : x ∈ l ↔ x ∈ m := by rw [← mem_canL, h, mem_canL]
theorem Z4l {l : List (List UInt8)} : canL l = [] ↔ l = [] := by
  constructor
  · intro h
    cases l with
    | nil => rfl
    | cons a l => have : a ∈ canL (a :: l) := mem_canL.2 (by simp); rw [h] at this; cases this
  · rintro rfl
    cases h : canL [] with
    | nil => rfl
    | cons a l => have : a ∈ canL [] := by rw [h]; simp
                  cases mem_canL.1 this
theorem Zaa {a b : List (List UInt8)} (ha : a.Nodup) (hb : b.Nodup) : Z60 a b ↔ canL a = canL b := by
  constructor
  · rintro ⟨h1, h2⟩
    refine Z7j fun x => ⟨h2 x, fun hx => Classical.byContradiction fun hn => ?_⟩
    have h3 := Z13 ha (m := b.erase x) fun y hy => (List.mem_erase_of_ne (fun e => hn (by rw [← e]; exact hy))).2 (h2 y hy)
    have h4 := List.length_erase_of_mem hx; have h5 : 0 < b.length := List.length_pos_of_mem hx; omega
  · intro h
    have hm := Zm4 h; exact ⟨Nat.le_antisymm (Z13 ha fun x hx => (hm x).1 hx) (Z13 hb fun x hx => (hm x).2 hx), fun x hx => (hm x).1 hx⟩

def Z0i (ws S : List (List UInt8)) (c : UInt8) : List (List UInt8) := (rdS ws S c).foldl addU []
theorem mem_readL {ws S : List (List UInt8)} {c : UInt8} {x : List UInt8} : x ∈ Z0i ws S c ↔ x ∈ rdS ws S c := by unfold Z0i; rw [Z5u]; simp
theorem Z37 (ws S : List (List UInt8)) (c : UInt8) : (Z0i ws S c).Nodup := Z50 (by simp)
theorem Zoe {ws S T : List (List UInt8)} (h : ∀ x, x ∈ S ↔ x ∈ T) (c : UInt8) (x : List UInt8) : x ∈ rdS ws S c ↔ x ∈ rdS ws T c := by
  unfold rdS; rw [List.mem_append, List.mem_append, mem_tails, mem_tails, h]; simp only [h]
theorem Z9d {ws S : List (List UInt8)} {c : UInt8} : canL (Z0i ws S c) = canL (rdS ws (canL S) c) := Z7j fun x => mem_readL.trans (Zoe (fun _ => mem_canL.symm) c x)

def FewS (ws : List (List UInt8)) (q : Nat) : Prop := ∃ T : List (List (List UInt8)), T.length ≤ 300 ∧ ∀ v, stN ws q v = [] ∨ stN ws q v ∈ T

structure ManyI (ws : List (List UInt8)) (q : Nat) (sets : List (List (List UInt8))) (i a : Nat) : Prop where
  nd : ∀ s ∈ sets, s.Nodup
  reach : ∀ s ∈ sets, ∃ v, canL s = stN ws q v ∧ stN ws q v ≠ []
  dist : sets.Pairwise fun s t => canL s ≠ canL t
  root : ∃ s ∈ sets, canL s = stN ws q 0
  closed : ∀ k b, (hk : k < sets.length) → b < q → (k < i ∨ k = i ∧ b < a) → canL (Z0i ws sets[k] (Kn.ltr b)) = [] ∨ ∃ s ∈ sets, canL s = canL (Z0i ws sets[k] (Kn.ltr b))
theorem Zh6 {ws : List (List UInt8)} {q : Nat} (hq : 0 < q) {s : List (List UInt8)} {v b : Nat} (hb : b < q) (h : canL s = stN ws q v) : canL (Z0i ws s (Kn.ltr b)) = stN ws q (v * q + b + 1) := by
  rw [Z9d, Z5d hq v b hb, h]
theorem ManyI.start {ws : List (List UInt8)} {q : Nat} (hp : ws ≠ []) : ManyI ws q [Z0f ws] 0 0 := by
  have h0 : canL (Z0f ws) = stN ws q 0 := Z7j fun x => Z9k hp
  have hne : stN ws q 0 ≠ [] := by
    rw [← h0]; intro e; have h1 := Z4l.1 e; have : ([] : List UInt8) ∈ Z0f ws := Z5u.2 (.inl (by simp)); rw [h1] at this
    cases this
  exact { nd := fun s hs => by rw [List.mem_singleton.1 hs]; exact Z6n ws
          reach := fun s hs => ⟨0, by rw [List.mem_singleton.1 hs, h0], hne⟩
          dist := by simp
          root := ⟨_, by simp, h0⟩
          closed := fun k b hk hb h => by omega }
theorem ManyI.skip {ws : List (List UInt8)} {q : Nat} {sets : List (List (List UInt8))} {i a : Nat} (M : ManyI ws q sets i a) (hi : i < sets.length)
    (h : Z0i ws sets[i] (Kn.ltr a) = [] ∨ ∃ s ∈ sets, Z60 s (Z0i ws sets[i] (Kn.ltr a))) : ManyI ws q sets i (a + 1) :=
  { M with
    closed := fun k b hk hb h2 => by
      by_cases e : k = i ∧ b = a
      · obtain ⟨e1, e2⟩ := e
        subst e1 e2; rcases h with h | ⟨s, hs, h⟩
        · exact .inl (Z4l.2 h)
        · exact .inr ⟨s, hs, (Zaa (M.nd s hs) (Z37 _ _ _)).1 h⟩
      · exact M.closed k b hk hb (by omega) }
theorem ManyI.add {ws : List (List UInt8)} {q : Nat} (hq : 0 < q) {sets : List (List (List UInt8))} {i a : Nat} (M : ManyI ws q sets i a) (hi : i < sets.length) (ha : a < q)
    (h0 : Z0i ws sets[i] (Kn.ltr a) ≠ []) (h : ∀ s ∈ sets, ¬ Z60 s (Z0i ws sets[i] (Kn.ltr a))) : ManyI ws q (sets ++ [Z0i ws sets[i] (Kn.ltr a)]) i (a + 1) where
  nd := fun s hs => by
    rcases List.mem_append.1 hs with hs | hs
    · exact M.nd s hs
    · rw [List.mem_singleton.1 hs]; exact Z37 _ _ _
  reach := fun s hs => by
    rcases List.mem_append.1 hs with hs | hs
    · exact M.reach s hs
    · rw [List.mem_singleton.1 hs]
      obtain ⟨v, hv, _⟩ := M.reach _ (List.getElem_mem hi); have e := Zh6 hq ha hv; exact ⟨_, e, by rw [← e]; exact fun e2 => h0 (Z4l.1 e2)⟩
  dist := List.pairwise_append.2 ⟨M.dist, by simp, fun x hx y hy => by
    rw [List.mem_singleton.1 hy]; exact fun e => h x hx ((Zaa (M.nd x hx) (Z37 _ _ _)).2 e)⟩
  root := by obtain ⟨s, hs, h⟩ := M.root; exact ⟨s, List.mem_append_left _ hs, h⟩
  closed := fun k b hk hb h2 => by
    have hkQ : k < sets.length := by omega
    have e0 : (sets ++ [Z0i ws sets[i] (Kn.ltr a)])[k] = sets[k] := List.getElem_append_left hkQ; rw [e0]; by_cases e : k = i ∧ b = a
    · obtain ⟨e1, e2⟩ := e
      subst e1 e2; exact .inr ⟨_, List.mem_append_right _ (List.mem_singleton.2 rfl), rfl⟩
    · rcases M.closed k b hkQ hb (by omega) with h3 | ⟨s, hs, h3⟩
      · exact .inl h3
      · exact .inr ⟨s, List.mem_append_left _ hs, h3⟩
theorem ManyI.next {ws : List (List UInt8)} {q : Nat} {sets : List (List (List UInt8))} {i : Nat} (M : ManyI ws q sets i q) : ManyI ws q sets (i + 1) 0 :=
  { M with closed := fun k b hk hb h2 => M.closed k b hk hb (by omega) }
theorem ManyI.few {ws : List (List UInt8)} {q : Nat} (hq : 0 < q) {sets : List (List (List UInt8))} (M : ManyI ws q sets sets.length 0) (hl : sets.length ≤ 300) : FewS ws q := by
  refine ⟨sets.map canL, by simpa using hl, fun v => ?_⟩
  induction v using Nat.strongRecOn with
  | _ v ih =>
    rcases Z84 hq v with h | ⟨u, b, hb, rfl, hu⟩
    · subst h
      obtain ⟨s, hs, h⟩ := M.root; exact .inr (List.mem_map.2 ⟨s, hs, h⟩)
    · rcases ih u hu with h | h
      · left
        rw [Z5d hq u b hb, h]; exact Z4l.2 rfl
      · obtain ⟨s, hs, h⟩ := List.mem_map.1 h
        obtain ⟨k, hk, rfl⟩ := List.getElem_of_mem hs; rw [← Zh6 hq hb h]; rcases M.closed k b hk hb (.inl hk) with h2 | ⟨t, ht, h2⟩
        · exact .inl h2
        · exact .inr (List.mem_map.2 ⟨t, ht, h2⟩)
theorem ManyI.many {ws : List (List UInt8)} {q : Nat} {sets : List (List (List UInt8))} {i a : Nat} (M : ManyI ws q sets i a) (hl : 300 < sets.length) : ¬ FewS ws q := by
  rintro ⟨T, hT, h⟩; have h1 : (sets.map canL).Nodup := List.pairwise_map.2 M.dist; have h2 := Z13 h1 (m := T) fun s hs => by
    obtain ⟨t, ht, rfl⟩ := List.mem_map.1 hs; obtain ⟨v, hv, hne⟩ := M.reach t ht; rw [hv]; exact (h v).resolve_left hne
  rw [List.length_map] at h2; omega
theorem Zc8 {ws : List (List UInt8)} {q : Nat} (hF : FewS ws q) {Q : List Nat} {i a : Nat} (B : Bfs q (stN ws q) (fun S => S = []) Q i a) : Q.length ≤ 300 := by
  obtain ⟨T, hT, h⟩ := hF; have h1 : (Q.map (stN ws q)).Nodup := List.pairwise_map.2 B.dist; have h2 := Z13 h1 (m := T) fun s hs => by
    obtain ⟨v, hv, rfl⟩ := List.mem_map.1 hs; exact (h v).resolve_left (B.alive v hv)
  rw [List.length_map] at h2; omega

def r1S (S : List (List UInt8)) (c : UInt8) (i : Nat) : List (List UInt8) := (tails c (S.take i)).foldl addU []
def r2S (ws S : List (List UInt8)) (c : UInt8) (k : Nat) : List (List UInt8) := (tails c S ++ tails c (ws.take k)).foldl addU []
theorem Zkt {S : List (List UInt8)} {c : UInt8} {i : Nat} (hi : i < S.length) : r1S S c (i + 1) = (tl1 c S[i]).foldl addU (r1S S c i) := by
  unfold r1S; rw [Z64 hi, List.foldl_append]
theorem Zks {ws S : List (List UInt8)} {c : UInt8} {k : Nat} (hk : k < ws.length) : r2S ws S c (k + 1) = (tl1 c ws[k]).foldl addU (r2S ws S c k) := by
  unfold r2S; rw [Z64 hk, ← List.append_assoc, List.foldl_append]
theorem Zog (S : List (List UInt8)) (c : UInt8) (i : Nat) : (r1S S c i).length ≤ S.length := by
  unfold r1S; have h1 := Z41 (tails c (S.take i)) []; have h2 := Z15 c (S.take i); rw [List.length_take] at h2; simp only [List.length_nil] at h1; omega
theorem Zof (ws S : List (List UInt8)) (c : UInt8) (k : Nat) : (r2S ws S c k).length ≤ S.length + ws.length := by
  unfold r2S; have h1 := Z41 (tails c S ++ tails c (ws.take k)) []; have h2 := Z15 c (ws.take k); have h3 := Z15 c S; rw [List.length_take] at h2; rw [List.length_append] at h1; simp only [List.length_nil] at h1; omega

theorem h90 (q : Int) (ws S : List (List UInt8)) (c : UInt8) (hv : Valid q ws) (hS : S.length ≤ 1000000) :
    PFn Tryz.prog 90 [Z7 q ws, .sl (S.map .str), .int .u8 c.toNat] [.sl ((Z0i ws S c).map .str)] := by
  have hlen := hv.len; have hne : ∀ x ∈ ws, x ≠ [] := fun x hx e => by have := (hv.words x hx).1; rw [e] at this; simp at this
  refine PFn.of_body hΓ Tryz.func90 (by kernel_rfl) rfl (AWp.seq (Wd [] ?_)); simp -implicitDefEqProofs only [Tryz.ntmps90, Tryz.results90, Nat.reduceAdd, Nat.reduceSub, Z7, go_sem]; refine AWp.seq (Wd [] ?_); simp -implicitDefEqProofs only [go_sem]; refine ⟨by simp [Zc], ?_⟩; refine AWp.adopt (l := []) 7 9 1 (by rfl) (by simp) ?_; simp -implicitDefEqProofs only [go_sem]; refine AWp.seq (AWp.seq (Wd [] ?_)); simp -implicitDefEqProofs only [go_sem]; refine AWp.block ?_
  refine AWp.loopI (fun i : Nat => ⟨mkF 89 [(1, .p (.sl (S.map .str))), (2, .p (.int .u8 c.toNat)), (3, .ptr 0 0), (7, .own 1 (r1S S c i).length), (8, .p (.int .i64 i))], [.box [.p (.int .i64 q), .p (.sl (ws.map .str))], .row 9 1 ((r1S S c i).map .str) .lax]⟩)
    (fun i => i ≤ S.length) (fun i => S.length - i) 0 (by simp [go_sem, r1S, tails, Z8]) (by simp) ?_
  intro i hi; have hoL := Zog S c i; refine Wd [] ?_; by_cases hlt : i < S.length
  · have hlt' : (i : Int) < (S.length : Int) := by omega
    have hg : (S.map PV.str).getD i default = .str S[i] := Z2 _ _ _ _ hlt; have hs := Zkt (c := c) hlt; by_cases hx0 : S[i] = []
    · rw [hx0] at hg hs
      have hs : r1S S c (i + 1) = r1S S c i := hs; simp -implicitDefEqProofs only [hlt', hg, Int.toNat_natCast, List.length_map, go_sem]; exact ⟨by simp only [InR]; omega, i + 1, ⟨⟨by rw [hs], by simp⟩, by rw [hs]⟩, by omega, by omega⟩
    obtain ⟨d, y, hx⟩ := List.exists_cons_of_ne_nil hx0; rw [hx] at hg hs; rw [tl1_cons] at hs; have hg0 : (d :: y).getD (Int.toNat 0) 0 = d := rfl; have hd1 : List.drop (Int.toNat 1) (d :: y) = y := rfl; have hp : 0 < (((y.length + 1 : Nat)) : Int) := by omega
    by_cases hd : d = c
    · subst hd
      rw [if_pos rfl] at hs; simp -implicitDefEqProofs only [hlt', hg, Int.toNat_natCast, List.length_cons, hg0, hp, hd1, List.length_map, go_sem]; refine ⟨⟨by omega, by omega⟩, ?_⟩; refine Z0 (h152 (r1S S d i) y (by omega)) (.owned rfl rfl) ?_; have hs : r1S S d (i + 1) = addU (r1S S d i) y := hs; by_cases hin : y ∈ r1S S d i
      · have hs : r1S S d (i + 1) = r1S S d i := hs.trans (if_pos hin)
        simp -implicitDefEqProofs only [hin, go_sem]; exact ⟨by simp only [InR]; omega, i + 1, ⟨⟨by rw [hs], by simp⟩, by rw [hs]⟩, by omega, by omega⟩
      · have hs : r1S S d (i + 1) = r1S S d i ++ [y] := hs.trans (if_neg hin)
        simp -implicitDefEqProofs only [hin, hlt', hg, Int.toNat_natCast, List.length_cons, hp, hd1, List.length_map, go_sem]; have hs1 : Zc [PV.str y] 1 := by simp [Zc, PV.cells]
        have ho1 : Z0k [PV.str y] := by simp [Z0k, PV.cells, PV.isAgg]
        exact ⟨⟨by omega, by omega⟩, ⟨hs1, by omega⟩, ⟨hs1, ho1⟩, ⟨by simp, by omega, by omega⟩, by simp only [InR]; omega, i + 1, ⟨⟨by rw [hs]; simp, by simp⟩, by rw [hs]; simp⟩, by omega, by omega⟩
    · rw [if_neg hd] at hs
      have hs : r1S S c (i + 1) = r1S S c i := hs; have hdc : ¬ d.toNat = c.toNat := fun e => hd (UInt8.toNat_inj.1 e)
      simp -implicitDefEqProofs only [hlt', hg, Int.toNat_natCast, List.length_cons, hg0, hp, hdc, List.length_map, go_sem]; exact ⟨by simp only [InR]; omega, i + 1, ⟨⟨by rw [hs], by simp⟩, by rw [hs]⟩, by omega, by omega⟩
  have hlt' : ¬ (i : Int) < (S.length : Int) := by omega
  have h0 : r1S S c i = r2S ws S c 0 := by unfold r1S r2S; rw [List.take_of_length_le (by omega)]; simp [tails]
  rw [h0]; simp -implicitDefEqProofs only [hlt', List.length_map, go_sem]; refine AWp.seq (AWp.seq (Wd [] ?_)); simp -implicitDefEqProofs only [go_sem]; refine AWp.block ?_
  refine AWp.loopI (fun k : Nat => ⟨mkF 89 [(1, .p (.sl (S.map .str))), (2, .p (.int .u8 c.toNat)), (3, .ptr 0 0), (7, .own 1 (r2S ws S c k).length), (9, .p (.int .i64 k))], [.box [.p (.int .i64 q), .p (.sl (ws.map .str))], .row 9 1 ((r2S ws S c k).map .str) .lax]⟩)
    (fun k => k ≤ ws.length ∧ ([] ∈ S ∨ k = 0)) (fun k => ws.length - k) 0 (by simp [go_sem, Z8]) (by simp) ?_
  rintro k ⟨hk, hin0⟩; have hoL := Zof ws S c k; have hpos := hv.pos; refine Wd [] ?_; by_cases hkl : k < ws.length
  rotate_left
  · have hkl' : ¬ (k : Int) < (ws.length : Int) := by omega
    have hkk : k = ws.length := by omega
    have hS0 : [] ∈ S := hin0.resolve_right (by omega); have hr : r2S ws S c k = Z0i ws S c := by unfold r2S Z0i rdS; rw [if_pos hS0, List.take_of_length_le (by omega)]
    simp -implicitDefEqProofs only [hkl', List.length_map, hr, go_sem]; refine Wd [] ?_; simp -implicitDefEqProofs only [go_sem]
  have hkl' : (k : Int) < (ws.length : Int) := by omega
  simp -implicitDefEqProofs only [hkl', List.length_map, go_sem]; refine Z0 (h152 S [] (by omega)) (.pures rfl) ?_; by_cases hS0 : [] ∈ S
  rotate_left
  · have hk0 : k = 0 := hin0.resolve_left hS0
    subst hk0; have hr : r2S ws S c 0 = Z0i ws S c := by unfold r2S Z0i rdS; rw [if_neg hS0]; rfl
    simp -implicitDefEqProofs only [hS0, hr, go_sem]; refine Wd [] ?_; simp -implicitDefEqProofs only [go_sem]
  have hg : (ws.map PV.str).getD k default = .str ws[k] := Z2 _ _ _ _ hkl; have hs := Zks (S := S) (c := c) hkl; obtain ⟨d, y, hx⟩ := List.exists_cons_of_ne_nil (hne ws[k] (List.getElem_mem hkl)); rw [hx] at hg hs; rw [tl1_cons] at hs; have hg0 : (d :: y).getD (Int.toNat 0) 0 = d := rfl; have hd1 : List.drop (Int.toNat 1) (d :: y) = y := rfl; have hp : 0 < (((y.length + 1 : Nat)) : Int) := by omega
  by_cases hd : d = c
  · subst hd
    rw [if_pos rfl] at hs; simp -implicitDefEqProofs only [hkl', hS0, hg, Int.toNat_natCast, List.length_cons, hg0, hp, hd1, List.length_map, go_sem]; refine ⟨⟨by omega, by omega⟩, ?_⟩; refine Z0 (h152 (r2S ws S d k) y (by omega)) (.owned rfl rfl) ?_; have hs : r2S ws S d (k + 1) = addU (r2S ws S d k) y := hs; by_cases hin : y ∈ r2S ws S d k
    · have hs : r2S ws S d (k + 1) = r2S ws S d k := hs.trans (if_pos hin)
      simp -implicitDefEqProofs only [hin, go_sem]; exact ⟨by simp only [InR]; omega, k + 1, ⟨⟨by rw [hs], by simp⟩, by rw [hs]⟩, by omega, by omega⟩
    · have hs : r2S ws S d (k + 1) = r2S ws S d k ++ [y] := hs.trans (if_neg hin)
      simp -implicitDefEqProofs only [hin, hkl', hg, Int.toNat_natCast, List.length_cons, hp, hd1, List.length_map, go_sem]; have hs1 : Zc [PV.str y] 1 := by simp [Zc, PV.cells]
      have ho1 : Z0k [PV.str y] := by simp [Z0k, PV.cells, PV.isAgg]
      exact ⟨⟨by omega, by omega⟩, ⟨hs1, by omega⟩, ⟨hs1, ho1⟩, ⟨by simp, by omega, by omega⟩, by simp only [InR]; omega, k + 1, ⟨⟨by rw [hs]; simp, by simp⟩, by rw [hs]; simp⟩, by omega, by omega⟩
  · rw [if_neg hd] at hs
    have hs : r2S ws S c (k + 1) = r2S ws S c k := hs; have hdc : ¬ d.toNat = c.toNat := fun e => hd (UInt8.toNat_inj.1 e)
    simp -implicitDefEqProofs only [hkl', hS0, hg, Int.toNat_natCast, List.length_cons, hg0, hp, hdc, List.length_map, go_sem]; exact ⟨by simp only [InR]; omega, k + 1, ⟨⟨by rw [hs], by simp⟩, by rw [hs]⟩, by omega, by omega⟩

theorem Zgs {ws : List (List UInt8)} (hw : ∀ x ∈ ws, x.length ≤ 32) {q v : Nat} {s : List (List UInt8)} (hs : s.Nodup) (h : canL s = stN ws q v) : s.length ≤ 33 * ws.length := by
  have h1 := Z13 hs (m := begL ws) fun x hx => by
    have hx2 : x ∈ stN ws q v := by rw [← h]; exact mem_canL.2 hx
    obtain ⟨y, hy, h3⟩ := Z78 _ x hx2; exact List.mem_flatMap.2 ⟨y, hy, mem_ends.2 h3⟩
  have h2 := Z5z hw ws.length (Nat.le_refl _); unfold begT at h2; rw [List.take_length] at h2; unfold begL at h1; omega
def slW (l : List (List UInt8)) : PV := .sl (l.map .str)
open Classical in
theorem h83 (q : Nat) (ws : List (List UInt8)) (hv : Valid q ws) : PFn Tryz.prog 83 [Z7 q ws] [.bool (decide (¬ FewS ws q))] := by
  have hlen := hv.len; have h2 := hv.q2; have h16 := hv.q16; have hw32 : ∀ x ∈ ws, x.length ≤ 32 := fun x hx => (hv.words x hx).2.1
  have hne : ws ≠ [] := fun e => by have := hv.pos; rw [e] at this; simp at this
  have e89 := h89 q ws hv; unfold Z7 at e89; refine PFn.of_body hΓ Tryz.func83 (by kernel_rfl) rfl (AWp.seq (Wd [] ?_)); simp -implicitDefEqProofs only [Tryz.ntmps83, Tryz.results83, Nat.reduceAdd, Nat.reduceSub, Z7, go_sem]; refine AWp.seq (Wd [] ?_); simp -implicitDefEqProofs only [go_sem]; refine Z0 e89 (.still rfl) ?_; simp -implicitDefEqProofs only [go_sem]; refine ⟨⟨by simp [Zc, PV.cells], by omega⟩, ?_⟩; refine AWp.adopt (l := [slW (Z0f ws)]) 3 22 1 (by rfl) (by simp [slW, PV.cells]) ?_; simp -implicitDefEqProofs only [go_sem]; refine AWp.seq (AWp.seq (Wd [] ?_)); simp -implicitDefEqProofs only [go_sem]; refine AWp.block ?_
  refine AWp.loopI (fun x : List (List (List UInt8)) × Nat => ⟨mkF 60 [(1, .ptr 0 0), (3, .own 1 x.1.length), (4, .p (.int .i64 x.2))], [.box [.p (.int .i64 q), .p (.sl (ws.map .str))], .row 22 1 (x.1.map slW) .lax]⟩)
    (fun x => ManyI ws q x.1 x.2 0 ∧ x.2 ≤ x.1.length ∧ x.1.length ≤ 300) (fun x => 300 - x.2) ([Z0f ws], 0) (by simp [go_sem, slW, Z8]) ⟨ManyI.start hne, by simp, by simp⟩ ?_
  rintro ⟨sets, i⟩ ⟨M, hi, hl⟩; simp only at M hi hl; refine Wd [] ?_; by_cases hlt : i < sets.length
  rotate_left
  · have hlt' : ¬ (i : Int) < (sets.length : Int) := by omega
    have hii : i = sets.length := by omega
    rw [hii] at M; have hF := M.few (by omega) hl; simp -implicitDefEqProofs only [hlt', List.length_map, hF, not_true_eq_false, decide_false, go_sem]; refine Wd [] ?_; simp -implicitDefEqProofs only [go_sem]
  have hlt' : (i : Int) < (sets.length : Int) := by omega
  simp -implicitDefEqProofs only [hlt', List.length_map, go_sem]
  refine AWp.loopI (fun y : List (List (List UInt8)) × Nat => ⟨mkF 60 [(1, .ptr 0 0), (3, .own 1 y.1.length), (4, .p (.int .i64 i)), (5, .p (.int .i64 y.2))], [.box [.p (.int .i64 q), .p (.sl (ws.map .str))], .row 22 1 (y.1.map slW) .lax]⟩)
    (fun y => ManyI ws q y.1 i y.2 ∧ i < y.1.length ∧ y.1.length ≤ 300 ∧ y.2 ≤ q) (fun y => q - y.2) (sets, 0) (by simp [go_sem, Z8]) ⟨M, hlt, hl, by simp⟩ ?_
  clear M hlt hlt' hl hi sets; rintro ⟨sets, a⟩ ⟨M, hi, hl, ha⟩; simp only at M hi hl ha; refine Wd [(8, 1000)] ?_; by_cases hlt : a < q
  rotate_left
  · have hlt' : ¬ (a : Int) < (q : Int) := by omega
    have haa : a = q := by omega
    rw [haa] at M; simp -implicitDefEqProofs only [hlt', go_sem]; exact ⟨by simp only [InR]; omega, (sets, i + 1), by simp, ⟨M.next, hi, hl⟩, by simp; omega⟩
  have hlt' : (a : Int) < (q : Int) := by omega
  simp -implicitDefEqProofs only [hlt', List.length_map, go_sem]; have hg : (sets.map slW).getD i default = slW sets[i] := Z2 _ _ _ _ hi; have ha16 : a < 16 := by omega
  have ha16' : (a : Int) < 16 := by omega
  have hsl : ∀ s ∈ sets, s.length ≤ 33 * ws.length := fun s hs => by
    obtain ⟨v, hv2, _⟩ := M.reach s hs; exact Zgs hw32 (M.nd s hs) hv2
  have hSl := hsl _ (List.getElem_mem hi); have e90 := h90 q ws sets[i] (Kn.ltr a) hv (by omega); unfold Z7 at e90; have hL : ([48, 49, 50, 51, 52, 53, 54, 55, 56, 57, 97, 98, 99, 100, 101, 102] : List UInt8).getD a 0 = Kn.ltr a := rfl; obtain ⟨N, hN⟩ : ∃ N, N = Z0i ws sets[i] (Kn.ltr a) := ⟨_, rfl⟩; have hNl : N.length ≤ 100000 := by
    have h1 := Z15 (Kn.ltr a) sets[i]; have h2 := Z15 (Kn.ltr a) ws; have h3 := Z41 (rdS ws sets[i] (Kn.ltr a)) []; rw [hN]; unfold Z0i; simp only [List.length_nil] at h3; unfold rdS at h3 ⊢; rw [List.length_append] at h3
    split at h3
    · rename_i h4; rw [if_pos h4]; omega
    · rename_i h4; rw [if_neg h4]; simp only [List.length_nil] at h3; omega
  rw [← hN] at e90; refine AWp.planL (.q 0 (.q 1 (.q 2 (.q 3 (.q 4 (.q 5 (.q 6 (.e 7 (.q 8 .fin) .nil)))))))) hΓ hmix (by kernel_rfl) ?_; simp -implicitDefEqProofs only [hg, slW, List.length_map, ha16', Int.toNat_natCast, hL, go_sem]; refine ⟨hi, hi, by omega, ?_⟩; refine Z0 e90 (.still rfl) ?_; simp -implicitDefEqProofs only [go_sem]; refine Wd [] ?_; simp -implicitDefEqProofs only [List.length_map, go_sem]
  refine AWp.loopI (fun y : Nat × Bool => ⟨mkF 60 [(1, .ptr 0 0), (3, .own 1 sets.length), (4, .p (.int .i64 i)), (5, .p (.int .i64 a)), (6, .p (.sl (N.map .str))), (7, .p (.bool y.2)), (8, .p (.int .i64 y.1))], [.box [.p (.int .i64 q), .p (.sl (ws.map .str))], .row 22 1 (sets.map slW) .lax]⟩)
    (fun y => y.1 ≤ sets.length ∧ (y.2 = true → N = [] ∨ ∃ s ∈ sets, Z60 s N) ∧ (y.2 = false → N ≠ [] ∧ ∀ s ∈ sets.take y.1, ¬ Z60 s N)) (fun y => sets.length - y.1) (0, decide ((N.length : Int) = 0)) (by simp [go_sem, Z8])
    ⟨by simp, fun h => .inl (by simpa using h), fun h => ⟨by simpa using h, by simp⟩⟩ ?_
  rintro ⟨k, kn⟩ ⟨hk, hk1, hk2⟩; simp only at hk hk1 hk2; refine Wd [] ?_
  cases kn with
  | true =>
    have hM := M.skip hi (by rw [← hN]; exact hk1 rfl); have hno : ¬ (300 : Int) < (sets.length : Int) := by omega
    by_cases hkl : k < sets.length
    · have hkl' : (k : Int) < (sets.length : Int) := by omega
      simp -implicitDefEqProofs only [hkl', hno, List.length_map, go_sem]; exact ⟨by simp only [InR]; omega, (sets, a + 1), by simp, ⟨hM, hi, hl, hlt⟩, by show q - (a + 1) < q - a; omega⟩
    · have hkl' : ¬ (k : Int) < (sets.length : Int) := by omega
      simp -implicitDefEqProofs only [hkl', hno, List.length_map, go_sem]; exact ⟨by simp only [InR]; omega, (sets, a + 1), by simp, ⟨hM, hi, hl, hlt⟩, by show q - (a + 1) < q - a; omega⟩
  | false =>
    obtain ⟨hN0, hkn⟩ := hk2 rfl; by_cases hkl : k < sets.length
    · have hkl' : (k : Int) < (sets.length : Int) := by omega
      have hgk : (sets.map slW).getD k default = slW sets[k] := Z2 _ _ _ _ hkl; have hskl := hsl _ (List.getElem_mem hkl); simp -implicitDefEqProofs only [hkl', hgk, slW, Int.toNat_natCast, List.length_map, go_sem]; refine ⟨hkl, ?_⟩; refine Z0 (h144 sets[k] N (by omega) (by omega)) (.pures rfl) ?_; simp -implicitDefEqProofs only [go_sem]; refine ⟨by simp only [InR]; omega, (k + 1, decide (Z60 sets[k] N)), by simp, ⟨hkl, fun h => .inr ⟨_, List.getElem_mem hkl, of_decide_eq_true h⟩, fun h => ⟨hN0, fun s hs => ?_⟩⟩, by show sets.length - (k + 1) < sets.length - k; omega⟩; simp only at hs; rw [List.take_succ_eq_append_getElem hkl, List.mem_append, List.mem_singleton] at hs; rcases hs with hs | hs
      · exact hkn s hs
      · rw [hs]; exact of_decide_eq_false h
    · have hkl' : ¬ (k : Int) < (sets.length : Int) := by omega
      rw [List.take_of_length_le (by omega)] at hkn; have hM := M.add (by omega) hi hlt (by rw [← hN]; exact hN0) (by rw [← hN]; exact hkn); rw [← hN] at hM; have hs1 : Zc [PV.sl (List.map PV.str N)] 1 := by simp [Zc, PV.cells]
      have ho1 : Z0k [PV.sl (List.map PV.str N)] := by simp [Z0k, PV.cells, PV.isAgg]
      simp -implicitDefEqProofs only [hkl', List.length_map, go_sem]; refine ⟨⟨hs1, by omega⟩, ⟨hs1, ho1⟩, ⟨by simp, by omega, by omega⟩, fun h300 => ?_, fun h300 => ?_⟩
      · have hF := hM.many (by simp only [List.length_append, List.length_singleton]; omega)
        exact (decide_eq_true hF).symm
      · exact ⟨by simp only [InR]; omega, (sets ++ [N], a + 1), ⟨by simp, by simp [slW]⟩, ⟨hM, by simp only [List.length_append]; omega, by simp only [List.length_append, List.length_singleton]; omega, hlt⟩, by show q - (a + 1) < q - a; omega⟩

open Classical in
theorem h30 (q : Int) (ws : List (List UInt8)) (hl : ws.length ≤ 9223372036854775807) : PFn Tryz.prog 30 [Z7 q ws] [.bool (Z6g q ws || decide (Z6 q ws = 0 ∧ ¬ FewS ws q.toNat))] := by
  have e43 := gr36 q ws hl; have e40 := t44 q ws; unfold Z7 at e43 e40; refine PFn.of_body hΓ Tryz.func30 (by kernel_rfl) rfl (AWp.seq (Wd [] ?_)); simp -implicitDefEqProofs only [Tryz.ntmps30, Tryz.results30, Nat.reduceAdd, Nat.reduceSub, Z7, go_sem]; refine Wd [] ?_; simp -implicitDefEqProofs only [go_sem]; refine Z0 e43 (.still rfl) ?_
  cases hg : Z6g q ws with
  | true => simp -implicitDefEqProofs only [Bool.true_or, go_sem]
  | false =>
    simp -implicitDefEqProofs only [go_sem]; refine Z0 e40 (.still rfl) ?_; by_cases hc : Z6 q ws = 0
    rotate_left
    · simp -implicitDefEqProofs only [hc, false_and, decide_false, Bool.or_false, go_sem]
    have hv := valid_of hc; have h2 := hv.q2; obtain ⟨p, rfl⟩ : ∃ p : Nat, q = p := ⟨q.toNat, by omega⟩; have e83 := h83 p ws hv; unfold Z7 at e83; simp -implicitDefEqProofs only [hc, go_sem]; refine Z0 e83 (.still rfl) ?_; simp -implicitDefEqProofs only [hc, true_and, Int.toNat_natCast, Bool.false_or, go_sem]
end Go.Proofs.YtpljmccnfmkmfaaGreat
end

section
namespace Go.Proofs.YtpljmccnfmkmfaaGreat
open Go Go.AM Go.RowKit

theorem c84 (q : Nat) (ws : List (List UInt8)) (n : Int) (h : Z6 q ws = 0) (hn : -1 ≤ n ∧ n ≤ 32) (r : Option Nat)
    (hr1 : ∀ v, r = some v → stN ws q v = [] ∧ (∀ u, u < v → stN ws q u ≠ []) ∧ (0 ≤ n → ((wn q v).length : Int) ≤ n))
    (hr2 : r = none → ∀ v, (0 ≤ n → ((wn q v).length : Int) ≤ n) → stN ws q v ≠ [])
    (hF : FewS ws q) :
    PFn Tryz.prog 84 [Z7 q ws, .int .i64 n] [.str (seR q r), .bool r.isSome, .int .i64 0] := by
  have hcap : ∀ Q i a, Mc.Bfs q (stN ws q) (fun S => S = []) Q i a → Q.length ≤ 300 := fun Q i a B => Zc8 hF B
  have hv := valid_of h; have h2 := hv.q2; have h16 := hv.q16; have hlen := hv.len; have hq0 : 0 < q := by omega
  have hq16 : q ≤ 16 := by omega
  have h32 : ∀ x ∈ ws, x.length ≤ 32 := fun x hx => (hv.words x hx).2.1
  have hstep : ∀ u v b, b < q → stN ws q u = stN ws q v → stN ws q (u * q + b + 1) = stN ws q (v * q + b + 1) := fun u v b hb => Ze6 hq0 u v b hb
  have hS : ∀ v, (wn q v).length ≤ 4000 → (stN ws q v).length ≤ 300000 ∧ (Z1p (stN ws q v) [32]).length ≤ 10000000 := fun v hvl => by
    have h1 := Zgx h32 (wn q v) (wn q v).length (Nat.le_refl _); rw [List.take_length] at h1; have h3 : (wn q v).length * ws.length ≤ 4000 * 64 := Nat.mul_le_mul hvl hlen; have h4 : (stN ws q v).length ≤ 300000 := by unfold stN; omega
    have h5 := Zc2 (stN ws q v) fun x hx => by
      obtain ⟨y, hy, hs⟩ := Z78 _ x hx; have := hs.length_le; have := h32 y hy; omega
    exact ⟨h4, by omega⟩
  have hroot := Zgj hv; have e87 := c87 q ws hv; unfold Z7 at e87; have ek := c145 (stN ws q 0) (by have := (hS 0 (by simp [Z31])).1; omega) (by have := (hS 0 (by simp [Z31])).2; omega); rw [show canL (Mc.begL ws) = stN ws q 0 from rfl] at e87; refine PFn.of_body hΓ Tryz.func84 (by kernel_rfl) rfl (AWp.seq (Wd [] ?_)); simp -implicitDefEqProofs only [Tryz.ntmps84, Tryz.results84, Nat.reduceAdd, Nat.reduceSub, Z7, go_sem]; refine AWp.seq (Wd [] ?_); simp -implicitDefEqProofs only [go_sem]; refine Z0 e87 (.still rfl) ?_; simp -implicitDefEqProofs only [go_sem]; refine AWp.seq (Wd [] ?_); simp -implicitDefEqProofs only [go_sem]; refine ⟨by omega, ⟨by simp [Zc, PV.cells], by omega⟩, ?_⟩; refine Z0 ek (.pures rfl) ?_; simp -implicitDefEqProofs only [go_sem]; refine AWp.adopt (l := [nodN ws q 0]) 8 143 2 rfl (by simp [nodN, nodV, PV.cells]) ?_; simp -implicitDefEqProofs only [go_sem]; refine AWp.seq (Wd [] ?_); simp -implicitDefEqProofs only [go_sem]
  refine AWp.loopJ (fun x : List Nat × Nat => ⟨mkF 80 [(1, .p (.int .i64 n)), (2, .ptr 0 0), (8, .own 2 x.1.length), (9, .map 1), (10, .p (.int .i64 x.2))], seH q ws x.1⟩)
    (fun x => Mc.Bfs q (stN ws q) (fun S => S = []) x.1 x.2 0 ∧ x.2 ≤ x.1.length ∧ (∀ v ∈ x.1, 0 ≤ n → ((wn q v).length : Int) ≤ n) ∧ ∀ v ∈ x.1, (wn q v).length < x.1.length) (fun x => 300 - x.2) ([0], 0)
    (fun x => ⟨by simp [seH], by simp [mkF, AV.blw, AV.blw.blwL, seH], by simp [blwH, seH, AObj.blw, AV.blw, AV.blw.blwL]⟩) (by simp [go_sem, seH, nodN, nodV, Z31, mset, midx, qmE]) ⟨Mc.Bfs.start hroot, by simp, fun v hv hn => by rw [List.mem_singleton.1 hv, Z31]; simpa using hn, fun v hv => by rw [List.mem_singleton.1 hv, Z31]; simp⟩ ?_
  rintro ⟨Q, i⟩ ⟨B, hi, hQn, hQw⟩; simp only at B hi hQn hQw; have hQ := hcap Q i 0 B; refine Wd [(11, 1000)] ?_; by_cases hlt : i < Q.length
  rotate_left
  · have hr : r = none := by
      cases hr : r with
      | none => rfl
      | some v => exact absurd (hr1 v hr).1 (B.done hq0 hstep (by omega) v)
    subst hr; have hz : ¬ (i : Int) < Q.length := by omega
    simp -implicitDefEqProofs only [seH, hz, seR, go_sem]; refine Wd [] ?_; simp -implicitDefEqProofs only [Option.isSome_none, go_sem]
  have hlt2 : (i : Int) < Q.length := by omega
  obtain ⟨u, hu⟩ : ∃ u, u = Q[i] := ⟨_, rfl⟩; have hgi : (Q.map (nodN ws q)).getD i default = .agg [.sl ((stN ws q u).map .str), .str (wn q u)] := (Z2 _ _ _ _ hlt).trans (by rw [hu]; rfl); by_cases hwn : ((wn q u).length : Int) = n
  · have hr : r = none := by
      cases hr : r with
      | none => rfl
      | some v =>
        obtain ⟨hd, _, hl⟩ := hr1 v hr; have hl := hl (by omega)
        exact absurd hd (B.least hq0 hstep hlt (Nat.zero_le _) v (by
          have := Zdw hq0 hq16 (v := v) (u := Q[i]) (by rw [← hu]; omega)
          omega))
    subst hr; simp -implicitDefEqProofs only [seH, hlt, hlt2, hgi, hwn, seR, Int.toNat_natCast, List.length_map, go_sem]; refine Wd [] ?_; simp -implicitDefEqProofs only [Option.isSome_none, go_sem]
  simp -implicitDefEqProofs only [seH, hlt, hlt2, hgi, hwn, Int.toNat_natCast, List.length_map, go_sem]; have hQnu : ∀ v ∈ Q, 0 ≤ n → ((wn q v).length : Int) ≤ n := hQn; have hul : 0 ≤ n → ((wn q u).length : Int) < n := fun h0 => by
    have := hQn u (by rw [hu]; exact List.getElem_mem hlt) h0; omega
  refine AWp.loopJ (fun y : List Nat × Nat => ⟨mkF 80 [(1, .p (.int .i64 n)), (2, .ptr 0 0), (8, .own 2 y.1.length), (9, .map 1), (10, .p (.int .i64 i)), (11, .ptr 3 0), (39, .p (.int .i64 q)), (40, .p (.int .i64 y.2))], seH q ws y.1 ++ [.box [.p (.sl ((stN ws q u).map .str)), .p (.str (wn q u))]]⟩)
    (fun y => Mc.Bfs q (stN ws q) (fun S => S = []) y.1 i y.2 ∧ (∃ hi : i < y.1.length, y.1[i] = u) ∧ y.2 ≤ q ∧ (∀ v ∈ y.1, 0 ≤ n → ((wn q v).length : Int) ≤ n) ∧ ∀ v ∈ y.1, (wn q v).length < y.1.length) (fun y => q - y.2) (Q, 0)
    (fun x => ⟨by simp [seH], by simp [mkF, AV.blw, AV.blw.blwL, seH], by simp [blwH, seH, AObj.blw, AV.blw, AV.blw.blwL]⟩) (by simp [go_sem, seH]) ⟨B, ⟨hlt, hu.symm⟩, by simp, hQn, hQw⟩ ?_
  rintro ⟨Q', a⟩ ⟨B', ⟨hi', hu'⟩, ha, hQn', hQw'⟩; simp only at B' hi' hu' ha hQn' hQw'; have hQ' := hcap Q' i a B'; have hulen : (wn q u).length < Q'.length := hQw' u (by rw [← hu']; exact List.getElem_mem hi'); refine AWp.seq (Wd [] ?_); by_cases hlq : a < q
  rotate_left
  · have hlq' : ¬ (a : Int) < (q : Int) := by omega
    have haa : a = q := by omega
    rw [haa] at B'; simp -implicitDefEqProofs only [hlq', go_sem]; refine AWp.seq (Wd [] ?_); simp -implicitDefEqProofs only [hlq', seH, List.cons_append, List.nil_append, go_sem]; exact ⟨by simp only [InR]; omega, (Q', i + 1), by simp, ⟨B'.next, hi', hQn', hQw'⟩, by show 300 - (i + 1) < 300 - i; omega⟩
  have hlq' : (a : Int) < (q : Int) := by omega
  have ha16 : a < 16 := by omega
  have ha16' : (a : Int) < 16 := by omega
  simp -implicitDefEqProofs only [hlq', go_sem]; refine AWp.seq (Wd [] ?_); simp -implicitDefEqProofs only [hlq', seH, List.cons_append, List.nil_append, go_sem]; have e88 := c88 q ws (stN ws q u) (Kn.ltr a) (by have := (hS u (by omega)).1; omega) (by omega); unfold Z7 at e88; have hL : ([48, 49, 50, 51, 52, 53, 54, 55, 56, 57, 97, 98, 99, 100, 101, 102] : List UInt8).getD a 0 = Kn.ltr a := rfl; rw [← Z5d hq0 u a hlq] at e88; have hT : List.take (((a : Int) + 1).toNat - a) (List.drop a ([48, 49, 50, 51, 52, 53, 54, 55, 56, 57, 97, 98, 99, 100, 101, 102] : List UInt8)) = [Kn.ltr a] := by
    rw [show ((a : Int) + 1).toNat = a + 1 by omega, Nat.add_sub_cancel_left]; exact (by decide : ∀ a : Fin 16, List.take 1 (List.drop a.val ([48, 49, 50, 51, 52, 53, 54, 55, 56, 57, 97, 98, 99, 100, 101, 102] : List UInt8)) = [Kn.ltr a.val]) ⟨a, ha16⟩
  obtain ⟨v, hv'⟩ : ∃ v, v = u * q + a + 1 := ⟨_, rfl⟩; have hwv : wn q v = wn q u ++ [Kn.ltr a] := by rw [hv']; exact Z3m hq0 u a hlq
  rw [← hv'] at e88; have hvl : (wn q v).length = (wn q u).length + 1 := by rw [hwv]; simp
  have hIn : InR IntKind.i64 ((a : Int) + 1) := by simp only [InR]; omega
  have ha1 : (a : Int) ≤ (a : Int) + 1 := by omega
  have ha2 : (a : Int) + 1 ≤ 16 := by omega
  have hcl : (wn q u).length + 1 ≤ 9223372036854775807 := by omega
  refine AWp.seq (AWp.block ?_); refine AWp.seq (Wd [] ?_); simp -implicitDefEqProofs only [go_sem]
  refine AWp.seqM (fun _ : Unit => ⟨mkF 80 [(1, .p (.int .i64 n)), (2, .ptr 0 0), (8, .own 2 Q'.length), (9, .map 1), (10, .p (.int .i64 i)), (11, .ptr 3 0), (13, .ptr 4 0), (39, .p (.int .i64 q)), (40, .p (.int .i64 a))], seH q ws Q' ++ [.box [.p (.sl ((stN ws q u).map .str)), .p (.str (wn q u))], .box [.p (.sl ((stN ws q v).map .str)), .p (.str (wn q v))]]⟩)
    (fun _ => True) (Wd [(11, 1000)] ?_) ?_
  · simp -implicitDefEqProofs only [go_sem]
    refine AWp.planL (.q 0 (.q 1 (.q 2 (.q 3 (.q 4 (.q 6 (.q 7 (.q 8 (.q 9 (.q 10 (.q 11 (.q 12 (.e 5 (.s 6 (.s 7 (.s 8 (.s 9 (.s 10 (.s 11 (.s 12 (.q 13 (.e 14 (.s 0 (.s 1 (.s 2 (.s 3 (.s 4 (.s 6 (.s 7 (.s 8 (.s 9 (.s 10 (.s 11 (.s 12 (.s 13 (.e 15 .fin .nil)))))))))))))) .nil))))))))) (.e 14 (.s 0 (.s 1 (.s 2 (.s 3 (.s 4 (.s 6 (.s 7 (.s 8 (.s 9 (.s 10 (.s 11 (.s 12 (.e 5 (.s 6 (.s 7 (.s 8 (.s 9 (.s 10 (.s 11 (.s 12 (.q 13 (.e 15 .fin .nil))))))))) .nil))))))))))))) .nil)))))))))))))) hΓ hmix (by kernel_rfl) ?_; simp -implicitDefEqProofs only [hL, ha16', Int.toNat_natCast, hT, go_sem]; rw [← hwv]; refine ⟨by omega, hIn, by omega, by omega, ?_, ?_⟩
    · refine Z0 e88 (.still rfl) ?_
      simp -implicitDefEqProofs only [hT, hL, ha16', hwv, hIn, ha1, ha2, hcl, Int.toNat_natCast, seH, List.cons_append, List.nil_append, go_sem]; exact ⟨by omega, by omega, by omega, by omega, by omega, (), trivial⟩
    · refine ⟨by omega, hIn, ⟨by omega, by omega⟩, hcl, ?_⟩
      refine Z0 e88 (.still rfl) ?_; simp -implicitDefEqProofs only [hT, hL, ha16', hwv, hIn, ha1, ha2, hcl, Int.toNat_natCast, seH, List.cons_append, List.nil_append, go_sem]; exact ⟨by omega, by omega, (), trivial⟩
  intro _ _; have ekv := c145 (stN ws q v) (by have := (hS v (by omega)).1; omega) (by have := (hS v (by omega)).2; omega); refine Wd [] ?_; by_cases hd : stN ws q v = []
  · have hr : r = some v := by
      cases hr : r with
      | none => exact absurd hd (hr2 hr v (fun h0 => by have := hul h0; omega))
      | some v' =>
        obtain ⟨h1, h3, _⟩ := hr1 v' hr; have h4 : ¬ v < v' := fun h => h3 v h hd
        have h5 : ¬ v' < v := fun h => B'.least hq0 hstep hi' ha v' (by rw [hu']; omega) h1
        rw [show v' = v by omega]
    subst hr; have h00 : (((0 : Nat) : Int) = 0) = True := eq_true rfl; simp -implicitDefEqProofs only [seH, hd, List.cons_append, List.nil_append, List.map_nil, List.length_nil, seR, h00, go_sem]
  have hd0 : ¬ (stN ws q v).length = 0 := fun e => hd (List.length_eq_zero_iff.1 e)
  have hd1 : ¬ ((stN ws q v).length : Int) = 0 := by omega
  simp -implicitDefEqProofs only [seH, hd0, hd1, List.cons_append, List.nil_append, List.length_map, go_sem]; refine Z0 ekv (.pures rfl) ?_; have halive := B'.alive; by_cases hk : ∃ m ∈ Q', stN ws q m = stN ws q v
  · have hget : mget (keyS (stN ws q v)) (qmE (fun v => keyS (stN ws q v)) Q') = some (.bool true) := Zt3 (by
      obtain ⟨m, hm, e⟩ := hk; exact ⟨m, hm, by rw [e]⟩)
    simp -implicitDefEqProofs only [hget, Option.getD_some, go_sem]; refine Wd [] ?_; simp -implicitDefEqProofs only [go_sem]; exact ⟨hIn, (Q', a + 1), ⟨⟨rfl, by simp⟩, rfl, rfl⟩, ⟨B'.skip hi' (by rw [hu', ← hv']; exact hk), ⟨hi', hu'⟩, hlq, hQn', hQw'⟩, by show q - (a + 1) < q - a; omega⟩
  have hk2 : ∀ m ∈ Q', keyS (stN ws q m) ≠ keyS (stN ws q v) := fun m hm e => hk ⟨m, hm, (Zud hv (halive m hm) hd).1 e⟩
  have hget : mget (keyS (stN ws q v)) (qmE (fun v => keyS (stN ws q v)) Q') = none := Zoi hk2; have hset : mset (keyS (stN ws q v)) (.bool true) (qmE (fun v => keyS (stN ws q v)) Q') = qmE (fun v => keyS (stN ws q v)) (Q' ++ [v]) := Zt2 (kf := fun v => keyS (stN ws q v)) hk2; have h4096 : ¬ (Q'.length : Int) = 4096 := by omega
  simp -implicitDefEqProofs only [hget, Option.getD_none, h4096, go_sem]; refine Z0 ekv (.pures rfl) ?_; simp -implicitDefEqProofs only [hset, go_sem]; refine ⟨⟨by simp [Zc, PV.cells], by omega⟩, ⟨by simp [Zc, PV.cells], by simp [Z0k, PV.cells, PV.isAgg]⟩, ⟨by simp, by omega, by omega⟩, ?_⟩; refine Wd [] ?_; simp -implicitDefEqProofs only [go_sem]; have hnew := B'.add hi' (by rw [hu', ← hv']; exact fun m hm e => hk ⟨m, hm, e⟩) (by rw [hu', ← hv']; exact hd); rw [hu', ← hv'] at hnew; refine ⟨hIn, (Q' ++ [v], a + 1), ⟨⟨by simp, by simp⟩, rfl, by simp [nodN, nodV]⟩, ⟨hnew, ⟨by simp only [List.length_append]; omega, (List.getElem_append_left hi').trans hu'⟩, hlq, fun x hx h0 => ?_, fun x hx => ?_⟩, by show q - (a + 1) < q - a; omega⟩
  · rcases List.mem_append.1 hx with hx | hx
    · exact hQn' x hx h0
    · rw [List.mem_singleton.1 hx]
      have := hul h0; omega
  · simp only [List.length_append, List.length_singleton]
    rcases List.mem_append.1 hx with hx | hx
    · have := hQw' x hx
      omega
    · rw [List.mem_singleton.1 hx]
      omega

theorem c84a (q : Nat) (ws : List (List UInt8)) (n : Int) (h : Z6 q ws = 0) (hn : -1 ≤ n ∧ n ≤ 32) {r : Option Nat} (A : SeA q ws n r) (hF : FewS ws q) :
    PFn Tryz.prog 84 [Z7 q ws, .int .i64 n] [.str (seR q r), .bool r.isSome, .int .i64 0] := c84 q ws n h hn r A.some A.none hF
theorem c32 (q : Nat) (ws : List (List UInt8)) (h : Z6 q ws = 0) {r : Option Nat} (A : SeA q ws (-1) r) (hF : FewS ws q) :
    PFn Tryz.prog 32 [Z7 q ws] [.bool (!r.isSome), .int .i64 0] := by
  have e80 := t45 q ws; have e84 := c84a q ws (-1) h (by omega) A hF; rw [h] at e80; unfold Z7 at e80 e84; refine PFn.of_body hΓ Tryz.func32 (by kernel_rfl) rfl (AWp.seq (Wd [] ?_)); simp -implicitDefEqProofs only [Tryz.ntmps32, Tryz.results32, Nat.reduceAdd, Nat.reduceSub, Z7, go_sem]; refine AWp.seq (Wd [] ?_); simp -implicitDefEqProofs only [go_sem]; refine Z0 e80 (.still rfl) ?_; simp -implicitDefEqProofs only [go_sem]; refine AWp.seq (Wd [] ?_); simp -implicitDefEqProofs only [go_sem]; refine Z0 e84 (.still rfl) ?_; simp -implicitDefEqProofs only [go_sem]; refine Wd [] ?_; simp -implicitDefEqProofs only [go_sem]
theorem c36 (q : Nat) (ws : List (List UInt8)) (n : Int) (h : Z6 q ws = 0) (hn : 0 ≤ n ∧ n ≤ 32) {r : Option Nat} (A : SeA q ws n r) (hF : FewS ws q) :
    PFn Tryz.prog 36 [Z7 q ws, .int .i64 n] [.str (seR q r), .bool r.isSome, .int .i64 0] := by
  have e80 := t45 q ws; have e84 := c84a q ws n h (by omega) A hF; rw [h] at e80; unfold Z7 at e80 e84; have n1 : ¬ n < 0 := by omega
  have n2 : ¬ 32 < n := by omega
  refine PFn.of_body hΓ Tryz.func36 (by kernel_rfl) rfl (AWp.seq (Wd [] ?_)); simp -implicitDefEqProofs only [Tryz.ntmps36, Tryz.results36, Nat.reduceAdd, Nat.reduceSub, Z7, go_sem]; refine AWp.seq (Wd [] ?_); simp -implicitDefEqProofs only [go_sem]; refine Z0 e80 (.still rfl) ?_; simp -implicitDefEqProofs only [go_sem]; refine AWp.seq (Wd [] ?_); simp -implicitDefEqProofs only [n1, n2, go_sem]; refine Wd [] ?_; simp -implicitDefEqProofs only [go_sem]; refine Z0 e84 (.still rfl) ?_; simp -implicitDefEqProofs only [go_sem]

end Go.Proofs.YtpljmccnfmkmfaaGreat
end

section
namespace Go.Proofs.YtpljmccnfmkmfaaGreat
open Go Go.AM






theorem Zbm {q K : Nat} (hq : q ≠ 0) : Kn.ratV K (q ^ 32) = Kn.ratV 1 1 ↔ K = q ^ 32 := by
  rw [Kn.low_eq (Nat.ne_of_gt (Nat.pow_pos (Nat.pos_of_ne_zero hq))) (by decide), Nat.mul_one, Nat.one_mul]
theorem c38 (q : Nat) (ws : List (List UInt8)) (hc : Z6 q ws = 0) {is : Bool} (e55 : PFn Tryz.prog 55 [Z7 q ws] [.bool is, .int .i64 0]) :
    PFn Tryz.prog 38 [Z7 q ws] [.bool (is && decide (Kn.krS q (ws.map List.length) = q ^ 32)), .int .i64 (if is = true then 0 else 14)] := by
  have hv := valid_of hc; have h2 := hv.q2; have hq0 : q ≠ 0 := by omega
  have e44 := cm28 (q : Int) ws hc; rw [Int.toNat_natCast] at e44; have e91 := Kn.v58; have hone := Zbm (K := Kn.krS q (ws.map List.length)) hq0; generalize Kn.krS q (ws.map List.length) = K at *; obtain ⟨xA, xB, hx⟩ : ∃ A B, Kn.ratV K (q ^ 32) = .agg [.bool false, .str A, .bool false, .str B] := ⟨_, _, rfl⟩; obtain ⟨oA, oB, ho⟩ : ∃ A B, Kn.ratV 1 1 = .agg [.bool false, .str A, .bool false, .str B] := ⟨_, _, rfl⟩; have hdec : (decide (xA = oA) && decide (xB = oB)) = decide (K = q ^ 32) := by
    rw [Bool.eq_iff_iff, Bool.and_eq_true, decide_eq_true_iff, decide_eq_true_iff, decide_eq_true_iff, ← hone, hx, ho]
    constructor
    · rintro ⟨rfl, rfl⟩; rfl
    · intro h
      injection h with h
      simp only [List.cons.injEq, PV.str.injEq] at h; exact ⟨h.2.1, h.2.2.2.1⟩
  rw [hx] at e44; rw [ho] at e91; unfold Z7 at e44 e55; refine PFn.of_body hΓ Tryz.func38 (by kernel_rfl) rfl (AWp.seq (Wd [] ?_)); simp -implicitDefEqProofs only [Tryz.ntmps38, Tryz.results38, Nat.reduceAdd, Nat.reduceSub, Z7, go_sem]; refine AWp.seq (Wd [] ?_); simp -implicitDefEqProofs only [go_sem]; refine Z0 e55 (.still rfl) ?_; simp -implicitDefEqProofs only [go_sem]
  cases is
  · refine Wd [(7, 5)] ?_
    simp -implicitDefEqProofs only [Bool.false_and, Bool.false_eq_true, if_false, go_sem]
  · refine Wd [(7, 5)] ?_
    simp -implicitDefEqProofs only [go_sem]; refine Z0 e44 (.still rfl) ?_; simp -implicitDefEqProofs only [go_sem]; refine Z1 e91 (.still rfl) ?_; simp -implicitDefEqProofs only [go_sem]; refine aggR rfl rfl ?_; simp -implicitDefEqProofs only [hdec, Bool.true_and, if_true, go_sem]


theorem h39 (q : Nat) (ws : List (List UInt8)) (hc : Z6 q ws = 0) {is : Bool} (e92 : PFn Tryz.prog 92 [Z7 q ws] [.bool is, .int .i64 0]) :
    PFn Tryz.prog 39 [Z7 q ws] [.bool (is && decide (Kn.krS q (ws.map List.length) = q ^ 32)), .int .i64 (if is = true then 0 else 14)] := by
  have hv := valid_of hc; have h2 := hv.q2; have hq0 : q ≠ 0 := by omega
  have e52 := h52 q ws hc; have e93 := Kn.w93 1 1 (by omega) (by omega) (by omega); have hone := Zbm (K := Kn.krS q (ws.map List.length)) hq0; generalize Kn.krS q (ws.map List.length) = K at *; obtain ⟨xA, xB, hx⟩ : ∃ A B, Kn.ratV K (q ^ 32) = .agg [.bool false, .str A, .bool false, .str B] := ⟨_, _, rfl⟩; obtain ⟨oA, oB, ho⟩ : ∃ A B, Kn.ratV 1 1 = .agg [.bool false, .str A, .bool false, .str B] := ⟨_, _, rfl⟩; have hdec : (decide (xA = oA) && decide (xB = oB)) = decide (K = q ^ 32) := by
    rw [Bool.eq_iff_iff, Bool.and_eq_true, decide_eq_true_iff, decide_eq_true_iff, decide_eq_true_iff, ← hone, hx, ho]
    constructor
    · rintro ⟨rfl, rfl⟩; rfl
    · intro h
      injection h with h
      simp only [List.cons.injEq, PV.str.injEq] at h; exact ⟨h.2.1, h.2.2.2.1⟩
  rw [hx] at e52; rw [ho] at e93; unfold Z7 at e52 e92; refine PFn.of_body hΓ Tryz.func39 (by kernel_rfl) rfl (AWp.seq (Wd [] ?_)); simp -implicitDefEqProofs only [Tryz.ntmps39, Tryz.results39, Nat.reduceAdd, Nat.reduceSub, Z7, go_sem]; refine AWp.seq (Wd [] ?_); simp -implicitDefEqProofs only [go_sem]; refine Z0 e52 (.still rfl) ?_; simp -implicitDefEqProofs only [go_sem]; refine AWp.seq (Wd [] ?_); simp -implicitDefEqProofs only [go_sem]; refine Wd [(7, 5)] ?_; simp -implicitDefEqProofs only [go_sem]; refine Z0 e92 (.still rfl) ?_
  cases is
  · simp -implicitDefEqProofs only [Bool.false_and, Bool.false_eq_true, if_false, go_sem]
  · simp -implicitDefEqProofs only [go_sem]
    refine Z1 e93 (.still rfl) ?_; simp -implicitDefEqProofs only [go_sem]; refine aggR rfl rfl ?_; simp -implicitDefEqProofs only [hdec, Bool.true_and, if_true, go_sem]
theorem h39e (q : Int) (ws : List (List UInt8)) (hc : Z6 q ws ≠ 0) : PFn Tryz.prog 39 [Z7 q ws] [.bool false, .int .i64 1] := by
  have e52 := h52e q ws hc; unfold Z7 at e52; have h10 : ¬ (1 : Int) = 0 := by omega
  refine PFn.of_body hΓ Tryz.func39 (by kernel_rfl) rfl (AWp.seq (Wd [] ?_)); simp -implicitDefEqProofs only [Tryz.ntmps39, Tryz.results39, Nat.reduceAdd, Nat.reduceSub, Z7, go_sem]; refine AWp.seq (Wd [] ?_); simp -implicitDefEqProofs only [go_sem]; refine Z0 e52 (.still rfl) ?_; simp -implicitDefEqProofs only [go_sem]; refine AWp.seq (Wd [] ?_); simp -implicitDefEqProofs only [h10, go_sem]
theorem c38e (q : Int) (ws : List (List UInt8)) (hc : Z6 q ws ≠ 0) : PFn Tryz.prog 38 [Z7 q ws] [.bool false, .int .i64 1] := by
  have e55 := Dc.t15 q ws; rw [if_neg hc, if_neg hc] at e55; unfold Z7 at e55; have h10 : ¬ (1 : Int) = 0 := by omega
  refine PFn.of_body hΓ Tryz.func38 (by kernel_rfl) rfl (AWp.seq (Wd [] ?_)); simp -implicitDefEqProofs only [Tryz.ntmps38, Tryz.results38, Nat.reduceAdd, Nat.reduceSub, Z7, go_sem]; refine AWp.seq (Wd [] ?_); simp -implicitDefEqProofs only [go_sem]; refine Z0 e55 (.still rfl) ?_; simp -implicitDefEqProofs only [go_sem]; refine AWp.seq (Wd [] ?_); simp -implicitDefEqProofs only [h10, go_sem]
end Go.Proofs.YtpljmccnfmkmfaaGreat
end

section
namespace Go.Proofs.YtpljmccnfmkmfaaGreat
open Go Go.AM Go.Mc

def refS (ws : List (List UInt8)) (q v : Nat) : List (List UInt8) := (wn q v).foldl (fun S c => Z0i ws S c) (Z0f ws)
theorem Zh5 {ws : List (List UInt8)} {q : Nat} (hq : 0 < q) (u b : Nat) (hb : b < q) : refS ws q (u * q + b + 1) = Z0i ws (refS ws q u) (Kn.ltr b) := by
  unfold refS; rw [Z3m hq u b hb, List.foldl_append]
  rfl
theorem Zcz {ws : List (List UInt8)} (hp : ws ≠ []) : ∀ w : List UInt8, canL (w.foldl (fun S c => Z0i ws S c) (Z0f ws)) = Mc.runSt canL ws w := by
  refine Mc.rev_ind (P := fun w => canL (w.foldl (fun S c => Z0i ws S c) (Z0f ws)) = Mc.runSt canL ws w) ?_ ?_
  · exact Z7j fun x => Z9k hp
  · intro w c ih
    rw [List.foldl_append, Mc.runSt_snoc, ← ih]; exact Z9d
theorem Zad {ws : List (List UInt8)} {q : Nat} (hp : ws ≠ []) (v : Nat) : canL (refS ws q v) = stN ws q v := Zcz hp (wn q v)
theorem Z9c {ws : List (List UInt8)} : ∀ w : List UInt8, (w.foldl (fun S c => Z0i ws S c) (Z0f ws)).Nodup := by
  refine Mc.rev_ind (P := fun w => (w.foldl (fun S c => Z0i ws S c) (Z0f ws)).Nodup) (Z6n ws) ?_; intro w c _; rw [List.foldl_append]; exact Z37 _ _ _
theorem Z67 {ws : List (List UInt8)} {q : Nat} (v : Nat) : (refS ws q v).Nodup := Z9c (wn q v)
theorem Zbk {ws : List (List UInt8)} {q : Nat} (hp : ws ≠ []) (u v : Nat) : Z60 (refS ws q u) (refS ws q v) ↔ stN ws q u = stN ws q v := by
  rw [Zaa (Z67 u) (Z67 v), Zad hp, Zad hp]
theorem Zbl {ws : List (List UInt8)} {q : Nat} (hp : ws ≠ []) (v : Nat) : refS ws q v = [] ↔ stN ws q v = [] := by
  rw [← Zad hp, Z4l]
def refV (ws : List (List UInt8)) (q v : Nat) : PV := .sl ((refS ws q v).map .str)
def reH (q : Nat) (ws : List (List UInt8)) (Q : List Nat) : List AObj := [.box [.p (.int .i64 q), .p (.sl (ws.map .str))], .row 22 1 (Q.map (refV ws q)) .lax, .row 9 1 (Q.map fun v => .str (wn q v)) .lax]

theorem h85 (q : Nat) (ws : List (List UInt8)) (n : Int) (hv : Valid q ws) (hn : -1 ≤ n ∧ n ≤ 32) {r : Option Nat} (A : SeA q ws n r) (hF : FewS ws q) :
    PFn Tryz.prog 85 [Z7 q ws, .int .i64 n] [.str (seR q r), .bool r.isSome, .int .i64 0] := by
  have hcap : ∀ Q i a, Mc.Bfs q (stN ws q) (fun S => S = []) Q i a → Q.length ≤ 300 := fun Q i a B => Zc8 hF B
  have hr1 := A.some; have hr2 := A.none; have hlen := hv.len; have h2 := hv.q2; have h16 := hv.q16; have hq0 : 0 < q := by omega
  have hq16 : q ≤ 16 := by omega
  have hw32 : ∀ x ∈ ws, x.length ≤ 32 := fun x hx => (hv.words x hx).2.1
  have hne : ws ≠ [] := fun e => by have := hv.pos; rw [e] at this; simp at this
  have hstep : ∀ u v b, b < q → stN ws q u = stN ws q v → stN ws q (u * q + b + 1) = stN ws q (v * q + b + 1) := fun u v b hb => Ze6 hq0 u v b hb
  have hroot := Zgj hv; have hsl : ∀ v, (refS ws q v).length ≤ 33 * ws.length := fun v => Zgs hw32 (Z67 v) (Zad hne v)
  have e89 := h89 q ws hv; unfold Z7 at e89; refine PFn.of_body hΓ Tryz.func85 (by kernel_rfl) rfl (AWp.seq (Wd [] ?_)); simp -implicitDefEqProofs only [Tryz.ntmps85, Tryz.results85, Nat.reduceAdd, Nat.reduceSub, Z7, go_sem]; refine AWp.seq (Wd [] ?_); simp -implicitDefEqProofs only [go_sem]; refine Z0 e89 (.still rfl) ?_; simp -implicitDefEqProofs only [go_sem]; refine ⟨⟨by simp [Zc, PV.cells], by omega⟩, ⟨by simp [Zc, PV.cells], by omega⟩, ?_⟩; refine AWp.adopt (l := [slW (Z0f ws)]) 7 22 1 (by rfl) (by simp [slW, PV.cells]) ?_; simp -implicitDefEqProofs only [go_sem]; refine AWp.adopt (l := [.str []]) 8 9 1 (by rfl) (by simp [PV.cells]) ?_; simp -implicitDefEqProofs only [go_sem]; refine AWp.seq (AWp.seq (Wd [] ?_)); simp -implicitDefEqProofs only [go_sem]; refine AWp.block ?_
  refine AWp.loopI (fun x : List Nat × Nat => ⟨mkF 88 [(1, .p (.int .i64 n)), (2, .ptr 0 0), (7, .own 1 x.1.length), (8, .own 2 x.1.length), (9, .p (.int .i64 x.2))], reH q ws x.1⟩)
    (fun x => Mc.Bfs q (stN ws q) (fun S => S = []) x.1 x.2 0 ∧ x.2 ≤ x.1.length ∧ (∀ v ∈ x.1, 0 ≤ n → ((wn q v).length : Int) ≤ n) ∧ ∀ v ∈ x.1, (wn q v).length < x.1.length) (fun x => 300 - x.2) ([0], 0)
    (by simp [go_sem, reH, slW, Z8, Z31, refS, refV]) ⟨Mc.Bfs.start hroot, by simp, fun v hv hn => by rw [List.mem_singleton.1 hv, Z31]; simpa using hn, fun v hv => by rw [List.mem_singleton.1 hv, Z31]; simp⟩ ?_
  rintro ⟨Q, i⟩ ⟨B, hi, hQn, hQw⟩; simp only at B hi hQn hQw; have hQ := hcap Q i 0 B; refine Wd [] ?_; by_cases hlt : i < Q.length
  rotate_left
  · have hr : r = none := by
      cases hr : r with
      | none => rfl
      | some v => exact absurd (hr1 v hr).1 (B.done hq0 hstep (by omega) v)
    subst hr; have hlt' : ¬ (i : Int) < (Q.length : Int) := by omega
    simp -implicitDefEqProofs only [reH, hlt', seR, List.length_map, go_sem]; refine Wd [] ?_; simp -implicitDefEqProofs only [Option.isSome_none, go_sem]
  have hlt' : (i : Int) < (Q.length : Int) := by omega
  obtain ⟨u, hu⟩ : ∃ u, u = Q[i] := ⟨_, rfl⟩; have hgw : (Q.map fun v => PV.str (wn q v)).getD i default = .str (wn q u) := (Z2 _ _ _ _ hlt).trans (by rw [hu]); by_cases hwn : ((wn q u).length : Int) = n
  · have hr : r = none := by
      cases hr : r with
      | none => rfl
      | some v =>
        obtain ⟨hd, _, hl⟩ := hr1 v hr; have hl := hl (by omega)
        exact absurd hd (B.least hq0 hstep hlt (Nat.zero_le _) v (by
          have := Zdw hq0 hq16 (v := v) (u := Q[i]) (by rw [← hu]; omega)
          omega))
    subst hr; simp -implicitDefEqProofs only [reH, hlt, hlt', hgw, hwn, seR, Int.toNat_natCast, List.length_map, go_sem]; refine Wd [] ?_; simp -implicitDefEqProofs only [Option.isSome_none, go_sem]
  simp -implicitDefEqProofs only [reH, hlt, hlt', hgw, hwn, Int.toNat_natCast, List.length_map, go_sem]; have hul : 0 ≤ n → ((wn q u).length : Int) < n := fun h0 => by
    have := hQn u (by rw [hu]; exact List.getElem_mem hlt) h0; omega
  refine AWp.loopI (fun y : List Nat × Nat => ⟨mkF 88 [(1, .p (.int .i64 n)), (2, .ptr 0 0), (7, .own 1 y.1.length), (8, .own 2 y.1.length), (9, .p (.int .i64 i)), (10, .p (.int .i64 y.2))], reH q ws y.1⟩)
    (fun y => Mc.Bfs q (stN ws q) (fun S => S = []) y.1 i y.2 ∧ (∃ hi : i < y.1.length, y.1[i] = u) ∧ y.2 ≤ q ∧ (∀ v ∈ y.1, 0 ≤ n → ((wn q v).length : Int) ≤ n) ∧ ∀ v ∈ y.1, (wn q v).length < y.1.length) (fun y => q - y.2) (Q, 0)
    (by simp [go_sem, reH, Z8]) ⟨B, ⟨hlt, hu.symm⟩, by simp, hQn, hQw⟩ ?_
  clear hgw hQw hQn hQ hi; rintro ⟨Q', a⟩ ⟨B', ⟨hi', hu'⟩, ha, hQn', hQw'⟩; simp only at B' hi' hu' ha hQn' hQw'; have hQ' := hcap Q' i a B'; have hulen : (wn q u).length < Q'.length := hQw' u (by rw [← hu']; exact List.getElem_mem hi'); refine Wd [(9, 1000), (10, 10)] ?_; by_cases hlq : a < q
  rotate_left
  · have hlq' : ¬ (a : Int) < (q : Int) := by omega
    have haa : a = q := by omega
    rw [haa] at B'; simp -implicitDefEqProofs only [hlq', reH, go_sem]; exact ⟨by simp only [InR]; omega, (Q', i + 1), by simp, ⟨B'.next, hi', hQn', hQw'⟩, by show 300 - (i + 1) < 300 - i; omega⟩
  have hlq' : (a : Int) < (q : Int) := by omega
  have ha16 : a < 16 := by omega
  have ha16' : (a : Int) < 16 := by omega
  obtain ⟨v, hv'⟩ : ∃ v, v = u * q + a + 1 := ⟨_, rfl⟩; have hwv : wn q v = wn q u ++ [Kn.ltr a] := by rw [hv']; exact Z3m hq0 u a hlq
  have hvl : (wn q v).length = (wn q u).length + 1 := by rw [hwv]; simp
  have hrv : refS ws q v = Z0i ws (refS ws q u) (Kn.ltr a) := by rw [hv']; exact Zh5 hq0 u a hlq
  have hL : ([48, 49, 50, 51, 52, 53, 54, 55, 56, 57, 97, 98, 99, 100, 101, 102] : List UInt8).getD a 0 = Kn.ltr a := rfl; have hT : List.take (((a : Int) + 1).toNat - a) (List.drop a ([48, 49, 50, 51, 52, 53, 54, 55, 56, 57, 97, 98, 99, 100, 101, 102] : List UInt8)) = [Kn.ltr a] := by
    rw [show ((a : Int) + 1).toNat = a + 1 by omega, Nat.add_sub_cancel_left]; exact (by decide : ∀ a : Fin 16, List.take 1 (List.drop a.val ([48, 49, 50, 51, 52, 53, 54, 55, 56, 57, 97, 98, 99, 100, 101, 102] : List UInt8)) = [Kn.ltr a.val]) ⟨a, ha16⟩
  have hgs : (Q'.map (refV ws q)).getD i default = .sl ((refS ws q u).map .str) := (Z2 _ _ _ _ hi').trans (by rw [hu']; rfl); have hgw : (Q'.map fun v => PV.str (wn q v)).getD i default = .str (wn q u) := (Z2 _ _ _ _ hi').trans (by rw [hu']); have hsu := hsl u; have hsv := hsl v; have e90 := h90 q ws (refS ws q u) (Kn.ltr a) hv (by omega); rw [← hrv] at e90; unfold Z7 at e90; simp -implicitDefEqProofs only [hlq', reH, go_sem]; refine AWp.planL (.q 0 (.q 1 (.q 2 (.q 3 (.q 4 (.q 5 (.q 6 (.e 7 (.q 8 .fin) .nil)))))))) hΓ hmix (by kernel_rfl) ?_; simp -implicitDefEqProofs only [hgs, List.length_map, ha16', Int.toNat_natCast, hL, go_sem]; refine ⟨hi', hi', by omega, ?_⟩; refine Z0 e90 (.still rfl) ?_; have hIn : InR IntKind.i64 ((a : Int) + 1) := by simp only [InR]; omega
  have ha1 : (a : Int) ≤ (a : Int) + 1 := by omega
  have ha2 : (a : Int) + 1 ≤ 16 := by omega
  have hcl : (wn q u).length + 1 ≤ 9223372036854775807 := by omega
  simp -implicitDefEqProofs only [hgw, List.length_map, ha16', Int.toNat_natCast, hT, hIn, ha1, ha2, hcl, go_sem]; rw [← hwv]; refine ⟨hi', hi', by omega, fun h0 => ?_, fun h0 => ?_⟩
  · have hd := (Zbl (q := q) hne v).1 (List.length_eq_zero_iff.1 (by omega))
    have hr : r = some v := by
      cases hr : r with
      | none => exact absurd hd (hr2 hr v (fun h0 => by have := hul h0; omega))
      | some v' =>
        obtain ⟨h1, h3, _⟩ := hr1 v' hr; have h4 : ¬ v < v' := fun h => h3 v h hd
        have h5 : ¬ v' < v := fun h => B'.least hq0 hstep hi' ha v' (by rw [hu']; omega) h1
        rw [show v' = v by omega]
    rw [hr]; exact ⟨rfl, rfl⟩
  have hd : stN ws q v ≠ [] := fun e => h0 (by rw [(Zbl hne v).2 e]; rfl)
  clear h0
  refine AWp.loopI (fun y : Nat × Bool => ⟨mkF 88 [(1, .p (.int .i64 n)), (2, .ptr 0 0), (7, .own 1 Q'.length), (8, .own 2 Q'.length), (9, .p (.int .i64 i)), (10, .p (.int .i64 a)), (11, .p (.sl ((refS ws q v).map .str))), (12, .p (.str (wn q v))), (13, .p (.bool y.2)), (14, .p (.int .i64 y.1))], reH q ws Q'⟩)
    (fun y => y.1 ≤ Q'.length ∧ (y.2 = true → ∃ m ∈ Q', stN ws q m = stN ws q v) ∧ (y.2 = false → ∀ m ∈ Q'.take y.1, stN ws q m ≠ stN ws q v)) (fun y => Q'.length - y.1) (0, false) (by simp [go_sem, reH, Z8])
    ⟨by simp, fun h => (by cases h), fun _ => by simp⟩ ?_
  rintro ⟨k, kn⟩ ⟨hk, hk1, hk2⟩; simp only at hk hk1 hk2; have hno : ¬ (4096 : Int) < (Q'.length : Int) := by omega
  refine Wd [] ?_
  cases kn with
  | true =>
    have hB := B'.skip hi' (by rw [hu', ← hv']; exact hk1 rfl); by_cases hkl : k < Q'.length
    · have hkl' : (k : Int) < (Q'.length : Int) := by omega
      simp -implicitDefEqProofs only [hkl', hno, reH, List.length_map, go_sem]; exact ⟨hIn, (Q', a + 1), by simp, ⟨hB, ⟨hi', hu'⟩, hlq, hQn', hQw'⟩, by show q - (a + 1) < q - a; omega⟩
    · have hkl' : ¬ (k : Int) < (Q'.length : Int) := by omega
      simp -implicitDefEqProofs only [hkl', hno, reH, List.length_map, go_sem]; exact ⟨hIn, (Q', a + 1), by simp, ⟨hB, ⟨hi', hu'⟩, hlq, hQn', hQw'⟩, by show q - (a + 1) < q - a; omega⟩
  | false =>
    by_cases hkl : k < Q'.length
    · have hkl' : (k : Int) < (Q'.length : Int) := by omega
      have hgk : (Q'.map (refV ws q)).getD k default = .sl ((refS ws q Q'[k]).map .str) := Z2 _ _ _ _ hkl; have hskl := hsl Q'[k]; simp -implicitDefEqProofs only [hkl', hgk, Int.toNat_natCast, reH, List.length_map, go_sem]; refine ⟨hkl, ?_⟩; refine Z0 (h144 (refS ws q Q'[k]) (refS ws q v) (by omega) (by omega)) (.pures rfl) ?_; simp -implicitDefEqProofs only [go_sem]; refine ⟨by simp only [InR]; omega, (k + 1, decide (Z60 (refS ws q Q'[k]) (refS ws q v))), by simp, ⟨hkl, fun h => ⟨_, List.getElem_mem hkl, (Zbk hne _ _).1 (of_decide_eq_true h)⟩, fun h m hm => ?_⟩, by show Q'.length - (k + 1) < Q'.length - k; omega⟩; simp only at hm; rw [List.take_succ_eq_append_getElem hkl, List.mem_append, List.mem_singleton] at hm; rcases hm with hm | hm
      · exact hk2 rfl m hm
      · rw [hm]; exact fun e => of_decide_eq_false h ((Zbk hne _ _).2 e)
    · have hkl' : ¬ (k : Int) < (Q'.length : Int) := by omega
      have hk2 := hk2 rfl; rw [List.take_of_length_le (by omega)] at hk2; have hB := B'.add hi' (by rw [hu', ← hv']; exact hk2) (by rw [hu', ← hv']; exact hd); rw [hu', ← hv'] at hB; have hs1 : Zc [PV.sl (List.map PV.str (refS ws q v))] 1 := by simp [Zc, PV.cells]
      have ho1 : Z0k [PV.sl (List.map PV.str (refS ws q v))] := by simp [Z0k, PV.cells, PV.isAgg]
      have hs2 : Zc [PV.str (wn q v)] 1 := by simp [Zc, PV.cells]
      have ho2 : Z0k [PV.str (wn q v)] := by simp [Z0k, PV.cells, PV.isAgg]
      have hno2 : ¬ (4096 : Int) < ((Q'.length + 1 : Nat) : Int) := by omega
      simp -implicitDefEqProofs only [hkl', reH, List.length_map, hno2, go_sem]; refine ⟨⟨hs1, by omega⟩, ⟨hs1, ho1⟩, ⟨by simp, by omega, by omega⟩, ⟨hs2, by omega⟩, ⟨hs2, ho2⟩, ⟨by simp, by omega, by omega⟩, hIn, (Q' ++ [v], a + 1), ⟨⟨by simp, by simp, by simp⟩, .inr (.inl (by simp [refV])), .inr (.inl (by simp))⟩, ⟨hB, ⟨by simp only [List.length_append]; omega, (List.getElem_append_left hi').trans hu'⟩, hlq, fun x hx h0 => ?_, fun x hx => ?_⟩, by show q - (a + 1) < q - a; omega⟩
      · rcases List.mem_append.1 hx with hx | hx
        · exact hQn' x hx h0
        · rw [List.mem_singleton.1 hx]
          have := hul h0; omega
      · simp only [List.length_append, List.length_singleton]
        rcases List.mem_append.1 hx with hx | hx
        · have := hQw' x hx
          omega
        · rw [List.mem_singleton.1 hx]
          omega
theorem h33 (q : Nat) (ws : List (List UInt8)) (h : Z6 q ws = 0) {r : Option Nat} (A : SeA q ws (-1) r) (hF : FewS ws q) :
    PFn Tryz.prog 33 [Z7 q ws] [.bool (!r.isSome), .int .i64 0] := by
  have e80 := t44 q ws; have e84 := h85 q ws (-1) (valid_of h) (by omega) A hF; rw [h] at e80; unfold Z7 at e80 e84; refine PFn.of_body hΓ Tryz.func33 (by kernel_rfl) rfl (AWp.seq (Wd [] ?_)); simp -implicitDefEqProofs only [Tryz.ntmps33, Tryz.results33, Nat.reduceAdd, Nat.reduceSub, Z7, go_sem]; refine AWp.seq (Wd [] ?_); simp -implicitDefEqProofs only [go_sem]; refine Z0 e80 (.still rfl) ?_; simp -implicitDefEqProofs only [go_sem]; refine AWp.seq (Wd [] ?_); simp -implicitDefEqProofs only [go_sem]; refine Z0 e84 (.still rfl) ?_; simp -implicitDefEqProofs only [go_sem]; refine Wd [] ?_; simp -implicitDefEqProofs only [go_sem]
theorem h37 (q : Nat) (ws : List (List UInt8)) (n : Int) (h : Z6 q ws = 0) (hn : 0 ≤ n ∧ n ≤ 32) {r : Option Nat} (A : SeA q ws n r) (hF : FewS ws q) :
    PFn Tryz.prog 37 [Z7 q ws, .int .i64 n] [.str (seR q r), .bool r.isSome, .int .i64 0] := by
  have e80 := t44 q ws; have e84 := h85 q ws n (valid_of h) (by omega) A hF; rw [h] at e80; unfold Z7 at e80 e84; have n1 : ¬ n < 0 := by omega
  have n2 : ¬ 32 < n := by omega
  refine PFn.of_body hΓ Tryz.func37 (by kernel_rfl) rfl (AWp.seq (Wd [] ?_)); simp -implicitDefEqProofs only [Tryz.ntmps37, Tryz.results37, Nat.reduceAdd, Nat.reduceSub, Z7, go_sem]; refine AWp.seq (Wd [] ?_); simp -implicitDefEqProofs only [go_sem]; refine Z0 e80 (.still rfl) ?_; simp -implicitDefEqProofs only [go_sem]; refine AWp.seq (Wd [] ?_); simp -implicitDefEqProofs only [n1, n2, go_sem]; refine Wd [] ?_; simp -implicitDefEqProofs only [go_sem]; refine Z0 e84 (.still rfl) ?_; simp -implicitDefEqProofs only [go_sem]

/-! The errors. -/
theorem c32e (q : Int) (ws : List (List UInt8)) (h : Z6 q ws ≠ 0) : PFn Tryz.prog 32 [Z7 q ws] [.bool false, .int .i64 1] := by
  have e80 := t45 q ws; unfold Z7 at e80; refine PFn.of_body hΓ Tryz.func32 (by kernel_rfl) rfl (AWp.seq (Wd [] ?_)); simp -implicitDefEqProofs only [Tryz.ntmps32, Tryz.results32, Nat.reduceAdd, Nat.reduceSub, Z7, go_sem]; refine AWp.seq (Wd [] ?_); simp -implicitDefEqProofs only [go_sem]; refine Z0 e80 (.still rfl) ?_; simp -implicitDefEqProofs only [h, go_sem]
theorem h33e (q : Int) (ws : List (List UInt8)) (h : Z6 q ws ≠ 0) : PFn Tryz.prog 33 [Z7 q ws] [.bool false, .int .i64 1] := by
  have e80 := t44 q ws; unfold Z7 at e80; refine PFn.of_body hΓ Tryz.func33 (by kernel_rfl) rfl (AWp.seq (Wd [] ?_)); simp -implicitDefEqProofs only [Tryz.ntmps33, Tryz.results33, Nat.reduceAdd, Nat.reduceSub, Z7, go_sem]; refine AWp.seq (Wd [] ?_); simp -implicitDefEqProofs only [go_sem]; refine Z0 e80 (.still rfl) ?_; simp -implicitDefEqProofs only [h, go_sem]
theorem c36e (q : Int) (ws : List (List UInt8)) (n : Int) (h : Z6 q ws ≠ 0) : PFn Tryz.prog 36 [Z7 q ws, .int .i64 n] [.str [], .bool false, .int .i64 1] := by
  have e80 := t45 q ws; unfold Z7 at e80; refine PFn.of_body hΓ Tryz.func36 (by kernel_rfl) rfl (AWp.seq (Wd [] ?_)); simp -implicitDefEqProofs only [Tryz.ntmps36, Tryz.results36, Nat.reduceAdd, Nat.reduceSub, Z7, go_sem]; refine AWp.seq (Wd [] ?_); simp -implicitDefEqProofs only [go_sem]; refine Z0 e80 (.still rfl) ?_; simp -implicitDefEqProofs only [h, go_sem]
theorem h37e (q : Int) (ws : List (List UInt8)) (n : Int) (h : Z6 q ws ≠ 0) : PFn Tryz.prog 37 [Z7 q ws, .int .i64 n] [.str [], .bool false, .int .i64 1] := by
  have e80 := t44 q ws; unfold Z7 at e80; refine PFn.of_body hΓ Tryz.func37 (by kernel_rfl) rfl (AWp.seq (Wd [] ?_)); simp -implicitDefEqProofs only [Tryz.ntmps37, Tryz.results37, Nat.reduceAdd, Nat.reduceSub, Z7, go_sem]; refine AWp.seq (Wd [] ?_); simp -implicitDefEqProofs only [go_sem]; refine Z0 e80 (.still rfl) ?_; simp -implicitDefEqProofs only [h, go_sem]
theorem c36n (q : Int) (ws : List (List UInt8)) (n : Int) (h : Z6 q ws = 0) (hn : n < 0 ∨ 32 < n) : PFn Tryz.prog 36 [Z7 q ws, .int .i64 n] [.str [], .bool false, .int .i64 2] := by
  have e80 := t45 q ws; rw [h] at e80; unfold Z7 at e80; refine PFn.of_body hΓ Tryz.func36 (by kernel_rfl) rfl (AWp.seq (Wd [] ?_)); simp -implicitDefEqProofs only [Tryz.ntmps36, Tryz.results36, Nat.reduceAdd, Nat.reduceSub, Z7, go_sem]; refine AWp.seq (Wd [] ?_); simp -implicitDefEqProofs only [go_sem]; refine Z0 e80 (.still rfl) ?_; simp -implicitDefEqProofs only [go_sem]; refine AWp.seq (Wd [] ?_); by_cases n1 : n < 0
  · simp -implicitDefEqProofs only [n1, go_sem]
  · have n2 : 32 < n := by omega
    simp -implicitDefEqProofs only [n1, n2, go_sem]
theorem h37n (q : Int) (ws : List (List UInt8)) (n : Int) (h : Z6 q ws = 0) (hn : n < 0 ∨ 32 < n) : PFn Tryz.prog 37 [Z7 q ws, .int .i64 n] [.str [], .bool false, .int .i64 2] := by
  have e80 := t44 q ws; rw [h] at e80; unfold Z7 at e80; refine PFn.of_body hΓ Tryz.func37 (by kernel_rfl) rfl (AWp.seq (Wd [] ?_)); simp -implicitDefEqProofs only [Tryz.ntmps37, Tryz.results37, Nat.reduceAdd, Nat.reduceSub, Z7, go_sem]; refine AWp.seq (Wd [] ?_); simp -implicitDefEqProofs only [go_sem]; refine Z0 e80 (.still rfl) ?_; simp -implicitDefEqProofs only [go_sem]; refine AWp.seq (Wd [] ?_); by_cases n1 : n < 0
  · simp -implicitDefEqProofs only [n1, go_sem]
  · have n2 : 32 < n := by omega
    simp -implicitDefEqProofs only [n1, n2, go_sem]

theorem h35 (q : Int) (ws : List (List UInt8)) (w : List UInt8) (hwl : w.length ≤ 4000) : PFn Tryz.prog 35 [Z7 q ws, .str w] [.bool (facR q ws w), .int .i64 (facE q ws w)] := by
  have e80 := t44 q ws; have e86 := t78 q w; unfold Z7 at e80; refine PFn.of_body hΓ Tryz.func35 (by kernel_rfl) rfl (AWp.seq (Wd [] ?_)); simp -implicitDefEqProofs only [Tryz.ntmps35, Tryz.results35, Nat.reduceAdd, Nat.reduceSub, Z7, go_sem]; by_cases hc : Z6 q ws = 0
  rotate_left
  · have r1 : facE q ws w = 1 := if_neg hc
    have r2 : facR q ws w = false := by unfold facR; rw [r1]; rfl
    rw [r1, r2]; refine AWp.seq (Wd [] ?_); simp -implicitDefEqProofs only [go_sem]; refine Z0 e80 (.still rfl) ?_; simp -implicitDefEqProofs only [hc, go_sem]
  have r1 : facE q ws w = Ze q w := if_pos hc; rw [hc] at e80; by_cases hw0 : Ze q w = 0
  rotate_left
  · have r2 : facR q ws w = false := by unfold facR; rw [r1, decide_eq_false hw0]; rfl
    rw [r1, r2]; refine AWp.seq (Wd [] ?_); simp -implicitDefEqProofs only [go_sem]; refine Z0 e80 (.still rfl) ?_; simp -implicitDefEqProofs only [go_sem]; refine AWp.seq (Wd [] ?_); simp -implicitDefEqProofs only [go_sem]; refine Z0 e86 (.still rfl) ?_; simp -implicitDefEqProofs only [hw0, go_sem]
  have hv := valid_of hc; have hne : ws ≠ [] := fun e => by have := hv.pos; rw [e] at this; simp at this
  have hw32 : ∀ x ∈ ws, x.length ≤ 32 := fun x hx => (hv.words x hx).2.1
  have hlen := hv.len; have e89 := h89 q ws hv; unfold Z7 at e89; have r2 : facR q ws w = facB ws w := by unfold facR; rw [r1, hw0]; rfl
  have hB : facB ws w = decide (0 < ((w.foldl (fun S c => Z0i ws S c) (Z0f ws)).length : Int)) := by
    have e := Zcz hne w; unfold facB; rw [← e]; refine decide_eq_decide.2 ?_; have h1 : (canL (w.foldl (fun S c => Z0i ws S c) (Z0f ws))).length = 0 ↔ (w.foldl (fun S c => Z0i ws S c) (Z0f ws)).length = 0 := by
      rw [List.length_eq_zero_iff, List.length_eq_zero_iff, Z4l]
    omega
  rw [hw0] at r1 e86; rw [r1, r2]; refine AWp.seq (Wd [] ?_); simp -implicitDefEqProofs only [go_sem]; refine Z0 e80 (.still rfl) ?_; simp -implicitDefEqProofs only [go_sem]; refine AWp.seq (Wd [] ?_); simp -implicitDefEqProofs only [go_sem]; refine Z0 e86 (.still rfl) ?_; simp -implicitDefEqProofs only [go_sem]; refine AWp.seq (Wd [] ?_); simp -implicitDefEqProofs only [go_sem]; refine Z0 e89 (.still rfl) ?_; simp -implicitDefEqProofs only [go_sem]; refine AWp.seq (AWp.seq (Wd [] ?_)); simp -implicitDefEqProofs only [go_sem]; refine AWp.block ?_
  refine AWp.loopI (fun i : Nat => ⟨mkF 36 [(1, .p (.str w)), (2, .ptr 0 0), (7, .p (.sl (((w.take i).foldl (fun S c => Z0i ws S c) (Z0f ws)).map .str))), (8, .p (.int .i64 i))], [.box [.p (.int .i64 q), .p (.sl (ws.map .str))]]⟩)
    (fun i => i ≤ w.length) (fun i => w.length - i) 0 (by simp [go_sem]) (by omega) ?_
  intro i hi; have hb : ((w.take i).foldl (fun S c => Z0i ws S c) (Z0f ws)).length ≤ 33 * ws.length := by
    have h1 := Z13 (Z9c (ws := ws) (w.take i)) (m := begL ws) fun x hx => by
      have hx2 : x ∈ Mc.runSt canL ws (w.take i) := by rw [← Zcz hne]; exact mem_canL.2 hx
      obtain ⟨y, hy, h3⟩ := Z78 _ x hx2; exact List.mem_flatMap.2 ⟨y, hy, mem_ends.2 h3⟩
    have h2 := Z5z hw32 ws.length (Nat.le_refl _); unfold begT at h2; rw [List.take_length] at h2; unfold begL at h1; omega
  refine Wd [(10, 7)] ?_; by_cases hlt : i < w.length
  · have e90 := h90 q ws ((w.take i).foldl (fun S c => Z0i ws S c) (Z0f ws)) w[i] hv (by omega)
    have hrs : (w.take (i + 1)).foldl (fun S c => Z0i ws S c) (Z0f ws) = Z0i ws ((w.take i).foldl (fun S c => Z0i ws S c) (Z0f ws)) w[i] := by
      rw [List.take_succ_eq_append_getElem hlt, List.foldl_append]; rfl
    rw [← hrs] at e90; unfold Z7 at e90; have hgi : w.getD i 0 = w[i] := by rw [List.getD_eq_getElem?_getD, List.getElem?_eq_getElem hlt]; rfl
    have hlt' : (i : Int) < (w.length : Int) := by omega
    simp -implicitDefEqProofs only [hlt, hlt', hgi, Int.toNat_natCast, go_sem]; refine Z1 e90 (.still rfl) ?_; simp -implicitDefEqProofs only [go_sem]; exact ⟨by simp only [InR]; omega, i + 1, ⟨by simp, by simp⟩, by omega, by omega⟩
  have hiw : i = w.length := by omega
  have hlt' : ¬ (i : Int) < (w.length : Int) := by omega
  subst hiw; simp -implicitDefEqProofs only [hlt', go_sem]; rw [List.take_length, hB]; refine Wd [] ?_; simp -implicitDefEqProofs only [List.length_map, go_sem]
end Go.Proofs.YtpljmccnfmkmfaaGreat
end

section
namespace Go.Proofs.YtpljmccnfmkmfaaGreat
open Go Go.AM

theorem Zjv (q : Int) (ws : List (List UInt8)) (n : Int) (w : List UInt8) (hw : w.length ≤ 20) (e30 : PFn Tryz.prog 30 [Z7 q ws] [.bool false]) {a is m : Bool} {e j k : Int} {u : List UInt8}
    (e32 : PFn Tryz.prog 32 [Z7 q ws] [.bool a, .int .i64 e]) (e33 : PFn Tryz.prog 33 [Z7 q ws] [.bool a, .int .i64 e])
    (e36 : PFn Tryz.prog 36 [Z7 q ws, .int .i64 n] [.str u, .bool is, .int .i64 j]) (e37 : PFn Tryz.prog 37 [Z7 q ws, .int .i64 n] [.str u, .bool is, .int .i64 j])
    (e38 : PFn Tryz.prog 38 [Z7 q ws] [.bool m, .int .i64 k]) (e39 : PFn Tryz.prog 39 [Z7 q ws] [.bool m, .int .i64 k]) :
    PFn Tryz.prog 5 [Z7 q ws, .int .i64 n, .str w] [.bool true] := by
  have e34 := c34 q ws w (by omega); have e35 := h35 q ws w (by omega); have h20 : ¬ (20 : Int) < (w.length : Int) := by omega
  generalize facR q ws w = fr at *; generalize facE q ws w = fe at *; unfold Z7 at e30 e32 e33 e34 e35 e36 e37 e38 e39; refine PFn.of_body hΓ Tryz.func5 (by kernel_rfl) rfl (AWp.seq (Wd [] ?_)); simp -implicitDefEqProofs only [Tryz.ntmps5, Tryz.results5, Nat.reduceAdd, Nat.reduceSub, Z7, go_sem]; refine AWp.seq ?_; refine Wd [] ?_; simp -implicitDefEqProofs only [go_sem]; refine Z0 e30 (.still rfl) ?_; simp -implicitDefEqProofs only [h20, go_sem]; refine AWp.seq (Wd [] ?_); simp -implicitDefEqProofs only [go_sem]; refine Z0 e32 (.still rfl) ?_; simp -implicitDefEqProofs only [go_sem]; refine AWp.seq (Wd [] ?_); simp -implicitDefEqProofs only [go_sem]; refine Z0 e33 (.still rfl) ?_; simp -implicitDefEqProofs only [go_sem]; refine AWp.seq (Wd [] ?_); simp -implicitDefEqProofs only [go_sem]; refine Z0 e34 (.still rfl) ?_; simp -implicitDefEqProofs only [go_sem]; refine AWp.seq (Wd [] ?_); simp -implicitDefEqProofs only [go_sem]; refine Z0 e35 (.still rfl) ?_; simp -implicitDefEqProofs only [go_sem]; refine AWp.seq (Wd [] ?_); simp -implicitDefEqProofs only [go_sem]; refine Z0 e36 (.still rfl) ?_; simp -implicitDefEqProofs only [go_sem]; refine AWp.seq (Wd [] ?_); simp -implicitDefEqProofs only [go_sem]; refine Z0 e37 (.still rfl) ?_; simp -implicitDefEqProofs only [go_sem]; refine AWp.seq (Wd [] ?_); simp -implicitDefEqProofs only [go_sem]; refine Z0 e38 (.still rfl) ?_; simp -implicitDefEqProofs only [go_sem]; refine AWp.seq (Wd [] ?_); simp -implicitDefEqProofs only [go_sem]; refine Z0 e39 (.still rfl) ?_; simp -implicitDefEqProofs only [go_sem]; refine Wd [] ?_; simp -implicitDefEqProofs only [beq_self_eq_true, go_sem]; refine Z0 Zdt (.pures rfl) ?_; simp -implicitDefEqProofs only [go_sem]

open Classical in
theorem b5 (q : Int) (ws : List (List UInt8)) (n : Int) (w : List UInt8) (hws : ws.length ≤ 9223372036854775807) : PFn Tryz.prog 5 [Z7 q ws, .int .i64 n, .str w] [.bool true] := by
  have e30 := h30 q ws hws; obtain ⟨g, hg⟩ : ∃ g, g = (Z6g q ws || decide (Z6 q ws = 0 ∧ ¬ FewS ws q.toNat)) := ⟨_, rfl⟩; rw [← hg] at e30; by_cases hgo : g = true ∨ 20 < w.length
  · unfold Z7 at e30
    refine PFn.of_body hΓ Tryz.func5 (by kernel_rfl) rfl (AWp.seq (Wd [] ?_)); simp -implicitDefEqProofs only [Tryz.ntmps5, Tryz.results5, Nat.reduceAdd, Nat.reduceSub, Z7, go_sem]
    cases g
    · have h20 : (20 : Int) < (w.length : Int) := by simp at hgo; omega
      refine AWp.seq ?_; refine Wd [] ?_; simp -implicitDefEqProofs only [go_sem]; refine Z0 e30 (.still rfl) ?_; simp -implicitDefEqProofs only [h20, go_sem]; refine Z0 Zdt (.pures rfl) ?_; simp -implicitDefEqProofs only [go_sem]
    · refine AWp.seq ?_
      refine Wd [] ?_; simp -implicitDefEqProofs only [go_sem]; refine Z0 e30 (.still rfl) ?_; simp -implicitDefEqProofs only [go_sem]; refine Z0 Zdt (.pures rfl) ?_; simp -implicitDefEqProofs only [go_sem]
  rw [not_or] at hgo; have hgf : g = false := by simpa using hgo.1
  subst hgf; have hw : w.length ≤ 20 := by omega
  by_cases hc : Z6 q ws = 0
  rotate_left
  · exact Zjv q ws n w hw e30 (c32e q ws hc) (h33e q ws hc) (c36e q ws n hc) (h37e q ws n hc) (c38e q ws hc) (h39e q ws hc)
  have hF : FewS ws q.toNat := by
    have h := hg.symm; rw [Bool.or_eq_false_iff, decide_eq_false_iff_not] at h; exact Classical.byContradiction fun hn => h.2 ⟨hc, hn⟩
  have hv := valid_of hc; have h2 := hv.q2; have h16 := hv.q16; obtain ⟨p, rfl⟩ : ∃ p : Nat, q = p := ⟨q.toNat, by omega⟩; rw [Int.toNat_natCast] at hF; have e55 := Dc.t15 (p : Int) ws; rw [if_pos hc, if_pos hc] at e55; have e92 := Dc.h92 p ws hc; obtain ⟨r2, A2⟩ := seA p (by omega) (by omega) ws (-1); by_cases hn : 0 ≤ n ∧ n ≤ 32
  · obtain ⟨r, A⟩ := seA p (by omega) (by omega) ws n
    exact Zjv p ws n w hw e30 (c32 p ws hc A2 hF) (h33 p ws hc A2 hF) (c36 p ws n hc hn A hF) (h37 p ws n hc hn A hF) (c38 p ws hc e55) (h39 p ws hc e92)
  · exact Zjv p ws n w hw e30 (c32 p ws hc A2 hF) (h33 p ws hc A2 hF) (c36n p ws n hc (by omega)) (h37n p ws n hc (by omega)) (c38 p ws hc e55) (h39 p ws hc e92)
end Go.Proofs.YtpljmccnfmkmfaaGreat
end

