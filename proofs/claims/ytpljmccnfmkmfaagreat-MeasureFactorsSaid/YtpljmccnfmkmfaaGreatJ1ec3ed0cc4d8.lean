/-
  Texts of this claim, joined.
-/
import Derived.Test.YtpljmccnfmkmfaaGreatJ68c5aa50e6a9
import Derived.Test.YtpljmccnfmkmfaaGreatJ0a7fb04c7a58
import Derived.Test.YtpljmccnfmkmfaaGreatJb379843f5219
import Derived.Test.YtpljmccnfmkmfaaGreatJ5c0fbbf3c148
import Derived.Test.YtpljmccnfmkmfaaGreatJab67d4f4af45
import Derived.Test.YtpljmccnfmkmfaaGreatJ87370f26952d
import Derived.Test.YtpljmccnfmkmfaaGreatJe798e1ef6087
import Derived.Test.YtpljmccnfmkmfaaGreatJ764180b901fc

set_option linter.unusedSimpArgs false
set_option maxRecDepth 100000
set_option maxHeartbeats 4000000
section
namespace Go.Proofs.YtpljmccnfmkmfaaGreat
open Go Go.AM



def Zbw (w : List UInt8) : Bool := decide (5 < w.length) && decide (w.length ≤ 32)
def Zu1 (q : Int) (ws : List (List UInt8)) : Bool := decide (6 < ws.length) || (decide (3 < q) && decide (q ≤ 16))
def Z6g (q : Int) (ws : List (List UInt8)) : Bool := ws.any Zbw || Zu1 q ws

theorem gr36 (q : Int) (ws : List (List UInt8)) (hl : ws.length ≤ 9223372036854775807) : PFn Tryz.prog 43 [Z7 q ws] [.bool (Z6g q ws)] := by
  refine PFn.of_body hΓ Tryz.func43 (by kernel_rfl) rfl (Wd [] ?_); simp -implicitDefEqProofs only [Tryz.ntmps43, Tryz.results43, Nat.reduceAdd, Nat.reduceSub, Z7, go_sem]
  refine AWp.loopI (fun k : Nat => ⟨mkF 41 [(1, .ptr 0 0), (2, .p (.bool false)), (3, .p (.int .i64 k))], [Zn q ws]⟩)
    (fun k => k ≤ ws.length ∧ (ws.take k).any Zbw = false) (fun k => ws.length - k) 0 (by simp [go_sem, Zn]) (by simp) ?_
  rintro k ⟨hk, hno⟩; refine Wd [] ?_; by_cases hlt : k < ws.length
  · by_cases h5 : (5 : Int) < ws[k].length
    · by_cases h32 : (ws[k].length : Int) ≤ 32
      · simp -implicitDefEqProofs only [hlt, h5, h32, Z2, ↓reduceIte, Zn, go_sem]
        have : ws.any Zbw = true := List.any_eq_true.2 ⟨_, List.getElem_mem hlt, by unfold Zbw; simp only [Bool.and_eq_true, decide_eq_true_eq]; omega⟩; unfold Z6g; rw [this]; rfl
      · have hno' : Zbw ws[k] = false := by unfold Zbw; simp only [Bool.and_eq_false_iff, decide_eq_false_iff_not]; omega
        simp -implicitDefEqProofs only [hlt, h5, h32, Z2, ↓reduceIte, Zn, go_sem]; exact ⟨by simp only [InR]; omega, k + 1, by simp, ⟨hlt, by rw [List.take_succ_eq_append_getElem hlt, List.any_append, hno]; simp [hno']⟩, by omega⟩
    · have hno' : Zbw ws[k] = false := by unfold Zbw; simp only [Bool.and_eq_false_iff, decide_eq_false_iff_not]; omega
      simp -implicitDefEqProofs only [hlt, h5, Z2, ↓reduceIte, Zn, go_sem]; exact ⟨by simp only [InR]; omega, k + 1, by simp, ⟨hlt, by rw [List.take_succ_eq_append_getElem hlt, List.any_append, hno]; simp [hno']⟩, by omega⟩
  · rw [List.take_of_length_le (by omega)] at hno
    unfold Z6g Zu1; rw [hno]; by_cases h6 : (6 : Int) < ws.length
    · simp -implicitDefEqProofs only [hlt, h6, Zn, go_sem]
      rw [decide_eq_true (by omega : 6 < ws.length)]; rfl
    · by_cases h3 : 3 < q
      · simp -implicitDefEqProofs only [hlt, h6, h3, Zn, go_sem]
        rw [decide_eq_false (by omega : ¬ 6 < ws.length)]; rfl
      · simp -implicitDefEqProofs only [hlt, h6, h3, Zn, go_sem]
        rw [decide_eq_false (by omega : ¬ 6 < ws.length)]; rfl

end Go.Proofs.YtpljmccnfmkmfaaGreat
end

section
namespace Go.Proofs.YtpljmccnfmkmfaaGreat.Kn
open Go Go.AM

def ltr (a : Nat) : UInt8 := L16.getD a 0
def Alph (q : Nat) (w : List UInt8) : Prop := ∀ b ∈ w, ∃ a, a < q ∧ b = ltr a

structure PCode (q : Nat) (ws : List (List UInt8)) : Prop where
  q0 : 0 < q
  q16 : q ≤ 16
  nodup : ws.Nodup
  free : ∀ x ∈ ws, ∀ y ∈ ws, y.isPrefixOf x = true → x = y
  alph : ∀ w ∈ ws, Alph q w
  short : ∀ w ∈ ws, w.length ≤ 32

end Go.Proofs.YtpljmccnfmkmfaaGreat.Kn
end

section
namespace Go.Proofs.YtpljmccnfmkmfaaGreat
open Go Go.AM

theorem Zid (c : UInt8) : ∀ (l : List UInt8) (n : Nat), 0 ≤ ixB c l n → ∃ k : Nat, ixB c l n = ((n + k : Nat) : Int) ∧ l.getD k 0 = c
  | [], n, h => by simp [ixB] at h
  | a :: l, n, h => by
    unfold ixB at h ⊢
    cases hb : Nat.beq a.toNat c.toNat with
    | true =>
      rw [hb] at h; exact ⟨0, by simp, by simpa using UInt8.toNat_inj.1 (Nat.eq_of_beq_eq_true hb)⟩
    | false =>
      rw [hb] at h; obtain ⟨k, h1, h2⟩ := Zid c l (n + 1) h; exact ⟨k + 1, by simp only [h1]; omega, by simpa using h2⟩
theorem Zqr {q : Int} {w : List UInt8} (h : Ze q w = 0) : Kn.Alph q.toNat w := fun b hb => by
  have hw : okW q w = true := by
    unfold Ze at h
    split at h
    · cases h
    · split at h
      · cases h
      · split at h
        · assumption
        · cases h
  have h1 := List.all_eq_true.1 hw b hb; unfold okB at h1; simp only [Bool.and_eq_true, decide_eq_true_eq] at h1; obtain ⟨k, h3, h4⟩ := Zid b L16 0 h1.1; exact ⟨k, by omega, h4.symm⟩
end Go.Proofs.YtpljmccnfmkmfaaGreat
end

section
namespace Go.Proofs.YtpljmccnfmkmfaaGreat
open Go Go.AM Go.RowKit

end Go.Proofs.YtpljmccnfmkmfaaGreat
end

section
namespace Go.Proofs.YtpljmccnfmkmfaaGreat.Kn
open Go Go.AM

end Go.Proofs.YtpljmccnfmkmfaaGreat.Kn
end

section
namespace Go.Proofs.YtpljmccnfmkmfaaGreat
open Go Go.AM




theorem Zkr {S : Nat} (hS : S ≠ 0) : Kn.ratV 0 1 = Kn.ratV 0 S := (Kn.low_eq (by decide) hS).2 (by simp)

theorem Zpo {q K n : Nat} (hq : q ≠ 0) (hn : n ≤ 32) : Kn.ratV (K * q ^ n + 1 * q ^ 32) (q ^ 32 * q ^ n) = Kn.ratV (K + q ^ (32 - n)) (q ^ 32) := by
  have hp : ∀ m, q ^ m ≠ 0 := fun m => Nat.ne_of_gt (Nat.pow_pos (Nat.pos_of_ne_zero hq))
  refine (Kn.low_eq (Nat.mul_ne_zero (hp 32) (hp n)) (hp 32)).2 ?_; have h : q ^ 32 = q ^ (32 - n) * q ^ n := by rw [← Nat.pow_add]; congr 1; omega
  generalize q ^ 32 = A at *; generalize q ^ (32 - n) = B at *; generalize q ^ n = C at *; subst h
  grind
theorem Zpm (q : Nat) (hq2 : 2 ≤ q) (hq : q ≤ 16) (l : List Nat) (hl : l.length ≤ 4096) (n : Nat) (hn : n ≤ 32) :
    PFn Tryz.prog 106 [Kn.ratV (Kn.krS q l) (q ^ 32), Kn.ratV 1 (q ^ n)] [Kn.ratV (Kn.krS q (l ++ [n])) (q ^ 32)] := by
  have h1 : Kn.krS q l ≤ 4096 * 16 ^ 32 := Nat.le_trans (Kn.krS_le hq l) (Nat.mul_le_mul_right _ hl); have h2 : q ^ 32 ≤ 16 ^ 32 := Nat.pow_le_pow_left hq 32; have h3 : q ^ n ≤ 16 ^ 32 := Nat.le_trans (Nat.pow_le_pow_left hq n) (Nat.pow_le_pow_right (by decide) hn); have h4 : Kn.krS q l * q ^ n ≤ 4096 * 16 ^ 32 * 16 ^ 32 := Nat.mul_le_mul h1 h3; have h5 : q ^ 32 * q ^ n ≤ 16 ^ 32 * 16 ^ 32 := Nat.mul_le_mul h2 h3; have hb : 4096 * 16 ^ 32 * 16 ^ 32 + 16 ^ 32 * 16 ^ 32 < 256 ^ 40 := by decide
  have hc : ∀ x, x < 256 ^ 40 → x < capN := fun x h => Z4s h (by decide)
  have hs : (4096 * 16 ^ 32 ≤ 4096 * 16 ^ 32 * 16 ^ 32) ∧ (16 ^ 32 ≤ 16 ^ 32 * 16 ^ 32) := by decide
  have hp : ∀ m, q ^ m ≠ 0 := fun m => Nat.ne_of_gt (Nat.pow_pos (by omega))
  have e := Kn.w106 (Kn.krS q l) (q ^ 32) 1 (q ^ n) (hc _ (by omega)) (hc _ (by omega)) Kn.one_cap (hc _ (by omega)) (hp 32) (hp n) (hc _ (by omega)) (hc _ (by omega)); rw [Zpo (by omega) hn, ← Kn.krS_snoc] at e; exact e

theorem h52 (q : Nat) (ws : List (List UInt8)) (hc : Z6 q ws = 0) : PFn Tryz.prog 52 [Z7 q ws] [Kn.ratV (Kn.krS q (ws.map List.length)) (q ^ 32), .int .i64 0] := by
  have hv := valid_of hc; have h2 := hv.q2; have h16 := hv.q16; have hlen := hv.len; have hS0 : q ^ 32 ≠ 0 := Nat.ne_of_gt (Nat.pow_pos (by omega)); have e40 := t44 q ws; rw [hc] at e40; have e93 := Kn.w93 0 1 (by omega) (by omega) (by omega); rw [Zkr hS0] at e93; obtain ⟨sA, hsA⟩ : ∃ f : Nat → List UInt8, f = fun i => magB (Kn.lowN (Kn.krS q ((ws.map List.length).take i)) (q ^ 32)) := ⟨_, rfl⟩
  obtain ⟨sB, hsB⟩ : ∃ f : Nat → List UInt8, f = fun i => magB (Kn.lowD (Kn.krS q ((ws.map List.length).take i)) (q ^ 32)) := ⟨_, rfl⟩
  have hsV : ∀ i, Kn.ratV (Kn.krS q ((ws.map List.length).take i)) (q ^ 32) = .agg [.bool false, .str (sA i), .bool false, .str (sB i)] := fun i => by rw [hsA, hsB]; rfl
  have hz : Kn.ratV 0 (q ^ 32) = .agg [.bool false, .str (sA 0), .bool false, .str (sB 0)] := hsV 0; rw [hz] at e93; have hfin := hsV ws.length; rw [List.take_of_length_le (by simp)] at hfin; rw [hfin]; unfold Z7 at e40; refine PFn.of_body hΓ Tryz.func52 (by kernel_rfl) rfl (AWp.seq (Wd [] ?_)); simp -implicitDefEqProofs only [Tryz.ntmps52, Tryz.results52, Nat.reduceAdd, Nat.reduceSub, Z7, go_sem]; refine AWp.seq (Wd [] ?_); simp -implicitDefEqProofs only [go_sem]; refine Z0 e40 (.still rfl) ?_; simp -implicitDefEqProofs only [go_sem]; refine AWp.seq (Wd [] ?_); simp -implicitDefEqProofs only [go_sem]; refine Z0 e93 (.pures rfl) ?_; simp -implicitDefEqProofs only [go_sem]; refine AWp.seq (AWp.seq (Wd [] ?_)); simp -implicitDefEqProofs only [go_sem]; refine AWp.block ?_
  refine AWp.loopI (fun i : Nat => ⟨mkF 30 [(1, .ptr 0 0), (2, .ptr 1 0), (4, .ptr 2 0), (5, .p (.int .i64 i))], [.box [.p (.int .i64 q), .p (.sl (ws.map .str))], .box [.p (.bool false), .p (.str []), .p (.bool false), .p (.str [])], .box [.p (.bool false), .p (.str (sA i)), .p (.bool false), .p (.str (sB i))]]⟩)
    (fun i => i ≤ ws.length) (fun i => ws.length - i) 0 (by simp [go_sem]) (by simp) ?_
  intro i hi; refine Wd [(7, 11)] ?_; by_cases hlt : i < ws.length
  · have hlt' : (i : Int) < (ws.length : Int) := by omega
    have hgi : (ws.map PV.str).getD i default = .str ws[i] := Z2 _ _ _ _ hlt; have hwi := (hv.words ws[i] (List.getElem_mem hlt)).2.1; have htk : (ws.map List.length).take (i + 1) = (ws.map List.length).take i ++ [ws[i].length] := by
      rw [List.take_succ_eq_append_getElem (by simpa using hlt), List.getElem_map]
    have hcp : q ^ ws[i].length < capN := by
      have h3 : q ^ ws[i].length ≤ 16 ^ 32 := Nat.le_trans (Nat.pow_le_pow_left (by omega) _) (Nat.pow_le_pow_right (by decide) hwi); exact Z4s (Nat.lt_of_le_of_lt h3 (by decide : 16 ^ 32 < 256 ^ 40)) (by decide)
    have e107 := Kn.w107 q ws[i].length (by omega) (by omega) (by omega) hcp; have e106 := Zpm q (by omega) (by omega) ((ws.map List.length).take i) (by simp; omega) ws[i].length hwi; rw [← htk, hsV, hsV] at e106; rw [Kn.rat_inv] at e106 e107; simp -implicitDefEqProofs only [hlt', hgi, Int.toNat_natCast, List.length_map, go_sem]; refine Z1 e107 (.pures rfl) ?_; simp -implicitDefEqProofs only [go_sem]; refine Z1 e106 (.still rfl) ?_; simp -implicitDefEqProofs only [go_sem]; exact ⟨by simp only [InR]; omega, i + 1, by simp, by omega, by omega⟩
  · have hlt' : ¬ (i : Int) < (ws.length : Int) := by omega
    have : i = ws.length := by omega
    subst this; simp -implicitDefEqProofs only [hlt', List.length_map, Int.lt_irrefl, go_sem]; refine Wd [] ?_; simp -implicitDefEqProofs only [go_sem]
theorem h52e (q : Int) (ws : List (List UInt8)) (hc : Z6 q ws ≠ 0) : PFn Tryz.prog 52 [Z7 q ws] [.agg [.bool false, .str [], .bool false, .str []], .int .i64 1] := by
  have e40 := t44 q ws; unfold Z7 at e40; refine PFn.of_body hΓ Tryz.func52 (by kernel_rfl) rfl (AWp.seq (Wd [] ?_)); simp -implicitDefEqProofs only [Tryz.ntmps52, Tryz.results52, Nat.reduceAdd, Nat.reduceSub, Z7, go_sem]; refine AWp.seq (Wd [] ?_); simp -implicitDefEqProofs only [go_sem]; refine Z0 e40 (.still rfl) ?_; simp -implicitDefEqProofs only [hc, go_sem]
end Go.Proofs.YtpljmccnfmkmfaaGreat
end

section
namespace Go.Proofs.YtpljmccnfmkmfaaGreat
open Go Go.AM Go.RowKit

def facB (ws : List (List UInt8)) (w : List UInt8) : Bool := decide (0 < (Mc.runSt canL ws w).length)
def facE (q : Int) (ws : List (List UInt8)) (w : List UInt8) : Int := if Z6 q ws = 0 then Ze q w else 1
def facR (q : Int) (ws : List (List UInt8)) (w : List UInt8) : Bool := decide (facE q ws w = 0) && facB ws w
theorem Zjf (l : List (List UInt8)) : (canL l).length ≤ l.length := by
  have h := Z6i (Z16 l); rw [Zr] at h; exact h
theorem Za5 (c : UInt8) : ∀ l : List (List UInt8), (Mc.tails c l).length ≤ l.length
  | [] => Nat.le_refl _
  | a :: l => by
    have ih := Za5 c l; have e : Mc.tails c (a :: l) = Mc.tl1 c a ++ Mc.tails c l := rfl; have h : (Mc.tl1 c a).length ≤ 1 := by
      cases a with
      | nil => exact Nat.zero_le _
      | cons d y =>
        rw [Mc.tl1_cons]
        split
        · exact Nat.le_refl _
        · exact Nat.zero_le _
    rw [e, List.length_append, List.length_cons]; omega
theorem Zt1 (X S : List (List UInt8)) (c : UInt8) : (Mc.rdS X S c).length ≤ S.length + X.length := by
  unfold Mc.rdS; rw [List.length_append]; have h1 := Za5 c S; have h2 := Za5 c X
  split
  · omega
  · simp only [List.length_nil]; omega
theorem Zjq : ∀ {X : List (List UInt8)}, (∀ x ∈ X, x.length ≤ 32) → (Mc.begL X).length ≤ 33 * X.length
  | [], _ => Nat.le_refl _
  | a :: l, h => by
    have ih := Zjq (X := l) fun x hx => h x (List.mem_cons_of_mem _ hx)
    have h1 := h a (by simp); have e : Mc.begL (a :: l) = Mc.ends a ++ Mc.begL l := rfl; have e2 : (Mc.ends a).length = a.length + 1 := by unfold Mc.ends; rw [List.length_map, List.length_range]
    rw [e, List.length_append, List.length_cons, e2]; omega
theorem Zgx {X : List (List UInt8)} (h : ∀ x ∈ X, x.length ≤ 32) : ∀ (w : List UInt8) (i : Nat), i ≤ w.length → (Mc.runSt canL X (w.take i)).length ≤ 33 * X.length + i * X.length
  | w, 0, _ => by
    have e : Mc.runSt canL X (w.take 0) = canL (Mc.begL X) := rfl; rw [e]; exact Nat.le_trans (Zjf _) (Nat.le_trans (Zjq h) (by omega))
  | w, i + 1, hi => by
    have ih := Zgx h w i (by omega); rw [List.take_succ_eq_append_getElem (by omega), Mc.runSt_snoc, Nat.add_mul, Nat.one_mul]; exact Nat.le_trans (Zjf _) (Nat.le_trans (Zt1 _ _ _) (by omega))

theorem c34 (q : Int) (ws : List (List UInt8)) (w : List UInt8) (hwl : w.length ≤ 4000) : PFn Tryz.prog 34 [Z7 q ws, .str w] [.bool (facR q ws w), .int .i64 (facE q ws w)] := by
  have e80 := t45 q ws; have e86 := t80 q w; unfold Z7 at e80; refine PFn.of_body hΓ Tryz.func34 (by kernel_rfl) rfl (AWp.seq (Wd [] ?_)); simp -implicitDefEqProofs only [Tryz.ntmps34, Tryz.results34, Nat.reduceAdd, Nat.reduceSub, Z7, go_sem]; by_cases hc : Z6 q ws = 0
  rotate_left
  · have r1 : facE q ws w = 1 := if_neg hc
    have r2 : facR q ws w = false := by unfold facR; rw [r1]; rfl
    rw [r1, r2]; refine AWp.seq (Wd [] ?_); simp -implicitDefEqProofs only [go_sem]; refine Z0 e80 (.still rfl) ?_; simp -implicitDefEqProofs only [hc, go_sem]
  have r1 : facE q ws w = Ze q w := if_pos hc; rw [hc] at e80; by_cases hw0 : Ze q w = 0
  rotate_left
  · have r2 : facR q ws w = false := by unfold facR; rw [r1, decide_eq_false hw0]; rfl
    rw [r1, r2]; refine AWp.seq (Wd [] ?_); simp -implicitDefEqProofs only [go_sem]; refine Z0 e80 (.still rfl) ?_; simp -implicitDefEqProofs only [go_sem]; refine AWp.seq (Wd [] ?_); simp -implicitDefEqProofs only [go_sem]; refine Z0 e86 (.still rfl) ?_; simp -implicitDefEqProofs only [hw0, go_sem]
  have hv := valid_of hc; have e87 := c87 q ws hv; unfold Z7 at e87; have h32 : ∀ x ∈ ws, x.length ≤ 32 := fun x hx => (hv.words x hx).2.1
  have hlen := hv.len; have r2 : facR q ws w = facB ws w := by unfold facR; rw [r1, hw0]; rfl
  rw [hw0] at r1 e86; rw [r1, r2]; refine AWp.seq (Wd [] ?_); simp -implicitDefEqProofs only [go_sem]; refine Z0 e80 (.still rfl) ?_; simp -implicitDefEqProofs only [go_sem]; refine AWp.seq (Wd [] ?_); simp -implicitDefEqProofs only [go_sem]; refine Z0 e86 (.still rfl) ?_; simp -implicitDefEqProofs only [go_sem]; refine AWp.seq (Wd [] ?_); simp -implicitDefEqProofs only [go_sem]; refine Z0 e87 (.still rfl) ?_; simp -implicitDefEqProofs only [go_sem]; refine Wd [(10, 7)] ?_; simp -implicitDefEqProofs only [go_sem]
  refine AWp.loopI (fun i : Nat => ⟨mkF 36 [(1, .p (.str w)), (2, .ptr 0 0), (7, .p (.sl ((Mc.runSt canL ws (w.take i)).map .str))), (22, .p (.int .i64 w.length)), (23, .p (.int .i64 i))], [.box [.p (.int .i64 q), .p (.sl (ws.map .str))]]⟩)
    (fun i => i ≤ w.length) (fun i => w.length - i) 0 (by simp [go_sem, Mc.runSt]) (by omega) ?_
  intro i hi; have hb := Zgx h32 w i hi; have hb2 : i * ws.length ≤ 4000 * 64 := Nat.mul_le_mul (by omega) hlen; refine Wd [(10, 7)] ?_; by_cases hlt : i < w.length
  · have e88 := c88 q ws (Mc.runSt canL ws (w.take i)) w[i] (by omega) (by omega)
    have hrs : Mc.runSt canL ws (w.take (i + 1)) = canL (Mc.rdS ws (Mc.runSt canL ws (w.take i)) w[i]) := by
      rw [List.take_succ_eq_append_getElem hlt, Mc.runSt_snoc]
    rw [← hrs] at e88; unfold Z7 at e88; have hgi : w.getD i 0 = w[i] := by rw [List.getD_eq_getElem?_getD, List.getElem?_eq_getElem hlt]; rfl
    simp -implicitDefEqProofs only [hlt, hgi, go_sem]; refine Z1 e88 (.still rfl) ?_; simp -implicitDefEqProofs only [go_sem]; exact ⟨by simp only [InR]; omega, i + 1, ⟨by simp, by simp⟩, by omega, by omega⟩
  have hiw : i = w.length := by omega
  subst hiw; simp -implicitDefEqProofs only [Nat.lt_irrefl, Int.lt_irrefl, go_sem]; rw [List.take_length]; unfold facB; exact decide_eq_decide.2 (by omega)
end Go.Proofs.YtpljmccnfmkmfaaGreat
end

