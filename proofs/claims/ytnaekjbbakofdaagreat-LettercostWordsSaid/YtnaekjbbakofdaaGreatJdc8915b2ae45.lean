/-
  The law LettercostWords (f8).
-/
import Derived.Test.YtnaekjbbakofdaaGreatJecc234ac2c17

namespace Go.Proofs.YtnaekjbbakofdaaGreat
open Go Go.AM
set_option maxRecDepth 100000
set_option maxHeartbeats 4000000
set_option linter.unusedSimpArgs false

theorem wc_iff {q : Nat} {w : Wd} (hq : 1 ≤ q) (hq2 : q ≤ 16) (hl : w.length ≤ 1000) : wordCheck q w = 0 ↔ okW q w = true := by
  unfold wordCheck
  rw [if_neg (by omega), if_neg (by omega)]
  split
  · rename_i h; exact ⟨fun _ => h, fun _ => rfl⟩
  · rename_i hn; exact ⟨fun h => (by cases h), fun h2 => absurd h2 hn⟩
theorem okW_append {q : Int} {u v : Wd} : okW q (u ++ v) = true ↔ okW q u = true ∧ okW q v = true := by unfold okW; rw [List.all_append, Bool.and_eq_true]
theorem costW_ge {cs : List Nat} (hlo : ∀ c ∈ cs, 1 ≤ c) : ∀ {w : Wd}, okW cs.length w = true → w.length ≤ costW cs w
  | [], _ => by simp
  | b :: w, h => by
    have h1 : okB cs.length b = true ∧ okW cs.length w = true := by unfold okW at h ⊢; rwa [List.all_cons, Bool.and_eq_true] at h
    have h2 := costW_ge hlo h1.2
    have h3 : costW cs (b :: w) = cs.getD (digN b) 0 + costW cs w := by simp [costW]
    have hb := h1.1
    unfold okB at hb
    rw [Bool.and_eq_true, decide_eq_true_eq, decide_eq_true_eq] at hb
    have hd : digN b < cs.length := by unfold digN; omega
    have h4 : 1 ≤ cs.getD (digN b) 0 := by
      rw [List.getD_eq_getElem?_getD, List.getElem?_eq_getElem hd]; exact hlo _ (List.getElem_mem hd)
    rw [h3, List.length_cons]; omega

theorem b8 (xs ys : List Nat) (u v : Wd) (hx : xs.length ≤ 9223372036854775807) (hy : ys.length ≤ 9223372036854775807) (hxb : ∀ x ∈ xs, x < 256) (hyb : ∀ y ∈ ys, y < 65536) :
    PFn Tryz.prog 8 [caseV xs ys, .str u, .str v] [.bool true] := by
  by_cases hof : ofB xs ys
  rotate_left
  · have e21 := c21n hx hy hof
    unfold caseV at e21 ⊢
    refine PFn.of_body hΓ Tryz.func8 (by kernel_rfl) rfl (AWp.seq (AWp.of_awpD [] hΓ hmix (by kernel_rfl) ?_))
    simp -implicitDefEqProofs only [Tryz.ntmps8, Tryz.results8, Nat.reduceAdd, Nat.reduceSub, go_sem]
    refine AWp.seq (AWp.of_awpD [] hΓ hmix (by kernel_rfl) ?_)
    simp -implicitDefEqProofs only [go_sem]
    refine callK_fn e21 (.still rfl) ?_
    simp -implicitDefEqProofs only [go_sem]
    refine AWp.of_awpD [] hΓ hmix (by kernel_rfl) ?_
    simp -implicitDefEqProofs only [go_sem]
    refine callK_fn awake41 (.still rfl) ?_
    simp -implicitDefEqProofs only [go_sem]
  have e21 := c21y hof hxb hyb
  have hc := ofB_C hof
  unfold caseV at e21 ⊢
  generalize xs.map costOf1 = cs at *
  have h2 := hc.l2
  have h3 := hc.l3
  refine PFn.of_body hΓ Tryz.func8 (by kernel_rfl) rfl (AWp.seq (AWp.of_awpD [] hΓ hmix (by kernel_rfl) ?_))
  simp -implicitDefEqProofs only [Tryz.ntmps8, Tryz.results8, Nat.reduceAdd, Nat.reduceSub, go_sem]
  refine AWp.seq (AWp.of_awpD [] hΓ hmix (by kernel_rfl) ?_)
  simp -implicitDefEqProofs only [go_sem]
  refine callK_fn e21 (.still rfl) ?_
  simp -implicitDefEqProofs only [go_sem]
  by_cases hu : 40 < u.length
  · have hu' : (40 : Int) < (u.length : Int) := by omega
    refine AWp.of_awpD [] hΓ hmix (by kernel_rfl) ?_
    simp -implicitDefEqProofs only [hu', go_sem]
    refine callK_fn awake41 (.still rfl) ?_
    simp -implicitDefEqProofs only [go_sem]
  have hu' : ¬ (40 : Int) < (u.length : Int) := by omega
  by_cases hv : 40 < v.length
  · have hv' : (40 : Int) < (v.length : Int) := by omega
    refine AWp.of_awpD [] hΓ hmix (by kernel_rfl) ?_
    simp -implicitDefEqProofs only [hu', hv', go_sem]
    refine callK_fn awake41 (.still rfl) ?_
    simp -implicitDefEqProofs only [go_sem]
  have hv' : ¬ (40 : Int) < (v.length : Int) := by omega
  have eu := c28 hc u (by omega)
  have ev := c28 hc v (by omega)
  have euv := c28 hc (u ++ v) (by simp; omega)
  have iu := wc_iff (q := cs.length) (w := u) (by omega) (by omega) (by omega)
  have iv := wc_iff (q := cs.length) (w := v) (by omega) (by omega) (by omega)
  have iuv := wc_iff (q := cs.length) (w := u ++ v) (by omega) (by omega) (by simp; omega)
  rw [okW_append] at iuv
  have happ := costW_append cs u v
  have hlen : u.length + v.length ≤ 9223372036854775807 := by omega
  by_cases h1 : wordCheck cs.length u = 0
  rotate_left
  · have h12 : wordCheck cs.length (u ++ v) ≠ 0 := fun h => h1 (iu.2 (iuv.1 h).1)
    rw [if_neg h1] at eu
    rw [if_neg h12] at euv
    refine AWp.of_awpD [] hΓ hmix (by kernel_rfl) ?_
    simp -implicitDefEqProofs only [hu', hv', go_sem]
    refine callK_fn eu (.still rfl) ?_
    simp -implicitDefEqProofs only [go_sem]
    refine callK_fn ev (.still rfl) ?_
    simp -implicitDefEqProofs only [go_sem]
    refine ⟨hlen, callK_fn euv (.still rfl) ?_⟩
    simp -implicitDefEqProofs only [h1, h12, go_sem]
    refine callK_fn awake41 (.still rfl) ?_
    simp -implicitDefEqProofs only [go_sem]
  by_cases h2v : wordCheck cs.length v = 0
  rotate_left
  · have h12 : wordCheck cs.length (u ++ v) ≠ 0 := fun h => h2v (iv.2 (iuv.1 h).2)
    rw [if_pos h1, h1] at eu
    rw [if_neg h2v] at ev
    rw [if_neg h12] at euv
    refine AWp.of_awpD [] hΓ hmix (by kernel_rfl) ?_
    simp -implicitDefEqProofs only [hu', hv', go_sem]
    refine callK_fn eu (.still rfl) ?_
    simp -implicitDefEqProofs only [go_sem]
    refine callK_fn ev (.still rfl) ?_
    simp -implicitDefEqProofs only [go_sem]
    refine ⟨hlen, callK_fn euv (.still rfl) ?_⟩
    simp -implicitDefEqProofs only [h2v, h12, go_sem]
    refine callK_fn awake41 (.still rfl) ?_
    simp -implicitDefEqProofs only [go_sem]
  have h12 : wordCheck cs.length (u ++ v) = 0 := iuv.2 ⟨iu.1 h1, iv.1 h2v⟩
  rw [if_pos h1, h1] at eu
  rw [if_pos h2v, h2v] at ev
  rw [if_pos h12, h12, happ] at euv
  have hge := costW_ge hc.lo (iu.1 h1)
  have hsum : ((costW cs u + costW cs v : Nat) : Int) = (costW cs u : Int) + (costW cs v : Int) := by omega
  have hle1 := costW_le hc.le u
  have hle2 := costW_le hc.le v
  have hm1 : u.length * 1000 ≤ 40 * 1000 := Nat.mul_le_mul_right _ (by omega)
  have hm2 : v.length * 1000 ≤ 40 * 1000 := Nat.mul_le_mul_right _ (by omega)
  have hin : InR .i64 ((costW cs u : Int) + (costW cs v : Int)) := by simp only [InR]; omega
  have hge' : (u.length : Int) ≤ (costW cs u : Int) := by omega
  rw [hsum] at euv
  refine AWp.of_awpD [] hΓ hmix (by kernel_rfl) ?_
  simp -implicitDefEqProofs only [hu', hv', go_sem]
  refine callK_fn eu (.still rfl) ?_
  simp -implicitDefEqProofs only [go_sem]
  refine callK_fn ev (.still rfl) ?_
  simp -implicitDefEqProofs only [go_sem]
  refine ⟨hlen, callK_fn euv (.still rfl) ?_⟩
  simp -implicitDefEqProofs only [hin, hge', go_sem]
  refine callK_fn awake41 (.still rfl) ?_
  simp -implicitDefEqProofs only [go_sem]
end Go.Proofs.YtnaekjbbakofdaaGreat
