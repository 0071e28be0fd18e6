/-
  Texts of this claim, joined.
-/
import Derived.Test.YtpljmccnfmkmfaaGreatJbc6f61f863fe

set_option linter.unusedSimpArgs false
set_option maxRecDepth 100000
set_option maxHeartbeats 4000000
namespace Go.Proofs.YtpljmccnfmkmfaaGreat
open Go Go.AM

theorem h22 (l : List Int) : PFn Tryz.prog 22 [.sl (l.map (.int .i64))] [.bool (decide (l.length ≤ 8) || (decide (64 < l.length) && decide (l.length ≤ 66)))] := by
  by_cases h8 : l.length ≤ 8
  · have h8' : (l.length : Int) ≤ 8 := by omega
    rw [decide_eq_true h8]; refine PFn.of_body hΓ Tryz.func22 (by kernel_rfl) rfl (Wd [] ?_); simp +contextual -implicitDefEqProofs only [Tryz.ntmps22, Tryz.results22, Nat.reduceAdd, Nat.reduceSub, go_sem]; simp -implicitDefEqProofs only [h8', List.length_map, go_sem]
    try rfl
  have h8' : ¬ (l.length : Int) ≤ 8 := by omega
  rw [decide_eq_false h8]; by_cases h64 : 64 < l.length
  rotate_left
  · have h64' : ¬ (64 : Int) < (l.length : Int) := by omega
    rw [decide_eq_false h64]; refine PFn.of_body hΓ Tryz.func22 (by kernel_rfl) rfl (Wd [] ?_); simp +contextual -implicitDefEqProofs only [Tryz.ntmps22, Tryz.results22, Nat.reduceAdd, Nat.reduceSub, go_sem]; simp -implicitDefEqProofs only [h8', h64', List.length_map, go_sem]
    try rfl
  have h64' : (64 : Int) < (l.length : Int) := by omega
  rw [decide_eq_true h64]; by_cases h66 : l.length ≤ 66
  · have h66' : (l.length : Int) ≤ 66 := by omega
    rw [decide_eq_true h66]; refine PFn.of_body hΓ Tryz.func22 (by kernel_rfl) rfl (Wd [] ?_); simp +contextual -implicitDefEqProofs only [Tryz.ntmps22, Tryz.results22, Nat.reduceAdd, Nat.reduceSub, go_sem]; simp -implicitDefEqProofs only [h8', h64', h66', List.length_map, go_sem]
    try rfl
  · have h66' : ¬ (l.length : Int) ≤ 66 := by omega
    rw [decide_eq_false h66]; refine PFn.of_body hΓ Tryz.func22 (by kernel_rfl) rfl (Wd [] ?_); simp +contextual -implicitDefEqProofs only [Tryz.ntmps22, Tryz.results22, Nat.reduceAdd, Nat.reduceSub, go_sem]; simp -implicitDefEqProofs only [h8', h64', h66', List.length_map, go_sem]
    try rfl

theorem Zua (q : Int) (l : List Int) (hl : l.length ≤ 64 → l.length < 20) : ∃ (p : Int) (us : List (List UInt8)) (I : List Int) (e : Int), us.length ≤ 64 ∧ I.length ≤ 64 ∧
    PFn Tryz.prog 23 [.int .i64 q, .sl (l.map (.int .i64))] [Za p us, .sl (I.map (.int .i64)), .int .i64 e] ∧
    PFn Tryz.prog 24 [.int .i64 q, .sl (l.map (.int .i64))] [Za p us, .sl (I.map (.int .i64)), .int .i64 e] := by
  by_cases hb : fleA q l = 0
  rotate_left
  · exact ⟨0, [], [], fleA q l, by simp, by simp, cm13e q l hb, h24e q l hb⟩
  unfold fleA at hb; by_cases hq : q < 2 ∨ 16 < q
  · rw [if_pos hq] at hb; omega
  rw [if_neg hq] at hb; by_cases h0 : l = []
  · rw [if_pos h0] at hb; omega
  rw [if_neg h0] at hb; by_cases h64 : 64 < l.length
  · rw [if_pos h64] at hb; omega
  rw [if_neg h64] at hb; by_cases hbd : ∃ n ∈ l, badN n
  · rw [if_pos hbd] at hb; omega
  have hlt := hl (by omega); have hpos := List.length_pos_iff.2 h0; obtain ⟨p, rfl⟩ : ∃ p : Nat, q = p := ⟨q.toNat, by omega⟩; have hok : ∀ n ∈ l, 1 ≤ n ∧ n ≤ 32 := fun n hn => by
    have : ¬ badN n := fun h => hbd ⟨n, hn, h⟩
    unfold badN at this; omega
  have hm : l.map (PV.int .i64) = (l.map Int.toNat).map Kn.nV := by
    rw [List.map_map]; refine List.map_congr_left fun n hn => ?_
    have := hok n hn; show PV.int .i64 n = PV.int .i64 ((n.toNat : Nat) : Int); rw [Int.toNat_of_nonneg (by omega)]
  have h32 : ∀ n ∈ l.map Int.toNat, 1 ≤ n ∧ n ≤ 32 := fun n hn => by
    obtain ⟨x, hx, rfl⟩ := List.mem_map.1 hn; have := hok x hx; omega
  have a13 := cm13 p (l.map Int.toNat) (by omega) (by omega) (by simpa using hpos) (by simpa using hlt) h32; have a24 := h24 p (l.map Int.toNat) (by omega) (by omega) (by simpa using hpos) (by simpa using hlt) h32; rw [← hm] at a13 a24; obtain ⟨p1, us, hpu, hul⟩ : ∃ p1 us, flV p (l.map Int.toNat) = Za p1 us ∧ us.length ≤ 64 := by
    unfold flV
    split
    · exact ⟨_, _, rfl, by rw [Z85, List.length_map]; omega⟩
    · exact ⟨0, [], rfl, by simp⟩
  have hil : (flI p (l.map Int.toNat)).length ≤ 64 := by
    unfold flI
    split
    · rw [Z6j, List.length_map]; omega
    · simp
  have hI : (flI p (l.map Int.toNat)).map Kn.nV = ((flI p (l.map Int.toNat)).map fun n : Nat => (n : Int)).map (PV.int .i64) := by
    rw [List.map_map]; rfl
  rw [hpu, hI] at a13 a24; exact ⟨p1, us, _, _, hul, by rw [List.length_map]; exact hil, a13, a24⟩

theorem Zu9 (q : Int) (ws : List (List UInt8)) (hl : ws.length ≤ 64 → ws.length < 20) : ∃ (p : Int) (us : List (List UInt8)) (e : Int), us.length ≤ 64 ∧
    PFn Tryz.prog 25 [Za q ws] [Za p us, .int .i64 e] ∧ PFn Tryz.prog 26 [Za q ws] [Za p us, .int .i64 e] := by
  have hl' : Z6 q ws = 0 → ws.length < 20 := fun h => hl (Z0e h).len
  have a25 := cm35 q ws hl'; have a26 := h26 q ws hl'; obtain ⟨p1, us, hpu, hul⟩ : ∃ p1 us, prV q ws = Za p1 us ∧ us.length ≤ 64 := by
    unfold prV; by_cases h : Z6 q ws = 0
    · rw [if_pos h]
      unfold flV
      split
      · exact ⟨_, _, rfl, by rw [Z85, List.length_map]; exact (Z0e h).len⟩
      · exact ⟨0, [], rfl, by simp⟩
    · rw [if_neg h]
      exact ⟨0, [], rfl, by simp⟩
  rw [hpu] at a25 a26; exact ⟨p1, us, _, hul, a25, a26⟩

theorem Zu8 (q : Int) (ws : List (List UInt8)) (hl : ws.length ≤ 64 → ws.length < 20) : ∃ (p : Int) (us : List (List UInt8)) (e : Int), us.length ≤ 9223372036854775807 ∧
    PFn Tryz.prog 27 [Za q ws] [Za p us, .int .i64 e] ∧ PFn Tryz.prog 28 [Za q ws] [Za p us, .int .i64 e] := by
  have hl' : Z6 q ws = 0 → ws.length < 20 := fun h => hl (Z0e h).len
  have a25 := cm37 q ws hl'; have a26 := h28 q ws hl'; obtain ⟨p1, us, hpu, hul⟩ : ∃ p1 us, sfV q ws = Za p1 us ∧ us.length ≤ 64 := by
    unfold sfV; by_cases h : prE q ws = 0
    · rw [if_pos h]
      obtain ⟨_, _, _, hW, _⟩ := Z9e h hl'; have hr := Z74 (Z0e hW); exact ⟨_, _, rfl, (Z0e hr).len⟩
    · rw [if_neg h]
      exact ⟨0, [], rfl, by simp⟩
  rw [hpu] at a25 a26; exact ⟨p1, us, _, by omega, a25, a26⟩

theorem b4 (q : Int) (ws : List (List UInt8)) (p : Int) (l : List Int) (hws : ws.length ≤ 9223372036854775807) : PFn Tryz.prog 4 [Za q ws, .int .i64 p, .sl (l.map (.int .i64))] [.bool true] := by
  have eg := t11 q ws hws; have es := h22 l; have eA := Zim; refine PFn.of_body hΓ Tryz.func4 (by kernel_rfl) rfl (AWp.seq (Wd [] ?_)); simp -implicitDefEqProofs only [Tryz.ntmps4, Tryz.results4, Nat.reduceAdd, Nat.reduceSub, Za, go_sem]; unfold Za at eg
  cases hg : (Z43 ws || ws.any Z1w)
  rotate_left
  · rw [hg] at eg
    refine AWp.seq ?_; refine Wd [] ?_; simp -implicitDefEqProofs only [go_sem]; refine Z0 eg (.still rfl) ?_; simp -implicitDefEqProofs only [go_sem]; refine Z0 eA (.pures rfl) ?_; simp -implicitDefEqProofs only [go_sem]
  cases hs : (decide (l.length ≤ 8) || (decide (64 < l.length) && decide (l.length ≤ 66)))
  · rw [hg] at eg
    rw [hs] at es; refine AWp.seq ?_; refine Wd [] ?_; simp -implicitDefEqProofs only [go_sem]; refine Z0 eg (.still rfl) ?_; simp -implicitDefEqProofs only [go_sem]; refine Z0 es (.still rfl) ?_; simp -implicitDefEqProofs only [go_sem]; refine Z0 eA (.pures rfl) ?_; simp -implicitDefEqProofs only [go_sem]
  have hl : l.length ≤ 64 → l.length < 20 := fun h => by
    have : ¬ 64 < l.length := by omega
    rw [decide_eq_false this, Bool.false_and, Bool.or_false, decide_eq_true_eq] at hs; omega
  have hw : ws.length ≤ 64 → ws.length < 20 := fun h => by
    have : Z43 ws = false := by
      cases hc : Z43 ws
      · rfl
      · rw [hc] at hg; exact absurd hg (by simp)
    unfold Z43 at this; rw [decide_eq_true h, Bool.and_true, Bool.or_eq_false_iff, decide_eq_false_iff_not] at this; omega
  obtain ⟨p1, us1, I, c1, hu1, hI, a1, a2⟩ := Zua p l hl; obtain ⟨p2, us2, c2, hu2, a3, a4⟩ := Zu9 q ws hw; obtain ⟨p3, us3, c3, hu3, a5, a6⟩ := Zu8 q ws hw; have d1 := u23 p1 p1 us1 us1 (by omega); have d2 := u23 p2 p2 us2 us2 (by omega); have d3 := u23 p3 p3 us3 us3 hu3; have d4 := p36 I I (by omega); rw [decide_eq_true ⟨rfl, rfl⟩] at d1 d2 d3; rw [decide_eq_true rfl] at d4; rw [hg] at eg; rw [hs] at es; unfold Za at a1 a2 a3 a4 a5 a6 d1 d2 d3; unfold slI at d4; refine AWp.seq ?_; refine Wd [] ?_; simp -implicitDefEqProofs only [go_sem]; refine Z0 eg (.still rfl) ?_; simp -implicitDefEqProofs only [go_sem]; refine Z0 es (.still rfl) ?_; simp -implicitDefEqProofs only [go_sem]; refine Wd [] ?_; simp -implicitDefEqProofs only [go_sem]; refine Z0 a1 (.still rfl) ?_; simp -implicitDefEqProofs only [go_sem]; refine Z0 a2 (.still rfl) ?_; simp -implicitDefEqProofs only [go_sem]; refine Z0 a3 (.still rfl) ?_; simp -implicitDefEqProofs only [go_sem]; refine Z0 a4 (.still rfl) ?_; simp -implicitDefEqProofs only [go_sem]; refine Z0 a5 (.still rfl) ?_; simp -implicitDefEqProofs only [go_sem]; refine Z0 a6 (.still rfl) ?_; simp -implicitDefEqProofs only [go_sem]; refine Z0 d1 (.still rfl) ?_; simp -implicitDefEqProofs only [go_sem]; refine Z0 d4 (.still rfl) ?_; simp -implicitDefEqProofs only [go_sem]; refine Z0 d2 (.still rfl) ?_; simp -implicitDefEqProofs only [go_sem]; refine Z0 d3 (.still rfl) ?_; simp -implicitDefEqProofs only [go_sem]; refine Z0 eA (.pures rfl) ?_; simp -implicitDefEqProofs only [go_sem]
end Go.Proofs.YtpljmccnfmkmfaaGreat
