/-
  Texts of this claim, joined.
-/
import Derived.Test.YtpljmccnfmkmfaaGreatJ8767dcbf4239
import Derived.Test.YtpljmccnfmkmfaaGreatJb14288946cc8
import Derived.Test.YtpljmccnfmkmfaaGreatJ4a119478812a
import Derived.Test.YtpljmccnfmkmfaaGreatJ3a7774dbd111

set_option linter.unusedSimpArgs false
set_option maxRecDepth 100000
set_option maxHeartbeats 4000000
section
namespace Go.Proofs.YtpljmccnfmkmfaaGreat
open Go Go.AM

def badN (n : Int) : Prop := n < 1 ∨ 32 < n
theorem h50 (q : Nat) (ns : List Nat) (hq2 : 2 ≤ q) (hq : q ≤ 16) (hl : ns.length ≤ 4096) (hn : ∀ n ∈ ns, 1 ≤ n ∧ n ≤ 32) : PFn Tryz.prog 50 [.int .i64 q, .sl (ns.map Kn.nV)] [Kn.ratV (Kn.krS q ns) (q ^ 32), .int .i64 0] := by
  have hS0 : q ^ 32 ≠ 0 := Nat.ne_of_gt (Nat.pow_pos (by omega)); have e93 := Kn.w93 0 1 (by omega) (by omega) (by omega); rw [Zc0 hS0] at e93; obtain ⟨sA, hsA⟩ : ∃ f : Nat → List UInt8, f = fun i => magB (Kn.lowN (Kn.krS q (ns.take i)) (q ^ 32)) := ⟨_, rfl⟩
  obtain ⟨sB, hsB⟩ : ∃ f : Nat → List UInt8, f = fun i => magB (Kn.lowD (Kn.krS q (ns.take i)) (q ^ 32)) := ⟨_, rfl⟩
  have hsV : ∀ i, Kn.ratV (Kn.krS q (ns.take i)) (q ^ 32) = .agg [.bool false, .str (sA i), .bool false, .str (sB i)] := fun i => by rw [hsA, hsB]; rfl
  have hz : Kn.ratV 0 (q ^ 32) = .agg [.bool false, .str (sA 0), .bool false, .str (sB 0)] := hsV 0; rw [hz] at e93; have hfin := hsV ns.length; rw [List.take_of_length_le (by simp)] at hfin; rw [hfin]; have q1 : ¬ (q : Int) < 2 := by omega
  have q2 : ¬ (16 : Int) < (q : Int) := by omega
  have l1 : ¬ (4096 : Int) < (ns.length : Int) := by omega
  refine PFn.of_body hΓ Tryz.func50 (by kernel_rfl) rfl (AWp.seq (Wd [] ?_)); simp -implicitDefEqProofs only [Tryz.ntmps50, Tryz.results50, Nat.reduceAdd, Nat.reduceSub, go_sem]; refine AWp.seq (Wd [] ?_); simp -implicitDefEqProofs only [go_sem]; refine AWp.seq (Wd [] ?_); simp -implicitDefEqProofs only [q1, q2, go_sem]; refine AWp.seq (Wd [] ?_); simp -implicitDefEqProofs only [l1, List.length_map, go_sem]; refine AWp.seq (AWp.seq (Wd [] ?_)); simp -implicitDefEqProofs only [go_sem]; refine AWp.block ?_
  refine AWp.loopI (fun i : Nat => ⟨mkF 57 [(0, .p (.int .i64 q)), (1, .p (.sl (ns.map Kn.nV))), (4, .ptr 0 0), (6, .ptr 1 0), (7, .p (.int .i64 i))], [.box [.p (.bool false), .p (.str []), .p (.bool false), .p (.str [])], .box [.p (.bool false), .p (.str []), .p (.bool false), .p (.str [])]]⟩)
    (fun i => i ≤ ns.length) (fun i => ns.length - i) 0 (by simp [go_sem]) (by simp) ?_
  intro i hi; refine Wd [] ?_; by_cases hlt : i < ns.length
  · have hlt' : (i : Int) < (ns.length : Int) := by omega
    have hgi : (ns.map Kn.nV).getD i default = .int .i64 (ns[i] : Nat) := Z5 _ _ _ _ hlt; have hb := hn ns[i] (List.getElem_mem hlt); have b1 : ¬ ((ns[i] : Nat) : Int) < 1 := by omega
    have b2 : ¬ (32 : Int) < ((ns[i] : Nat) : Int) := by omega
    simp -implicitDefEqProofs only [hlt', hgi, b1, b2, Int.toNat_natCast, List.length_map, go_sem]; exact ⟨by simp only [InR]; omega, i + 1, by simp, by omega, by omega⟩
  have hlt' : ¬ (i : Int) < (ns.length : Int) := by omega
  simp -implicitDefEqProofs only [hlt', List.length_map, go_sem]; refine AWp.seq (Wd [] ?_); simp -implicitDefEqProofs only [go_sem]; refine Z0 e93 (.pures rfl) ?_; simp -implicitDefEqProofs only [go_sem]; refine AWp.seq (AWp.seq (Wd [] ?_)); simp -implicitDefEqProofs only [go_sem]; refine AWp.block ?_
  refine AWp.loopI (fun i : Nat => ⟨mkF 57 [(0, .p (.int .i64 q)), (1, .p (.sl (ns.map Kn.nV))), (4, .ptr 0 0), (8, .ptr 2 0), (9, .p (.int .i64 i))], [.box [.p (.bool false), .p (.str []), .p (.bool false), .p (.str [])], .box [.p (.bool false), .p (.str []), .p (.bool false), .p (.str [])], .box [.p (.bool false), .p (.str (sA i)), .p (.bool false), .p (.str (sB i))]]⟩)
    (fun i => i ≤ ns.length) (fun i => ns.length - i) 0 (by simp [go_sem]) (by simp) ?_
  clear hlt hlt' hi i; intro i hi; refine Wd [(15, 8)] ?_; by_cases hlt : i < ns.length
  · have hlt' : (i : Int) < (ns.length : Int) := by omega
    have hgi : (ns.map Kn.nV).getD i default = .int .i64 (ns[i] : Nat) := Z5 _ _ _ _ hlt; have hb := hn ns[i] (List.getElem_mem hlt); have htk : ns.take (i + 1) = ns.take i ++ [ns[i]] := List.take_succ_eq_append_getElem hlt; have hcp : q ^ ns[i] < capN := by
      have h3 : q ^ ns[i] ≤ 16 ^ 32 := Nat.le_trans (Nat.pow_le_pow_left (by omega) _) (Nat.pow_le_pow_right (by decide) hb.2); exact Z1u (Nat.lt_of_le_of_lt h3 (by decide : 16 ^ 32 < 256 ^ 40)) (by decide)
    have e107 := Kn.w107 q ns[i] (by omega) (by omega) (by omega) hcp; have e106 := Zfg q (by omega) (by omega) (ns.take i) (by simp; omega) ns[i] hb.2; rw [← htk, hsV, hsV] at e106; rw [Kn.rat_inv] at e106 e107; simp -implicitDefEqProofs only [hlt', hgi, Int.toNat_natCast, List.length_map, go_sem]; refine Z1 e107 (.pures rfl) ?_; simp -implicitDefEqProofs only [go_sem]; refine Z1 e106 (.still rfl) ?_; simp -implicitDefEqProofs only [go_sem]; exact ⟨by simp only [InR]; omega, i + 1, by simp, by omega, by omega⟩
  · have hlt' : ¬ (i : Int) < (ns.length : Int) := by omega
    have : i = ns.length := by omega
    subst this; simp -implicitDefEqProofs only [hlt', List.length_map, Int.lt_irrefl, go_sem]; refine Wd [] ?_; simp -implicitDefEqProofs only [go_sem]
theorem h50e (q : Nat) (l : List Int) (hq2 : 2 ≤ q) (hq : q ≤ 16) (hl : l.length ≤ 4096) (hb : ∃ n ∈ l, badN n) : PFn Tryz.prog 50 [.int .i64 q, .sl (l.map (.int .i64))] [.agg [.bool false, .str [], .bool false, .str []], .int .i64 2] := by
  have q1 : ¬ (q : Int) < 2 := by omega
  have q2 : ¬ (16 : Int) < (q : Int) := by omega
  have l1 : ¬ (4096 : Int) < (l.length : Int) := by omega
  refine PFn.of_body hΓ Tryz.func50 (by kernel_rfl) rfl (AWp.seq (Wd [] ?_)); simp -implicitDefEqProofs only [Tryz.ntmps50, Tryz.results50, Nat.reduceAdd, Nat.reduceSub, go_sem]; refine AWp.seq (Wd [] ?_); simp -implicitDefEqProofs only [go_sem]; refine AWp.seq (Wd [] ?_); simp -implicitDefEqProofs only [q1, q2, go_sem]; refine AWp.seq (Wd [] ?_); simp -implicitDefEqProofs only [l1, List.length_map, go_sem]; refine AWp.seq (AWp.seq (Wd [] ?_)); simp -implicitDefEqProofs only [go_sem]; refine AWp.block ?_
  refine AWp.loopI (fun i : Nat => ⟨mkF 57 [(0, .p (.int .i64 q)), (1, .p (.sl (l.map (.int .i64)))), (4, .ptr 0 0), (6, .ptr 1 0), (7, .p (.int .i64 i))], [.box [.p (.bool false), .p (.str []), .p (.bool false), .p (.str [])], .box [.p (.bool false), .p (.str []), .p (.bool false), .p (.str [])]]⟩)
    (fun i => i ≤ l.length ∧ ∀ n ∈ l.take i, ¬ badN n) (fun i => l.length - i) 0 (by simp [go_sem]) (by simp) ?_
  rintro i ⟨hi, hok⟩; refine Wd [] ?_; by_cases hlt : i < l.length
  rotate_left
  · obtain ⟨n, hn, hbn⟩ := hb
    rw [List.take_of_length_le (by omega)] at hok; exact absurd hbn (hok n hn)
  have hlt' : (i : Int) < (l.length : Int) := by omega
  have hgi : (l.map (PV.int .i64)).getD i default = .int .i64 l[i] := Z5 _ _ _ _ hlt; by_cases b1 : l[i] < 1
  · simp -implicitDefEqProofs only [hlt', hgi, b1, Int.toNat_natCast, List.length_map, go_sem]
  by_cases b2 : 32 < l[i]
  · simp -implicitDefEqProofs only [hlt', hgi, b1, b2, Int.toNat_natCast, List.length_map, go_sem]
  simp -implicitDefEqProofs only [hlt', hgi, b1, b2, Int.toNat_natCast, List.length_map, go_sem]; refine ⟨by simp only [InR]; omega, i + 1, by simp, ⟨by omega, fun n hn => ?_⟩, by omega⟩; rw [List.take_succ_eq_append_getElem hlt] at hn; rcases List.mem_append.1 hn with hn | hn
  · exact hok n hn
  · rw [List.mem_singleton.1 hn]
    exact fun h => h.elim b1 b2
theorem h51 (q : Nat) (ns : List Nat) (hq2 : 2 ≤ q) (hq : q ≤ 16) (hl : ns.length ≤ 4096) (hn : ∀ n ∈ ns, 1 ≤ n ∧ n ≤ 32) : PFn Tryz.prog 51 [.int .i64 q, .sl (ns.map Kn.nV)] [.bool (decide (Kn.krS q ns ≤ q ^ 32)), .int .i64 0] := by
  have e50 := h50 q ns hq2 hq hl hn; have hS0 : q ^ 32 ≠ 0 := Nat.ne_of_gt (Nat.pow_pos (by omega)); have hK := Kn.krS_cap hq hl; have hD : q ^ 32 < capN := Z1u (Nat.lt_of_le_of_lt (Nat.pow_le_pow_left hq 32) (by decide : 16 ^ 32 < 256 ^ 40)) (by decide); obtain ⟨c, e108, hc⟩ := Kn.s108 (Kn.krS q ns) (q ^ 32) hK hD hS0; have e93 := Kn.w93 1 1 (by omega) (by omega) (by omega); have hfin : decide (c ≤ 0) = decide (Kn.krS q ns ≤ q ^ 32) := decide_eq_decide.2 hc; rw [← hfin]; obtain ⟨x, y, hR⟩ : ∃ x y, Kn.ratV (Kn.krS q ns) (q ^ 32) = .agg [.bool false, .str x, .bool false, .str y] := ⟨_, _, rfl⟩; rw [hR] at e50 e108; rw [Kn.rat_inv] at e93 e108; refine PFn.of_body hΓ Tryz.func51 (by kernel_rfl) rfl (AWp.seq (Wd [] ?_)); simp -implicitDefEqProofs only [Tryz.ntmps51, Tryz.results51, Nat.reduceAdd, Nat.reduceSub, go_sem]; refine AWp.seq (Wd [] ?_); simp -implicitDefEqProofs only [go_sem]; refine Z0 e50 (.pures rfl) ?_; simp -implicitDefEqProofs only [go_sem]; refine AWp.seq (Wd [] ?_); simp -implicitDefEqProofs only [go_sem]; refine Wd [(4, 6)] ?_; simp -implicitDefEqProofs only [go_sem]; refine Z1 e93 (.pures rfl) ?_; simp -implicitDefEqProofs only [go_sem]; refine Z1 e108 (.still rfl) ?_; simp -implicitDefEqProofs only [go_sem]

theorem Zgw {l : List Int} : l.any Kn.badL = true ↔ ∃ n ∈ l, badN n := by
  rw [List.any_eq_true]; unfold Kn.badL badN; simp only [Bool.or_eq_true, decide_eq_true_eq]
theorem h50E (q : Int) (l : List Int) (he : Kn.krE q l ≠ 0) : PFn Tryz.prog 50 [.int .i64 q, .sl (l.map (.int .i64))] [zrV, .int .i64 (Kn.krE q l)] := by
  unfold Kn.krE zrV at *; by_cases h1 : q < 2 ∨ 16 < q
  · rw [if_pos h1]
    refine PFn.of_body hΓ Tryz.func50 (by kernel_rfl) rfl (AWp.seq (Wd [] ?_)); simp -implicitDefEqProofs only [Tryz.ntmps50, Tryz.results50, Nat.reduceAdd, Nat.reduceSub, go_sem]; refine AWp.seq (Wd [] ?_); simp -implicitDefEqProofs only [go_sem]; refine AWp.seq (Wd [] ?_); by_cases h2 : q < 2
    · simp -implicitDefEqProofs only [h2, go_sem]
    · have h3 : 16 < q := by omega
      simp -implicitDefEqProofs only [h2, h3, go_sem]
  rw [if_neg h1] at *; have hq1 : ¬ q < 2 := by omega
  have hq2 : ¬ 16 < q := by omega
  by_cases h2 : 4096 < l.length
  · rw [if_pos h2]
    have h2' : (4096 : Int) < (l.length : Int) := by omega
    refine PFn.of_body hΓ Tryz.func50 (by kernel_rfl) rfl (AWp.seq (Wd [] ?_)); simp -implicitDefEqProofs only [Tryz.ntmps50, Tryz.results50, Nat.reduceAdd, Nat.reduceSub, go_sem]; refine AWp.seq (Wd [] ?_); simp -implicitDefEqProofs only [go_sem]; refine AWp.seq (Wd [] ?_); simp -implicitDefEqProofs only [hq1, hq2, go_sem]; refine AWp.seq (Wd [] ?_); simp -implicitDefEqProofs only [h2', List.length_map, go_sem]
  rw [if_neg h2] at *; by_cases h3 : l.any Kn.badL = true
  · rw [if_pos h3]
    obtain ⟨p, rfl⟩ : ∃ p : Nat, q = p := ⟨q.toNat, by omega⟩; exact h50e p l (by omega) (by omega) (by omega) (Zgw.1 h3)
  · rw [if_neg h3] at he
    exact absurd rfl he
theorem h51E (q : Int) (l : List Int) (he : Kn.krE q l ≠ 0) : PFn Tryz.prog 51 [.int .i64 q, .sl (l.map (.int .i64))] [.bool false, .int .i64 (Kn.krE q l)] := by
  have e50 := h50E q l he; unfold zrV at e50; generalize Kn.krE q l = c at *; refine PFn.of_body hΓ Tryz.func51 (by kernel_rfl) rfl (AWp.seq (Wd [] ?_)); simp -implicitDefEqProofs only [Tryz.ntmps51, Tryz.results51, Nat.reduceAdd, Nat.reduceSub, go_sem]; refine AWp.seq (Wd [] ?_); simp -implicitDefEqProofs only [go_sem]; refine Z0 e50 (.pures rfl) ?_; simp -implicitDefEqProofs only [go_sem]; refine AWp.seq (Wd [] ?_); simp -implicitDefEqProofs only [he, go_sem]
theorem c46E (q : Int) (l : List Int) (hl : l.length ≤ 9223372036854775807) (he : Kn.krE q l ≠ 0) : PFn Tryz.prog 46 [.int .i64 q, .sl (l.map (.int .i64))] [.bool false, .int .i64 (Kn.krE q l)] := by
  have e50 : PFn Tryz.prog 47 [.int .i64 q, .sl (l.map (.int .i64))] [.agg [.bool false, .str [], .bool false, .str []], .int .i64 (Kn.krE q l)] := Kn.v50e q l hl he; generalize Kn.krE q l = c at *; refine PFn.of_body hΓ Tryz.func46 (by kernel_rfl) rfl (AWp.seq (Wd [] ?_)); simp -implicitDefEqProofs only [Tryz.ntmps46, Tryz.results46, Nat.reduceAdd, Nat.reduceSub, go_sem]; refine AWp.seq (Wd [] ?_); simp -implicitDefEqProofs only [go_sem]; refine Z0 e50 (.pures rfl) ?_; simp -implicitDefEqProofs only [go_sem]; refine Wd [(2, 11)] ?_; simp -implicitDefEqProofs only [he, go_sem]
theorem c44E (q : Int) (ws : List (List UInt8)) (hc : Zb q ws ≠ 0) : PFn Tryz.prog 44 [Zz q ws] [zrV, .int .i64 1] := by
  have e80 := t45 q ws; unfold Zz at e80; unfold zrV; refine PFn.of_body hΓ Tryz.func44 (by kernel_rfl) rfl (AWp.seq (Wd [] ?_)); simp -implicitDefEqProofs only [Tryz.ntmps44, Tryz.results44, Nat.reduceAdd, Nat.reduceSub, Zz, go_sem]; refine AWp.seq (Wd [] ?_); simp -implicitDefEqProofs only [go_sem]; refine Z0 e80 (.still rfl) ?_; simp -implicitDefEqProofs only [hc, go_sem]

def isR (V : PV) : Prop := ∃ A B, V = .agg [.bool false, .str A, .bool false, .str B]
theorem Zb3 (n d : Nat) : isR (Kn.ratV n d) := ⟨_, _, rfl⟩
theorem Zch : isR zrV := ⟨[], [], rfl⟩
theorem bothK (q : Int) (l : List Int) (hl : ¬ (12 < l.length ∧ l.length ≤ 4096)) (hl2 : l.length ≤ 9223372036854775807) : ∃ (V : PV) (e : Int) (b : Bool), isR V ∧
    PFn Tryz.prog 47 [.int .i64 q, .sl (l.map (.int .i64))] [V, .int .i64 e] ∧ PFn Tryz.prog 50 [.int .i64 q, .sl (l.map (.int .i64))] [V, .int .i64 e] ∧
    PFn Tryz.prog 46 [.int .i64 q, .sl (l.map (.int .i64))] [.bool b, .int .i64 e] ∧ PFn Tryz.prog 51 [.int .i64 q, .sl (l.map (.int .i64))] [.bool b, .int .i64 e] := by
  by_cases he : Kn.krE q l = 0
  rotate_left
  · exact ⟨zrV, Kn.krE q l, false, Zch, Kn.v50e q l hl2 he, h50E q l he, c46E q l hl2 he, h51E q l he⟩
  unfold Kn.krE at he; by_cases hq : q < 2 ∨ 16 < q
  · rw [if_pos hq] at he; omega
  rw [if_neg hq] at he; by_cases h64 : 4096 < l.length
  · rw [if_pos h64] at he; omega
  rw [if_neg h64] at he; by_cases hbd : l.any Kn.badL = true
  · rw [if_pos hbd] at he; omega
  rw [Zgw] at hbd; obtain ⟨p, rfl⟩ : ∃ p : Nat, q = p := ⟨q.toNat, by omega⟩; have hok : ∀ n ∈ l, 1 ≤ n ∧ n ≤ 32 := fun n hn => by
    have : ¬ badN n := fun h => hbd ⟨n, hn, h⟩
    unfold badN at this; omega
  have hm : l.map (PV.int .i64) = (l.map Int.toNat).map Kn.nV := by
    rw [List.map_map]; refine List.map_congr_left fun n hn => ?_
    have := hok n hn; show PV.int .i64 n = PV.int .i64 ((n.toNat : Nat) : Int); rw [Int.toNat_of_nonneg (by omega)]
  have h32 : ∀ n ∈ l.map Int.toNat, 1 ≤ n ∧ n ≤ 32 := fun n hn => by
    obtain ⟨x, hx, rfl⟩ := List.mem_map.1 hn; have := hok x hx; omega
  rw [hm]
  exact ⟨_, 0, _, Zb3 _ _, Kn.v50 p _ (by omega) (by omega) (by rw [List.length_map]; omega) h32, h50 p _ (by omega) (by omega) (by rw [List.length_map]; omega) h32,
    cm14 p _ (by omega) (by omega) (by rw [List.length_map]; omega) h32, h51 p _ (by omega) (by omega) (by rw [List.length_map]; omega) h32⟩
theorem bothO (q : Int) (ws : List (List UInt8)) : ∃ (V : PV) (e : Int), isR V ∧ PFn Tryz.prog 44 [Zz q ws] [V, .int .i64 e] ∧ PFn Tryz.prog 52 [Zz q ws] [V, .int .i64 e] := by
  by_cases hc : Zb q ws = 0
  · have hv := Z2b hc
    have h2 := hv.q2; obtain ⟨p, rfl⟩ : ∃ p : Nat, q = p := ⟨q.toNat, by omega⟩; have e := cm28 p ws hc; rw [Int.toNat_natCast] at e; exact ⟨_, 0, Zb3 _ _, e, h52 p ws hc⟩
  · exact ⟨zrV, 1, Zch, c44E q ws hc, h52e q ws hc⟩
theorem bothW (q : Int) (ws : List (List UInt8)) (rs : List Kn.RT) (hg : Z3w q ws = false) (hlr : rs.length ≤ 4) (hsh : ∀ r ∈ rs, Kn.shT r) : ∃ (V : PV) (e : Int), isR V ∧
    PFn Tryz.prog 53 [Zz q ws, .sl (rs.map Kn.rvT)] [V, .int .i64 e] ∧ PFn Tryz.prog 54 [Zz q ws, .sl (rs.map Kn.rvT)] [V, .int .i64 e] := by
  by_cases h : Zb q ws ≠ 0 ∨ (rs.length : Int) ≠ q ∨ rs.any (fun r => !Kn.okT r) = true
  · exact ⟨zrV, _, Zch, c53e q ws rs hlr hsh h, h54e q ws rs hlr hsh h⟩
  have hc : Zb q ws = 0 := Classical.byContradiction fun h1 => h (.inl h1)
  have hl : (rs.length : Int) = q := Classical.byContradiction fun h1 => h (.inr (.inl h1))
  have hk : ∀ r ∈ rs, Kn.okT r = true := fun r hr => by
    cases hk : Kn.okT r
    · exact absurd (.inr (.inr (List.any_eq_true.2 ⟨r, hr, by rw [hk]; rfl⟩))) h
    · rfl
  have hv := Z2b hc; obtain ⟨p, rfl⟩ : ∃ p : Nat, q = p := ⟨q.toNat, by omega⟩; have h6 : ws.length ≤ 6 := by
    unfold Z3w Zlz at hg; simp only [Bool.or_eq_false_iff, decide_eq_false_iff_not] at hg; omega
  have h5 : ∀ w ∈ ws, w.length ≤ 5 := fun w hw => by
    unfold Z3w at hg; rw [Bool.or_eq_false_iff, List.any_eq_false] at hg; have h1 := hg.1 w hw; obtain ⟨_, h3, _⟩ := hv.words w hw; unfold Z8p at h1; simp only [Bool.and_eq_true, decide_eq_true_eq] at h1; omega
  refine ⟨wV p ws rs, _, ?_, c53o p ws rs hc h6 h5 (by omega) hlr hsh hk, h54o p ws rs hc h6 h5 (by omega) hlr hsh hk⟩; unfold wV
  split
  · exact Zb3 _ _
  · exact Zch

theorem b8 (p : Int) (l : List Int) (q : Int) (ws : List (List UInt8)) (rs : List Kn.RT) (hl : l.length ≤ 9223372036854775807) (hws : ws.length ≤ 9223372036854775807) (hrs : rs.length ≤ 9223372036854775807) :
    PFn Tryz.prog 8 [.int .i64 p, .sl (l.map (.int .i64)), Zz q ws, .sl (rs.map Kn.rvT)] [.bool true] := by
  have e43 := gr36 q ws hws; unfold Zz at e43; have eA := Znf; refine PFn.of_body hΓ Tryz.func8 (by kernel_rfl) rfl (AWp.seq (Wd [] ?_)); simp -implicitDefEqProofs only [Tryz.ntmps8, Tryz.results8, Nat.reduceAdd, Nat.reduceSub, Zz, go_sem]
  cases hg : Z3w q ws
  rotate_left
  · rw [hg] at e43
    refine AWp.seq (Wd [] ?_); simp -implicitDefEqProofs only [go_sem]; refine Z0 e43 (.still rfl) ?_; simp -implicitDefEqProofs only [go_sem]; refine Z0 eA (.pures rfl) ?_; simp -implicitDefEqProofs only [go_sem]
  rw [hg] at e43; by_cases h12 : 12 < l.length ∧ l.length ≤ 4096
  · have i1 : (12 : Int) < (l.length : Int) := by omega
    have i2 : (l.length : Int) ≤ 4096 := by omega
    refine AWp.seq (Wd [] ?_); simp -implicitDefEqProofs only [go_sem]; refine Z0 e43 (.still rfl) ?_; simp -implicitDefEqProofs only [i1, i2, List.length_map, go_sem]; refine Z0 eA (.pures rfl) ?_; simp -implicitDefEqProofs only [go_sem]
  have i12 : ((12 : Int) < (l.length : Int) ∧ ¬ (l.length : Int) ≤ 4096) ∨ ¬ (12 : Int) < (l.length : Int) := by omega
  by_cases h4 : 4 < rs.length
  · have i3 : (4 : Int) < (rs.length : Int) := by omega
    refine AWp.seq (Wd [] ?_); simp -implicitDefEqProofs only [go_sem]; refine Z0 e43 (.still rfl) ?_; rcases i12 with ⟨i1, i2⟩ | i1
    · simp -implicitDefEqProofs only [i1, i2, i3, List.length_map, go_sem]
      refine Z0 eA (.pures rfl) ?_; simp -implicitDefEqProofs only [go_sem]
    · simp -implicitDefEqProofs only [i1, i3, List.length_map, go_sem]
      refine Z0 eA (.pures rfl) ?_; simp -implicitDefEqProofs only [go_sem]
  have i3 : ¬ (4 : Int) < (rs.length : Int) := by omega
  refine AWp.seqM (fun _ : Unit => ⟨mkF 152 [(0, .p (.int .i64 p)), (1, .p (.sl (l.map (.int .i64)))), (3, .p (.sl (rs.map Kn.rvT))), (6, .ptr 0 0)], [.box [.p (.int .i64 q), .p (.sl (ws.map .str))]]⟩)
    (fun _ => True) (Wd [] ?_) ?_
  · simp -implicitDefEqProofs only [go_sem]
    refine Z0 e43 (.still rfl) ?_; rcases i12 with ⟨i1, i2⟩ | i1
    · simp -implicitDefEqProofs only [i1, i2, i3, List.length_map, go_sem]
      exact ⟨(), trivial⟩
    · simp -implicitDefEqProofs only [i1, i3, List.length_map, go_sem]
      exact ⟨(), trivial⟩
  intro _ _; refine AWp.seq (AWp.seq (Wd [] ?_)); simp -implicitDefEqProofs only [List.length_map, go_sem]; refine AWp.block ?_
  refine AWp.loopJ (fun i : Nat => ⟨mkF 152 [(0, .p (.int .i64 p)), (1, .p (.sl (l.map (.int .i64)))), (3, .p (.sl (rs.map Kn.rvT))), (6, .ptr 0 0), (45, .p (.sl (rs.map Kn.rvT))), (46, .p (.int .i64 rs.length)), (47, .p (.int .i64 i))], [.box [.p (.int .i64 q), .p (.sl (ws.map .str))]]⟩)
    (fun i => i ≤ rs.length ∧ ∀ r ∈ rs.take i, Kn.shT r) (fun i => rs.length - i) 0 (fun x => by simp [Z15, mkF, AV.blw, AV.blw.blwL, blwH, AObj.blw]) (by simp [go_sem]) ⟨Nat.zero_le _, by simp⟩ ?_
  rintro i ⟨hi, hps⟩; simp -implicitDefEqProofs only [go_sem]; refine Wd [] ?_; by_cases hlt : i < rs.length
  · have hlt' : (i : Int) < (rs.length : Int) := by omega
    have hgi : (rs.map Kn.rvT).getD i default = Kn.rvT rs[i] := Z5 _ _ _ _ hlt; obtain ⟨x1, x2, x3, x4, hx⟩ : ∃ a A b B, rs[i] = (a, A, b, B) := ⟨_, _, _, _, rfl⟩; have hgi : (rs.map Kn.rvT).getD i default = .agg [.bool x1, .str x2, .bool x3, .str x4] := by rw [hgi, hx]; rfl
    by_cases g1 : (3 : Int) < (x2.length : Int)
    · simp -implicitDefEqProofs only [hlt', hgi, hlt, Int.toNat_natCast, List.length_map, g1, go_sem]
      refine Z0 eA (.pures rfl) ?_; simp -implicitDefEqProofs only [go_sem]
    by_cases g2 : (3 : Int) < (x4.length : Int)
    · simp -implicitDefEqProofs only [hlt', hgi, hlt, Int.toNat_natCast, List.length_map, g1, g2, go_sem]
      refine Z0 eA (.pures rfl) ?_; simp -implicitDefEqProofs only [go_sem]
    have hps' : ∀ r ∈ rs.take (i + 1), Kn.shT r := fun r hr => by
      rw [List.take_succ_eq_append_getElem hlt] at hr; rcases List.mem_append.1 hr with hr | hr
      · exact hps r hr
      · rw [List.mem_singleton.1 hr, hx]; exact ⟨by simp only; omega, by simp only; omega⟩
    simp -implicitDefEqProofs only [hlt', hgi, hlt, Int.toNat_natCast, List.length_map, g1, g2, go_sem]; exact ⟨by simp only [InR]; omega, i + 1, by simp [mkF]; try omega, ⟨by omega, hps'⟩, by omega⟩
  have hir : rs.length = i := by omega
  subst hir; rw [List.take_of_length_le (by omega)] at hps; obtain ⟨V1, c1, b1, ⟨A1, B1, rfl⟩, a1, a2, a3, a4⟩ := bothK p l h12 hl; obtain ⟨V2, c2, ⟨A2, B2, rfl⟩, a5, a6⟩ := bothO q ws; obtain ⟨V3, c3, ⟨A3, B3, rfl⟩, a7, a8⟩ := bothW q ws rs hg (by omega) hps; unfold Zz at a5 a6 a7 a8; simp -implicitDefEqProofs only [Int.lt_irrefl, go_sem]; refine AWp.seq (Wd [] ?_); simp -implicitDefEqProofs only [go_sem]; refine Z0 a1 (.still rfl) ?_; simp -implicitDefEqProofs only [go_sem]; refine AWp.seq (Wd [] ?_); simp -implicitDefEqProofs only [go_sem]; refine Z0 a2 (.still rfl) ?_; simp -implicitDefEqProofs only [go_sem]; refine AWp.seq (Wd [] ?_); simp -implicitDefEqProofs only [go_sem]; refine Z0 a3 (.still rfl) ?_; simp -implicitDefEqProofs only [go_sem]; refine AWp.seq (Wd [] ?_); simp -implicitDefEqProofs only [go_sem]; refine Z0 a4 (.still rfl) ?_; simp -implicitDefEqProofs only [go_sem]; refine AWp.seq (Wd [] ?_); simp -implicitDefEqProofs only [go_sem]; refine Z0 a5 (.still rfl) ?_; simp -implicitDefEqProofs only [go_sem]; refine AWp.seq (Wd [] ?_); simp -implicitDefEqProofs only [go_sem]; refine Z0 a6 (.still rfl) ?_; simp -implicitDefEqProofs only [go_sem]; refine AWp.seq (Wd [] ?_); simp -implicitDefEqProofs only [go_sem]; refine Z0 a7 (.still rfl) ?_; simp -implicitDefEqProofs only [go_sem]; refine AWp.seq (Wd [] ?_); simp -implicitDefEqProofs only [go_sem]; refine Z0 a8 (.still rfl) ?_; simp -implicitDefEqProofs only [go_sem]; refine Wd [] ?_; simp -implicitDefEqProofs only [go_sem]; refine aggR rfl rfl ?_; rw [decide_eq_true rfl, decide_eq_true rfl]; simp -implicitDefEqProofs only [Bool.and_self, beq_self_eq_true, go_sem]; refine aggR rfl rfl ?_; rw [decide_eq_true rfl, decide_eq_true rfl]; simp -implicitDefEqProofs only [Bool.and_self, beq_self_eq_true, go_sem]; refine aggR rfl rfl ?_; rw [decide_eq_true rfl, decide_eq_true rfl]; simp -implicitDefEqProofs only [Bool.and_self, beq_self_eq_true, go_sem]; refine Z0 eA (.pures rfl) ?_; simp -implicitDefEqProofs only [go_sem]
end Go.Proofs.YtpljmccnfmkmfaaGreat
end

