/-
  Texts of this claim, joined.
-/
import Derived.Test.YtpljmccnfmkmfaaGreatJ9bf2e801b543
import Derived.Test.YtpljmccnfmkmfaaGreatJ4aec13ead61c
import Derived.Test.YtpljmccnfmkmfaaGreatJcf7f283ecba0
import Derived.Test.YtpljmccnfmkmfaaGreatJe1e9c79f8448
import Derived.Test.YtpljmccnfmkmfaaGreatJ267659ddf9b3
import Derived.Test.YtpljmccnfmkmfaaGreatJab3ee42939f9
import Derived.Test.YtpljmccnfmkmfaaGreatJ70b46f4d4eb2
import Derived.Test.YtpljmccnfmkmfaaGreatJ5213c0a37e60
import Derived.Test.YtpljmccnfmkmfaaGreatJbadf20336eae

set_option linter.unusedSimpArgs false
set_option maxRecDepth 1000000
set_option maxHeartbeats 4000000
section
namespace Go.Proofs.YtpljmccnfmkmfaaGreat
open Go Go.AM

theorem h24 (q : Nat) (ns : List Nat) (hq : 2 ≤ q) (hq16 : q ≤ 16) (hn0 : 0 < ns.length) (hn : ns.length < 20) (h32 : ∀ n ∈ ns, 1 ≤ n ∧ n ≤ 32) :
    PFn Tryz.prog 24 [.int .i64 q, .sl (ns.map Kn.nV)] [flV q ns, .sl ((flI q ns).map Kn.nV), .int .i64 (flE q ns)] := by
  have e51 := h51 q ns hq hq16 (by omega) h32; have hqa : ¬ (q : Int) < 2 := by omega
  have hqb : ¬ (16 : Int) < (q : Int) := by omega
  have hna : ¬ (ns.length : Int) = 0 := by omega
  have hnc : ¬ (64 : Int) < (ns.length : Int) := by omega
  refine PFn.of_body hΓ Tryz.func24 (by kernel_rfl) rfl (AWp.seq (Wd [] ?_)); simp -implicitDefEqProofs only [Tryz.ntmps24, Tryz.results24, Nat.reduceAdd, Nat.reduceSub, go_sem]; refine AWp.seq (Wd [] ?_); simp -implicitDefEqProofs only [hqa, hqb, go_sem]; refine AWp.seq (Wd [] ?_); simp -implicitDefEqProofs only [hna, List.length_map, go_sem]; refine AWp.seq (Wd [] ?_); simp -implicitDefEqProofs only [hnc, List.length_map, go_sem]; refine AWp.seq (Wd [] ?_); simp -implicitDefEqProofs only [go_sem]; refine Z0 e51 (.pures rfl) ?_; simp -implicitDefEqProofs only [go_sem]; refine AWp.seq (Wd [] ?_); simp -implicitDefEqProofs only [go_sem]; unfold flV flE flI; by_cases hk : Kn.krS q ns ≤ q ^ 32
  rotate_left
  · rw [if_neg hk, if_neg hk, if_neg hk, decide_eq_false hk]
    refine AWp.seq (Wd [] ?_); simp -implicitDefEqProofs only [Za, List.map_nil, go_sem]
  rw [if_pos hk, if_pos hk, if_pos hk, decide_eq_true hk]; have hSl := Z4q ns ns.length; have hSs := Z0x ns ns.length; have hSm := fun p => @Z3p ns p ns.length
  have hAt := fun {n i : Nat} => Zur (ns := ns) (fun n hn => (h32 n hn).2) (n := n) (i := i)
  have hpre := fun {n i : Nat} (h1 : n ≤ 32) (h2 : i ≤ ns.length) => (Ziv (ns := ns) (fun n hn => (h32 n hn).2) h1 h2).length_le
  have hend := Zix (ns := ns) fun n hn => (h32 n hn).2
  have hkr : tS q (srtP ns ns.length) (srtP ns ns.length).length = Kn.krS q ns := Zfg q ns; generalize hSe : srtP ns ns.length = S at *; have hS32 : ∀ p ∈ S, 1 ≤ p.1 ∧ p.1 ≤ 32 := fun p hp => by
    obtain ⟨h1, h2⟩ := (hSm p).1 hp; rw [h2, List.getD_eq_getElem?_getD, List.getElem?_eq_getElem h1, Option.getD_some]; exact h32 _ (List.getElem_mem h1)
  refine AWp.seq (Wd [] ?_); simp -implicitDefEqProofs only [go_sem]; refine AWp.seq (Wd [] ?_); simp -implicitDefEqProofs only [go_sem]; refine ⟨by omega, ?_⟩; refine AWp.seq (Wd [] ?_); simp -implicitDefEqProofs only [List.length_map, go_sem]; refine ⟨⟨by omega, by omega⟩, ?_⟩; refine AWp.adoptCell (l := []) 1 1 9 1 rfl rfl (by simp) ?_; simp -implicitDefEqProofs only [List.set_cons_zero, List.set_cons_succ, go_sem]; refine AWp.seq (Wd [] ?_); simp -implicitDefEqProofs only [go_sem]; refine AWp.seq (AWp.seq (Wd [] ?_)); simp -implicitDefEqProofs only [go_sem]; refine AWp.block ?_; have hP1 : PLp ns 1 0 = [] := by
    rw [List.eq_nil_iff_forall_not_mem]; intro p hp; obtain ⟨h1, h2, h3⟩ := Zc3.1 hp; rw [List.getD_eq_getElem?_getD, List.getElem?_eq_getElem h2, Option.getD_some] at h3; have := (h32 _ (List.getElem_mem h2)).1; omega
  obtain ⟨lastW, hlW⟩ : ∃ f : Nat → List UInt8, f = fun c => if c = 0 then [] else wS q S (c - 1) := ⟨_, rfl⟩
  obtain ⟨fr, hfr⟩ : ∃ f : Nat → List (Nat × AV) → St, f = fun c l => ⟨mkF 97 ([(0, .p (.int .i64 q)), (1, .p (.sl (ns.map Kn.nV))), (4, .ptr 0 0), (9, .ptr 1 0), (10, .own 2 ns.length), (11, .p (.str (lastW c)))] ++ l), [.box [.p (.int .i64 0), .full []], .box [.p (.int .i64 q), .own 3 c], .row 3 1 ((idxS S ns.length c).map Kn.nV) .own, .row 9 1 ((Z0a q S c).map .str) .lax]⟩ := ⟨_, rfl⟩
  refine AWp.loopI (fun n : Nat => fr (PLp ns n 0).length [(12, .p (.int .i64 n))]) (fun n => 1 ≤ n ∧ n ≤ 33) (fun n => 33 - n) 1 (by rw [hfr, hlW, hP1]; simp [go_sem, idxS, Z0a, Kn.nV]) (by omega) ?_; intro n hnn; rw [hfr]; refine Wd [] ?_; by_cases hn33 : n ≤ 32
  rotate_left
  · have hn33' : ¬ (n : Int) ≤ 32 := by omega
    have hcS : (PLp ns n 0).length = ns.length := by rw [show n = 33 by omega, hend, hSl]
    rw [hcS]; simp -implicitDefEqProofs only [hn33', List.cons_append, List.nil_append, go_sem]; refine Wd [] ?_; simp -implicitDefEqProofs only [go_sem]
    rfl
  have hn33' : (n : Int) ≤ 32 := by omega
  simp -implicitDefEqProofs only [hn33', List.cons_append, List.nil_append, go_sem]; refine AWp.loopI (fun i : Nat => fr (PLp ns n i).length [(12, .p (.int .i64 n)), (13, .p (.int .i64 i))]) (fun i => i ≤ ns.length) (fun i => ns.length - i) 0 (by rw [hfr]; simp [go_sem]) (by simp) ?_; intro i hi; have hcl := hpre hn33 hi; rw [hSl] at hcl; have hhit := fun h => hAt (n := n) (i := i) hn33 h
  rw [hfr]; refine Wd [] ?_; by_cases hlt : i < ns.length
  rotate_left
  · have hlt' : ¬ (i : Int) < (ns.length : Int) := by omega
    have hii : i = ns.length := by omega
    have hrow := Za3 ns n; subst hii; simp -implicitDefEqProofs only [hlt', List.cons_append, List.nil_append, List.length_map, Int.lt_irrefl, go_sem]; exact ⟨by simp only [InR]; omega, n + 1, ⟨⟨by rw [hrow], by simp⟩, by rw [hrow], .inl (by rw [hrow]), by rw [hrow]⟩, ⟨by omega, by omega⟩, by omega⟩
  have hlt' : (i : Int) < (ns.length : Int) := by omega
  have hgi : (ns.map Kn.nV).getD i default = .int .i64 (ns[i] : Int) := by rw [Z3 _ _ _ _ hlt]; rfl
  have hgd : ns.getD i 0 = ns[i] := by rw [List.getD_eq_getElem?_getD, List.getElem?_eq_getElem hlt, Option.getD_some]
  by_cases hni : ns[i] = n
  rotate_left
  · have hni' : ¬ ((ns[i] : Nat) : Int) = (n : Int) := by omega
    have hmiss := Zle (ns := ns) (n := n) (i := i) (by rw [hgd]; exact hni); simp -implicitDefEqProofs only [hlt', hgi, hni', List.cons_append, List.nil_append, List.length_map, Int.toNat_natCast, go_sem]; exact ⟨by simp only [InR]; omega, i + 1, ⟨⟨by rw [hmiss], by simp⟩, by rw [hmiss], .inl (by rw [hmiss]), by rw [hmiss]⟩, by omega, by omega⟩
  obtain ⟨hcS, hkS⟩ := hhit hlt (by rw [hgd]; exact hni); have hhitP := Ziw (ns := ns) (n := n) (i := i) (by rw [hgd]; exact hni); generalize hc : (PLp ns n i).length = c at *; rw [hni] at hgi; have e78 := h78 n (by omega); have hil := Z6j S ns.length c; have hws : (Z0a q S c).length = c := by unfold Z0a; simp
  have hL1 : (PLp ns n (i + 1)).length = c + 1 := by rw [hhitP, List.length_append, hc]; rfl
  have hwnext := Z6q q S c; have hinext : idxS S ns.length (c + 1) = (idxS S ns.length c).set i c := by
    show (idxS S ns.length c).set (kS S c).2 c = _; rw [hkS]
  have hl1 : lastW (c + 1) = wS q S c := by rw [hlW]; simp
  have hs1 : Zc [PV.str (wS q S c)] 1 := by simp [Zc, PV.cells]
  have ho1 : Z0y [PV.str (wS q S c)] := by simp [Z0y, PV.cells, PV.isAgg]
  have hwl : (wS q S c).length = n := by unfold wS; rw [Z00, hkS]
  have hfin : ∃ y : Nat, y = i + 1 := ⟨_, rfl⟩; simp -implicitDefEqProofs only [hlt', hgi, List.cons_append, List.nil_append, List.length_map, Int.toNat_natCast, go_sem]; refine Z0 e78 (.pures rfl) ?_; by_cases hc0 : c = 0
  · have hlw : lastW c = [] := by rw [hlW, hc0]; rfl
    have hw0 : List.replicate n (Kn.ltr 0) = wS q S c := by
      rw [hc0] at hkS ⊢; rw [Zf7 hq, hkS]
    rw [hw0, hlw]; simp -implicitDefEqProofs only [go_sem]; exact ⟨by omega, ⟨by omega, rfl⟩, ⟨hs1, by omega⟩, ⟨hs1, ho1⟩, ⟨by simp, by omega, by omega⟩, by simp only [InR]; omega, i + 1, ⟨⟨by rw [hL1, hl1], by simp⟩, hL1, .inl (by rw [hL1, hinext, List.map_set]; rfl), .inr (.inl (by rw [hL1, hwnext]; simp))⟩, by omega, by omega⟩
  obtain ⟨c', rfl⟩ : ∃ k, c = k + 1 := ⟨c - 1, by omega⟩; have hlw : lastW (c' + 1) = wS q S c' := by rw [hlW]; simp
  have hk' := Zb0 hq hSs hS32 (show c' < S.length by omega); have hkm := Z7g hq hSs hS32 (show c' ≤ c' + 1 by omega) hcS; rw [hkS] at hkm; simp only at hkm; have hnx := Zf8 hq hSs hS32 hcS; rw [hkS] at hnx; simp only at hnx; have hv := Zfa hq hSs hS32 hcS (by rw [hkr]; exact hk); have e79 := h79 q (kS S c').1 (vS q S c') hq hq16 (by omega) (by omega) hv; rw [show wd q (kS S c').1 (vS q S c') = wS q S c' from rfl] at e79; have hll : (wS q S c').length = (kS S c').1 := Z00 _ _ _; have hne : ¬ wS q S c' = [] := fun e => by rw [e] at hll; simp at hll; omega
  have hnl := Z00 q (kS S c').1 (vS q S c' + 1); generalize (kS S c').1 = k' at *; generalize wd q k' (vS q S c' + 1) = nw at *; have hsub : (n : Int) - (k' : Int) = ((n - k' : Nat) : Int) := by omega
  have e78' := h78 (n - k') (by omega); rw [hlw]; simp -implicitDefEqProofs only [hne, go_sem]; refine Z0 e79 (.pures rfl) ?_; simp -implicitDefEqProofs only [hll, hsub, go_sem]; refine ⟨by simp only [InR]; omega, Z0 e78' (.pures rfl) ?_⟩; simp -implicitDefEqProofs only [← hnx, List.length_map, Int.toNat_natCast, go_sem]; exact ⟨by rw [hnl, List.length_replicate]; omega, by omega, ⟨by omega, rfl⟩, ⟨hs1, by omega⟩, ⟨hs1, ho1⟩, ⟨by simp, by omega, by omega⟩, by simp only [InR]; omega, i + 1, ⟨⟨by rw [hL1, hl1], by simp⟩, hL1, .inl (by rw [hL1, hinext, List.map_set]; rfl), .inr (.inl (by rw [hL1, hwnext]; simp))⟩, by omega, by omega⟩

def rv (l : List UInt8) (i : Nat) : List UInt8 := (List.range l.length).map fun k => if k < i ∨ l.length - i ≤ k then l.getD (l.length - 1 - k) 0 else l.getD k 0
theorem Z8a (l : List UInt8) (i : Nat) : (rv l i).length = l.length := by simp [rv]
theorem Z8b {l : List UInt8} {i k : Nat} (hk : k < l.length) : (rv l i)[k]? = some (if k < i ∨ l.length - i ≤ k then l.getD (l.length - 1 - k) 0 else l.getD k 0) := by
  simp [rv, List.getElem?_map, List.getElem?_range hk]
theorem Zn6 (l : List UInt8) : rv l 0 = l := by
  apply List.ext_getElem?
  intro k; by_cases hk : k < l.length
  · rw [Z8b hk, if_neg (by omega), List.getD_eq_getElem?_getD, List.getElem?_eq_getElem hk]; rfl
  · rw [List.getElem?_eq_none (by rw [Z8a]; omega), List.getElem?_eq_none (by omega)]
theorem Zrx {l : List UInt8} {i : Nat} (h1 : 2 * i ≤ l.length) (h2 : l.length ≤ 2 * i + 1) : rv l i = l.reverse := by
  apply List.ext_getElem?
  intro k; by_cases hk : k < l.length
  · rw [Z8b hk, List.getElem?_reverse hk]
    have e : l.getD (l.length - 1 - k) 0 = l[l.length - 1 - k]'(by omega) := by rw [List.getD_eq_getElem?_getD, List.getElem?_eq_getElem (by omega)]; rfl
    by_cases hc : k < i ∨ l.length - i ≤ k
    · rw [if_pos hc, e, List.getElem?_eq_getElem (by omega)]
    · rw [if_neg hc]
      have : k = l.length - 1 - k := by omega
      rw [← this, List.getD_eq_getElem?_getD, List.getElem?_eq_getElem hk]; rfl
  · rw [List.getElem?_eq_none (by rw [Z8a]; omega), List.getElem?_eq_none (by simp; omega)]
theorem Zn7 {l : List UInt8} {i j : Nat} (hj : i + j + 1 = l.length) (hlt : i < j) : ((rv l i).set i (l.getD j 0)).set j (l.getD i 0) = rv l (i + 1) := by
  apply List.ext_getElem?
  intro k; by_cases hk : k < l.length
  · rw [List.getElem?_set, List.getElem?_set, Z8b hk, Z8b hk]
    simp only [List.length_set, Z8a]; by_cases e1 : j = k
    · subst e1
      rw [if_pos rfl, if_pos hk, if_pos (by omega), show l.length - 1 - j = i by omega]
    · rw [if_neg e1]
      by_cases e2 : i = k
      · subst e2
        rw [if_pos rfl, if_pos hk, if_pos (by omega), show l.length - 1 - i = j by omega]
      · rw [if_neg e2]
        by_cases hc : k < i ∨ l.length - i ≤ k
        · rw [if_pos hc, if_pos (by omega)]
        · rw [if_neg hc, if_neg (by omega)]
  · rw [List.getElem?_eq_none (by simp [Z8a]; omega), List.getElem?_eq_none (by rw [Z8a]; omega)]

theorem c93 {h : List AObj} {b : Nat} (l : List UInt8) (hb : h[b]? = some (.row 5 1 (l.map u8V) .raw)) (hl : l.length ≤ 1000000) :
    AC Tryz.prog 122 [.own b l.length] h [] (fun v h' => v = .tup [] ∧ h' = h.set b (.row 5 1 (l.reverse.map u8V) .raw)) := by
  have hbl : b < h.length := (List.getElem?_eq_some_iff.1 hb).1; refine AC.of_bodyE hΓ Tryz.func122 (by kernel_rfl) rfl (AWp.mono (Q := fun e st => AM.Ends e ∧ st.h = h.set b (.row 5 1 (l.reverse.map u8V) .raw)) ?_ ?_)
  rotate_left
  · rintro e ⟨tm, h'⟩ ⟨he, h2⟩
    simp only at h2; subst h2; refine ⟨he, _, Less.refl _, ?_⟩; unfold Z1i; simp +contextual -implicitDefEqProofs only [Tryz.results122, go_sem]; exact ⟨h.length, Nat.le_refl _, .inl (by simp), List.take_of_length_le (by simp)⟩
  have gB : ∀ o : AObj, (h.set b o)[b]? = some o := fun o => by simp [hbl]
  have sB : ∀ o o' : AObj, (h.set b o).set b o' = h.set b o' := fun o o' => by simp
  refine Wd [] ?_; simp -implicitDefEqProofs only [Tryz.ntmps122, Nat.reduceAdd, Nat.reduceSub, go_sem]; refine ⟨by simp only [InR]; omega, ?_⟩
  refine AWp.loopI (fun i : Nat => ⟨mkF 28 [(0, .own b l.length), (2, .p (.int .i64 i)), (3, .p (.int .i64 ((l.length : Int) - 1 - i)))], h.set b (.row 5 1 ((rv l i).map u8V) .raw)⟩)
    (fun i => 2 * i ≤ l.length) (fun i => l.length - i) 0 (by
      rw [Zn6, show h.set b (.row 5 1 (l.map u8V) .raw) = h from by
        apply List.ext_getElem?
        intro k; rw [List.getElem?_set]
        split
        · rename_i e; subst e
          first
            | exact hb.symm
            | (rw [if_pos hbl]; exact hb.symm)
        · rfl]
      simp [go_sem, Zb]) (by omega) ?_
  intro i hi; refine Wd [(3, 13)] ?_; by_cases hlt : (i : Int) < (l.length : Int) - 1 - i
  · obtain ⟨j, hj⟩ : ∃ j : Nat, (l.length : Int) - 1 - i = j := ⟨(((l.length : Int) - 1 - i)).toNat, by omega⟩
    rw [hj] at hlt ⊢; have hjl : j < l.length := by omega
    have hil : i < l.length := by omega
    have e1 : ((rv l i).map u8V).getD i default = .int .u8 (l.getD i 0).toNat := by
      rw [List.getD_eq_getElem?_getD, List.getElem?_map, Z8b hil, if_neg (by omega)]; rfl
    have e2 : ((rv l i).map u8V).getD j default = .int .u8 (l.getD j 0).toNat := by
      rw [List.getD_eq_getElem?_getD, List.getElem?_map, Z8b hjl, if_neg (by omega)]; rfl
    have e3 : (((rv l i).map u8V).set i (.int .u8 (l.getD j 0).toNat)).set j (.int .u8 (l.getD i 0).toNat) = (rv l (i + 1)).map u8V := by
      rw [← Zn7 (j := j) (by omega) (by omega), List.map_set, List.map_set]; rfl
    simp -implicitDefEqProofs only [hlt, gB, sB, e1, e2, e3, Int.toNat_natCast, go_sem]; have hr := Z8a l i; refine ⟨hjl, by omega, hil, by omega, hil, ⟨by omega, rfl⟩, hjl, ⟨by simp; omega, rfl⟩, by simp only [InR]; omega, by simp only [InR]; omega, i + 1, ⟨⟨by omega, by omega⟩, Zb _⟩, by omega, by omega⟩
  · simp -implicitDefEqProofs only [hlt, go_sem]
    rw [Zrx hi (by omega)]

theorem t70 (w : List UInt8) (hw : w.length ≤ 1000000) : PFn Tryz.prog 60 [.str w] [.str w.reverse] := by
  refine PFn.of_body hΓ Tryz.func60 (by kernel_rfl) rfl (Wd [] ?_); simp +contextual -implicitDefEqProofs only [Tryz.ntmps60, Tryz.results60, Nat.reduceAdd, Nat.reduceSub, go_sem]; refine ⟨by omega, ?_⟩; refine Zg (c93 w rfl hw) (by simp) ?_; rintro v h' ⟨rfl, rfl⟩; simp -implicitDefEqProofs only [Z8, List.foldl, go_sem]; exact ⟨⟨_, rfl, rfl⟩, w.reverse, rfl, rfl⟩

theorem t39 (q : Int) (ws : List (List UInt8)) : PFn Tryz.prog 59 [Za q ws] [if Z6 q ws = 0 then (if Z6 q (made (revs ws)) = 0 then Za q (made (revs ws)) else Za 0 []) else Za 0 [], .int .i64 (if Z6 q ws = 0 then Z6 q (made (revs ws)) else 1)] := by
  refine PFn.of_body hΓ Tryz.func59 (by kernel_rfl) rfl (Wd [] ?_); simp +contextual -implicitDefEqProofs only [Za, Tryz.ntmps59, Tryz.results59, Nat.reduceAdd, Nat.reduceSub, go_sem]; refine Z0 (t45 q ws) (.still rfl) ?_; by_cases h : Z6 q ws = 0
  · have hv := Z0e h
    have hws := hv.len; have hsh : ∀ i (hi : i < ws.length), ws[i].length ≤ 32 := fun i hi => by
      have := hv.short i hi
      rwa [List.getD_eq_getElem?_getD, List.getElem?_eq_getElem hi, Option.getD_some] at this
    rw [h]; simp -implicitDefEqProofs only [go_sem]; refine AWp.adopt (l := []) 4 9 1 (by rfl) (by simp) ?_; simp -implicitDefEqProofs only [go_sem]
    refine AWp.loopI (fun k : Nat => ⟨mkF 30 [(1, .ptr 0 0), (2, .ptr 1 0), (3, .p (.int .i64 0)), (4, .own 2 k), (12, .p (.sl (ws.map .str))), (13, .p (.int .i64 ws.length)), (14, .p (.int .i64 k))], [Zy q ws, .box [.p (.int .i64 0), .full []], .row 9 1 ((revs (ws.take k)).map .str) .lax]⟩)
      (fun k => k ≤ ws.length) (fun k => ws.length - k) 0 (by simp [go_sem, Zy, revs]) (by simp) ?_
    intro k hk; by_cases hlt : k < ws.length
    · refine Wd [] ?_
      simp -implicitDefEqProofs only [hlt, Z3, ↓reduceIte, Zy, go_sem]; refine Z0 (t70 ws[k] (by have := hsh k hlt; omega)) (.pures rfl) ?_; simp -implicitDefEqProofs only [go_sem]; have hs : revs (ws.take (k + 1)) = revs (ws.take k) ++ [ws[k].reverse] := by
        unfold revs; rw [List.take_succ_eq_append_getElem hlt, List.map_append]; rfl
      exact ⟨⟨Zm [_], by omega⟩, ⟨Zm [_], Z29 [_]⟩, ⟨.inl (by omega), by omega, by omega⟩, by simp only [InR]; omega, k + 1, by rw [hs]; simp, hlt, by omega⟩
    · refine AWp.freeze 2 rfl ?_
      rw [List.take_of_length_le (by omega)]; refine Wd [] ?_; simp -implicitDefEqProofs only [hlt, Zy, Z0f, go_sem]; have e71 := t71 q (revs ws) (by simp [revs]; omega); by_cases hc : Z6 q (made (revs ws)) = 0
      · rw [if_pos hc, hc] at e71
        refine Z0 e71 (.pures rfl) ?_; simp -implicitDefEqProofs only [Za, hc, go_sem]
      · rw [if_neg hc] at e71
        refine Z0 e71 (.pures rfl) ?_; simp -implicitDefEqProofs only [Za, hc, go_sem]
  · simp -implicitDefEqProofs only [h, go_sem]


def prE (q : Int) (ws : List (List UInt8)) : Int := if Z6 q ws = 0 then flE q.toNat (ws.map List.length) else 1
def prV (q : Int) (ws : List (List UInt8)) : PV := if Z6 q ws = 0 then flV q.toNat (ws.map List.length) else Za 0 []
theorem Z6l (q : Nat) (ns : List Nat) : ∃ p us, flV q ns = Za p us := by
  unfold flV
  split
  · exact ⟨_, _, rfl⟩
  · exact ⟨0, [], rfl⟩

theorem cm35 (q : Int) (ws : List (List UInt8)) (hl : Z6 q ws = 0 → ws.length < 20) : PFn Tryz.prog 25 [Za q ws] [prV q ws, .int .i64 (prE q ws)] := by
  have e75 := t45 q ws; unfold prV prE; refine PFn.of_body hΓ Tryz.func25 (by kernel_rfl) rfl (AWp.seq (Wd [] ?_)); simp -implicitDefEqProofs only [Tryz.ntmps25, Tryz.results25, Nat.reduceAdd, Nat.reduceSub, Za, go_sem]; unfold Za at e75; refine AWp.seq ?_; refine Wd [] ?_; simp -implicitDefEqProofs only [go_sem]; refine Z0 e75 (.still rfl) ?_; by_cases h : Z6 q ws = 0
  rotate_left
  · rw [if_neg h, if_neg h]
    simp -implicitDefEqProofs only [h, Za, List.map_nil, go_sem]
  rw [if_pos h, if_pos h]; have hv := Z0e h; have hlt20 := hl h; have hpos := hv.pos; have h2 := hv.q2; have h16 := hv.q16; obtain ⟨p, rfl⟩ : ∃ p : Nat, q = p := ⟨q.toNat, by omega⟩; rw [Int.toNat_natCast]; have e13 := cm13 p (ws.map List.length) (by omega) (by omega) (by simpa using hpos) (by simpa using hlt20) (fun n hn => by
    obtain ⟨w, hw, rfl⟩ := List.mem_map.1 hn; obtain ⟨w1, w2, _⟩ := hv.words w hw; have := List.length_pos_iff.2 w1
    omega)
  obtain ⟨p1, us, hpu⟩ := Z6l p (ws.map List.length); rw [hpu] at e13 ⊢; unfold Za at e13; rw [h]; simp -implicitDefEqProofs only [go_sem]; refine AWp.seq (Wd [] ?_); simp -implicitDefEqProofs only [go_sem]; refine AWp.adopt (l := []) 4 3 1 (by rfl) (by simp) ?_; simp -implicitDefEqProofs only [go_sem]; refine AWp.seq (Wd [] ?_); simp -implicitDefEqProofs only [go_sem]
  refine AWp.loopI (fun i : Nat => ⟨mkF 37 [(1, .ptr 0 0), (2, .ptr 1 0), (3, .p (.int .i64 0)), (4, .own 2 ((ws.map List.length).take i).length), (15, .p (.sl (ws.map .str))), (16, .p (.int .i64 ws.length)), (17, .p (.int .i64 i))], [.box [.p (.int .i64 p), .p (.sl (ws.map .str))], .box [.p (.int .i64 0), .full []], .row 3 1 (((ws.map List.length).take i).map Kn.nV) .lax]⟩)
    (fun i => i ≤ ws.length) (fun i => ws.length - i) 0 (by simp [go_sem]) (by omega) ?_
  intro i hi; refine Wd [] ?_; by_cases hlt : i < ws.length
  · have hgi : (ws.map PV.str).getD i default = .str ws[i] := Z3 _ _ _ _ hlt
    have htk : (ws.map List.length).take (i + 1) = (ws.map List.length).take i ++ [ws[i].length] := by
      rw [List.take_succ_eq_append_getElem (by simpa using hlt), List.getElem_map]
    have hli : ((ws.map List.length).take i).length = i := by simp; omega
    have hs1 : Zc [PV.int .i64 (ws[i].length : Int)] 1 := by simp [Zc, PV.cells]
    have ho1 : Z0y [PV.int .i64 (ws[i].length : Int)] := by simp [Z0y, PV.cells, PV.isAgg]
    simp -implicitDefEqProofs only [hlt, hgi, Int.toNat_natCast, go_sem]; refine ⟨⟨hs1, by omega⟩, ⟨hs1, ho1⟩, ⟨by simp, by omega, by omega⟩, by simp only [InR]; omega, i + 1, ⟨⟨by rw [htk]; simp, by simp⟩, .inr ?_⟩, hlt, by omega⟩; rw [htk]; simp [Kn.nV]
  have hiW : i = ws.length := by omega
  subst hiW; simp -implicitDefEqProofs only [Nat.lt_irrefl, Int.lt_irrefl, go_sem]; rw [List.take_of_length_le (by simp)]; refine AWp.freeze 2 rfl ?_; refine Wd [] ?_; simp -implicitDefEqProofs only [Z0f, go_sem]; refine Z0 e13 (.pures rfl) ?_; simp -implicitDefEqProofs only [Za, go_sem]

theorem Z85 (q : Nat) (ns : List Nat) : (Z0a q (srtP ns ns.length) ns.length).length = ns.length := by unfold Z0a; simp
theorem Zf4 {q : Nat} {ns : List Nat} (hq : 2 ≤ q) (hq16 : q ≤ 16) (h0 : 0 < ns.length) (hn : ns.length ≤ 64) (h32 : ∀ n ∈ ns, 1 ≤ n ∧ n ≤ 32) (hk : Kn.krS q ns ≤ q ^ 32) :
    Z6 (q : Int) (Z0a q (srtP ns ns.length) ns.length) = 0 ∧ Zju (Z0a q (srtP ns ns.length) ns.length) = true := by
  have hSl := Z4q ns ns.length; have hS32 : ∀ p ∈ srtP ns ns.length, 1 ≤ p.1 ∧ p.1 ≤ 32 := fun p hp => by
    obtain ⟨h1, h2⟩ := Z3p.1 hp; rw [h2, List.getD_eq_getElem?_getD, List.getElem?_eq_getElem h1, Option.getD_some]; exact h32 _ (List.getElem_mem h1)
  have hkr : tS q (srtP ns ns.length) (srtP ns ns.length).length ≤ q ^ 32 := by rw [Zfg]; exact hk
  have hck := Zbl hq hq16 (Z0x ns ns.length) hS32 hkr (by omega) (by omega); have hpf := Ze8 hq hq16 (Z0x ns ns.length) hS32 hkr; rw [hSl] at hck hpf; exact ⟨hck, hpf⟩
theorem Zgy {q : Int} {ws : List (List UInt8)} (hv : Valid q ws) : ∀ n ∈ ws.map List.length, 1 ≤ n ∧ n ≤ 32 := fun n hn => by
  obtain ⟨w, hw, rfl⟩ := List.mem_map.1 hn; obtain ⟨w1, w2, _⟩ := hv.words w hw; have := List.length_pos_iff.2 w1; omega
def canW (q : Int) (ws : List (List UInt8)) : List (List UInt8) := Z0a q.toNat (srtP (ws.map List.length) (ws.map List.length).length) (ws.map List.length).length
def sfV (q : Int) (ws : List (List UInt8)) : PV := if prE q ws = 0 then Za q (made (revs (canW q ws))) else Za 0 []
theorem Z9e {q : Int} {ws : List (List UInt8)} (h : prE q ws = 0) (hl : Z6 q ws = 0 → ws.length < 20) :
    Z6 q ws = 0 ∧ Kn.krS q.toNat (ws.map List.length) ≤ q.toNat ^ 32 ∧ prV q ws = Za q (canW q ws) ∧ Z6 q (canW q ws) = 0 ∧ Zju (canW q ws) = true := by
  unfold prE at h; by_cases hc : Z6 q ws = 0
  rotate_left
  · rw [if_neg hc] at h; omega
  rw [if_pos hc] at h; unfold flE at h; by_cases hk : Kn.krS q.toNat (ws.map List.length) ≤ q.toNat ^ 32
  rotate_left
  · rw [if_neg hk] at h; omega
  have hv := Z0e hc; have h2 := hv.q2; have h16 := hv.q16; have hq : ((q.toNat : Nat) : Int) = q := by omega
  have hlt := hl hc; obtain ⟨k1, k2⟩ := Zf4 (q := q.toNat) (ns := ws.map List.length) (by omega) (by omega) (by simpa using hv.pos) (by simp; omega) (Zgy hv) hk; rw [hq] at k1; refine ⟨hc, hk, ?_, k1, k2⟩; unfold prV flV; rw [if_pos hc, if_pos hk, hq]
  rfl

theorem cm37 (q : Int) (ws : List (List UInt8)) (hl : Z6 q ws = 0 → ws.length < 20) : PFn Tryz.prog 27 [Za q ws] [sfV q ws, .int .i64 (prE q ws)] := by
  have e35 := cm35 q ws hl; refine PFn.of_body hΓ Tryz.func27 (by kernel_rfl) rfl (AWp.seq (Wd [] ?_)); simp -implicitDefEqProofs only [Tryz.ntmps27, Tryz.results27, Nat.reduceAdd, Nat.reduceSub, Za, go_sem]; unfold sfV; by_cases h : prE q ws = 0
  · obtain ⟨hc, hk, hV, hW, hP⟩ := Z9e h hl
    rw [hV, h] at e35; have e39 := t39 q (canW q ws); have hr := Z74 (Z0e hW); rw [if_pos hW, if_pos hW, if_pos hr, hr] at e39; rw [h, if_pos rfl]; unfold Za at e35 e39 ⊢; refine Wd [] ?_; simp -implicitDefEqProofs only [go_sem]; refine Z0 e35 (.still rfl) ?_; simp -implicitDefEqProofs only [go_sem]; refine Z0 e39 (.still rfl) ?_; simp -implicitDefEqProofs only [go_sem]
  · obtain ⟨p1, us, hpu⟩ : ∃ p us, prV q ws = Za p us := by
      unfold prV
      split
      · exact Z6l _ _
      · exact ⟨0, [], rfl⟩
    rw [hpu] at e35; rw [if_neg h]; unfold Za at e35 ⊢; refine Wd [] ?_; simp -implicitDefEqProofs only [go_sem]; refine Z0 e35 (.still rfl) ?_; simp -implicitDefEqProofs only [h, List.map_nil, go_sem]

theorem Z57 {a b : AObj} (h : b = .dead ∨ b = a ∨ Zel a b) : ∀ H : List AObj, Z60 (H ++ [a]) (H ++ [b])
  | [] => ⟨h, trivial⟩
  | _ :: H => ⟨.inr (.inl rfl), Z57 h H⟩

def Z2z (l : List (List UInt8)) (k : Nat) (w : List UInt8) : List (List UInt8) := l.take k ++ [w] ++ l.drop k
theorem Z5p {l : List (List UInt8)} {k : Nat} {w : List UInt8} (hp : l.Pairwise ltW) (hk : k ≤ l.length) (hlow : ∀ j, j < k → cmpW (l.getD j []) w < 0) (hup : k < l.length → ltW w (l.getD k [])) : (Z2z l k w).Pairwise ltW := by
  have h1 := List.pairwise_iff_getElem.1 hp; unfold Z2z; rw [List.append_assoc, List.pairwise_append]; refine ⟨hp.sublist (List.take_sublist k l), ?_, fun x hx y hy => ?_⟩
  · rw [List.singleton_append, List.pairwise_cons]
    refine ⟨fun y hy => ?_, hp.sublist (List.drop_sublist k l)⟩; obtain ⟨j, hj, rfl⟩ := List.getElem_of_mem hy; rw [List.getElem_drop]; rw [List.length_drop] at hj; have h2 := hup (by omega); rw [List.getD_eq_getElem?_getD, List.getElem?_eq_getElem (by omega), Option.getD_some] at h2; by_cases e : j = 0
    · subst e; exact h2
    · exact Z14 h2 (h1 k (k + j) (by omega) (by omega) (by omega))
  · obtain ⟨j, hj, rfl⟩ := List.mem_take_iff_getElem.1 hx
    have hjk : j < k := by omega
    have hjl : j < l.length := by omega
    have h3 := hlow j hjk; rw [List.getD_eq_getElem?_getD, List.getElem?_eq_getElem hjl, Option.getD_some] at h3; rcases List.mem_cons.1 (by simpa using hy) with rfl | hy
    · exact (Z3c _ _).1 h3
    · obtain ⟨q, hq, rfl⟩ := List.getElem_of_mem hy
      rw [List.getElem_drop]; rw [List.length_drop] at hq; exact h1 j (k + q) hjl (by omega) (by omega)
theorem Zaq {l : List (List UInt8)} {k : Nat} {w x : List UInt8} : x ∈ Z2z l k w ↔ x ∈ l ∨ x = w := by
  unfold Z2z
  conv => rhs; rw [← List.take_append_drop k l]
  simp only [List.mem_append, List.mem_singleton]
  constructor
  · rintro ((h | h) | h)
    · exact .inl (.inl h)
    · exact .inr h
    · exact .inl (.inr h)
  · rintro ((h | h) | h)
    · exact .inl (.inl h)
    · exact .inr h
    · exact .inl (.inr h)
theorem Zao {l : List (List UInt8)} {k : Nat} {w : List UInt8} (hk : k ≤ l.length) : (Z2z l k w).length = l.length + 1 := by
  unfold Z2z; simp; omega


def rkS (l : List (List UInt8)) : RK := if l.isEmpty then .lax else .own
def stO (m : Nat) (l : List (List UInt8)) : List AObj := List.replicate m .dead ++ [.row 9 1 (l.map .str) (rkS l)]
theorem Zfz (l : List (List UInt8)) (k : Nat) (w : List UInt8) : rkS (Z2z l k w) = .own := by
  unfold rkS Z2z; simp
theorem Zg0 {l : List (List UInt8)} {w : List UInt8} (h : w ∈ l) : rkS l = .own := by
  cases l with
  | nil => cases h
  | cons a l => rfl

theorem u50o (ws : List (List UInt8)) (hne : ws ≠ []) (hl : ws.length ≤ 1000000) : PRowO Tryz.prog 132 [.sl (ws.map .str)] 9 1 ((made ws).map .str) := by
  refine AC.of_bodyE hΓ Tryz.func132 (by kernel_rfl) rfl (AWp.mono (Q := fun e st => AM.Ends e ∧ ∃ m, st.tmps.getD 2 .junk = .own m (made ws).length ∧ st.h = List.replicate m .dead ++ [.row 9 1 ((made ws).map .str) .own]) ?_ ?_)
  rotate_left
  · rintro e ⟨tm, h'⟩ ⟨he, m, h1, h2⟩
    simp only at h1 h2; subst h2; refine ⟨he, _, Less.refl _, ?_⟩; unfold Z1i; simp +contextual -implicitDefEqProofs only [Tryz.results132, h1, go_sem]; exact ⟨m + 1, by simp, .inl (by simp), m, rfl, by simp⟩
  refine Wd [] ?_; simp -implicitDefEqProofs only [Tryz.ntmps132, Tryz.results132, Nat.reduceAdd, Nat.reduceSub, List.map_cons, List.map_nil, go_sem]; refine AWp.adopt (l := []) 3 9 1 (by rfl) (by simp) ?_; simp -implicitDefEqProofs only [go_sem]
  refine AWp.loopI (fun x : Nat × List (List UInt8) × Nat => ⟨mkF 60 [(0, .p (.sl (ws.map .str))), (3, .own x.2.2 x.2.1.length), (4, .p (.int .i64 x.1))], stO x.2.2 x.2.1⟩)
    (fun x => x.1 ≤ ws.length ∧ x.2.1.length ≤ x.1 ∧ x.2.1.Pairwise ltW ∧ (∀ v, v ∈ x.2.1 ↔ v ∈ ws.take x.1)) (fun x => ws.length - x.1) (0, [], 0) (by simp [go_sem, stO, rkS]) (by simp) ?_
  rintro ⟨i, l, m⟩ ⟨hi, hli, hp, hm⟩; simp only at hi hli hp hm; by_cases hlt : i < ws.length
  rotate_left
  · refine Wd [(8, 15), (9, 1000)] ?_
    rw [List.take_of_length_le (by omega)] at hm; have hml : made ws = l := Zc4 hp (fun x => (hm x).symm); have hrk : rkS l = .own := by
      cases ws with
      | nil => exact absurd rfl hne
      | cons a ws => exact Zg0 ((hm a).2 (by simp))
    rw [hml]; unfold stO; rw [hrk]; simp -implicitDefEqProofs only [hlt, go_sem]; exact ⟨m, rfl, rfl⟩
  by_cases hin : ws[i] ∈ l
  · have hrk := Zg0 hin
    unfold stO; simp only [hrk]; obtain ⟨H, hH⟩ : ∃ H : List AObj, H = List.replicate m .dead := ⟨_, rfl⟩; have hHl : H.length = m := by rw [hH]; simp
    rw [← hH]; have gL : ∀ o : AObj, (H ++ [o])[m]? = some o := fun o => by rw [← hHl]; simp
    refine Wd [(8, 15), (9, 1000)] ?_; simp -implicitDefEqProofs only [hlt, Z3, ↓reduceIte, go_sem]
    refine AWp.loopI (fun k : Nat => ⟨mkF 60 [(0, .p (.sl (ws.map .str))), (3, .own m l.length), (4, .p (.int .i64 i)), (5, .p (.int .i64 k))], H ++ [.row 9 1 (l.map .str) .own]⟩)
      (fun k => k ≤ l.length ∧ ∀ j, j < k → cmpW (l.getD j []) ws[i] < 0) (fun k => l.length - k) 0 (by simp [go_sem, Zb]) (by simp) ?_
    rintro k ⟨hk, hlow⟩; refine Wd [(6, 15)] ?_; have hmem : ∀ v, v ∈ l ↔ v ∈ ws.take (i + 1) := fun v => by
      rw [hm, List.take_succ_eq_append_getElem hlt, List.mem_append, List.mem_singleton]; refine ⟨.inl, fun h => h.elim id fun h => ?_⟩; subst h; exact (hm _).1 hin
    by_cases hkl : k < l.length
    · simp -implicitDefEqProofs only [hlt, hkl, Z3, ↓reduceIte, gL, List.length_map, go_sem]
      refine Z1 (t79' l[k] ws[i]) (.pures rfl) ?_; by_cases hc : cmpW l[k] ws[i] < 0
      · simp -implicitDefEqProofs only [hlt, hkl, hc, decide_true, Z3, ↓reduceIte, go_sem]
        refine ⟨by simp only [InR]; omega, k + 1, ⟨by omega, Zb _⟩, ⟨by omega, fun j hj => ?_⟩, by omega⟩; by_cases hjk : j = k
        · subst hjk
          rw [List.getD_eq_getElem?_getD, List.getElem?_eq_getElem hkl, Option.getD_some]; exact hc
        · exact hlow j (by omega)
      · have he : l[k] = ws[i] := by
          obtain ⟨j, hj, hjw⟩ := List.getElem_of_mem hin; rcases Nat.lt_trichotomy j k with h | h | h
          · have := hlow j h
            rw [List.getD_eq_getElem?_getD, List.getElem?_eq_getElem hj, Option.getD_some, hjw] at this; exact absurd ((Z3c _ _).1 this) (Z0h _)
          · subst h; exact hjw
          · have := List.pairwise_iff_getElem.1 hp k j hkl hj h
            rw [hjw] at this; exact absurd ((Z3c _ _).2 this) hc
        have hc' : ¬ cmpW ws[i] ws[i] < 0 := by rw [he] at hc; exact hc
        simp -implicitDefEqProofs only [hlt, hkl, hc', decide_false, he, Z3, ↓reduceIte, gL, go_sem]; refine ⟨by simp only [InR]; omega, (i + 1, l, m), ⟨⟨⟨rfl, rfl⟩, by simp⟩, ?_⟩, ⟨by simp only; omega, by simp only; omega, hp, hmem⟩, by simp only; omega⟩; simp only [hrk]; rw [← hH]; exact Zb _
    · obtain ⟨j, hj, hjw⟩ := List.getElem_of_mem hin
      have := hlow j (by omega); rw [List.getD_eq_getElem?_getD, List.getElem?_eq_getElem hj, Option.getD_some, hjw] at this; exact absurd ((Z3c _ _).1 this) (Z0h _)
  · refine AWp.freeze (E := 9) (s := 1) (k := rkS l) (xs := l.map .str) m (by simp [stO]) ?_
    have e : ∀ st : St, st = ⟨mkF 60 [(0, .p (.sl (ws.map .str))), (3, .own m l.length), (4, .p (.int .i64 i))], stO m l⟩ → Z0f st m (l.map .str) = ⟨mkF 60 [(0, .p (.sl (ws.map .str))), (3, .p (.sl (l.map .str))), (4, .p (.int .i64 i))], List.replicate (m + 1) .dead⟩ := by
      rintro _ rfl; simp [Z0f, go_sem, stO, List.replicate_succ', AV.thaw, AObj.thaw]
    rw [e _ rfl]; clear e; obtain ⟨H, hH⟩ : ∃ H : List AObj, H = List.replicate (m + 1) .dead := ⟨_, rfl⟩; have hHl : H.length = m + 1 := by rw [hH]; simp
    have hK : H.map (AObj.kill (m + 1)) = H := by rw [hH]; simp [AObj.kill]
    rw [← hH]; have gL : ∀ o : AObj, (H ++ [o])[H.length]? = some o := fun o => by simp
    have sL : ∀ o o' : AObj, (H ++ [o]).set H.length o' = H ++ [o'] := fun o o' => by simp
    have hKL : H.map (AObj.kill H.length) = H := by rw [hHl]; exact hK
    refine Wd [(8, 15), (9, 1000)] ?_; simp -implicitDefEqProofs only [hlt, Z3, ↓reduceIte, go_sem]
    refine AWp.loopI (fun k : Nat => ⟨mkF 60 [(0, .p (.sl (ws.map .str))), (3, .p (.sl (l.map .str))), (4, .p (.int .i64 i)), (5, .p (.int .i64 k))], H⟩)
      (fun k => k ≤ l.length ∧ ∀ j, j < k → cmpW (l.getD j []) ws[i] < 0) (fun k => l.length - k) 0 (by simp [go_sem, Zb]) (by simp) ?_
    rintro k ⟨hk, hlow⟩; refine Wd [(6, 15)] ?_; by_cases hkl : k < l.length
    · simp -implicitDefEqProofs only [hlt, hkl, Z3, ↓reduceIte, go_sem]
      refine Z1 (t79' l[k] ws[i]) (.pures rfl) ?_; by_cases hc : cmpW l[k] ws[i] < 0
      · simp -implicitDefEqProofs only [hlt, hkl, hc, decide_true, Z3, ↓reduceIte, go_sem]
        refine ⟨by simp only [InR]; omega, k + 1, ⟨by omega, Zb _⟩, ⟨by omega, fun j hj => ?_⟩, by omega⟩; by_cases hjk : j = k
        · subst hjk
          rw [List.getD_eq_getElem?_getD, List.getElem?_eq_getElem hkl, Option.getD_some]; exact hc
        · exact hlow j (by omega)
      · by_cases he : l[k] = ws[i]
        · exact absurd (he ▸ List.getElem_mem hkl) hin
        · simp -implicitDefEqProofs only [hlt, hkl, hc, decide_false, he, Z3, ↓reduceIte, go_sem]
          have hup : k < l.length → ltW ws[i] (l.getD k []) := fun _ => by
            rw [List.getD_eq_getElem?_getD, List.getElem?_eq_getElem hkl, Option.getD_some]
            apply Classical.byContradiction
            intro hno; exact he (Z1u (fun h => hc ((Z3c _ _).2 h)) hno)
          refine AWp.planL (.q 0 (.q 1 (.q 2 (.q 3 (.q 5 (.q 6 (.q 7 (.q 8 (.q 9 (.q 11 (.q 12 (.q 13 (.e 4 (.s 5 (.s 6 (.s 7 (.s 8 (.s 9 (.s 11 (.s 12 (.s 13 (.e 10 (.s 11 (.s 12 (.s 13 (.e 14 (.q 15 .fin) .nil)))) .nil))))))))) .nil))))))))))))) hΓ hmix (by kernel_rfl) ?_; simp -implicitDefEqProofs only [hlt, hkl, Z3, ↓reduceIte, gL, sL, hKL, go_sem]; have hpl := Z5p hp hk hlow hup; have hlen := Zao (w := ws[i]) hk; have hmem : ∀ v, v ∈ Z2z l k ws[i] ↔ v ∈ ws.take (i + 1) := fun v => by
            rw [Zaq, hm, List.take_succ_eq_append_getElem hlt, List.mem_append, List.mem_singleton]
          have ht : (l.take k).length = k := by simp; omega
          have hd : (l.drop k).length = l.length - k := by simp
          rw [← List.map_take, ← List.map_drop]; generalize hrk : (if (List.map PV.str (List.take k l)).isEmpty = true then RK.lax else RK.own) = rk1; have hr1 : rk1 ≠ .raw := by rw [← hrk]; split <;> simp
          simp only [List.map_append, hKL, List.map_cons, List.map_nil, AObj.kill, sL, gL, List.isEmpty_cons, Bool.false_eq_true, if_false, List.length_map]
          refine ⟨⟨by simp [Zc], by omega⟩, Zm _, by omega, ⟨Zm [ws[i]], by omega⟩, Zm _, by omega, ⟨Zm _, Z29 _⟩, ⟨by simp [Zc], by omega, by omega⟩, ⟨Zm [ws[i]], by omega⟩, ⟨Zm _, by omega⟩, ⟨Zm [ws[i]], Z29 [ws[i]]⟩, ⟨hr1, .inl (by omega), by omega, by omega⟩, ⟨Zm _, by omega⟩, ⟨Zm _, Z29 _⟩, ⟨by simp, .inl (by omega), trivial, trivial, by omega, by omega⟩, by simp only [InR]; omega,
            (i + 1, Z2z l k ws[i], m + 1), ⟨⟨⟨by simp only [hHl], by simp only; omega⟩, by simp⟩, ?_⟩, ⟨by simp only; omega, by simp only; omega, hpl, hmem⟩, by simp only; omega⟩
          · show Z60 _ (stO (m + 1) (Z2z l k ws[i]))
            unfold stO; rw [Zfz, ← hH]; have e3 : (Z2z l k ws[i]).map PV.str = List.map PV.str (List.take k l) ++ [PV.str ws[i]] ++ List.map PV.str (List.drop k l) := by simp [Z2z]
            rw [e3]; refine Z57 (.inr (.inl ?_)) H
            split <;> rfl
    · simp -implicitDefEqProofs only [hlt, hkl, Z3, ↓reduceIte, go_sem]
      have hup : k < l.length → ltW ws[i] (l.getD k []) := fun h => absurd h hkl
      refine AWp.planL (.q 0 (.q 1 (.q 2 (.q 3 (.q 5 (.q 6 (.q 7 (.q 8 (.q 9 (.q 11 (.q 12 (.q 13 (.e 4 (.s 5 (.s 6 (.s 7 (.s 8 (.s 9 (.s 11 (.s 12 (.s 13 (.e 10 (.s 11 (.s 12 (.s 13 (.e 14 (.q 15 .fin) .nil)))) .nil))))))))) .nil))))))))))))) hΓ hmix (by kernel_rfl) ?_; simp -implicitDefEqProofs only [hlt, hkl, Z3, ↓reduceIte, gL, sL, hKL, go_sem]; have hpl := Z5p hp hk hlow hup; have hlen := Zao (w := ws[i]) hk; have hmem : ∀ v, v ∈ Z2z l k ws[i] ↔ v ∈ ws.take (i + 1) := fun v => by
        rw [Zaq, hm, List.take_succ_eq_append_getElem hlt, List.mem_append, List.mem_singleton]
      have ht : (l.take k).length = k := by simp; omega
      have hd : (l.drop k).length = l.length - k := by simp
      rw [← List.map_take, ← List.map_drop]; generalize hrk : (if (List.map PV.str (List.take k l)).isEmpty = true then RK.lax else RK.own) = rk1; have hr1 : rk1 ≠ .raw := by rw [← hrk]; split <;> simp
      simp only [List.map_append, hKL, List.map_cons, List.map_nil, AObj.kill, sL, gL, List.isEmpty_cons, Bool.false_eq_true, if_false, List.length_map]
      refine ⟨⟨by simp [Zc], by omega⟩, Zm _, by omega, ⟨Zm [ws[i]], by omega⟩, Zm _, by omega, ⟨Zm _, Z29 _⟩, ⟨by simp [Zc], by omega, by omega⟩, ⟨Zm [ws[i]], by omega⟩, ⟨Zm _, by omega⟩, ⟨Zm [ws[i]], Z29 [ws[i]]⟩, ⟨hr1, .inl (by omega), by omega, by omega⟩, ⟨Zm _, by omega⟩, ⟨Zm _, Z29 _⟩, ⟨by simp, .inl (by omega), trivial, trivial, by omega, by omega⟩, by simp only [InR]; omega,
        (i + 1, Z2z l k ws[i], m + 1), ⟨⟨⟨by simp only [hHl], by simp only; omega⟩, by simp⟩, ?_⟩, ⟨by simp only; omega, by simp only; omega, hpl, hmem⟩, by simp only; omega⟩
      · show Z60 _ (stO (m + 1) (Z2z l k ws[i]))
        unfold stO; rw [Zfz, ← hH]; have e3 : (Z2z l k ws[i]).map PV.str = List.map PV.str (List.take k l) ++ [PV.str ws[i]] ++ List.map PV.str (List.drop k l) := by simp [Z2z]
        rw [e3]; refine Z57 (.inr (.inl ?_)) H
        split <;> rfl

theorem u50 (ws : List (List UInt8)) (hl : ws.length ≤ 1000000) : PFn Tryz.prog 132 [.sl (ws.map .str)] [.sl ((made ws).map .str)] := by
  by_cases hne : ws = []
  · subst hne
    refine PFn.of_body hΓ Tryz.func132 (by kernel_rfl) rfl (Wd [] ?_); simp -implicitDefEqProofs only [Tryz.ntmps132, Tryz.results132, Nat.reduceAdd, Nat.reduceSub, List.map_nil, go_sem]; refine AWp.loopI (fun _ : Nat => ⟨mkF 60 [(0, .p (.sl [])), (3, .full []), (4, .p (.int .i64 0))], []⟩) (fun _ => True) (fun _ => 0) 0 (by simp [go_sem]) trivial ?_; intro k _; refine Wd [(8, 15), (9, 1000)] ?_; have h00 : ((0 : Nat) : Int) = 0 := rfl; simp -implicitDefEqProofs only [Int.lt_irrefl, List.length_nil, h00, go_sem]; rw [show made [] = [] from Zc4 List.Pairwise.nil (fun x => Iff.rfl)]; rfl
  · exact .of_rowO (u50o ws hne hl)

theorem t11 (q : Int) (ws : List (List UInt8)) (hl : ws.length ≤ 9223372036854775807) : PFn Tryz.prog 12 [Za q ws] [.bool (Z43 ws || ws.any Z1w)] := by
  refine PFn.of_body hΓ Tryz.func12 (by kernel_rfl) rfl (Wd [] ?_); have big : ∀ b, (8 < ws.length ∧ ws.length ≤ 64 ∨ 65 < ws.length) → true = (Z43 ws || b) := fun b h => by
    have : Z43 ws = true := by simp only [Z43, Bool.or_eq_true, Bool.and_eq_true, decide_eq_true_eq]; exact h
    rw [this]; rfl
  have small : ¬ (8 < ws.length ∧ ws.length ≤ 64 ∨ 65 < ws.length) → Z43 ws = false := fun h => by
    simp only [Z43, Bool.or_eq_false_iff, Bool.and_eq_false_iff, decide_eq_false_iff_not]; omega
  have hc : ((8 : Int) < ws.length ∧ (ws.length : Int) ≤ 64) ∨ ((8 : Int) < ws.length ∧ ¬ (ws.length : Int) ≤ 64 ∧ (65 : Int) < ws.length) ∨ ((8 : Int) < ws.length ∧ ¬ (ws.length : Int) ≤ 64 ∧ ¬ (65 : Int) < ws.length) ∨ (¬ (8 : Int) < ws.length ∧ ¬ (65 : Int) < ws.length) := by omega
  rcases hc with ⟨h1, h2⟩ | ⟨h1, h2, h3⟩ | hc
  · simp -implicitDefEqProofs only [Tryz.ntmps12, Tryz.results12, Nat.reduceSub, Za, h1, h2, go_sem]
    exact big _ (by omega)
  · simp -implicitDefEqProofs only [Tryz.ntmps12, Tryz.results12, Nat.reduceSub, Za, h1, h2, h3, go_sem]
    exact big _ (by omega)
  have hsm := small (by omega); rw [hsm]; rcases hc with ⟨h1, h2, h3⟩ | ⟨h1, h2⟩
  simp -implicitDefEqProofs only [Tryz.ntmps12, Tryz.results12, Nat.reduceSub, Za, h1, h2, h3, go_sem]
  rotate_left
  simp -implicitDefEqProofs only [Tryz.ntmps12, Tryz.results12, Nat.reduceSub, Za, h1, h2, go_sem]
  all_goals (
    clear big small hsm
    refine AWp.loopI (fun k : Nat => ⟨mkF 52 [(1, .ptr 0 0), (2, .p (.bool false)), (3, .p (.int .i64 k))], [Zy q ws]⟩)
      (fun k => k ≤ ws.length ∧ (ws.take k).any Z1w = false) (fun k => ws.length - k) 0 (by simp [go_sem, Zy]) (by simp) ?_
    rintro k ⟨hk, hno⟩; refine Wd [] ?_; simp +contextual -implicitDefEqProofs only [go_sem, Z3, ↓reduceIte, Zy]; have key : ∀ h : k < ws.length, Z1w ws[k] = true → ws.any Z1w = true := fun h h' => List.any_eq_true.2 ⟨_, List.getElem_mem h, h'⟩
    have step : ∀ h : k < ws.length, Z1w ws[k] = false → InR IntKind.i64 (↑k + 1) ∧ ∃ y : Nat, (↑y : Int) = ↑k + 1 ∧ (y ≤ ws.length ∧ (List.take y ws).any Z1w = false) ∧ ws.length - y < ws.length - k := fun h h' =>
      ⟨by simp only [InR]; omega, k + 1, by simp, ⟨h, by rw [List.take_succ_eq_append_getElem h, List.any_append, hno]; simp [h']⟩, by omega⟩
    have yes : ∀ (h : k < ws.length), Z1w ws[k] = true → true = (false || ws.any Z1w) := fun h h' => by rw [key h h']; rfl
    have fin : ¬ k < ws.length → ws.any Z1w = false := fun h => by rw [List.take_of_length_le (by omega)] at hno; exact hno
    refine ⟨fun h => ⟨fun h1 => ⟨fun h2 => yes h ?_, fun h2 => ⟨fun h3 => yes h ?_, fun h3 => step h ?_⟩⟩, fun h1 => ⟨fun h3 => yes h ?_, fun h3 => step h ?_⟩⟩, fun h => ?_⟩
    · simp only [Z1w, Bool.or_eq_true, Bool.and_eq_true, decide_eq_true_eq]; omega
    · simp only [Z1w, Bool.or_eq_true, Bool.and_eq_true, decide_eq_true_eq]; omega
    · simp only [Z1w, Bool.or_eq_false_iff, Bool.and_eq_false_iff, decide_eq_false_iff_not]; omega
    · simp only [Z1w, Bool.or_eq_true, Bool.and_eq_true, decide_eq_true_eq]; omega
    · simp only [Z1w, Bool.or_eq_false_iff, Bool.and_eq_false_iff, decide_eq_false_iff_not]; omega
    · rw [fin h]; rfl)
theorem u14 (q : Int) (ws : List (List UInt8)) (hl : ws.length ≤ 1000000) : PFn Tryz.prog 134 [.int .i64 q, .sl (ws.map .str)] [if Z6 q (made ws) = 0 then Za q (made ws) else Za 0 [], .int .i64 (Z6 q (made ws))] := by
  refine PFn.of_body hΓ Tryz.func134 (by kernel_rfl) rfl (Wd [] ?_); simp +contextual -implicitDefEqProofs only [Za, Tryz.ntmps134, Tryz.results134, Nat.reduceAdd, Nat.reduceSub, go_sem]; refine Z0 (u50 ws hl) (.pures rfl) ?_; simp -implicitDefEqProofs only [go_sem]; refine ⟨by omega, ?_⟩; refine Z0 (t44 q (made ws)) (.still rfl) ?_; by_cases hc : Z6 q (made ws) = 0
  · rw [hc]
    simp -implicitDefEqProofs only [go_sem]
  · simp -implicitDefEqProofs only [hc, go_sem]

theorem u59 (w : List UInt8) (hw : w.length ≤ 1000000) : PFn Tryz.prog 143 [.str w] [.str w.reverse] := by
  refine PFn.of_body hΓ Tryz.func143 (by kernel_rfl) rfl (Wd [] ?_); simp +contextual -implicitDefEqProofs only [Tryz.ntmps143, Tryz.results143, Nat.reduceAdd, Nat.reduceSub, go_sem]
  refine AWp.loopI (fun k : Nat => ⟨mkF 19 [(0, .p (.str w)), (3, .p (.str (w.take k).reverse)), (4, .p (.int .i64 k))], []⟩)
    (fun k => k ≤ w.length) (fun k => w.length - k) 0 (by simp [go_sem]) (by omega) ?_
  intro k hk; refine Wd [] ?_; by_cases hlt : k < w.length
  · have e1 : ((k : Int) + 1).toNat - k = 1 := by omega
    simp -implicitDefEqProofs only [hlt, e1, go_sem]; have e2 : List.take 1 (w.drop k) ++ (w.take k).reverse = (w.take (k + 1)).reverse := by
      rw [List.take_succ_eq_append_getElem hlt, List.reverse_append, List.drop_eq_getElem_cons hlt]; rfl
    exact ⟨by simp only [InR]; omega, ⟨by omega, by omega⟩, by simp; omega, by simp only [InR]; omega, k + 1, ⟨e2.symm, by omega⟩, hlt, by omega⟩
  · simp -implicitDefEqProofs only [hlt, go_sem]
    rw [List.take_of_length_le (by omega)]

theorem u25 (q : Int) (ws : List (List UInt8)) : PFn Tryz.prog 82 [Za q ws] [if Z6 q ws = 0 then (if Z6 q (made (revs ws)) = 0 then Za q (made (revs ws)) else Za 0 []) else Za 0 [], .int .i64 (if Z6 q ws = 0 then Z6 q (made (revs ws)) else 1)] := by
  refine PFn.of_body hΓ Tryz.func82 (by kernel_rfl) rfl (Wd [] ?_); simp +contextual -implicitDefEqProofs only [Za, Tryz.ntmps82, Tryz.results82, Nat.reduceAdd, Nat.reduceSub, go_sem]; refine Z0 (t44 q ws) (.still rfl) ?_; by_cases h : Z6 q ws = 0
  · have hv := Z0e h
    have hws := hv.len; have hsh : ∀ i (hi : i < ws.length), ws[i].length ≤ 32 := fun i hi => by
      have := hv.short i hi
      rwa [List.getD_eq_getElem?_getD, List.getElem?_eq_getElem hi, Option.getD_some] at this
    rw [h]; simp -implicitDefEqProofs only [go_sem]; refine AWp.adopt (l := []) 4 9 1 (by rfl) (by simp) ?_; simp -implicitDefEqProofs only [go_sem]
    refine AWp.loopI (fun k : Nat => ⟨mkF 32 [(1, .ptr 0 0), (2, .ptr 1 0), (3, .p (.int .i64 0)), (4, .own 2 k), (5, .p (.int .i64 k))], [Zy q ws, .box [.p (.int .i64 0), .full []], .row 9 1 ((revs (ws.take k)).map .str) .lax]⟩)
      (fun k => k ≤ ws.length) (fun k => ws.length - k) 0 (by simp [go_sem, Zy, revs]) (by simp) ?_
    intro k hk; by_cases hlt : k < ws.length
    · refine Wd [] ?_
      simp -implicitDefEqProofs only [hlt, Z3, ↓reduceIte, Zy, go_sem]; refine Z0 (u59 ws[k] (by have := hsh k hlt; omega)) (.pures rfl) ?_; simp -implicitDefEqProofs only [go_sem]; have hs : revs (ws.take (k + 1)) = revs (ws.take k) ++ [ws[k].reverse] := by
        unfold revs; rw [List.take_succ_eq_append_getElem hlt, List.map_append]; rfl
      exact ⟨⟨Zm [_], by omega⟩, ⟨Zm [_], Z29 [_]⟩, ⟨.inl (by omega), by omega, by omega⟩, by simp only [InR]; omega, k + 1, by rw [hs]; simp, hlt, by omega⟩
    · refine AWp.freeze 2 rfl ?_
      rw [List.take_of_length_le (by omega)]; refine Wd [] ?_; simp -implicitDefEqProofs only [hlt, Zy, Z0f, go_sem]; have e71 := u14 q (revs ws) (by simp [revs]; omega); by_cases hc : Z6 q (made (revs ws)) = 0
      · rw [if_pos hc, hc] at e71
        refine Z0 e71 (.pures rfl) ?_; simp -implicitDefEqProofs only [Za, hc, go_sem]
      · rw [if_neg hc] at e71
        refine Z0 e71 (.pures rfl) ?_; simp -implicitDefEqProofs only [Za, hc, go_sem]
  · simp -implicitDefEqProofs only [h, go_sem]

open Classical in
noncomputable def fleA (q : Int) (l : List Int) : Int := if q < 2 ∨ 16 < q then 12 else if l = [] then 5 else if 64 < l.length then 4 else if ∃ n ∈ l, badN n then 2 else 0

theorem h24e (q : Int) (l : List Int) (hb : fleA q l ≠ 0) :
    PFn Tryz.prog 24 [.int .i64 q, .sl (l.map (.int .i64))] [Za 0 [], .sl [], .int .i64 (fleA q l)] := by
  unfold fleA at *; by_cases hq : q < 2 ∨ 16 < q
  · rw [if_pos hq]
    refine PFn.of_body hΓ Tryz.func24 (by kernel_rfl) rfl (AWp.seq (Wd [] ?_)); simp -implicitDefEqProofs only [Tryz.ntmps24, Tryz.results24, Nat.reduceAdd, Nat.reduceSub, go_sem]; refine AWp.seq (Wd [] ?_); by_cases h2 : q < 2
    · simp -implicitDefEqProofs only [h2, Za, List.map_nil, go_sem]
    · have h3 : 16 < q := by omega
      simp -implicitDefEqProofs only [h2, h3, Za, List.map_nil, go_sem]
  rw [if_neg hq] at *; have hqa : ¬ q < 2 := by omega
  have hqb : ¬ 16 < q := by omega
  by_cases hl : l = []
  · rw [if_pos hl]
    have h0 : (l.length : Int) = 0 := by rw [hl]; rfl
    refine PFn.of_body hΓ Tryz.func24 (by kernel_rfl) rfl (AWp.seq (Wd [] ?_)); simp -implicitDefEqProofs only [Tryz.ntmps24, Tryz.results24, Nat.reduceAdd, Nat.reduceSub, go_sem]; refine AWp.seq (Wd [] ?_); simp -implicitDefEqProofs only [hqa, hqb, go_sem]; refine AWp.seq (Wd [] ?_); simp -implicitDefEqProofs only [h0, Za, List.length_map, List.map_nil, go_sem]
  rw [if_neg hl] at *; have hna : ¬ (l.length : Int) = 0 := by
    have := List.length_pos_iff.2 hl; omega
  by_cases h64 : 64 < l.length
  · rw [if_pos h64]
    have hnc : (64 : Int) < (l.length : Int) := by omega
    refine PFn.of_body hΓ Tryz.func24 (by kernel_rfl) rfl (AWp.seq (Wd [] ?_)); simp -implicitDefEqProofs only [Tryz.ntmps24, Tryz.results24, Nat.reduceAdd, Nat.reduceSub, go_sem]; refine AWp.seq (Wd [] ?_); simp -implicitDefEqProofs only [hqa, hqb, go_sem]; refine AWp.seq (Wd [] ?_); simp -implicitDefEqProofs only [hna, List.length_map, go_sem]; refine AWp.seq (Wd [] ?_); simp -implicitDefEqProofs only [hnc, Za, List.length_map, List.map_nil, go_sem]
  rw [if_neg h64] at *; have hnc : ¬ (64 : Int) < (l.length : Int) := by omega
  by_cases hbd : ∃ n ∈ l, badN n
  rotate_left
  · rw [if_neg hbd] at hb; exact absurd rfl hb
  rw [if_pos hbd]; have h20 : ¬ (2 : Int) = 0 := by omega
  obtain ⟨p, rfl⟩ : ∃ p : Nat, q = p := ⟨q.toNat, by omega⟩; have e51 := h51e p l (by omega) (by omega) (by omega) hbd; refine PFn.of_body hΓ Tryz.func24 (by kernel_rfl) rfl (AWp.seq (Wd [] ?_)); simp -implicitDefEqProofs only [Tryz.ntmps24, Tryz.results24, Nat.reduceAdd, Nat.reduceSub, go_sem]; refine AWp.seq (Wd [] ?_); simp -implicitDefEqProofs only [hqa, hqb, go_sem]; refine AWp.seq (Wd [] ?_); simp -implicitDefEqProofs only [hna, List.length_map, go_sem]; refine AWp.seq (Wd [] ?_); simp -implicitDefEqProofs only [hnc, List.length_map, go_sem]; refine AWp.seq (Wd [] ?_); simp -implicitDefEqProofs only [go_sem]; refine Z0 e51 (.pures rfl) ?_; simp -implicitDefEqProofs only [go_sem]; refine AWp.seq (Wd [] ?_); simp -implicitDefEqProofs only [h20, Za, List.map_nil, go_sem]

theorem cm13e (q : Int) (l : List Int) (hb : fleA q l ≠ 0) :
    PFn Tryz.prog 23 [.int .i64 q, .sl (l.map (.int .i64))] [Za 0 [], .sl [], .int .i64 (fleA q l)] := by
  unfold fleA at *; by_cases hq : q < 2 ∨ 16 < q
  · rw [if_pos hq]
    refine PFn.of_body hΓ Tryz.func23 (by kernel_rfl) rfl (AWp.seq (Wd [] ?_)); simp -implicitDefEqProofs only [Tryz.ntmps23, Tryz.results23, Nat.reduceAdd, Nat.reduceSub, go_sem]; refine AWp.seq (Wd [] ?_); by_cases h2 : q < 2
    · simp -implicitDefEqProofs only [h2, Za, List.map_nil, go_sem]
    · have h3 : 16 < q := by omega
      simp -implicitDefEqProofs only [h2, h3, Za, List.map_nil, go_sem]
  rw [if_neg hq] at *; have hqa : ¬ q < 2 := by omega
  have hqb : ¬ 16 < q := by omega
  by_cases hl : l = []
  · rw [if_pos hl]
    have h0 : (l.length : Int) = 0 := by rw [hl]; rfl
    refine PFn.of_body hΓ Tryz.func23 (by kernel_rfl) rfl (AWp.seq (Wd [] ?_)); simp -implicitDefEqProofs only [Tryz.ntmps23, Tryz.results23, Nat.reduceAdd, Nat.reduceSub, go_sem]; refine AWp.seq (Wd [] ?_); simp -implicitDefEqProofs only [hqa, hqb, h0, Za, List.length_map, List.map_nil, go_sem]
  rw [if_neg hl] at *; have hna : ¬ (l.length : Int) = 0 := by
    have := List.length_pos_iff.2 hl; omega
  by_cases h64 : 64 < l.length
  · rw [if_pos h64]
    have hnc : (64 : Int) < (l.length : Int) := by omega
    refine PFn.of_body hΓ Tryz.func23 (by kernel_rfl) rfl (AWp.seq (Wd [] ?_)); simp -implicitDefEqProofs only [Tryz.ntmps23, Tryz.results23, Nat.reduceAdd, Nat.reduceSub, go_sem]; refine AWp.seq (Wd [] ?_); simp -implicitDefEqProofs only [hqa, hqb, hna, hnc, Za, List.length_map, List.map_nil, go_sem]
  rw [if_neg h64] at *; have hnc : ¬ (64 : Int) < (l.length : Int) := by omega
  by_cases hbd : ∃ n ∈ l, badN n
  rotate_left
  · rw [if_neg hbd] at hb; exact absurd rfl hb
  rw [if_pos hbd]; have hnb : l.any Kn.badL = true := by
    obtain ⟨n, hn, h⟩ := hbd; refine List.any_eq_true.2 ⟨n, hn, ?_⟩; unfold Kn.badL; simp only [Bool.or_eq_true, decide_eq_true_eq]; exact h
  have e48 : ∀ h : List AObj, AC Tryz.prog 70 [.p (.sl (l.map (.int .i64))), .fn 71 []] h [] (fun v h' => v = .p (.bool true) ∧ h' = h) := fun h => by
    have := Kn.c48 (h := h) (g := 71) (caps := []) (pr := Kn.badL) l (by omega) fun w _ => c49a w
    rw [hnb] at this; exact this
  refine PFn.of_body hΓ Tryz.func23 (by kernel_rfl) rfl (AWp.seq (Wd [] ?_)); simp -implicitDefEqProofs only [Tryz.ntmps23, Tryz.results23, Nat.reduceAdd, Nat.reduceSub, go_sem]; refine AWp.seq (Wd [] ?_); simp -implicitDefEqProofs only [hqa, hqb, hna, hnc, List.length_map, go_sem]; refine Zg (e48 _) (by simp) ?_; rintro v h' ⟨rfl, rfl⟩; simp -implicitDefEqProofs only [Z8, List.foldl, Za, List.map_nil, go_sem]

theorem h81 (q : Int) (ws : List (List UInt8)) (hl : ws.length ≤ 1000000) : PFn Tryz.prog 81 [Za q ws] [.sl ((ws.map List.length).map Kn.nV)] := by
  refine PFn.of_body hΓ Tryz.func81 (by kernel_rfl) rfl (Wd [] ?_); simp +contextual -implicitDefEqProofs only [Za, Tryz.ntmps81, Tryz.results81, Nat.reduceAdd, Nat.reduceSub, go_sem]; refine AWp.adopt (l := []) 3 3 1 (by rfl) (by simp) ?_; simp -implicitDefEqProofs only [go_sem]
  refine AWp.loopI (fun i : Nat => ⟨mkF 22 [(1, .ptr 0 0), (3, .own 1 ((ws.map List.length).take i).length), (4, .p (.int .i64 i))], [.box [.p (.int .i64 q), .p (.sl (ws.map .str))], .row 3 1 (((ws.map List.length).take i).map Kn.nV) .lax]⟩)
    (fun i => i ≤ ws.length) (fun i => ws.length - i) 0 (by simp [go_sem]) (by omega) ?_
  intro i hi; refine Wd [] ?_; by_cases hlt : i < ws.length
  · have hgi : (ws.map PV.str).getD i default = .str ws[i] := Z3 _ _ _ _ hlt
    have htk : (ws.map List.length).take (i + 1) = (ws.map List.length).take i ++ [ws[i].length] := by
      rw [List.take_succ_eq_append_getElem (by simpa using hlt), List.getElem_map]
    have hli : ((ws.map List.length).take i).length = i := by simp; omega
    have hs1 : Zc [PV.int .i64 (ws[i].length : Int)] 1 := by simp [Zc, PV.cells]
    have ho1 : Z0y [PV.int .i64 (ws[i].length : Int)] := by simp [Z0y, PV.cells, PV.isAgg]
    simp -implicitDefEqProofs only [hlt, hgi, Int.toNat_natCast, go_sem]; refine ⟨⟨hs1, by omega⟩, ⟨hs1, ho1⟩, ⟨by simp, by omega, by omega⟩, by simp only [InR]; omega, i + 1, ⟨⟨by rw [htk]; simp, by simp⟩, .inr ?_⟩, hlt, by omega⟩; rw [htk]; simp [Kn.nV]
  have hiW : i = ws.length := by omega
  subst hiW; simp -implicitDefEqProofs only [Nat.lt_irrefl, Int.lt_irrefl, go_sem]; rw [List.take_of_length_le (by simp)]

theorem h26 (q : Int) (ws : List (List UInt8)) (hl : Z6 q ws = 0 → ws.length < 20) : PFn Tryz.prog 26 [Za q ws] [prV q ws, .int .i64 (prE q ws)] := by
  have e75 := t44 q ws; unfold prV prE; refine PFn.of_body hΓ Tryz.func26 (by kernel_rfl) rfl (AWp.seq (Wd [] ?_)); simp -implicitDefEqProofs only [Tryz.ntmps26, Tryz.results26, Nat.reduceAdd, Nat.reduceSub, Za, go_sem]; unfold Za at e75; refine AWp.seq ?_; refine Wd [] ?_; simp -implicitDefEqProofs only [go_sem]; refine Z0 e75 (.still rfl) ?_; by_cases h : Z6 q ws = 0
  rotate_left
  · rw [if_neg h, if_neg h]
    simp -implicitDefEqProofs only [h, Za, List.map_nil, go_sem]
  rw [if_pos h, if_pos h]; have hv := Z0e h; have hlt20 := hl h; have hpos := hv.pos; have h2 := hv.q2; have h16 := hv.q16; obtain ⟨p, rfl⟩ : ∃ p : Nat, q = p := ⟨q.toNat, by omega⟩; rw [Int.toNat_natCast]; have e13 := h24 p (ws.map List.length) (by omega) (by omega) (by simpa using hpos) (by simpa using hlt20) (Zgy hv); have e81 := h81 p ws (by omega); obtain ⟨p1, us, hpu⟩ := Z6l p (ws.map List.length); rw [hpu] at e13 ⊢; unfold Za at e13 e81; rw [h]; simp -implicitDefEqProofs only [go_sem]; refine Wd [(3, 1000)] ?_; simp -implicitDefEqProofs only [go_sem]; refine AWp.planL (.q 0 (.q 1 (.q 2 (.e 3 (.s 0 (.s 1 (.e 4 (.q 5 (.q 6 (.q 7 (.q 8 (.e 9 (.s 0 (.s 1 (.s 2 (.s 5 (.s 6 (.s 7 (.s 8 (.e 10 (.s 7 (.s 8 (.q 11 (.q 12 .fin)))) .nil)))))))) .nil))))) (.e 9 (.s 0 (.s 1 (.s 2 (.e 4 (.q 5 (.q 6 (.q 7 (.q 8 (.e 10 (.s 7 (.s 8 (.q 11 (.q 12 .fin)))) .nil))))) .nil)))) .nil)))) (.e 9 (.s 0 (.s 1 (.s 2 (.e 3 (.s 0 (.s 1 (.e 4 (.q 5 (.q 6 (.q 7 (.q 8 (.e 10 (.s 7 (.s 8 (.q 11 (.q 12 .fin)))) .nil))))) .nil))) .nil)))) .nil))))) hΓ hmix (by kernel_rfl) ?_; simp -implicitDefEqProofs only [go_sem]
  repeat' first
    | (refine Z0 e81 (.still rfl) ?_; simp -implicitDefEqProofs only [go_sem])
    | (refine Z0 e13 (.pures rfl) ?_; simp -implicitDefEqProofs only [Za, go_sem])
    | (refine And.intro ?_ ?_)

theorem h28 (q : Int) (ws : List (List UInt8)) (hl : Z6 q ws = 0 → ws.length < 20) : PFn Tryz.prog 28 [Za q ws] [sfV q ws, .int .i64 (prE q ws)] := by
  have e35 := h26 q ws hl; refine PFn.of_body hΓ Tryz.func28 (by kernel_rfl) rfl (AWp.seq (Wd [] ?_)); simp -implicitDefEqProofs only [Tryz.ntmps28, Tryz.results28, Nat.reduceAdd, Nat.reduceSub, Za, go_sem]; unfold sfV; by_cases h : prE q ws = 0
  · obtain ⟨hc, hk, hV, hW, hP⟩ := Z9e h hl
    rw [hV, h] at e35; have e39 := u25 q (canW q ws); have hr := Z74 (Z0e hW); rw [if_pos hW, if_pos hW, if_pos hr, hr] at e39; rw [h, if_pos rfl]; unfold Za at e35 e39 ⊢; refine Wd [] ?_; simp -implicitDefEqProofs only [go_sem]; refine Z0 e35 (.still rfl) ?_; simp -implicitDefEqProofs only [go_sem]; refine Z0 e39 (.still rfl) ?_; simp -implicitDefEqProofs only [go_sem]
  · obtain ⟨p1, us, hpu⟩ : ∃ p us, prV q ws = Za p us := by
      unfold prV
      split
      · exact Z6l _ _
      · exact ⟨0, [], rfl⟩
    rw [hpu] at e35; rw [if_neg h]; unfold Za at e35 ⊢; refine Wd [] ?_; simp -implicitDefEqProofs only [go_sem]; refine Z0 e35 (.still rfl) ?_; simp -implicitDefEqProofs only [h, List.map_nil, go_sem]
end Go.Proofs.YtpljmccnfmkmfaaGreat
end

section
namespace Go.Proofs.YtpljmccnfmkmfaaGreat
open Go Go.AM Go.RowKit

theorem c61z {h : List AObj} : AC Tryz.prog 133 [.full [], .p (.int .i64 (0 : Nat))] h [] (fun v h' => v = .full [] ∧ h' = h) := by
  refine ⟨Zu Tryz.func133 (by kernel_rfl) rfl, fun X I μ ob w cargs R hlen hargs _ => ?_⟩; obtain ⟨a0, b0, rfl⟩ : ∃ a b, cargs = [a, b] := by
    match cargs, hlen with
    | [a, b], _ => exact ⟨a, b, rfl⟩
  have g0 := hargs 0 (by simp); have g1 := hargs 1 (by simp); simp only [List.getD_cons_zero, List.getD_cons_succ] at g0 g1; obtain ⟨a, rfl, hp⟩ : ∃ a, a0 = .slice a 0 0 ∧ PR I w (.sl []) (.slice a 0 0) := by
    cases g0 with
    | full l a hp => exact ⟨a, rfl, hp⟩
  rw [g1.int_inv]; have hc := Any8.slices_Grow_room (ρ := Tryz.growS_ren) Tryz.growS a 0 0 0 w (by omega) (by omega) (by omega) (by omega); refine Calls.mono (P := Tryz.prog) hc ?_; rintro e w' ⟨rfl, rfl⟩; exact ⟨_, .full [], h, I, μ, ob, rfl, R, .full [] a hp, fun _ h => h, fun _ _ _ => rfl, Nat.le_refl _, fun g hg => .inl hg, fun b g hb => .inl ⟨b, hb⟩, fun _ _ _ => rfl, rfl, rfl⟩

theorem c29z {h : List AObj} (hK : h.map (AObj.kill h.length) = h) : AC Tryz.prog 66 [.p (.sl (wssV [[], []]))] h [] (fun v h' => v = .own h.length 0 ∧ h' = h ++ [.row 9 1 [] .lax]) := by
  refine AC.of_bodyE hΓ Tryz.func66 (by kernel_rfl) rfl (AWp.mono (Q := fun e st => AM.Ends e ∧ st.tmps.getD 2 .junk = .own h.length 0 ∧ st.h = h ++ [.row 9 1 [] .lax]) ?_ ?_)
  rotate_left
  · rintro e ⟨tm, h'⟩ ⟨he, h1, h2⟩
    simp only at h1 h2; subst h2; refine ⟨he, _, Less.refl _, ?_⟩; unfold Z1i; simp +contextual -implicitDefEqProofs only [Tryz.results66, h1, go_sem]; exact ⟨h.length + 1, by omega, .inl (by simp), List.take_of_length_le (by simp)⟩
  have hw : wssV [[], []] = [.sl [], .sl []] := rfl; rw [hw]; refine Wd [] ?_; simp -implicitDefEqProofs only [Tryz.ntmps66, Nat.reduceAdd, Nat.reduceSub, go_sem]
  refine AWp.loopI (fun k : Nat => ⟨mkF 36 [(0, .p (.sl [.sl [], .sl []])), (2, .full []), (3, .p (.int .i64 (0 : Nat))), (9, .p (.sl [.sl [], .sl []])), (10, .p (.int .i64 2)), (11, .p (.int .i64 k))], h⟩)
    (fun k => k ≤ 2) (fun k => 2 - k) 0 (by simp [go_sem, Zb]) (by omega) ?_
  intro k hk; refine Wd [] ?_; by_cases hlt : k < 2
  · have hlt' : (k : Int) < 2 := by omega
    have hg : ([PV.sl [], PV.sl []] : List PV).getD k default = .sl [] := by
      match k, hlt with
      | 0, _ => rfl
      | 1, _ => rfl
    have h6 : ¬ ((0 : Nat) : Int) + ((0 : Nat) : Int) < 0 := by omega
    simp -implicitDefEqProofs only [hlt', hg, Int.toNat_natCast, h6, ↓reduceIte, go_sem]; exact ⟨by omega, by simp only [InR]; omega, by simp only [InR]; omega, k + 1, ⟨⟨by omega, by omega⟩, Zb _⟩, hlt, by omega⟩
  · have hlt' : ¬ (k : Int) < 2 := by omega
    simp -implicitDefEqProofs only [hlt', go_sem]; refine Zg c61z (by simp) ?_; rintro v h' ⟨rfl, rfl⟩; have gL : ∀ o : AObj, (h' ++ [o])[h'.length]? = some o := fun o => by simp
    have sL : ∀ o o' : AObj, (h' ++ [o]).set h'.length o' = h' ++ [o'] := fun o o' => by simp
    simp -implicitDefEqProofs only [Z8, List.foldl, go_sem]; refine AWp.adopt (l := []) 6 9 1 (by rfl) (by simp) ?_; simp -implicitDefEqProofs only [go_sem]
    refine AWp.loopI (fun j : Nat => ⟨mkF 36 [(0, .p (.sl [.sl [], .sl []])), (6, .own h'.length 0), (25, .p (.sl [.sl [], .sl []])), (26, .p (.int .i64 2)), (27, .p (.int .i64 j))], h' ++ [.row 9 1 [] .lax]⟩)
      (fun j => j ≤ 2) (fun j => 2 - j) 0 (by simp [go_sem, Zb]) (by omega) ?_
    intro j hj; refine Wd [] ?_; by_cases hlt2 : j < 2
    · have hlt2' : (j : Int) < 2 := by omega
      have hg : ([PV.sl [], PV.sl []] : List PV).getD j default = .sl [] := by
        match j, hlt2 with
        | 0, _ => rfl
        | 1, _ => rfl
      simp -implicitDefEqProofs only [hlt2', hg, Int.toNat_natCast, gL, sL, hK, List.append_nil, go_sem]; refine ⟨by omega, ⟨by simp [Zc], by simp [Z0y]⟩, ⟨by omega, by omega⟩, by simp only [InR]; omega, j + 1, ⟨by omega, ?_⟩, by omega, by omega⟩; simp only [List.map_append, hK, List.map_cons, List.map_nil, sL, List.isEmpty_nil, ↓reduceIte]; exact Zb _
    · have hlt2' : ¬ (j : Int) < 2 := by omega
      simp -implicitDefEqProofs only [hlt2', go_sem]

theorem c29b {h : List AObj} (hK : h.map (AObj.kill h.length) = h) (A B : List (List UInt8)) (hn : (A ++ B).length ≤ 1000000) :
    AC Tryz.prog 66 [.p (.sl (wssV [A, B]))] h [] (fun v h' => ∃ rk, rk ≠ .raw ∧ v = .own h.length (A ++ B).length ∧ h' = h ++ [.row 9 1 ((A ++ B).map .str) rk]) := by
  have hf : [A, B].flatten = A ++ B := by simp
  by_cases h0 : 0 < (A ++ B).length
  · have hc := c29 hK [A, B] (by rw [hf]; exact h0) (by rw [hf]; exact hn) (by simp)
    rw [hf] at hc; exact hc.monoR fun v h' ⟨h1, h2⟩ => ⟨.own, by simp, h1, h2⟩
  · have hA : A = [] := List.length_eq_zero_iff.1 (by rw [List.length_append] at h0; omega)
    have hB : B = [] := List.length_eq_zero_iff.1 (by rw [List.length_append] at h0; omega); subst hA hB; exact (c29z hK).monoR fun v h' ⟨h1, h2⟩ => ⟨.lax, by simp, h1, h2⟩

theorem cm60 (a : List Int) (x : Int) (hl : a.length ≤ 9223372036854775807) : PFn Tryz.prog 181 [.sl (a.map Kn.iV), .int .i64 x] [.int .i64 (if x ∈ a then (a.idxOf x : Int) else -1)] := by
  refine PFn.of_body hΓ Tryz.func181 (by kernel_rfl) rfl (Wd [] ?_); simp -implicitDefEqProofs only [Tryz.ntmps181, Tryz.results181, Nat.reduceAdd, Nat.reduceSub, go_sem]
  refine AWp.loopI (fun k : Nat => ⟨mkF 19 [(0, .p (.sl (a.map Kn.iV))), (1, .p (.int .i64 x)), (7, .p (.int .i64 a.length)), (8, .p (.int .i64 k))], []⟩)
    (fun k => k ≤ a.length ∧ x ∉ a.take k) (fun k => a.length - k) 0 (by simp [go_sem, Zb]) (by simp) ?_
  rintro k ⟨hk, h0⟩; refine Wd [] ?_; by_cases hlt : k < a.length
  · have hlt' : (k : Int) < (a.length : Int) := by omega
    have hg : (a.map Kn.iV).getD k default = .int .i64 a[k] := by rw [Z3 _ _ _ _ hlt]; rfl
    have htk : a.take (k + 1) = a.take k ++ [a[k]] := by rw [List.take_succ_eq_append_getElem hlt]
    by_cases he : x = a[k]
    · simp -implicitDefEqProofs only [hlt', hg, Int.toNat_natCast, he, List.length_map, go_sem]
      have hx : x ∈ a := he ▸ List.getElem_mem hlt; have hi : a.idxOf x = k := by
        conv => lhs; rw [← List.take_append_drop k a, List.idxOf_append, if_neg h0]
        rw [List.drop_eq_getElem_cons hlt, he, List.idxOf_cons_self, List.length_take]; omega
      rw [← he, if_pos hx, hi]
    · simp -implicitDefEqProofs only [hlt', hg, Int.toNat_natCast, he, List.length_map, go_sem]
      have h2 : x ∉ a.take (k + 1) := by
        rw [htk]; simp only [List.mem_append, List.mem_singleton]; exact fun h => h.elim h0 he
      exact ⟨by simp only [InR]; omega, k + 1, by simp [Zb], ⟨hlt, h2⟩, by omega⟩
  · have hlt' : ¬ (k : Int) < (a.length : Int) := by omega
    simp -implicitDefEqProofs only [hlt', List.length_map, go_sem]; rw [List.take_of_length_le (by omega)] at h0; rw [if_neg h0]
def outR (ws : List (List UInt8)) (k : Int) : Bool := decide (k < 0) || decide ((ws.length : Int) ≤ k)
end Go.Proofs.YtpljmccnfmkmfaaGreat
end

section
namespace Go.Proofs.YtpljmccnfmkmfaaGreat
open Go Go.AM

theorem cm16 (a : List Int) (x : Int) (hl : a.length ≤ 9223372036854775807) : PFn Tryz.prog 124 [.sl (a.map Kn.iV), .int .i64 x] [.bool (decide (x ∈ a))] := by
  have e := cm60 a x hl; by_cases hx : x ∈ a
  · rw [if_pos hx] at e
    refine PFn.of_body hΓ Tryz.func124 (by kernel_rfl) rfl (Wd [] ?_); simp -implicitDefEqProofs only [Tryz.ntmps124, Tryz.results124, Nat.reduceAdd, Nat.reduceSub, go_sem]; refine Z0 e (.pures rfl) ?_; simp -implicitDefEqProofs only [hx, go_sem]
    try simp
  · rw [if_neg hx] at e
    refine PFn.of_body hΓ Tryz.func124 (by kernel_rfl) rfl (Wd [] ?_); simp -implicitDefEqProofs only [Tryz.ntmps124, Tryz.results124, Nat.reduceAdd, Nat.reduceSub, go_sem]; refine Z0 e (.pures rfl) ?_; simp -implicitDefEqProofs only [hx, go_sem]
    try simp

theorem c72 {h : List AObj} {b : Nat} (q : Int) (ws : List (List UInt8)) (k : Int) (hb : h[b]? = some (Zy q ws)) :
    AC Tryz.prog 123 [.p (.int .i64 k), .ptr b 0] h [] (fun v h' => v = .p (.bool (outR ws k)) ∧ h' = h) := by
  refine AC.of_bodyE hΓ Tryz.func123 (by kernel_rfl) rfl (AWp.mono (Q := fun e st => AM.Ends e ∧ st.tmps.getD 3 .junk = .p (.bool (outR ws k)) ∧ st.h = h) ?_ ?_)
  rotate_left
  · rintro e ⟨tm, h'⟩ ⟨he, h1, h2⟩
    simp only at h1 h2; subst h2; refine ⟨he, _, Less.refl _, ?_⟩; unfold Z1i; simp +contextual -implicitDefEqProofs only [Tryz.results123, h1, go_sem]; exact ⟨_, Nat.le_refl _, .inl rfl, List.take_length⟩
  unfold outR; unfold Zy at hb; refine Wd [(1, 3)] ?_; by_cases h1 : k < 0
  · simp -implicitDefEqProofs only [Tryz.ntmps123, Nat.reduceAdd, Nat.reduceSub, hb, h1, go_sem]
    try simp [h1]
  · simp -implicitDefEqProofs only [Tryz.ntmps123, Nat.reduceAdd, Nat.reduceSub, hb, h1, List.length_map, go_sem]
    try simp [h1]

def Z1v (ws : List (List UInt8)) (l : List Int) (n : Nat) : List (List UInt8) := (List.range n).flatMap fun k : Nat => if (k : Int) ∈ l then [] else [ws.getD k []]
theorem Zh0 {ws : List (List UInt8)} {l : List Int} {n : Nat} (h : (n : Int) ∈ l) : Z1v ws l (n + 1) = Z1v ws l n := by
  unfold Z1v; rw [List.range_succ, List.flatMap_append]; simp [h]
theorem Zdk {ws : List (List UInt8)} {l : List Int} {n : Nat} (h : ¬ (n : Int) ∈ l) (hn : n < ws.length) : Z1v ws l (n + 1) = Z1v ws l n ++ [ws[n]] := by
  unfold Z1v; rw [List.range_succ, List.flatMap_append]; simp [h, List.getD_eq_getElem?_getD, List.getElem?_eq_getElem hn]
theorem Z7f (ws : List (List UInt8)) (l : List Int) : ∀ n, (Z1v ws l n).length ≤ n
  | 0 => by simp [Z1v]
  | n + 1 => by
    have ih := Z7f ws l n; have e : Z1v ws l (n + 1) = Z1v ws l n ++ (if (n : Int) ∈ l then [] else [ws.getD n []]) := by unfold Z1v; rw [List.range_succ, List.flatMap_append]; simp
    rw [e, List.length_append]
    split <;> simp only [List.length_nil, List.length_cons] <;> omega
theorem Zh1 {ws : List (List UInt8)} {l : List Int} {n : Nat} (hn : n ≤ ws.length) : ∀ x ∈ Z1v ws l n, x ∈ ws := fun x hx => by
  unfold Z1v at hx; obtain ⟨k, hk, hx⟩ := List.mem_flatMap.1 hx; have hk := List.mem_range.1 hk
  split at hx
  · cases hx
  · rw [List.mem_singleton.1 hx, List.getD_eq_getElem?_getD, List.getElem?_eq_getElem (show k < ws.length by omega), Option.getD_some]
    exact List.getElem_mem _
def Z08 (L : List (List UInt8)) (i : Nat) : List (List UInt8) := L.take i ++ L.drop (i + 1)
def cutN (os : List (List UInt8)) (w : List UInt8) : Nat := ((List.range (w.length + 1)).find? fun n : Nat => decide (0 < n) && !(os.any fun x => (w.take n).isPrefixOf x)).getD (w.length + 1)
def cutL (os : List (List UInt8)) (w : List UInt8) : List (List UInt8) := if cutN os w ≤ w.length then [w.take (cutN os w)] else []
def Z12 (L : List (List UInt8)) (n : Nat) : List (List UInt8) := (List.range n).flatMap fun i : Nat => cutL (Z08 L i) (L.getD i [])
theorem Z2p {L : List (List UInt8)} {n : Nat} (hn : n < L.length) : Z12 L (n + 1) = Z12 L n ++ cutL (Z08 L n) L[n] := by
  unfold Z12; rw [List.range_succ, List.flatMap_append]; simp [List.getD_eq_getElem?_getD, List.getElem?_eq_getElem hn]

theorem Zi1 (os : List (List UInt8)) (w : List UInt8) : cutN os w ≤ w.length + 1 := by
  unfold cutN
  cases h : (List.range (w.length + 1)).find? fun n : Nat => decide (0 < n) && !(os.any fun x => (w.take n).isPrefixOf x) with
  | none => simp
  | some n =>
    have := List.mem_of_find?_eq_some h; rw [List.mem_range] at this; simp only [Option.getD_some]; omega
theorem Zi2 {os : List (List UInt8)} {w : List UInt8} (h : cutN os w ≤ w.length) : 0 < cutN os w ∧ (os.any fun x => (w.take (cutN os w)).isPrefixOf x) = false := by
  unfold cutN at h ⊢
  cases hf : (List.range (w.length + 1)).find? fun n : Nat => decide (0 < n) && !(os.any fun x => (w.take n).isPrefixOf x) with
  | none =>
    have h' : (none : Option Nat).getD (w.length + 1) ≤ w.length := by rw [← hf]; exact h
    rw [Option.getD_none] at h'; omega
  | some n =>
    have := List.find?_some hf; simp only [Bool.and_eq_true, decide_eq_true_eq, Bool.not_eq_true'] at this; exact this
theorem Zi0 {os : List (List UInt8)} {w : List UInt8} {n : Nat} (h : n < cutN os w) (hn : n ≤ w.length) : n = 0 ∨ (os.any fun x => (w.take n).isPrefixOf x) = true := by
  unfold cutN at h; rcases Nat.eq_zero_or_pos n with h0 | h0
  · exact .inl h0
  refine .inr ?_
  cases hf : (List.range (w.length + 1)).find? fun n : Nat => decide (0 < n) && !(os.any fun x => (w.take n).isPrefixOf x) with
  | none =>
    have := List.find?_eq_none.1 hf n (List.mem_range.2 (by omega))
    cases hb : (os.any fun x => (w.take n).isPrefixOf x)
    · exact absurd (by simp [hb, h0]) this
    · rfl
  | some m =>
    rw [hf] at h; simp only [Option.getD_some] at h; obtain ⟨_, ls, bs, hab, hls⟩ := List.find?_eq_some_iff_append.1 hf
    cases hb : (os.any fun x => (w.take n).isPrefixOf x)
    · have hmem : n ∈ ls := by
        have hnr : n ∈ List.range (w.length + 1) := List.mem_range.2 (by omega); have hp := List.pairwise_lt_range (n := w.length + 1); rw [hab] at hnr hp; rcases List.mem_append.1 hnr with h1 | h1
        · exact h1
        · rcases List.mem_cons.1 h1 with h2 | h2
          · omega
          · have := (List.pairwise_cons.1 (List.pairwise_append.1 hp).2.1).1 n h2
            omega
      have := hls n hmem; simp [h0, hb] at this
    · rfl

theorem Z3n (L : List (List UInt8)) : ∀ n, (Z12 L n).length ≤ n
  | 0 => by simp [Z12]
  | n + 1 => by
    have ih := Z3n L n; have e : Z12 L (n + 1) = Z12 L n ++ cutL (Z08 L n) (L.getD n []) := by unfold Z12; rw [List.range_succ, List.flatMap_append]; simp
    rw [e, List.length_append]; unfold cutL
    split <;> simp only [List.length_nil, List.length_cons] <;> omega
def puH (q : Int) (ws : List (List UInt8)) (os : List (List UInt8)) (rk : RK) (w : List UInt8) (out : List (List UInt8)) (rk4 : RK) (rec : AObj) : List AObj :=
  [.box [.p (.int .i64 q), .p (.sl (ws.map .str))], .box [.p (.int .i64 0), .full []], .dead, .box [.own 4 out.length], .row 9 1 (out.map .str) rk4, .row 9 1 (os.map .str) rk, .box [.own 5 os.length], .box [.p (.str w)], rec]

theorem Zky {b cw : Nat} {ks : List Nat} (hbk : b ∉ ks) (hwk : cw ∉ ks) (w : List UInt8) (hwl : w.length ≤ 100000) {H0 HM : List AObj} (N : Nat) (hlen : H0.length ≤ HM.length) (hbw : H0[cw]? = some (.box [.p (.str w)]))
    (hround : ∀ n, n < N → n ≤ w.length → YC Tryz.prog b [.p (.str (w.take n))] H0 ks (fun v h' => v = .p (.bool true) ∧ h' = H0))
    (hstop : (N = w.length + 1 ∧ HM = H0) ∨ (N ≤ w.length ∧ YC Tryz.prog b [.p (.str (w.take N))] H0 ks (fun v h' => v = .p (.bool false) ∧ h' = HM))) :
    AC Tryz.prog 182 [.yld b, .ptr cw 0] H0 ks (fun _ h' => h' = HM) := by
  rcases hstop with ⟨h1, h2⟩ | ⟨h1, h2⟩
  · subst h2
    exact c116 hbk hwk w hwl (fun _ => HM) N N (Nat.le_refl _) (fun _ _ => hbw) hround (.inl ⟨h1, rfl⟩)
  · have e0 : (if 0 ≤ N then H0 else HM) = H0 := if_pos (Nat.zero_le _)
    have eN : (if N ≤ N then H0 else HM) = H0 := if_pos (Nat.le_refl _); have eM : (if N + 1 ≤ N then H0 else HM) = HM := if_neg (by omega)
    have h := c116 hbk hwk w hwl (fun n => if n ≤ N then H0 else HM) N (N + 1) (by simp only [e0, eM]; exact hlen) (fun n hn => by simp only [if_pos hn]; exact hbw)
      (fun n hn hw => by simp only [if_pos (Nat.le_of_lt hn), if_pos (show n + 1 ≤ N from hn)]; exact hround n hn hw) (.inr ⟨h1, by simp only [eN, eM]; exact h2⟩)
    simp only [e0, eM] at h; exact h

theorem c116q {q : Int} {ws os : List (List UInt8)} {rk : RK} {w : List UInt8} {out : List (List UInt8)} (hwl : w.length ≤ 100000) (N : Nat) (hN : N = w.length + 1) {tm : List AV} {ps : List Nat} {cs bd : Code}
    (hround : ∀ n, n < N → n ≤ w.length → YC Tryz.prog 8 [.p (.str (w.take n))] (puH q ws os rk w out .lax (.lp tm ps cs bd .ready)) [4] (fun v h' => v = .p (.bool true) ∧ h' = puH q ws os rk w out .lax (.lp tm ps cs bd .ready))) :
    AC Tryz.prog 182 [.yld 8, .ptr 7 0] (puH q ws os rk w out .lax (.lp tm ps cs bd .ready)) [4] (fun _ h' => h' = puH q ws os rk w out .lax (.lp tm ps cs bd .ready)) :=
  Zky (by simp) (by simp) w hwl N (Nat.le_refl _) rfl hround (.inl ⟨hN, rfl⟩)
theorem c116p {q : Int} {ws os : List (List UInt8)} {rk : RK} {w : List UInt8} {out : List (List UInt8)} (hwl : w.length ≤ 100000) (N : Nat) (hN : N ≤ w.length) {tm : List AV} {ps : List Nat} {cs bd : Code}
    (hround : ∀ n, n < N → n ≤ w.length → YC Tryz.prog 8 [.p (.str (w.take n))] (puH q ws os rk w out .lax (.lp tm ps cs bd .ready)) [4] (fun v h' => v = .p (.bool true) ∧ h' = puH q ws os rk w out .lax (.lp tm ps cs bd .ready)))
    (hstop : YC Tryz.prog 8 [.p (.str (w.take N))] (puH q ws os rk w out .lax (.lp tm ps cs bd .ready)) [4] (fun v h' => v = .p (.bool false) ∧ h' = puH q ws os rk w (out ++ [w.take N]) .own (.lp tm ps cs bd (.left (.exit 4))))) :
    AC Tryz.prog 182 [.yld 8, .ptr 7 0] (puH q ws os rk w out .lax (.lp tm ps cs bd .ready)) [4] (fun _ h' => h' = puH q ws os rk w (out ++ [w.take N]) .own (.lp tm ps cs bd (.left (.exit 4)))) :=
  Zky (by simp) (by simp) w hwl N (by simp [puH]) rfl hround (.inr ⟨hN, hstop⟩)

def puI (q : Int) (ws : List (List UInt8)) (os : List (List UInt8)) (rk : RK) (w : List UInt8) (out : List (List UInt8)) (rk4 : RK) (rec : AObj) : List AObj :=
  [.box [.p (.int .i64 q), .p (.sl (ws.map .str))], .box [.p (.int .i64 0), .full []], .dead, .box [.own 4 out.length], .row 9 1 (out.map .str) rk4, .box [.own 6 os.length], .row 9 1 (os.map .str) rk, .box [.p (.str w)], rec]

theorem Zu1 {q : Int} {ws os : List (List UInt8)} {rk : RK} {w : List UInt8} {out : List (List UInt8)} (hwl : w.length ≤ 100000) (N : Nat) (hN : N = w.length + 1) {tm : List AV} {ps : List Nat} {cs bd : Code}
    (hround : ∀ n, n < N → n ≤ w.length → YC Tryz.prog 8 [.p (.str (w.take n))] (puI q ws os rk w out .lax (.lp tm ps cs bd .ready)) [4] (fun v h' => v = .p (.bool true) ∧ h' = puI q ws os rk w out .lax (.lp tm ps cs bd .ready))) :
    AC Tryz.prog 182 [.yld 8, .ptr 7 0] (puI q ws os rk w out .lax (.lp tm ps cs bd .ready)) [4] (fun _ h' => h' = puI q ws os rk w out .lax (.lp tm ps cs bd .ready)) :=
  Zky (by simp) (by simp) w hwl N (Nat.le_refl _) rfl hround (.inl ⟨hN, rfl⟩)
theorem Zu2 {q : Int} {ws os : List (List UInt8)} {rk : RK} {w : List UInt8} {out : List (List UInt8)} (hwl : w.length ≤ 100000) (N : Nat) (hN : N ≤ w.length) {tm : List AV} {ps : List Nat} {cs bd : Code}
    (hround : ∀ n, n < N → n ≤ w.length → YC Tryz.prog 8 [.p (.str (w.take n))] (puI q ws os rk w out .lax (.lp tm ps cs bd .ready)) [4] (fun v h' => v = .p (.bool true) ∧ h' = puI q ws os rk w out .lax (.lp tm ps cs bd .ready)))
    (hstop : YC Tryz.prog 8 [.p (.str (w.take N))] (puI q ws os rk w out .lax (.lp tm ps cs bd .ready)) [4] (fun v h' => v = .p (.bool false) ∧ h' = puI q ws os rk w (out ++ [w.take N]) .own (.lp tm ps cs bd (.left (.exit 4))))) :
    AC Tryz.prog 182 [.yld 8, .ptr 7 0] (puI q ws os rk w out .lax (.lp tm ps cs bd .ready)) [4] (fun _ h' => h' = puI q ws os rk w (out ++ [w.take N]) .own (.lp tm ps cs bd (.left (.exit 4)))) :=
  Zky (by simp) (by simp) w hwl N (by simp [puI]) rfl hround (.inr ⟨hN, hstop⟩)

def Z2y (q : Int) (ws : List (List UInt8)) (l : List Int) : Int :=
  if chE q ws ≠ 0 then chE q ws else if l.any (outR ws) then 2 else if (Z1v ws l ws.length).length = 0 then 5 else Z6 q (made (Z12 (Z1v ws l ws.length) (Z1v ws l ws.length).length))
def Z8f (q : Int) (ws : List (List UInt8)) (l : List Int) : PV :=
  if Z2y q ws l = 0 then Za q (made (Z12 (Z1v ws l ws.length) (Z1v ws l ws.length).length)) else Za 0 []

theorem cm27 (q : Int) (ws : List (List UInt8)) (l : List Int) (hl : l.length ≤ 9223372036854775807) :
    PFn Tryz.prog 61 [Za q ws, .sl (l.map Kn.iV)] [Z8f q ws l, .int .i64 (Z2y q ws l)] := by
  have e61 := cm61 q ws; refine PFn.of_body hΓ Tryz.func61 (by kernel_rfl) rfl (AWp.seq (Wd [] ?_)); simp -implicitDefEqProofs only [Tryz.ntmps61, Tryz.results61, Nat.reduceAdd, Nat.reduceSub, Za, go_sem]; refine AWp.seq ?_; refine Wd [] ?_; simp -implicitDefEqProofs only [go_sem]; refine Z0 e61 (.still rfl) ?_; by_cases hc : chE q ws = 0
  rotate_left
  · have hE : Z2y q ws l = chE q ws := by unfold Z2y; rw [if_pos hc]
    unfold Z8f; rw [hE, if_neg hc]; simp -implicitDefEqProofs only [hc, Za, List.map_nil, go_sem]
  rw [hc]; simp -implicitDefEqProofs only [go_sem]; refine AWp.seq (Wd [] ?_); simp -implicitDefEqProofs only [go_sem]; have hout : ∀ h : List AObj, AC Tryz.prog 70 [.p (.sl (l.map Kn.iV)), .fn 123 [.ptr 0 0]] (Zy q ws :: h) [] (fun v h' => v = .p (.bool (l.any (outR ws))) ∧ h' = Zy q ws :: h) := fun h => Kn.c48 l hl fun k _ => c72 q ws k rfl
  unfold Zy at hout; refine Zg (hout _) (by simp) ?_; rintro v h' ⟨rfl, rfl⟩
  cases ho : l.any (outR ws)
  rotate_left
  · have hE : Z2y q ws l = 2 := by unfold Z2y; rw [if_neg (fun h => h hc), if_pos ho]
    unfold Z8f; rw [hE, if_neg (by decide)]; simp -implicitDefEqProofs only [Z8, List.foldl, Za, List.map_nil, go_sem]
  simp -implicitDefEqProofs only [Z8, List.foldl, go_sem]; refine AWp.seq (Wd [] ?_); simp -implicitDefEqProofs only [go_sem]; refine AWp.seq (Wd [] ?_); simp -implicitDefEqProofs only [go_sem]; refine AWp.adopt (l := []) 7 9 1 (by rfl) (by simp) ?_; simp -implicitDefEqProofs only [go_sem]; have hv : Z6 q ws = 0 := by
    unfold chE at hc; by_cases h : Z6 q ws = 0
    · exact h
    · rw [if_neg h] at hc; omega
  have hlen := (Z0e hv).len
  refine AWp.loopI (fun i : Nat => ⟨mkF 84 [(1, .p (.sl (l.map Kn.iV))), (2, .ptr 0 0), (4, .ptr 1 0), (5, .p (.int .i64 0)), (7, .own 2 (Z1v ws l i).length), (26, .p (.sl (ws.map .str))), (27, .p (.int .i64 ws.length)), (28, .p (.int .i64 i))], [.box [.p (.int .i64 q), .p (.sl (ws.map .str))], .box [.p (.int .i64 0), .full []], .row 9 1 ((Z1v ws l i).map .str) .lax]⟩)
    (fun i => i ≤ ws.length) (fun i => ws.length - i) 0 (by simp [go_sem, Z1v]) (by omega) ?_
  intro i hi; refine Wd [] ?_; by_cases hlt : i < ws.length
  · have hlt' : (i : Int) < (ws.length : Int) := by omega
    have hg : (ws.map PV.str).getD i default = .str ws[i] := Z3 _ _ _ _ hlt; have e16 := cm16 l i hl; by_cases hm : (i : Int) ∈ l
    · rw [decide_eq_true hm] at e16
      simp -implicitDefEqProofs only [hlt', hg, Int.toNat_natCast, go_sem]; refine Z0 e16 (.pures rfl) ?_; simp -implicitDefEqProofs only [go_sem]; exact ⟨by simp only [InR]; omega, i + 1, by rw [Zh0 hm]; simp [Zb], hlt, by omega⟩
    · rw [decide_eq_false hm] at e16
      have hL := Z7f ws l i; have hs1 : Zc [PV.str ws[i]] 1 := by simp [Zc, PV.cells]
      have ho1 : Z0y [PV.str ws[i]] := by simp [Z0y, PV.cells, PV.isAgg]
      simp -implicitDefEqProofs only [hlt', hg, Int.toNat_natCast, go_sem]; refine Z0 e16 (.pures rfl) ?_; simp -implicitDefEqProofs only [go_sem]; refine ⟨⟨hs1, by omega⟩, ⟨hs1, ho1⟩, ⟨by simp, by omega, by omega⟩, by simp only [InR]; omega, i + 1, ⟨⟨by rw [Zdk hm hlt]; simp, by simp⟩, .inr ?_⟩, hlt, by omega⟩; rw [Zdk hm hlt]; simp
  have hlt' : ¬ (i : Int) < (ws.length : Int) := by omega
  have hiw : i = ws.length := by omega
  subst hiw; simp -implicitDefEqProofs only [Int.lt_irrefl, Nat.lt_irrefl, go_sem]; have hL := Z7f ws l ws.length; have hLm := Zh1 (ws := ws) (l := l) (Nat.le_refl _); generalize hLe : Z1v ws l ws.length = L at *; refine AWp.freeze 2 rfl ?_; refine AWp.seq (Wd [] ?_); by_cases h0 : L.length = 0
  · have hE : Z2y q ws l = 5 := by unfold Z2y; rw [if_neg (fun h => h hc), if_neg (by rw [ho]; decide), hLe, if_pos h0]
    unfold Z8f; rw [hE, if_neg (by decide)]; have hz0 : ((0 : Nat) : Int) = 0 := rfl; simp -implicitDefEqProofs only [Z0f, h0, List.length_map, Za, List.map_nil, hz0, go_sem]
  have h0' : ¬ (L.length : Int) = 0 := by omega
  simp -implicitDefEqProofs only [Z0f, h0', List.length_map, go_sem]; refine AWp.seq (Wd [] ?_); simp -implicitDefEqProofs only [go_sem]; refine AWp.adoptBox (l := []) 3 9 1 rfl (by simp) ?_; simp -implicitDefEqProofs only [List.set_cons_zero, List.set_cons_succ, go_sem]; refine AWp.seq (AWp.seq (Wd [] ?_)); simp -implicitDefEqProofs only [go_sem]; refine AWp.block ?_
  refine AWp.loopJ (fun i : Nat => ⟨mkF 84 [(2, .ptr 0 0), (4, .ptr 1 0), (5, .p (.int .i64 0)), (7, .p (.sl (L.map .str))), (10, .ptr 3 0), (46, .p (.sl (L.map .str))), (47, .p (.int .i64 L.length)), (48, .p (.int .i64 i))], [.box [.p (.int .i64 q), .p (.sl (ws.map .str))], .box [.p (.int .i64 0), .full []], .dead, .box [.own 4 (Z12 L i).length], .row 9 1 ((Z12 L i).map .str) .lax]⟩)
    (fun i => i ≤ L.length) (fun i => L.length - i) 0 (fun x => by simp [Z3x, mkF, AV.blw, AV.blw.blwL, blwH, AObj.blw]) (by simp [go_sem, Z12]) (by omega) ?_
  intro i hi; refine AWp.seq (Wd [] ?_); simp -implicitDefEqProofs only [go_sem]; refine AWp.seq (Wd [] ?_); by_cases hlt : i < L.length
  · have hlt' : (i : Int) < (L.length : Int) := by omega
    have hg : (L.map PV.str).getD i default = .str L[i] := Z3 _ _ _ _ hlt; simp -implicitDefEqProofs only [hlt, go_sem]; refine AWp.seq (AWp.block ?_); refine AWp.seq (Wd [] ?_); simp -implicitDefEqProofs only [hlt, hg, Int.toNat_natCast, List.length_map, go_sem]; refine AWp.seq ?_; refine AWp.planL (.q 0 (.q 1 (.q 2 (.q 3 (.q 4 (.q 5 (.q 6 (.q 7 (.e 8 (.e 9 (.s 0 (.s 1 (.s 2 (.s 3 (.s 4 (.s 5 (.s 6 (.s 7 (.e 10 .fin .nil))))))))) .nil) (.e 9 (.s 0 (.s 1 (.s 2 (.s 3 (.s 4 (.s 5 (.s 6 (.s 7 (.e 8 (.e 10 .fin .nil) .nil))))))))) .nil)))))))))) hΓ hmix (by kernel_rfl) ?_; have hnat : ((i : Int) + 1).toNat = i + 1 := by omega
    simp -implicitDefEqProofs only [List.length_map, hnat, go_sem]; refine ⟨Zm _, by omega, by simp only [InR]; omega, Zm _, ⟨by omega, by omega⟩, ⟨by simp [Zc, PV.cells], by omega⟩, ?_, ?_⟩
    · have hw2 : [PV.sl (List.take i (List.map PV.str L)), PV.sl (List.drop (i + 1) (List.map PV.str L))] = wssV [L.take i, L.drop (i + 1)] := by simp [wssV, wsV]
      rw [hw2]; refine Zg (c29b ?_ (L.take i) (L.drop (i + 1)) (by simp; omega)).full0 (by simp) ?_
      · simp [AObj.kill, AV.kill]
      rintro v h' ⟨rk, hrk, rfl, rfl⟩; simp -implicitDefEqProofs only [Z8, List.foldl, go_sem]; refine ⟨⟨Zm _, by omega⟩, by simp only [InR]; omega, ⟨Zm _, ⟨by omega, by omega⟩, by rw [hnat]⟩, ⟨⟨by simp [Zc, PV.cells], by omega⟩, by rw [hw2]⟩, ?_⟩; refine AWp.seq (Wd [] ?_); simp -implicitDefEqProofs only [hnat, go_sem]; refine Zg (c73 _) (by simp) ?_; rintro v h' ⟨rfl, rfl⟩; simp -implicitDefEqProofs only [Z8, List.foldl, List.length_append, List.length_cons, List.length_nil, go_sem]; have hwl : L[i].length ≤ 100000 := by have := ((Z0e hv).words _ (hLm _ (List.getElem_mem hlt))).2.1; omega
      have hosl : (Z08 L i).length ≤ 9223372036854775807 := by simp [Z08]; omega
      have hcle := Zi1 (Z08 L i) L[i]; have hcat := @Zi2 (Z08 L i) L[i]; have hclt := @Zi0 (Z08 L i) L[i]; rw [show L.take i ++ L.drop (i + 1) = Z08 L i from rfl, show (L.take i).length + (L.drop (i + 1)).length = (Z08 L i).length from by simp [Z08]]; have hpl := Z3n L i; generalize hwe : L[i] = w at *; generalize hoe : Z08 L i = os at *; generalize hNe : cutN os w = N at *; generalize hpe : Z12 L i = out at *; refine AWp.block ?_; refine AWp.weak (st' := ⟨mkF 84 [(2, .ptr 0 0), (4, .ptr 1 0), (5, .p (.int .i64 0)), (7, .p (.sl (L.map .str))), (10, .ptr 3 0), (13, .ptr 6 0), (46, .p (.sl (L.map .str))), (47, .p (.int .i64 L.length)), (48, .p (.int .i64 i)), (63, .fn 182 [.ptr 7 0])], _⟩) (by simp [go_sem, Zb]; exact Z01 _) ?_; rw [show (#[64] : Array Nat) = [64].toArray from rfl]; by_cases hN : N ≤ w.length
      · obtain ⟨hN0, hNo⟩ := hcat hN
        refine AWp.rangeFunc (ks := [4]) rfl (c116p (q := q) (ws := ws) (os := os) (rk := rk) (w := w) (out := out) hwl N hN ?_ ?_) (by simp) (by simp) ?_
        · intro n hn hnw
          have hb := hclt hn hnw; unfold puH; refine YC.of_body (Γ := Γ) rfl rfl (by simp) ?_; intro rr; refine Wd [] ?_; simp -implicitDefEqProofs only [setP, go_sem]; unfold Z5z; refine ⟨rfl, ?_⟩; simp -implicitDefEqProofs only [go_sem]; refine Wd [] ?_; by_cases hp : w.take n = []
          · rw [hp]
            simp -implicitDefEqProofs only [go_sem]; unfold Z27; simp -implicitDefEqProofs only [go_sem]; refine ⟨_, ?_, .inl rfl, ?_⟩
            rotate_left
            · rw [List.take_length]
            · simp
          · have e74 := cm74 os (w.take n) hosl
            rw [hb.resolve_left (fun h => hp (by rw [h, List.take_zero]))] at e74; simp -implicitDefEqProofs only [hp, go_sem]; refine Z0 e74 (.owned rfl rfl) ?_; simp -implicitDefEqProofs only [go_sem]; unfold Z27; simp -implicitDefEqProofs only [Z8, List.foldl, AObj.kill, AV.kill, AV.kill.killL, go_sem]; refine ⟨_, ?_, .inl rfl, ?_⟩
            rotate_left
            · rw [List.take_length]
            · simp
        · unfold puH
          have hp : ¬ w.take N = [] := fun h => by
            have := congrArg List.length h; rw [List.length_take, List.length_nil] at this; omega
          have e74 := cm74 os (w.take N) hosl; rw [hNo] at e74; have hs1 : Zc [PV.str (w.take N)] 1 := by simp [Zc, PV.cells]
          have ho1 : Z0y [PV.str (w.take N)] := by simp [Z0y, PV.cells, PV.isAgg]
          refine YC.of_body (Γ := Γ) rfl rfl (by simp) ?_; intro rr; refine Wd [] ?_; simp -implicitDefEqProofs only [setP, go_sem]; unfold Z5z; refine ⟨rfl, ?_⟩; simp -implicitDefEqProofs only [go_sem]; refine Wd [] ?_; simp -implicitDefEqProofs only [hp, go_sem]; refine Z0 e74 (.owned rfl rfl) ?_; simp -implicitDefEqProofs only [go_sem]; refine ⟨⟨hs1, by omega⟩, ⟨hs1, ho1⟩, ⟨.inr (by simp), by omega, by omega⟩, ?_⟩; unfold Z27; simp -implicitDefEqProofs only [Z8, List.foldl, AObj.kill, AV.kill, AV.kill.killL, go_sem]; refine ⟨_, ?_, .inl rfl, ?_⟩
          rotate_left
          · rw [List.take_length]
            simp
          · simp
        · rintro v h' rfl
          unfold puH Z5y; simp -implicitDefEqProofs only [Z8, List.foldl, go_sem]; refine Wd [] ?_; simp -implicitDefEqProofs only [List.set_cons_zero, List.set_cons_succ, go_sem]; subst hpe hoe hwe; have hps := Z2p hlt; unfold cutL at hps; rw [hNe, if_pos hN] at hps; refine ⟨by simp only [InR]; omega, i + 1, ⟨by simp, ?_⟩, hlt, by omega⟩; rw [hps]; simp
      · have hNe2 : N = w.length + 1 := by omega
        refine AWp.rangeFunc (ks := [4]) rfl (c116q (q := q) (ws := ws) (os := os) (rk := rk) (w := w) (out := out) hwl N hNe2 ?_) (by simp) (by simp) ?_
        · intro n hn hnw
          have hb := hclt hn hnw; unfold puH; refine YC.of_body (Γ := Γ) rfl rfl (by simp) ?_; intro rr; refine Wd [] ?_; simp -implicitDefEqProofs only [setP, go_sem]; unfold Z5z; refine ⟨rfl, ?_⟩; simp -implicitDefEqProofs only [go_sem]; refine Wd [] ?_; by_cases hp : w.take n = []
          · rw [hp]
            simp -implicitDefEqProofs only [go_sem]; unfold Z27; simp -implicitDefEqProofs only [go_sem]; refine ⟨_, ?_, .inl rfl, ?_⟩
            rotate_left
            · rw [List.take_length]
            · simp
          · have e74 := cm74 os (w.take n) hosl
            rw [hb.resolve_left (fun h => hp (by rw [h, List.take_zero]))] at e74; simp -implicitDefEqProofs only [hp, go_sem]; refine Z0 e74 (.owned rfl rfl) ?_; simp -implicitDefEqProofs only [go_sem]; unfold Z27; simp -implicitDefEqProofs only [Z8, List.foldl, AObj.kill, AV.kill, AV.kill.killL, go_sem]; refine ⟨_, ?_, .inl rfl, ?_⟩
            rotate_left
            · rw [List.take_length]
            · simp
        · rintro v h' rfl
          unfold puH Z5y; simp -implicitDefEqProofs only [Z8, List.foldl, go_sem]; refine Wd [] ?_; simp -implicitDefEqProofs only [List.set_cons_zero, List.set_cons_succ, go_sem]; subst hpe hoe hwe; have hps := Z2p hlt; unfold cutL at hps; rw [hNe, if_neg hN, List.append_nil] at hps; refine ⟨by simp only [InR]; omega, i + 1, ⟨by simp [hps], ?_⟩, hlt, by omega⟩; rw [hps]; simp
    · have hw2 : [PV.sl (List.take i (List.map PV.str L)), PV.sl (List.drop (i + 1) (List.map PV.str L))] = wssV [L.take i, L.drop (i + 1)] := by simp [wssV, wsV]
      refine ⟨⟨Zm _, by omega⟩, by simp only [InR]; omega, ⟨Zm _, by omega, by omega⟩, ⟨by simp [Zc, PV.cells], by omega⟩, ?_⟩; rw [hw2]; refine Zg (c29b ?_ (L.take i) (L.drop (i + 1)) (by simp; omega)).full0 (by simp) ?_
      · simp [AObj.kill, AV.kill]
      rintro v h' ⟨rk, hrk, rfl, rfl⟩; simp -implicitDefEqProofs only [Z8, List.foldl, go_sem]; refine AWp.seq (Wd [] ?_); simp -implicitDefEqProofs only [hnat, go_sem]; refine Zg (c73 _) (by simp) ?_; rintro v h' ⟨rfl, rfl⟩; simp -implicitDefEqProofs only [Z8, List.foldl, List.length_append, List.length_cons, List.length_nil, go_sem]; have hwl : L[i].length ≤ 100000 := by have := ((Z0e hv).words _ (hLm _ (List.getElem_mem hlt))).2.1; omega
      have hosl : (Z08 L i).length ≤ 9223372036854775807 := by simp [Z08]; omega
      have hcle := Zi1 (Z08 L i) L[i]; have hcat := @Zi2 (Z08 L i) L[i]; have hclt := @Zi0 (Z08 L i) L[i]; rw [show L.take i ++ L.drop (i + 1) = Z08 L i from rfl, show (L.take i).length + (L.drop (i + 1)).length = (Z08 L i).length from by simp [Z08]]; have hpl := Z3n L i; generalize hwe : L[i] = w at *; generalize hoe : Z08 L i = os at *; generalize hNe : cutN os w = N at *; generalize hpe : Z12 L i = out at *; refine AWp.block ?_; refine AWp.weak (st' := ⟨mkF 84 [(2, .ptr 0 0), (4, .ptr 1 0), (5, .p (.int .i64 0)), (7, .p (.sl (L.map .str))), (10, .ptr 3 0), (13, .ptr 5 0), (46, .p (.sl (L.map .str))), (47, .p (.int .i64 L.length)), (48, .p (.int .i64 i)), (63, .fn 182 [.ptr 7 0])], _⟩) (by simp [go_sem, Zb]; exact Z01 _) ?_; rw [show (#[64] : Array Nat) = [64].toArray from rfl]; by_cases hN : N ≤ w.length
      · obtain ⟨hN0, hNo⟩ := hcat hN
        refine AWp.rangeFunc (ks := [4]) rfl (Zu2 (q := q) (ws := ws) (os := os) (rk := rk) (w := w) (out := out) hwl N hN ?_ ?_) (by simp) (by simp) ?_
        · intro n hn hnw
          have hb := hclt hn hnw; unfold puI; refine YC.of_body (Γ := Γ) rfl rfl (by simp) ?_; intro rr; refine Wd [] ?_; simp -implicitDefEqProofs only [setP, go_sem]; unfold Z5z; refine ⟨rfl, ?_⟩; simp -implicitDefEqProofs only [go_sem]; refine Wd [] ?_; by_cases hp : w.take n = []
          · rw [hp]
            simp -implicitDefEqProofs only [go_sem]; unfold Z27; simp -implicitDefEqProofs only [go_sem]; refine ⟨_, ?_, .inl rfl, ?_⟩
            rotate_left
            · rw [List.take_length]
            · simp
          · have e74 := cm74 os (w.take n) hosl
            rw [hb.resolve_left (fun h => hp (by rw [h, List.take_zero]))] at e74; simp -implicitDefEqProofs only [hp, go_sem]; refine Z0 e74 (.owned rfl rfl) ?_; simp -implicitDefEqProofs only [go_sem]; unfold Z27; simp -implicitDefEqProofs only [Z8, List.foldl, AObj.kill, AV.kill, AV.kill.killL, go_sem]; refine ⟨_, ?_, .inl rfl, ?_⟩
            rotate_left
            · rw [List.take_length]
            · simp
        · unfold puI
          have hp : ¬ w.take N = [] := fun h => by
            have := congrArg List.length h; rw [List.length_take, List.length_nil] at this; omega
          have e74 := cm74 os (w.take N) hosl; rw [hNo] at e74; have hs1 : Zc [PV.str (w.take N)] 1 := by simp [Zc, PV.cells]
          have ho1 : Z0y [PV.str (w.take N)] := by simp [Z0y, PV.cells, PV.isAgg]
          refine YC.of_body (Γ := Γ) rfl rfl (by simp) ?_; intro rr; refine Wd [] ?_; simp -implicitDefEqProofs only [setP, go_sem]; unfold Z5z; refine ⟨rfl, ?_⟩; simp -implicitDefEqProofs only [go_sem]; refine Wd [] ?_; simp -implicitDefEqProofs only [hp, go_sem]; refine Z0 e74 (.owned rfl rfl) ?_; simp -implicitDefEqProofs only [go_sem]; refine ⟨⟨hs1, by omega⟩, ⟨hs1, ho1⟩, ⟨.inr (by simp), by omega, by omega⟩, ?_⟩; unfold Z27; simp -implicitDefEqProofs only [Z8, List.foldl, AObj.kill, AV.kill, AV.kill.killL, go_sem]; refine ⟨_, ?_, .inl rfl, ?_⟩
          rotate_left
          · rw [List.take_length]
            simp
          · simp
        · rintro v h' rfl
          unfold puI Z5y; simp -implicitDefEqProofs only [Z8, List.foldl, go_sem]; refine Wd [] ?_; simp -implicitDefEqProofs only [List.set_cons_zero, List.set_cons_succ, go_sem]; subst hpe hoe hwe; have hps := Z2p hlt; unfold cutL at hps; rw [hNe, if_pos hN] at hps; refine ⟨by simp only [InR]; omega, i + 1, ⟨by simp, ?_⟩, hlt, by omega⟩; rw [hps]; simp
      · have hNe2 : N = w.length + 1 := by omega
        refine AWp.rangeFunc (ks := [4]) rfl (Zu1 (q := q) (ws := ws) (os := os) (rk := rk) (w := w) (out := out) hwl N hNe2 ?_) (by simp) (by simp) ?_
        · intro n hn hnw
          have hb := hclt hn hnw; unfold puI; refine YC.of_body (Γ := Γ) rfl rfl (by simp) ?_; intro rr; refine Wd [] ?_; simp -implicitDefEqProofs only [setP, go_sem]; unfold Z5z; refine ⟨rfl, ?_⟩; simp -implicitDefEqProofs only [go_sem]; refine Wd [] ?_; by_cases hp : w.take n = []
          · rw [hp]
            simp -implicitDefEqProofs only [go_sem]; unfold Z27; simp -implicitDefEqProofs only [go_sem]; refine ⟨_, ?_, .inl rfl, ?_⟩
            rotate_left
            · rw [List.take_length]
            · simp
          · have e74 := cm74 os (w.take n) hosl
            rw [hb.resolve_left (fun h => hp (by rw [h, List.take_zero]))] at e74; simp -implicitDefEqProofs only [hp, go_sem]; refine Z0 e74 (.owned rfl rfl) ?_; simp -implicitDefEqProofs only [go_sem]; unfold Z27; simp -implicitDefEqProofs only [Z8, List.foldl, AObj.kill, AV.kill, AV.kill.killL, go_sem]; refine ⟨_, ?_, .inl rfl, ?_⟩
            rotate_left
            · rw [List.take_length]
            · simp
        · rintro v h' rfl
          unfold puI Z5y; simp -implicitDefEqProofs only [Z8, List.foldl, go_sem]; refine Wd [] ?_; simp -implicitDefEqProofs only [List.set_cons_zero, List.set_cons_succ, go_sem]; subst hpe hoe hwe; have hps := Z2p hlt; unfold cutL at hps; rw [hNe, if_neg hN, List.append_nil] at hps; refine ⟨by simp only [InR]; omega, i + 1, ⟨by simp [hps], ?_⟩, hlt, by omega⟩; rw [hps]; simp
  · have hlt' : ¬ (i : Int) < (L.length : Int) := by omega
    have hiL : i = L.length := by omega
    subst hiL; simp -implicitDefEqProofs only [Int.lt_irrefl, Nat.lt_irrefl, go_sem]; refine AWp.freeze 4 rfl ?_; have e65 := t71 q (Z12 L L.length) (by have := Z3n L L.length; omega); refine Wd [] ?_; simp -implicitDefEqProofs only [Z0f, AV.thaw, AObj.thaw, AV.thaw.thawL, List.map_cons, List.map_nil, List.set_cons_zero, List.set_cons_succ, go_sem]; have hE : Z2y q ws l = Z6 q (made (Z12 L L.length)) := by unfold Z2y; rw [if_neg (fun h => h hc), if_neg (by rw [ho]; decide), hLe, if_neg h0]
    unfold Z8f; rw [hE, hLe]; by_cases hm : Z6 q (made (Z12 L L.length)) = 0
    · rw [if_pos hm] at e65 ⊢
      unfold Za at e65 ⊢; refine Z0 e65 (.pures rfl) ?_; simp -implicitDefEqProofs only [Za, go_sem]
    · rw [if_neg hm] at e65 ⊢
      unfold Za at e65 ⊢; refine Z0 e65 (.pures rfl) ?_; simp -implicitDefEqProofs only [Za, List.map_nil, go_sem]

def kn7 : FuncId → List PV → Option AV := fun f args => match f, args with
  | 47, [.int .i64 2, .sl [.int .i64 2, .int .i64 1, .int .i64 3]] => some (.tup [.p (.agg [.bool false, .str [7], .bool false, .str [8]]), .p (.int .i64 0)])
  | 72, [.agg [.bool false, .str [1]]] => some (.p (.agg [.bool false, .str [1], .bool false, .str [1]]))
  | 49, [.agg [.bool false, .str [7], .bool false, .str [8]], .agg [.bool false, .str [1], .bool false, .str [1]]] => some (.p (.int .i64 (-1)))
  | 61, [.agg [.int .i64 2, .sl [.str [48], .str [49, 48], .str [49, 49]]], .sl [.int .i64 0]] => some (.tup [.p (.agg [.int .i64 2, .sl [.str [49, 48], .str [49, 49]]]), .p (.int .i64 0)])
  | _, _ => none
def axA7 : FuncId → List AV → Option AV := fun f args => match f with
  | 47 => (AV.purL [] args).bind (kn7 47)
  | 49 => (AV.purL [] args).bind (kn7 49)
  | 72 => (AV.purL [] args).bind (kn7 72)
  | 61 => (AV.purL [] args).bind (kn7 61)
  | f => axT f args
def ptA7 : Zcr := fun id n => match id, n with
  | 6, 18 => some (.q 0 (.q 1 (.q 2 (.q 3 (.q 4 (.q 5 (.q 6 (.q 7 (.q 8 (.q 9 (.q 10 (.q 11 (.q 12 (.q 13 (.q 14 (.e 15 (.s 2 (.s 3 (.s 4 (.q 16 (.e 17 .fin .nil))))) .nil))))))))))))))))
  | _, _ => none

theorem Zas : magB 1 = [1] := by decide +kernel
theorem Zak : Kn.ratV 1 1 = .agg [.bool false, .str [1], .bool false, .str [1]] := by
  unfold Kn.ratV; rw [show Nat.gcd 1 1 = 1 by decide, Nat.div_one, Zas]
theorem Zbw : Kn.ratV 7 8 = .agg [.bool false, .str [7], .bool false, .str [8]] := by
  unfold Kn.ratV; rw [show Nat.gcd 7 8 = 1 by decide, Nat.div_one, Nat.div_one, show magB 7 = [7] by decide +kernel, show magB 8 = [8] by decide +kernel]
theorem Zh3 : PFn Tryz.prog 47 [.int .i64 2, .sl [.int .i64 2, .int .i64 1, .int .i64 3]] [.agg [.bool false, .str [7], .bool false, .str [8]], .int .i64 0] := by
  have e := Kn.v50 2 [2, 1, 3] (by decide) (by decide) (by decide) (by decide); have h : Kn.ratV (Kn.krS 2 [2, 1, 3]) (2 ^ 32) = .agg [.bool false, .str [7], .bool false, .str [8]] := by
    unfold Kn.ratV; rw [show Kn.krS 2 [2, 1, 3] = 3758096384 by decide, show Nat.gcd 3758096384 (2 ^ 32) = 536870912 by decide]; rw [show 3758096384 / 536870912 = 7 by decide, show 2 ^ 32 / 536870912 = 8 by decide]; rw [show magB 7 = [7] by decide +kernel, show magB 8 = [8] by decide +kernel]
  rw [h] at e; exact e
theorem Zdw : 100 < capN := Nat.lt_of_lt_of_le (by decide : 100 < 256 ^ 1) (Nat.pow_le_pow_right (by decide) (by decide))
theorem Zsv : PFn Tryz.prog 72 [.agg [.bool false, .str [1]]] [.agg [.bool false, .str [1], .bool false, .str [1]]] := by
  have e := Kn.v52 1 (by have := Zdw; omega); rw [Zak] at e; unfold intN intV at e; rw [Zas] at e; exact e
theorem Zp7 : PFn Tryz.prog 49 [.agg [.bool false, .str [7], .bool false, .str [8]], .agg [.bool false, .str [1], .bool false, .str [1]]] [.int .i64 (-1)] := by
  have hc := Zdw; have e := Kn.v51 7 8 1 1 (by omega) (by omega) (by omega) (by omega) (by omega) (by omega) (by omega) (by omega); rw [Zak, Zbw] at e; exact e
theorem Zg6 : PFn Tryz.prog 61 [.agg [.int .i64 2, .sl [.str [48], .str [49, 48], .str [49, 49]]], .sl [.int .i64 0]] [.agg [.int .i64 2, .sl [.str [49, 48], .str [49, 49]]], .int .i64 0] := by
  have e := cm27 2 [[48], [49, 48], [49, 49]] [0] (by decide); have hm : made [[49, 48], [49, 49]] = [[49, 48], [49, 49]] := Zc4 (by unfold ltW; decide) (fun x => Iff.rfl); have hl : Z1v [[48], [49, 48], [49, 49]] [0] 3 = [[49, 48], [49, 49]] := by decide
  have hp : Z12 [[49, 48], [49, 49]] 2 = [[49, 48], [49, 49]] := by decide
  have hE : Z2y 2 [[48], [49, 48], [49, 49]] [0] = 0 := by
    unfold Z2y; rw [show ([[48], [49, 48], [49, 49]] : List (List UInt8)).length = 3 from rfl, hl, show ([[49, 48], [49, 49]] : List (List UInt8)).length = 2 from rfl, hp, hm]
    decide
  unfold Z8f at e; rw [if_pos hE, hE, show ([[48], [49, 48], [49, 49]] : List (List UInt8)).length = 3 from rfl, hl, show ([[49, 48], [49, 49]] : List (List UInt8)).length = 2 from rfl, hp, hm] at e; exact e

theorem Zl4 {args : List AV} {f : FuncId} {v : AV} (h : (AV.purL [] args).bind (kn7 f) = some v) : ∃ p, AV.purL [] args = some p ∧ kn7 f p = some v := Option.bind_eq_some_iff.1 h
theorem Ztb : ∀ f p v, kn7 f p = some v → ∃ vs, PFn Tryz.prog f p vs ∧ v = Z0c (vs.map .p) := by
  intro f p v h; unfold kn7 at h
  split at h
  · injection h with h; exact ⟨_, Zh3, h.symm⟩
  · injection h with h; exact ⟨_, Zsv, h.symm⟩
  · injection h with h; exact ⟨_, Zp7, h.symm⟩
  · injection h with h; exact ⟨_, Zg6, h.symm⟩
  · cases h
theorem Zpk : ∀ f args v, axA7 f args = some v → AX Tryz.prog f args v ∨ ∀ h, AC Tryz.prog f args h [] (fun u h' => u = v ∧ h' = h) := by
  have go : ∀ f args v, (AV.purL [] args).bind (kn7 f) = some v → ∀ h, AC Tryz.prog f args h [] (fun u h' => u = v ∧ h' = h) := by
    intro f args v h; obtain ⟨p, h1, h2⟩ := Zl4 h; obtain ⟨vs, h3, h4⟩ := Ztb f p v h2; subst h4; exact fun h => AC.of_fn h3 (.inr h1)
  intro f args v h; unfold axA7 at h
  split at h
  · exact .inr (go _ _ _ h)
  · exact .inr (go _ _ _ h)
  · exact .inr (go _ _ _ h)
  · exact .inr (go _ _ _ h)
  · exact .inl (Zik _ _ _ h)

theorem hEA7 : ECOK ⟨Tryz.prog, Γ, axA7⟩ := ⟨hΓ, hmix, Zk5 (by kernel_rfl), Zpk⟩
theorem awE7 : (Zn8 ⟨Tryz.prog, Γ, axA7⟩ ptA7 2000 13 []).bind AV.pvT = some (.p (.bool true)) := by kernel_rfl
theorem Zim : PFn Tryz.prog 13 [] [.bool true] := by
  obtain ⟨v, h1, h2⟩ := Option.bind_eq_some_iff.1 awE7; exact .of_acP ((Zjl hEA7 h1).monoR fun u h' ⟨e1, e2⟩ => ⟨by rw [e1]; exact h2, e2⟩)

theorem u23 (q p : Int) (us bs : List (List UInt8)) (hl : us.length ≤ 9223372036854775807) : PFn Tryz.prog 21 [Za q us, Za p bs] [.bool (decide (q = p ∧ us = bs))] := by
  by_cases hq : q = p
  rotate_left
  · rw [decide_eq_false (fun e => hq e.1)]
    refine PFn.of_body hΓ Tryz.func21 (by kernel_rfl) rfl (Wd [] ?_); simp -implicitDefEqProofs only [Tryz.ntmps21, Tryz.results21, Nat.reduceAdd, Nat.reduceSub, Za, hq, go_sem]
  subst hq; rw [show decide (q = q ∧ us = bs) = decide (us = bs) by simp]; refine PFn.of_body hΓ Tryz.func21 (by kernel_rfl) rfl (Wd [] ?_); by_cases hn : (us.length : Int) = bs.length
  rotate_left
  · rw [decide_eq_false (fun e => hn (by rw [e]))]
    simp -implicitDefEqProofs only [Tryz.ntmps21, Tryz.results21, Nat.reduceAdd, Nat.reduceSub, Za, hn, go_sem]
  simp -implicitDefEqProofs only [Tryz.ntmps21, Tryz.results21, Nat.reduceAdd, Nat.reduceSub, Za, hn, go_sem]; have hn' : us.length = bs.length := by omega
  refine AWp.loopI (fun k : Nat => ⟨mkF 38 [(2, .ptr 0 0), (3, .ptr 1 0), (4, .p (.bool false)), (5, .p (.int .i64 k))], [Zy q us, Zy q bs]⟩)
    (fun k => k ≤ us.length ∧ us.take k = bs.take k) (fun k => us.length - k) 0 (by simp [go_sem, Zy]) (by simp) ?_
  rintro k ⟨hk, heq⟩; refine Wd [(6, 11)] ?_; by_cases hlt : k < us.length
  · have hlt2 : k < bs.length := by omega
    by_cases he : us[k] = bs[k]
    · simp -implicitDefEqProofs only [hlt, hlt2, he, Z3, ↓reduceIte, Zy, go_sem]
      refine ⟨by simp only [InR]; omega, k + 1, by omega, ⟨hlt, ?_⟩, by omega⟩; rw [List.take_succ_eq_append_getElem hlt, List.take_succ_eq_append_getElem hlt2, heq, he]
    · simp -implicitDefEqProofs only [hlt, hlt2, he, Z3, ↓reduceIte, Zy, go_sem]
      refine (decide_eq_false fun e => he ?_).symm; subst e; rfl
  · simp -implicitDefEqProofs only [hlt, Zy, go_sem]
    rw [List.take_of_length_le (by omega), List.take_of_length_le (by omega)] at heq; exact (decide_eq_true heq).symm


def slI (l : List Int) : PV := .sl (l.map (.int .i64))

end Go.Proofs.YtpljmccnfmkmfaaGreat
end

section
namespace Go.Proofs.YtpljmccnfmkmfaaGreat
open Go Go.AM Go.RowKit

end Go.Proofs.YtpljmccnfmkmfaaGreat
end

section
namespace Go.Proofs.YtpljmccnfmkmfaaGreat
open Go Go.AM


theorem p36 (a b : List Int) (hl : a.length ≤ 1000000) : PFn Tryz.prog 29 [slI a, slI b] [.bool (decide (a = b))] := by
  refine PFn.of_body hΓ Tryz.func29 (by kernel_rfl) rfl (Wd [(6, 9)] ?_); simp +contextual -implicitDefEqProofs only [slI, Tryz.ntmps29, Tryz.results29, Nat.reduceAdd, Nat.reduceSub, go_sem]; by_cases he : a.length = b.length
  rotate_left
  · have hz : ¬ (a.length : Int) = b.length := by omega
    simp -implicitDefEqProofs only [he, hz, List.length_map, go_sem]; exact (decide_eq_false fun e => he (by rw [e])).symm
  simp -implicitDefEqProofs only [he, List.length_map, go_sem]
  refine AWp.loopI (fun k : Nat => ⟨mkF 26 [(0, .p (.sl (a.map (.int .i64)))), (1, .p (.sl (b.map (.int .i64)))), (4, .p (.bool false)), (12, .p (.int .i64 b.length)), (13, .p (.int .i64 k))], []⟩)
    (fun k => k ≤ a.length ∧ a.take k = b.take k) (fun k => a.length - k) 0 (by simp [go_sem]) (by simp) ?_
  rintro k ⟨hk, heq⟩; simp -implicitDefEqProofs only [go_sem]; refine Wd [(6, 9)] ?_; by_cases hlt : k < b.length
  · have hla : k < a.length := by omega
    by_cases hk' : a[k] = b[k]
    · simp -implicitDefEqProofs only [hlt, hla, Z3, ↓reduceIte, hk', go_sem]
      refine ⟨by simp only [InR]; omega, k + 1, by simp, ⟨hla, ?_⟩, by omega⟩; rw [List.take_succ_eq_append_getElem hla, List.take_succ_eq_append_getElem hlt, heq, hk']
    · simp -implicitDefEqProofs only [hlt, hla, Z3, ↓reduceIte, hk', go_sem]
      exact (decide_eq_false fun e => hk' (by subst e; rfl)).symm
  · have hz : ¬ (k : Int) < b.length := by omega
    simp -implicitDefEqProofs only [hz, hlt, go_sem]; rw [List.take_of_length_le (by omega), List.take_of_length_le (by omega)] at heq; exact (decide_eq_true heq).symm

end Go.Proofs.YtpljmccnfmkmfaaGreat
end

