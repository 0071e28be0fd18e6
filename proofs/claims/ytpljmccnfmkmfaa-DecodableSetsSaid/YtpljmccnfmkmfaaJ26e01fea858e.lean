/-
  Texts of this claim, joined.
-/
import Derived.Test.YtpljmccnfmkmfaaJd84ec3f3388a
import Derived.Test.YtpljmccnfmkmfaaJff830da085a8
import Derived.Test.YtpljmccnfmkmfaaJ1f4fd6bc6bc0
import Derived.Test.YtpljmccnfmkmfaaJ49121bbc0e07
import Derived.Test.YtpljmccnfmkmfaaJ95ab7c36ce71

set_option linter.unusedSimpArgs false
set_option maxRecDepth 100000
set_option maxHeartbeats 4000000
section
namespace Go.Proofs.Ytpljmccnfmkmfaa.Dc
open Go Go.AM

theorem _root_.Go.Proofs.Ytpljmccnfmkmfaa.Valid.words {q : Int} {ws : List (List UInt8)} (hv : Valid q ws) : ∀ w ∈ ws, w ≠ [] ∧ w.length ≤ 32 ∧ Zl q w = 0 := fun w hw => by
  obtain ⟨j, hj, rfl⟩ := List.getElem_of_mem hw; have e : ws.getD j [] = ws[j] := by rw [List.getD_eq_getElem?_getD, List.getElem?_eq_getElem hj, Option.getD_some]
  rw [← e]; exact ⟨hv.ne j hj, hv.short j hj, hv.word j hj⟩
theorem Zcn (l : List (List UInt8)) : Zb (l.map .str) 1 := fun x hx => by
  obtain ⟨b, _, rfl⟩ := List.mem_map.1 hx
  rfl
theorem Zg5 (l : List (List UInt8)) : Z2u (l.map .str) := fun x hx c hc => by
  obtain ⟨b, _, rfl⟩ := List.mem_map.1 hx; have : c = .str b := by simpa [PV.cells] using hc
  subst this; rfl
theorem Zb0 (a b : List UInt8) : (decide (a.length < b.length) || (decide (a.length = b.length) && Op.bytesLess a b)) = true ↔ ltW a b := by
  unfold ltW; rw [← Zbh, Bool.or_eq_true, Bool.and_eq_true, decide_eq_true_iff, decide_eq_true_iff]
theorem Ze9 (A B : List (List UInt8)) (x : List UInt8) : ((A ++ x :: B).map PV.str).getD A.length default = .str x := by
  rw [List.getD_eq_getElem?_getD, List.getElem?_map, List.getElem?_append_right (Nat.le_refl _), Nat.sub_self]
  rfl
theorem Zcp (A B : List (List UInt8)) (x y : List UInt8) : ((A ++ x :: B).map PV.str).set A.length (.str y) = (A ++ y :: B).map PV.str := by
  rw [List.map_append, List.map_append, List.map_cons, List.map_cons, List.set_append_right _ _ (by simp), List.length_map, Nat.sub_self]
  rfl
theorem sortW_nodupD {l : List (List UInt8)} (h : l.Pairwise ltW) : l.Nodup := h.imp fun {a b} h e => by subst e; exact Zv _ h
theorem h153 (q : Nat) (ws : List (List UInt8)) (hc : Z7 q ws = 0) : PFn Try.prog 9 [Z9 q ws] [.sl ((residL ws).map .str), .int .i64 0] := by
  have hv := Go.Proofs.Ytpljmccnfmkmfaa.valid_of hc; have hlen := hv.len; have e40 := t44 q ws; rw [hc] at e40; have e54 := t54 (q : Int) ws (by omega); have e54o := r54o (q : Int) ws (by omega); have e56 := fun r => t56 (q : Int) ws r (by omega)
  unfold Z9 at e40 e54 e54o e56; refine PFn.of_body hΓ Try.func9 (by kernel_rfl) rfl (AWp.seq (Wd [] ?_)); simp -implicitDefEqProofs only [Try.ntmps9, Try.results9, Nat.reduceAdd, Nat.reduceSub, Z9, go_sem]; refine AWp.seq (Wd [] ?_); simp -implicitDefEqProofs only [go_sem]; refine Z4 e40 (.still rfl) ?_; simp -implicitDefEqProofs only [go_sem]; refine AWp.seq (Wd [] ?_); simp -implicitDefEqProofs only [go_sem]; refine ⟨⟨fun x h => (by cases h), by omega⟩, ?_⟩; refine AWp.adopt (l := []) 4 9 1 (by rfl) (by simp) ?_; simp -implicitDefEqProofs only [go_sem]; by_cases hf : Z0f ws = []
  · rw [hf] at e54
    have hR : residL ws = [] := by
      rw [List.eq_nil_iff_forall_not_mem]; intro x hx; have h := Z09.1 hx
      induction h with
      | first u h => rw [hf] at h; cases h
      | next r u hr hne h ih => exact ih (Z09.2 hr)
    rw [hR]; refine AWp.seq (Wd [] ?_); simp -implicitDefEqProofs only [go_sem]; refine Z4 e54 (.still rfl) ?_; simp -implicitDefEqProofs only [go_sem]; refine AWp.seq (AWp.block ?_); refine AWp.loopI (fun _ : Nat => ⟨mkF 78 [(1, .ptr 0 0), (4, .own 1 0), (5, .p (.sl []))], [.box [.p (.int .i64 q), .p (.sl (ws.map .str))], .row 9 1 [] .lax]⟩) (fun _ => True) (fun _ => 0) 0 (by simp [go_sem]) trivial ?_; intro _ _; have h00 : ((0 : Nat) : Int) = 0 := rfl; refine Wd [] ?_; simp -implicitDefEqProofs only [Int.lt_irrefl, List.length_nil, h00, go_sem]; refine AWp.seq (AWp.seq (Wd [] ?_)); simp -implicitDefEqProofs only [go_sem]; refine AWp.block ?_; refine AWp.loopI (fun _ : Nat => ⟨mkF 78 [(1, .ptr 0 0), (4, .own 1 0), (7, .p (.int .i64 0))], [.box [.p (.int .i64 q), .p (.sl (ws.map .str))], .row 9 1 [] .lax]⟩) (fun _ => True) (fun _ => 0) 0 (by simp [go_sem]) trivial ?_; intro _ _; refine Wd [(16, 14), (18, 15)] ?_; simp -implicitDefEqProofs only [Int.lt_irrefl, List.length_nil, h00, go_sem]; refine Wd [] ?_; simp -implicitDefEqProofs only [go_sem]
  have e54o := e54o hf; refine AWp.seq (Wd [] ?_); simp -implicitDefEqProofs only [go_sem]; refine Zn (AC.of_rowO e54o (.inr rfl)) (by simp) ?_; rintro v h' ⟨rfl, rfl⟩; simp -implicitDefEqProofs only [Z8, List.foldl, List.length_map, List.length_cons, List.length_nil, go_sem]; refine AWp.seq (AWp.block ?_); have hS : (sufs ws).length ≤ 64 * 33 := by
    have h1 := Z28 (ws := ws) (n := 32) fun w hw => (hv.words w hw).2.1
    have h2 : ws.length * 33 ≤ 64 * 33 := Nat.mul_le_mul_right _ hlen; omega
  have hF : (Z0f ws).length ≤ 64 * 64 := by
    have h1 := Z39 ws ws.length; have h2 : ws.length * ws.length ≤ 64 * 64 := Nat.mul_le_mul hlen hlen; unfold Z0f; omega
  refine AWp.loopJ (fun x : List (List UInt8) × List (List UInt8) => ⟨mkF 78 [(1, .ptr 0 0), (4, .own 1 x.1.length), (5, .own 2 x.2.length)], [.box [.p (.int .i64 q), .p (.sl (ws.map .str))], .row 9 1 (x.1.map .str) (rkOf x.1), .row 9 1 (x.2.map .str) .que]⟩)
    (fun x => RefR ws x.1 x.2 ∧ (64 * 33 - x.1.length) * 66 + x.2.length ≤ 200000) (fun x => (64 * 33 - x.1.length) * 66 + x.2.length) ([], Z0f ws)
    (fun x => by simp [Z1b, mkF, AV.blw, AV.blw.blwL, blwH, AObj.blw]) (by simp [go_sem, rkOf]) ⟨RefR.start ws, by simp; omega⟩ ?_
  rintro ⟨out, l⟩ ⟨R, hm⟩; simp only at R hm; have hol := R.len; refine Wd [] ?_
  cases l with
  | nil =>
    have h00 : ((0 : Nat) : Int) = 0 := rfl; simp -implicitDefEqProofs only [Int.lt_irrefl, List.length_nil, h00, go_sem]; have hD := R.done; have hne : out ≠ [] := fun e => by
      obtain ⟨x, hx⟩ := List.exists_mem_of_ne_nil _ hf; have := (hD x).2 (.first x hx); rw [e] at this
      cases this
    have hk : rkOf out = .own := if_neg hne; rw [hk]; have hnd := R.nd; clear R hm e54 e54o e56; obtain ⟨n, hn⟩ : ∃ n, n = out.length := ⟨_, rfl⟩; refine AWp.seq (AWp.seq (Wd [] ?_)); simp -implicitDefEqProofs only [go_sem]; refine AWp.block ?_
    refine AWp.loopI (fun x : List (List UInt8) × List (List UInt8) => ⟨mkF 78 [(1, .ptr 0 0), (4, .own 1 n), (7, .p (.int .i64 x.1.length))], [.box [.p (.int .i64 q), .p (.sl (ws.map .str))], .row 9 1 ((x.1 ++ x.2).map .str) .own, .row 9 1 [] .que]⟩)
      (fun x => x.1.Pairwise ltW ∧ (x.1 ++ x.2).Perm out) (fun x => x.2.length) ([], out) (by rw [hn]; simp [go_sem]) ⟨.nil, .refl _⟩ ?_
    rintro ⟨P, T⟩ ⟨hP, hperm⟩; simp only at hP hperm; have hPn := hperm.length_eq; rw [List.length_append] at hPn; have hnd2 := hperm.nodup_iff.2 hnd; refine Wd [(16, 14), (18, 15)] ?_
    cases T with
    | nil =>
      have hlt' : ¬ (P.length : Int) < (n : Int) := by simp at hPn; omega
      have hPe : P = residL ws := Z29 hP (Z0v ws) fun x => by
        rw [Z09, ← hD, ← hperm.mem_iff, List.append_nil]
      rw [List.append_nil, hPe]; rw [hPe] at hlt'; simp -implicitDefEqProofs only [hlt', List.length_map, go_sem]; refine Wd [] ?_; simp -implicitDefEqProofs only [go_sem]
    | cons x T =>
      have hlt' : (P.length : Int) < (n : Int) := by simp at hPn; omega
      rw [List.length_cons] at hPn; have hxP : ∀ y ∈ P, y ≠ x := fun y hy e => by
        have := (List.nodup_append.1 hnd2).2.2 y hy x (by simp); exact this e
      have hlo : out.length ≤ 64 * 33 := by omega
      simp -implicitDefEqProofs only [hlt', List.length_map, go_sem]
      refine AWp.loopI (fun z : List (List UInt8) × List (List UInt8) => ⟨mkF 78 [(1, .ptr 0 0), (4, .own 1 n), (7, .p (.int .i64 P.length)), (8, .p (.int .i64 z.1.length))], [.box [.p (.int .i64 q), .p (.sl (ws.map .str))], .row 9 1 ((z.1 ++ x :: (z.2 ++ T)).map .str) .own, .row 9 1 [] .que]⟩)
        (fun z => z.1 ++ z.2 = P ∧ ∀ b ∈ z.2, ltW x b) (fun z => z.1.length) (P, []) (by simp [go_sem]) ⟨by simp, by simp⟩ ?_
      rintro ⟨A, B⟩ ⟨hAB, hB⟩; simp only at hAB hB; have hAl : A.length + B.length = P.length := by rw [← hAB, List.length_append]
      have hsA : A.Pairwise ltW := (List.pairwise_append.1 (hAB ▸ hP)).1; have hsB : B.Pairwise ltW := (List.pairwise_append.1 (hAB ▸ hP)).2.1; have hsAB : ∀ a ∈ A, ∀ b ∈ B, ltW a b := (List.pairwise_append.1 (hAB ▸ hP)).2.2; have hend : (∀ a ∈ A, ltW a x) → (A ++ x :: B).Pairwise ltW ∧ ((A ++ x :: B) ++ T).Perm out ∧ (A ++ x :: B).length = P.length + 1 := fun ha => by
        refine ⟨List.pairwise_append.2 ⟨hsA, List.pairwise_cons.2 ⟨hB, hsB⟩, fun a h1 b h2 => ?_⟩, ?_, by simp; omega⟩
        · rcases List.mem_cons.1 h2 with rfl | h2
          · exact ha a h1
          · exact hsAB a h1 b h2
        · refine List.Perm.trans ?_ hperm
          rw [← hAB]; simp only [List.append_assoc, List.cons_append]; exact List.Perm.append_left A (List.perm_middle.symm)
      refine Wd [(16, 14), (18, 15)] ?_; rcases List.eq_nil_or_concat A with hA0 | ⟨A', y, hA0⟩
      · subst hA0
        have hend := hend (by simp); have hz0 : ¬ (0 : Int) < ((0 : Nat) : Int) := by omega
        simp -implicitDefEqProofs only [hz0, List.length_nil, go_sem]; exact ⟨by simp only [InR]; omega, ([] ++ x :: B, T), ⟨by have := hend.2.2; simp only; omega, .inl (by simp)⟩, ⟨hend.1, hend.2.1⟩, by simp⟩
      · rw [List.concat_eq_append] at hA0
        subst hA0; have hk : (A' ++ [y]).length = A'.length + 1 := by simp
        obtain ⟨M, hM⟩ : ∃ M, M = ((A' ++ [y]) ++ x :: (B ++ T)).map PV.str := ⟨_, rfl⟩; have hMl : M.length = n := by rw [hM]; simp at hAl ⊢; omega
        have hgx : M.getD (A' ++ [y]).length default = .str x := by rw [hM]; exact Ze9 _ _ _
        have hgy : M.getD (((A' ++ [y]).length : Int) - 1).toNat default = .str y := by
          rw [hM, show (((A' ++ [y]).length : Int) - 1).toNat = A'.length by omega, List.append_assoc]; exact Ze9 A' (x :: (B ++ T)) y
        have hset : (M.set (A' ++ [y]).length (.str y)).set (((A' ++ [y]).length : Int) - 1).toNat (.str x) = (A' ++ x :: (y :: B ++ T)).map PV.str := by
          rw [hM, Zcp (A' ++ [y]) (B ++ T) x y, show (((A' ++ [y]).length : Int) - 1).toNat = A'.length by omega, List.append_assoc]; exact Zcp A' (y :: (B ++ T)) y x
        have e57 := t57 x y; rw [← hM]; generalize hK : (A' ++ [y]).length = K at *; have hKp : (0 : Int) < (K : Int) := by omega
        by_cases hxy : ltW x y
        · rw [(Zb0 x y).2 hxy] at e57
          simp -implicitDefEqProofs only [hKp, hgx, hgy, hMl, Int.toNat_natCast, go_sem]; refine ⟨by omega, by omega, by simp only [InR]; omega, ⟨by omega, by omega⟩, by omega, Z1o e57 (.pures rfl) ?_⟩; simp -implicitDefEqProofs only [hKp, hgx, hgy, hMl, Int.toNat_natCast, hset, List.length_set, go_sem]; refine ⟨by simp only [InR]; omega, by simp only [InR]; omega, ⟨by omega, by omega⟩, by omega, by omega, by omega, by omega, ⟨by omega, rfl⟩, ⟨by omega, by omega⟩, ⟨by omega, rfl⟩, by simp only [InR]; omega, (A', y :: B), ⟨by simp only; omega, .inl rfl⟩, ⟨by rw [← hAB]; simp, fun b hb => ?_⟩, by simp only; omega⟩; rcases List.mem_cons.1 hb with rfl | hb
          · exact hxy
          · exact hB b hb
        · rw [Bool.eq_false_iff.2 (fun h => hxy ((Zb0 x y).1 h))] at e57
          simp -implicitDefEqProofs only [hKp, hgx, hgy, hMl, Int.toNat_natCast, go_sem]; refine ⟨by omega, by omega, by simp only [InR]; omega, ⟨by omega, by omega⟩, by omega, Z1o e57 (.pures rfl) ?_⟩; have hyx : ltW y x := Classical.byContradiction fun h => hxP y (by rw [← hAB]; simp) (Z1d h hxy)
          have hend := hend fun a ha => (List.mem_append.1 ha).elim (fun h => Z0h ((List.pairwise_append.1 hsA).2.2 a h y (by simp)) hyx) fun h => by rw [List.mem_singleton.1 h]; exact hyx
          simp -implicitDefEqProofs only [hKp, hgx, hgy, hMl, Int.toNat_natCast, go_sem]; exact ⟨by simp only [InR]; omega, (A' ++ [y] ++ x :: B, T), ⟨by have := hend.2.2; simp only; omega, .inl (by rw [hM]; simp)⟩, ⟨hend.1, hend.2.1⟩, by simp⟩
  | cons r l =>
    have hlp : (0 : Int) < ((l.length + 1 : Nat) : Int) := by omega
    have hi0 : Int.toNat 0 < l.length + 1 := by simp
    have hg0 : (PV.str r :: l.map PV.str).getD (Int.toNat 0) default = .str r := rfl; have e55 := t55 out r (by omega); have hd1 : List.drop (Int.toNat 1) (PV.str r :: l.map PV.str) = l.map PV.str := rfl; simp -implicitDefEqProofs only [hlp, hi0, hg0, List.length_map, List.length_cons, List.map_cons, hd1, go_sem]; refine ⟨⟨.inl (by omega), by omega, by omega⟩, Z4 e55 (.owned rfl rfl) ?_⟩; have hm' : (64 * 33 - out.length) * 66 + (l.length + 1) ≤ 200000 := hm; by_cases hin : r ∈ out
    · simp -implicitDefEqProofs only [hin, go_sem]
      exact ⟨(out, l), ⟨⟨rfl, by simp⟩, .inl ⟨rfl, rfl⟩, rfl⟩, ⟨R.skip hin, by simp only; omega⟩, by simp only; omega⟩
    have hs1 : Zb [PV.str r] 1 := by simp [Zb, PV.cells]
    have ho1 : Z2u [PV.str r] := by simp [Z2u, PV.cells, PV.isAgg]
    simp -implicitDefEqProofs only [hin, go_sem]; refine ⟨⟨hs1, by omega⟩, ⟨hs1, ho1⟩, ⟨by unfold rkOf; split <;> simp, by simp, by omega, by omega⟩, fun h0 => ?_, fun hne => ?_⟩
    · have R2 := R.add hin (m := l) (fun _ => rfl) (fun h => absurd h0 h)
      have hol2 := R2.len; rw [List.length_append, List.length_singleton] at hol2; exact ⟨(out ++ [r], l), ⟨⟨by simp, by simp⟩, .inl ⟨by simp, by rw [Z5r]; rfl⟩, rfl⟩, ⟨R2, by simp only [List.length_append, List.length_singleton]; omega⟩, by simp only [List.length_append, List.length_singleton]; omega⟩
    · have R2 := R.add hin (m := l ++ Z13 ws r) (fun h => absurd h hne) (fun _ => rfl)
      have hol2 := R2.len; rw [List.length_append, List.length_singleton] at hol2; have hnl := Z5w r ws; refine Z4 (e56 r) (.still rfl) ?_; simp -implicitDefEqProofs only [go_sem]; refine ⟨⟨Zcn _, Zg5 _⟩, ⟨.inl (by omega), by simp; omega, by simp; omega⟩, (out ++ [r], l ++ Z13 ws r), ⟨⟨by simp, by simp⟩, .inl ⟨by simp, by rw [Z5r]; rfl⟩, ?_⟩, ⟨R2, by simp only [List.length_append, List.length_singleton]; omega⟩, by simp only [List.length_append, List.length_singleton]; omega⟩
      cases hN : Z13 ws r with
      | nil => exact .inl ⟨by simp, by simp⟩
      | cons u t => exact .inr (.inr (by simp))

theorem h153e (q : Int) (ws : List (List UInt8)) (hc : Z7 q ws ≠ 0) : PFn Try.prog 9 [Z9 q ws] [.sl [], .int .i64 1] := by
  have e40 := t44 q ws; unfold Z9 at e40; refine PFn.of_body hΓ Try.func9 (by kernel_rfl) rfl (AWp.seq (Wd [] ?_)); simp -implicitDefEqProofs only [Try.ntmps9, Try.results9, Nat.reduceAdd, Nat.reduceSub, Z9, go_sem]; refine AWp.seq (Wd [] ?_); simp -implicitDefEqProofs only [go_sem]; refine Z4 e40 (.still rfl) ?_; simp -implicitDefEqProofs only [hc, go_sem]; exact ⟨fun x h => (by cases h), by omega⟩
theorem h92 (q : Nat) (ws : List (List UInt8)) (hc : Z7 q ws = 0) : PFn Try.prog 11 [Z9 q ws] [.bool (!decide ([] ∈ residL ws)), .int .i64 0] := by
  have hv := Go.Proofs.Ytpljmccnfmkmfaa.valid_of hc; have hlen := hv.len; have e1 := h153 q ws hc; have hl : (residL ws).length ≤ 9223372036854775807 := by
    have h1 := Z4i (sortW_nodupD (Z0v ws)) fun x hx => Z2h (Zu (Z09.1 hx))
    have h2 := Z28 (ws := ws) (n := 32) fun w hw => (hv.words w hw).2.1
    have h3 : ws.length * 33 ≤ 64 * 33 := Nat.mul_le_mul_right _ hlen; omega
  have e2 := t55 (residL ws) [] hl; unfold Z9 at e1; refine PFn.of_body hΓ Try.func11 (by kernel_rfl) rfl (AWp.seq (Wd [] ?_)); simp -implicitDefEqProofs only [Try.ntmps11, Try.results11, Nat.reduceAdd, Nat.reduceSub, Z9, go_sem]; refine AWp.seq (Wd [] ?_); simp -implicitDefEqProofs only [go_sem]; refine Z4 e1 (.still rfl) ?_; simp -implicitDefEqProofs only [go_sem]; refine Wd [] ?_; simp -implicitDefEqProofs only [go_sem]; refine Z4 e2 (.pures rfl) ?_; simp -implicitDefEqProofs only [go_sem]
end Go.Proofs.Ytpljmccnfmkmfaa.Dc
end

section
namespace Go.Proofs.Ytpljmccnfmkmfaa
open Go Go.AM

theorem Valid.ne' {q : Int} {ws : List (List UInt8)} (hv : Valid q ws) : ∀ x ∈ ws, x ≠ [] := fun x hx => by
  obtain ⟨j, hj, rfl⟩ := List.getElem_of_mem hx; have := hv.ne j hj
  rwa [List.getD_eq_getElem?_getD, List.getElem?_eq_getElem hj, Option.getD_some] at this

def noAV : PV := .agg [.str [], .sl [], .sl []]
theorem r12d (q : Int) (ws : List (List UInt8)) (hc : Z7 q ws = 0) (hr : ¬ Z1e ws []) : PFn Try.prog 12 [Z9 q ws] [noAV, .bool false, .int .i64 0] := by
  have hv := valid_of hc; have e1 := t45 q ws; rw [hc] at e1; have e2 := t47 q ws hv; rw [decide_eq_false (fun h => hr (Z09.1 h))] at e2; unfold Z9 at e1 e2; refine PFn.of_body hΓ Try.func12 (by kernel_rfl) rfl (AWp.seq (Wd [] ?_)); simp -implicitDefEqProofs only [Try.ntmps12, Try.results12, Nat.reduceAdd, Nat.reduceSub, Z9, go_sem]; refine AWp.seq (Wd [] ?_); simp -implicitDefEqProofs only [go_sem]; refine Z4 e1 (.still rfl) ?_; simp -implicitDefEqProofs only [go_sem]; refine AWp.seq (Wd [] ?_); simp -implicitDefEqProofs only [go_sem]; refine Z4 e2 (.still rfl) ?_; simp -implicitDefEqProofs only [Bool.not_false, noAV, go_sem]
theorem r12e (q : Int) (ws : List (List UInt8)) (hc : Z7 q ws ≠ 0) : PFn Try.prog 12 [Z9 q ws] [noAV, .bool false, .int .i64 1] := by
  have e1 := t45 q ws; unfold Z9 at e1; refine PFn.of_body hΓ Try.func12 (by kernel_rfl) rfl (AWp.seq (Wd [] ?_)); simp -implicitDefEqProofs only [Try.ntmps12, Try.results12, Nat.reduceAdd, Nat.reduceSub, Z9, go_sem]; refine AWp.seq (Wd [] ?_); simp -implicitDefEqProofs only [go_sem]; refine Z4 e1 (.still rfl) ?_; simp -implicitDefEqProofs only [hc, noAV, go_sem]
def zL (l : List Nat) : List Int := l.map Int.ofNat
theorem Zn0 (l : List Nat) : slV l = .sl ((zL l).map (.int .i64)) := by
  unfold slV zL; rw [List.map_map]
  rfl
theorem Z9z {ws : List (List UInt8)} {q : Int} (hv : Valid q ws) (hg : Z47 ws = false) : ws.length ≤ 6 ∧ ∀ x ∈ ws, x.length ≤ 6 := by
  unfold Z47 at hg; simp only [Bool.or_eq_false_iff, Bool.and_eq_false_iff, decide_eq_false_iff_not, List.any_eq_false] at hg; refine ⟨by have := hv.len; omega, fun x hx => ?_⟩; obtain ⟨j, hj, rfl⟩ := List.getElem_of_mem hx; have h32 := hv.short j hj; rw [List.getD_eq_getElem?_getD, List.getElem?_eq_getElem hj, Option.getD_some] at h32; have := hg.1 _ hx; unfold Z1h at this; simp only [Bool.or_eq_true, Bool.and_eq_true, decide_eq_true_eq] at this; omega

theorem Z9d {ws : List (List UInt8)} (hn : ∀ x ∈ ws, x ≠ []) : ∀ {l : List Nat}, (∀ k ∈ l, k < ws.length) → l.length ≤ (spW ws l).length
  | [], _ => Nat.zero_le _
  | k :: l, h => by
    have := Z9d hn (l := l) fun i hi => h i (by simp [hi])
    have := List.length_pos_iff.2 (hn _ (Z37 (h k (by simp)))); rw [Z7h, List.length_append, List.length_cons]; omega
theorem Zkt {q : Int} {ws : List (List UInt8)} (hv : Valid q ws) (hg : Z47 ws = false) (hr : Z1e ws []) : ∃ w x y l, MinP ws w ∧ rdI ws w = x :: y :: l ∧ x ≠ y ∧ (∀ k ∈ x, k < ws.length) ∧ (∀ k ∈ y, k < ws.length) ∧ spW ws x = w ∧ spW ws y = w := by
  obtain ⟨h6, hl6⟩ := Z9z hv hg; have hb : ws.length * (6 + 1) * 6 ≤ 4096 := by
    have h3 : ws.length * (6 + 1) ≤ 6 * 7 := Nat.mul_le_mul_right _ h6; omega
  rcases Zjh ws with ⟨w, hw⟩ | hn
  · obtain ⟨x, y, l, h1, h2, h3, h4, h5, h6⟩ := Zbi hv.ne' (hw.1.amb2 hv.ne')
    exact ⟨w, x, y, l, hw, h1, fun e => Z5z x (by rw [← e] at h2; exact h2), h3, h4, h5, h6⟩
  · obtain ⟨v, hv1, hv2⟩ := Z9i (Z31 hv) hl6 hb hr
    exact absurd hv2 (hn v hv1)


def sndF (ws : List (List UInt8)) (F : OF) : Prop := ∀ x v, F x = some v → Pw ws v x
def Zeb (ws : List (List UInt8)) (F : OF) (i k : Nat) : Prop := ∀ i' k', i' < ws.length → k' < ws.length → (i' < i ∨ (i' = i ∧ k' < k)) → i' ≠ k' → (ws.getD k' []).isPrefixOf (ws.getD i' []) = true → hitF F ((ws.getD i' []).drop (ws.getD k' []).length) (ws.getD i' [])
def Zg9 (ws : List (List UInt8)) (F : OF) (r : List UInt8) : Prop := ∀ w, F r = some w → r ≠ [] → w.length ≤ 4096 → ∀ p ∈ nxtL ws r w, hitF F p.1 p.2
theorem Zjv {ws : List (List UInt8)} {F : OF} (h : Zeb ws F ws.length 0) : ∀ p ∈ fstL ws, hitF F p.1 p.2 := by
  intro p hp; obtain ⟨⟨y, u⟩, hq, rfl⟩ := List.mem_map.1 hp; obtain ⟨x, hx, hy, e, hu⟩ := Z43 hq; obtain ⟨k, hk, rfl⟩ := List.getElem_of_mem hx; obtain ⟨i, hi, rfl⟩ := List.getElem_of_mem hy; have gk : ws.getD k [] = ws[k] := by rw [List.getD_eq_getElem?_getD, List.getElem?_eq_getElem hk, Option.getD_some]
  have gi : ws.getD i [] = ws[i] := by rw [List.getD_eq_getElem?_getD, List.getElem?_eq_getElem hi, Option.getD_some]
  have := h i k hi hk (.inl hi) (fun ei => hu (by subst ei; exact List.append_right_eq_self.1 e.symm)) (by rw [gk, gi, e, List.isPrefixOf_iff_prefix]; exact List.prefix_append _ _); rw [gk, gi] at this; have ed : ws[i].drop ws[k].length = u := by rw [e, List.drop_left]
  rw [ed] at this; exact this
theorem Z9s (all : List (List UInt8)) : List.replicate all.length (PV.str []) = Z1g all (fun _ => none) := by
  unfold Z1g; rw [List.map_const']
  rfl
theorem Za2 (all : List (List UInt8)) : List.replicate all.length (PV.bool false) = Z1i all (fun _ => none) := by
  unfold Z1i; rw [List.map_const']
  rfl
def resA (ws : List (List UInt8)) : Option (List UInt8) → PV
  | some w => .agg [.str w, slV ((rdI ws w).getD 0 []), slV ((rdI ws w).getD 1 [])]
  | none => noAV

theorem h13e (q : Int) (ws : List (List UInt8)) (hc : Z7 q ws ≠ 0) : PFn Try.prog 13 [Z9 q ws] [noAV, .bool false, .int .i64 1] := by
  have e1 := Dc.h153e q ws hc; unfold Z9 at e1; refine PFn.of_body hΓ Try.func13 (by kernel_rfl) rfl (AWp.seq (Wd [] ?_)); simp -implicitDefEqProofs only [Try.ntmps13, Try.results13, Nat.reduceAdd, Nat.reduceSub, Z9, go_sem]; refine AWp.seq (Wd [] ?_); simp -implicitDefEqProofs only [go_sem]; refine Z4 e1 (.still rfl) ?_; simp -implicitDefEqProofs only [go_sem]; have h10 : ¬ (1 : Int) = 0 := by decide
  refine AWp.seq (Wd [] ?_); simp -implicitDefEqProofs only [noAV, h10, go_sem]
theorem h13d (q : Nat) (ws : List (List UInt8)) (hc : Z7 q ws = 0) (hr : ¬ Z1e ws []) : PFn Try.prog 13 [Z9 q ws] [noAV, .bool false, .int .i64 0] := by
  have e1 := Dc.h153 q ws hc; have hl := Z34 (valid_of hc); have e2 := t55 (residL ws) [] (by omega); rw [decide_eq_false (fun h => hr (Z09.1 h))] at e2; unfold Z9 at e1; refine PFn.of_body hΓ Try.func13 (by kernel_rfl) rfl (AWp.seq (Wd [] ?_)); simp -implicitDefEqProofs only [Try.ntmps13, Try.results13, Nat.reduceAdd, Nat.reduceSub, Z9, go_sem]; refine AWp.seq (Wd [] ?_); simp -implicitDefEqProofs only [go_sem]; refine Z4 e1 (.still rfl) ?_; simp -implicitDefEqProofs only [go_sem]; refine AWp.seq (Wd [] ?_); simp -implicitDefEqProofs only [go_sem]; refine AWp.seq (Wd [] ?_); simp -implicitDefEqProofs only [go_sem]; refine Z4 e2 (.pures rfl) ?_; simp -implicitDefEqProofs only [Bool.not_false, noAV, go_sem]

open Classical in
theorem h13 (q : Nat) (ws : List (List UInt8)) (hc : Z7 q ws = 0) (hr : Z1e ws []) {o : Option (List UInt8)} (ho : OP ws o) : PFn Try.prog 13 [Z9 q ws] [resA ws o, .bool o.isSome, .int .i64 (if o.isSome then 0 else 4)] := by
  have e1 := Dc.h153 q ws hc; have hv := valid_of hc; have hl := Z34 hv; have e2 := t55 (residL ws) [] (by omega); rw [decide_eq_true (Z09.2 hr)] at e2; have hnd : (residL ws).Nodup := Dc.sortW_nodupD (Z0v ws); unfold Z9 at e1; refine PFn.of_body hΓ Try.func13 (by kernel_rfl) rfl (AWp.seq (Wd [] ?_)); simp -implicitDefEqProofs only [Try.ntmps13, Try.results13, Nat.reduceAdd, Nat.reduceSub, Z9, go_sem]; refine AWp.seq (Wd [] ?_); simp -implicitDefEqProofs only [go_sem]; refine Z4 e1 (.still rfl) ?_; simp -implicitDefEqProofs only [go_sem]; refine AWp.seq (Wd [] ?_); simp -implicitDefEqProofs only [go_sem]; refine AWp.seq (Wd [] ?_); simp -implicitDefEqProofs only [go_sem]; refine Z4 e2 (.pures rfl) ?_; simp -implicitDefEqProofs only [Bool.not_true, go_sem]; obtain ⟨all, hall⟩ : ∃ all, all = residL ws := ⟨_, rfl⟩; rw [← hall] at hl hnd ⊢; have hmem : ∀ x, x ∈ all ↔ Z1e ws x := fun x => by rw [hall]; exact Z09
  refine AWp.seq (Wd [] ?_); simp -implicitDefEqProofs only [Int.toNat_natCast, List.length_map, go_sem]; refine ⟨⟨by omega, by omega⟩, ?_⟩; refine AWp.seq (Wd [] ?_); simp -implicitDefEqProofs only [Int.toNat_natCast, List.length_map, go_sem]; refine ⟨⟨by omega, by omega⟩, ?_⟩; rw [Z9s, Za2]; have hH : ∀ F, [AObj.box [.p (.int .i64 q), .p (.sl (ws.map .str))], .box [.p (.str []), .full [], .full []], .row 9 1 (Z1g all F) .own, .row 4 1 (Z1i all F) .own] = Z00 q ws all F := fun F => rfl
  have hws64 := hv.len; have get : ∀ i, (h : i < ws.length) → ws.getD i [] = ws[i] := fun i h => by rw [List.getD_eq_getElem?_getD, List.getElem?_eq_getElem h, Option.getD_some]
  have hinj := Z31 hv
  refine AWp.seqM (fun F : OF => ⟨mkF 220 [(1, .ptr 0 0), (2, .ptr 1 0), (5, .p (.sl (all.map .str))), (7, .own 2 all.length), (8, .own 3 all.length)], Z00 q ws all F⟩)
    (fun F => sndF ws F ∧ Zeb ws F ws.length 0) (AWp.seq (Wd [] ?_)) ?_
  · simp -implicitDefEqProofs only [go_sem]
    refine AWp.block ?_
    refine AWp.loopI (fun p : Nat × OF => ⟨mkF 220 [(1, .ptr 0 0), (2, .ptr 1 0), (5, .p (.sl (all.map .str))), (7, .own 2 all.length), (8, .own 3 all.length), (9, .p (.int .i64 p.1))], Z00 q ws all p.2⟩)
      (fun p => p.1 ≤ ws.length ∧ sndF ws p.2 ∧ Zeb ws p.2 p.1 0) (fun p => ws.length - p.1) (0, fun _ => none) (by simp [go_sem, Z00, Z0]) ⟨Nat.zero_le _, fun x v h => by (simp only at h; cases h), fun i' k' _ _ h => by omega⟩ ?_
    rintro ⟨i, F⟩ ⟨hi, hsF, hfF⟩; simp only at hi hsF hfF; unfold Z00; simp -implicitDefEqProofs only [Z0, go_sem]; by_cases hlt : i < ws.length
    rotate_left
    · have hie : i = ws.length := by omega
      subst hie; refine Wd [(14, 16), (15, 1000)] ?_; simp -implicitDefEqProofs only [Int.lt_irrefl, List.length_map, go_sem]; exact ⟨F, ⟨by simp [Z0], by simp, by simp⟩, hsF, hfF⟩
    have hlt' : (i : Int) < (ws.length : Int) := by omega
    refine AWp.seq (Wd [] ?_); simp -implicitDefEqProofs only [hlt', List.length_map, go_sem]; refine AWp.seq (AWp.block (AWp.seq (Wd [] ?_))); simp -implicitDefEqProofs only [go_sem]; refine AWp.block ?_
    refine AWp.loopI (fun p : Nat × OF => ⟨mkF 220 [(1, .ptr 0 0), (2, .ptr 1 0), (5, .p (.sl (all.map .str))), (7, .own 2 all.length), (8, .own 3 all.length), (9, .p (.int .i64 i)), (10, .p (.int .i64 p.1))], Z00 q ws all p.2⟩)
      (fun p => p.1 ≤ ws.length ∧ sndF ws p.2 ∧ Zeb ws p.2 i p.1) (fun p => ws.length - p.1) (0, F) (by simp [go_sem, Z00, Z0]) ⟨Nat.zero_le _, hsF, hfF⟩ ?_
    rintro ⟨k, F1⟩ ⟨hk, hs1, hf1⟩; simp only at hk hs1 hf1; unfold Z00; simp -implicitDefEqProofs only [Z0, go_sem]; by_cases hkl : k < ws.length
    rotate_left
    · have hke : k = ws.length := by omega
      subst hke; refine AWp.seq (Wd [] ?_); simp -implicitDefEqProofs only [Int.lt_irrefl, List.length_map, go_sem]; refine Wd [] ?_; simp -implicitDefEqProofs only [go_sem]; refine ⟨by simp only [InR]; omega, (i + 1, F1), ⟨by simp, by simp [Z00, Z0]⟩, ⟨hlt, hs1, fun i' k' h1 h2 h3 => hf1 i' k' h1 h2 (by omega)⟩, by simp only; omega⟩
    have hkl' : (k : Int) < (ws.length : Int) := by omega
    have hkr : InR IntKind.i64 ((k : Int) + 1) := by simp only [InR]; omega
    have nextK : ∀ F2, sndF ws F2 → (∀ r w, hitF F1 r w → hitF F2 r w) → (i ≠ k → ws[k].isPrefixOf ws[i] = true → hitF F2 (ws[i].drop ws[k].length) ws[i]) → Zeb ws F2 i (k + 1) := fun F2 _ hkeep hnew i' k' h1 h2 h3 h4 h5 => by
      by_cases hc : i' < i ∨ (i' = i ∧ k' < k)
      · exact hkeep _ _ (hf1 i' k' h1 h2 hc h4 h5)
      · have ei : i' = i := by omega
        have ek : k' = k := by omega
        subst ei ek; rw [get i' h1, get k' h2] at h5 ⊢; exact hnew h4 h5
    refine AWp.seq (Wd [] ?_); simp -implicitDefEqProofs only [hkl', List.length_map, go_sem]; by_cases hik : i = k
    · have hik' : (i : Int) = (k : Int) := by omega
      refine AWp.seq (AWp.block (Wd [(14, 16), (15, 1000)] ?_)); simp -implicitDefEqProofs only [hik', go_sem]; refine Wd [] ?_; simp -implicitDefEqProofs only [go_sem]; exact ⟨hkr, (k + 1, F1), ⟨by simp, by simp [Z0]⟩, ⟨hkl, hs1, nextK F1 hs1 (fun _ _ h => h) (fun h => absurd hik h)⟩, by simp only; omega⟩
    have hik' : ¬ (i : Int) = (k : Int) := by omega
    have e32 := t60 ws[i] ws[k]; refine AWp.seq (AWp.block (Wd [(14, 16), (15, 1000)] ?_)); simp -implicitDefEqProofs only [hik', hlt, hkl, Z2, ↓reduceIte, Int.toNat_natCast, List.length_map, go_sem]; refine Z1o e32 (.pures rfl) ?_
    cases hpre : ws[k].isPrefixOf ws[i]
    · simp -implicitDefEqProofs only [go_sem]
      refine Wd [] ?_; simp -implicitDefEqProofs only [go_sem]; exact ⟨hkr, (k + 1, F1), ⟨by simp, by simp [Z00, Z0]⟩, ⟨hkl, hs1, nextK F1 hs1 (fun _ _ h => h) (fun _ h => by rw [hpre] at h; cases h)⟩, by simp only; omega⟩
    have hxl : ws[k].length ≤ ws[i].length := (List.isPrefixOf_iff_prefix.1 hpre).length_le; have hu : ws[i].drop ws[k].length ∈ Z0f ws := by
      rw [Z4l]; exact ⟨i, k, hlt, hkl, hik, by rw [get i hlt, get k hkl]; exact hpre, by rw [get i hlt, get k hkl]⟩
    have hpair : (ws[i], ws[i].drop ws[k].length) ∈ Z0w ws := by
      refine Zg0 (List.getElem_mem hkl) (List.getElem_mem hlt) (Z35 hpre) fun e => hik ?_
      have e1 := Z35 hpre; rw [e, List.append_nil] at e1; exact hinj i k hlt hkl (by rw [get i hlt, get k hkl]; exact e1)
    have hput := c33 (q := q) (ws := ws) hnd (by omega) F1 ws[i] ((hmem _).2 (.first _ hu)); simp -implicitDefEqProofs only [go_sem]; refine AWp.planL (.q 0 (.q 1 (.q 2 (.q 3 (.q 4 (.q 5 (.q 6 (.q 7 (.q 8 (.q 9 (.q 10 (.q 11 (.q 12 (.q 13 (.q 14 (.q 15 (.q 16 (.q 17 (.q 18 (.q 19 (.e 20 .fin .nil))))))))))))))))))))) hΓ hmix (by kernel_rfl) ?_; simp -implicitDefEqProofs only [hlt, hkl, Z2, ↓reduceIte, Int.toNat_natCast, List.length_map, go_sem]; refine ⟨hxl, Zn hput (by simp) ?_⟩; rintro v h' ⟨rfl, rfl⟩; unfold Z00; simp -implicitDefEqProofs only [Z8, List.foldl, Z0, go_sem]; refine Wd [] ?_; simp -implicitDefEqProofs only [go_sem]; have hs2 := Z6r hs1 (.first _ _ hpair); exact ⟨hkr, (k + 1, putF F1 (ws[i].drop ws[k].length) ws[i]), ⟨by simp, by simp [Z00, Z0]⟩, ⟨hkl, hs2, nextK _ hs2 (fun _ _ h => Z63 h) (fun _ _ => Zgp _ _ _)⟩, by simp only; omega⟩
  rintro F ⟨hsF, hfF⟩; have hfA := Zjv hfF; clear hfF; have hshort : ∀ r, Z1e ws r → r.length ≤ 32 := fun r h => by
    obtain ⟨x, hx, hs⟩ := Zu h; obtain ⟨j, hj, rfl⟩ := List.getElem_of_mem hx; have h32 := hv.short j hj; rw [get j hj] at h32; exact Nat.le_trans hs.length_le h32
  obtain ⟨M, hM⟩ : ∃ M, ∀ w : List UInt8, w.length ≤ 4200 → numW w < M := ⟨257 ^ 4200, fun w h => Zbs h⟩
  refine AWp.seqM (fun F : OF => ⟨mkF 220 [(1, .ptr 0 0), (2, .ptr 1 0), (5, .p (.sl (all.map .str))), (7, .own 2 all.length), (8, .own 3 all.length)], Z00 q ws all F⟩)
    (fun F => FixF ws F) (AWp.seq (Wd [] ?_)) ?_
  · unfold Z00
    simp -implicitDefEqProofs only [Z0, go_sem]; refine AWp.block ?_
    refine AWp.loopI (fun p : OF × Bool => ⟨mkF 220 [(1, .ptr 0 0), (2, .ptr 1 0), (5, .p (.sl (all.map .str))), (7, .own 2 all.length), (8, .own 3 all.length), (11, .p (.bool p.2))], Z00 q ws all p.1⟩)
      (fun p => sndF ws p.1 ∧ (∀ x ∈ fstL ws, hitF p.1 x.1 x.2) ∧ (p.2 = false → ∀ r ∈ all, Zg9 ws p.1 r)) (fun p => 2 * sumF M p.1 all + (if p.2 then 1 else 0)) (F, true) (by simp [go_sem, Z00, Z0]) ⟨hsF, hfA, fun h => by cases h⟩ ?_
    rintro ⟨F0, ch⟩ ⟨hs0, hf0, hn0⟩; simp only at hs0 hf0 hn0; unfold Z00; simp -implicitDefEqProofs only [Z0, go_sem]
    cases ch
    · refine AWp.seq (Wd [] ?_)
      simp -implicitDefEqProofs only [go_sem]; exact ⟨F0, ⟨by simp, by simp⟩, ⟨hs0, hf0, fun r w h hne hl p hp => hn0 rfl r ((hmem r).2 (hs0 r w h).reach) w h hne hl p hp⟩⟩
    refine AWp.seq (Wd [] ?_); simp -implicitDefEqProofs only [go_sem]; refine AWp.block ?_; refine AWp.seq (Wd [] ?_); simp -implicitDefEqProofs only [go_sem]; refine AWp.seq (Wd [] ?_); simp -implicitDefEqProofs only [go_sem]; refine AWp.block ?_
    refine AWp.loopI (fun p : Nat × OF × Bool => ⟨mkF 220 [(1, .ptr 0 0), (2, .ptr 1 0), (5, .p (.sl (all.map .str))), (7, .own 2 all.length), (8, .own 3 all.length), (11, .p (.bool p.2.2)), (12, .p (.int .i64 p.1))], Z00 q ws all p.2.1⟩)
      (fun p => p.1 ≤ all.length ∧ sndF ws p.2.1 ∧ (∀ x ∈ fstL ws, hitF p.2.1 x.1 x.2) ∧ sumF M p.2.1 all ≤ sumF M F0 all ∧ (p.2.2 = true → sumF M p.2.1 all < sumF M F0 all) ∧ (p.2.2 = false → p.2.1 = F0 ∧ ∀ j (hj : j < all.length), j < p.1 → Zg9 ws F0 all[j]))
      (fun p => all.length - p.1) (0, F0, false) (by simp [go_sem, Z00, Z0]) ⟨Nat.zero_le _, hs0, hf0, Nat.le_refl _, (fun h => by cases h), fun _ => ⟨rfl, fun j _ h => absurd h (Nat.not_lt_zero j)⟩⟩ ?_
    rintro ⟨i, F1, c1⟩ ⟨hi, hs1, hf1, hsum, hst, hsf⟩; simp only at hi hs1 hf1 hsum hst hsf; unfold Z00; simp -implicitDefEqProofs only [Z0, go_sem]; by_cases hlt : i < all.length
    rotate_left
    · have hie : i = all.length := by omega
      subst hie; refine AWp.seq (Wd [] ?_); simp -implicitDefEqProofs only [Int.lt_irrefl, List.length_map, go_sem]; refine ⟨(F1, c1), ⟨by simp, by simp [Z00, Z0]⟩, ⟨hs1, hf1, fun h r hr => ?_⟩, ?_⟩
      · obtain ⟨e, h2⟩ := hsf h
        obtain ⟨j, hj, rfl⟩ := List.getElem_of_mem hr; simp only [e]; exact h2 j hj hj
      · cases c1
        · rw [(hsf rfl).1]; simp
        · have := hst rfl
          simp only [if_true]; omega
    have hlt' : (i : Int) < (all.length : Int) := by omega
    have hir : InR IntKind.i64 ((i : Int) + 1) := by simp only [InR]; omega
    have g1 := Z36 (F := F1) hlt; have g2 := Z38 (F := F1) hlt; refine AWp.seq (Wd [] ?_); simp -implicitDefEqProofs only [hlt', List.length_map, go_sem]
    have skip : Zg9 ws F1 all[i] → ∃ y : Nat × OF × Bool, y = (i + 1, F1, c1) ∧ (y.1 ≤ all.length ∧ sndF ws y.2.1 ∧ (∀ x ∈ fstL ws, hitF y.2.1 x.1 x.2) ∧ sumF M y.2.1 all ≤ sumF M F0 all ∧ (y.2.2 = true → sumF M y.2.1 all < sumF M F0 all) ∧ (y.2.2 = false → y.2.1 = F0 ∧ ∀ j (hj : j < all.length), j < y.1 → Zg9 ws F0 all[j])) ∧ all.length - y.1 < all.length - i := fun hok =>
      ⟨(i + 1, F1, c1), rfl, ⟨hlt, hs1, hf1, hsum, hst, fun h => ⟨(hsf h).1, fun j hj hji => by
        rcases Nat.lt_or_ge j i with h1 | h1
        · exact (hsf h).2 j hj h1
        · have : j = i := by simp only at hji; omega
          subst this; rw [← (hsf h).1]; exact hok⟩⟩, by simp only; omega⟩
    cases hF1 : F1 all[i] with
    | none =>
      rw [hF1] at g1 g2; refine AWp.seq (AWp.block (AWp.seq (Wd [] ?_))); simp -implicitDefEqProofs only [hlt, Z2, ↓reduceIte, g1, g2, Z0e, Zw, Int.toNat_natCast, Option.isSome_none, go_sem]; refine Wd [] ?_; simp -implicitDefEqProofs only [go_sem]; obtain ⟨y, rfl, h1, h2⟩ := skip fun w hw => by rw [hF1] at hw; cases hw
      exact ⟨hir, (i + 1, F1, c1), ⟨by simp, by simp [Z0]⟩, h1, h2⟩
    | some v =>
    rw [hF1] at g1 g2; simp only [Option.getD_some, Option.isSome_some] at g1 g2; refine AWp.seq (AWp.block (AWp.seq (Wd [] ?_))); by_cases hnil : all[i] = []
    · simp -implicitDefEqProofs only [hlt, Z2, ↓reduceIte, g1, g2, Z0e, Zw, Int.toNat_natCast, hnil, go_sem]
      refine Wd [] ?_; simp -implicitDefEqProofs only [go_sem]; obtain ⟨y, rfl, h1, h2⟩ := skip fun w _ hne => absurd hnil hne
      exact ⟨hir, (i + 1, F1, c1), ⟨by simp, by simp [Z0]⟩, h1, h2⟩
    by_cases hbig : 4096 < v.length
    · have hbig' : (4096 : Int) < (v.length : Int) := by omega
      simp -implicitDefEqProofs only [hlt, Z2, ↓reduceIte, g1, g2, Z0e, Zw, Int.toNat_natCast, hnil, hbig', go_sem]; refine Wd [] ?_; simp -implicitDefEqProofs only [go_sem]; obtain ⟨y, rfl, h1, h2⟩ := skip fun w hw _ hl => by
        rw [hF1] at hw
        injection hw with hw
        subst hw; omega
      exact ⟨hir, (i + 1, F1, c1), ⟨by simp, by simp [Z0]⟩, h1, h2⟩
    have hbig' : ¬ (4096 : Int) < (v.length : Int) := by omega
    simp -implicitDefEqProofs only [hlt, Z2, ↓reduceIte, g1, g2, Z0e, Zw, Int.toNat_natCast, hnil, hbig', go_sem]; have hvl : v.length ≤ 4096 := by omega
    have hrR : Z1e ws all[i] := (hmem _).1 (List.getElem_mem hlt); refine AWp.seq (Wd [] ?_); simp -implicitDefEqProofs only [go_sem]; refine AWp.block ?_
    refine AWp.loopI (fun p : Nat × OF × Bool => ⟨mkF 220 [(1, .ptr 0 0), (2, .ptr 1 0), (5, .p (.sl (all.map .str))), (7, .own 2 all.length), (8, .own 3 all.length), (11, .p (.bool p.2.2)), (12, .p (.int .i64 i)), (13, .p (.int .i64 p.1))], Z00 q ws all p.2.1⟩)
      (fun p => p.1 ≤ ws.length ∧ sndF ws p.2.1 ∧ (∀ x ∈ fstL ws, hitF p.2.1 x.1 x.2) ∧ sumF M p.2.1 all ≤ sumF M F0 all ∧ (p.2.2 = true → sumF M p.2.1 all < sumF M F0 all) ∧
        (p.2.2 = false → p.2.1 = F0 ∧ c1 = false ∧ ∀ k', k' < p.1 → ∀ x ∈ Z1k all[i] (ws.getD k' []), hitF F0 x.1 (v ++ x.1.drop (x.1.length - x.2))) ∧ hitF p.2.1 all[i] v)
      (fun p => ws.length - p.1) (0, F1, c1) (by simp [go_sem, Z00, Z0]) ⟨Nat.zero_le _, hs1, hf1, hsum, hst, fun h => ⟨(hsf h).1, h, fun k' h => absurd h (Nat.not_lt_zero k')⟩, ⟨v, hF1, leW.refl v⟩⟩ ?_
    rintro ⟨k, F2, c2⟩ ⟨hk, hs2, hf2, hsum2, hst2, hsf2, hhit⟩; simp only at hk hs2 hf2 hsum2 hst2 hsf2 hhit; unfold Z00; simp -implicitDefEqProofs only [Z0, go_sem]; by_cases hkl : k < ws.length
    rotate_left
    · have hke : k = ws.length := by omega
      subst hke; refine AWp.seq (Wd [] ?_); simp -implicitDefEqProofs only [Int.lt_irrefl, List.length_map, go_sem]; refine Wd [] ?_; simp -implicitDefEqProofs only [go_sem]; refine ⟨hir, (i + 1, F2, c2), ⟨by simp, by simp [Z00, Z0]⟩, ⟨hlt, hs2, hf2, hsum2, hst2, fun h => ⟨(hsf2 h).1, fun j hj hji => ?_⟩⟩, by simp only; omega⟩; obtain ⟨e2, e1, e3⟩ := hsf2 h; obtain ⟨e4, e5⟩ := hsf e1; rcases Nat.lt_or_ge j i with h1 | h1
      · exact e5 j hj h1
      · have : j = i := by simp only at hji; omega
        subst this; intro w hw hne hl p hp; rw [← e4, hF1] at hw
        injection hw with hw
        subst hw; obtain ⟨x, hx, rfl⟩ := List.mem_map.1 hp; unfold Zo at hx; obtain ⟨z, hz, hx⟩ := List.mem_flatMap.1 hx; obtain ⟨k', hk', rfl⟩ := List.getElem_of_mem hz; exact e3 k' hk' x (by rw [get k' hk']; exact hx)
    have hkl' : (k : Int) < (ws.length : Int) := by omega
    have hkr : InR IntKind.i64 ((k : Int) + 1) := by simp only [InR]; omega
    obtain ⟨v2, hF2, hv2⟩ := hhit; have hv2l := hv2.len; have g1 := Z36 (F := F2) hlt; have g2 := Z38 (F := F2) hlt; rw [hF2] at g1 g2; simp only [Option.getD_some, Option.isSome_some] at g1 g2; have hvv : c2 = false → v2 = v := fun h => by
      obtain ⟨e2, e1, _⟩ := hsf2 h; rw [e2, ← (hsf e1).1, hF1] at hF2
      injection hF2 with hF2
      exact hF2.symm
    -- what holds when the word k is done
    have fin : ∀ u n, Z1k all[i] ws[k] = [(u, n)] → u ∈ all ∧ u.length ≤ 32 ∧ ∀ c3, (c3 = (decide (¬ hitF F2 u (v2 ++ u.drop (u.length - n))) || c2)) →
        (k + 1 ≤ ws.length ∧ sndF ws (putF F2 u (v2 ++ u.drop (u.length - n))) ∧ (∀ x ∈ fstL ws, hitF (putF F2 u (v2 ++ u.drop (u.length - n))) x.1 x.2) ∧ sumF M (putF F2 u (v2 ++ u.drop (u.length - n))) all ≤ sumF M F0 all ∧ (c3 = true → sumF M (putF F2 u (v2 ++ u.drop (u.length - n))) all < sumF M F0 all) ∧
        (c3 = false → putF F2 u (v2 ++ u.drop (u.length - n)) = F0 ∧ c1 = false ∧ ∀ k', k' < k + 1 → ∀ x ∈ Z1k all[i] (ws.getD k' []), hitF F0 x.1 (v ++ x.1.drop (x.1.length - x.2))) ∧ hitF (putF F2 u (v2 ++ u.drop (u.length - n))) all[i] v) := by
      intro u n hx; have hmemP : (u, n) ∈ Zo ws all[i] := Zdn (List.getElem_mem hkl) (by rw [hx]; simp); have huR : Z1e ws u := .next _ u hrR hnil (by rw [Z59]; exact List.mem_map.2 ⟨_, hmemP, rfl⟩); have hul := hshort u huR; refine ⟨(hmem u).2 huR, hul, fun c3 hc3 => ⟨hkl, Z6r hs2 (.next v2 _ u n (hs2 _ _ hF2) hnil hmemP), fun x hx => Z63 (hf2 x hx), ?_, ?_, ?_, Z63 ⟨v2, hF2, hv2⟩⟩⟩
      · by_cases hh : hitF F2 u (v2 ++ u.drop (u.length - n))
        · rw [show putF F2 u (v2 ++ u.drop (u.length - n)) = F2 from if_pos hh]; exact hsum2
        · have := Zap (M := M) ((hmem u).2 huR) (hM _ (by rw [List.length_append, List.length_drop]; omega)) hh
          omega
      · intro h3
        by_cases hh : hitF F2 u (v2 ++ u.drop (u.length - n))
        · rw [show putF F2 u (v2 ++ u.drop (u.length - n)) = F2 from if_pos hh]
          refine hst2 ?_; rw [h3] at hc3
          simpa [hh] using hc3.symm
        · have := Zap (M := M) ((hmem u).2 huR) (hM _ (by rw [List.length_append, List.length_drop]; omega)) hh
          omega
      · intro h3
        rw [h3] at hc3; have hc3 := hc3.symm; rw [Bool.or_eq_false_iff] at hc3; have hh : hitF F2 u (v2 ++ u.drop (u.length - n)) := by simpa using hc3.1
        obtain ⟨e2, e1, e3⟩ := hsf2 hc3.2; have ev := hvv hc3.2; refine ⟨(if_pos hh).trans e2, e1, fun k' hk' x hx' => ?_⟩; rcases Nat.lt_or_ge k' k with h1 | h1
        · exact e3 k' h1 x hx'
        · have : k' = k := by omega
          subst this; rw [get k' hkl, hx, List.mem_singleton] at hx'; subst hx'; rw [← e2, ← ev]; exact hh
    refine AWp.seq (Wd [] ?_); simp -implicitDefEqProofs only [hkl', List.length_map, go_sem]; refine AWp.seq (AWp.block (AWp.seq (Wd [(26, 11)] ?_))); simp -implicitDefEqProofs only [hlt, hkl, Z2, ↓reduceIte, Int.toNat_natCast, List.length_map, go_sem]; have e32 := t60 all[i] ws[k]; refine AWp.seq (Wd [] ?_); simp -implicitDefEqProofs only [go_sem]; refine Z4 e32 (.pures rfl) ?_
    cases hp1 : ws[k].isPrefixOf all[i]
    rotate_left
    · have hxl : ws[k].length ≤ all[i].length := (List.isPrefixOf_iff_prefix.1 hp1).length_le
      have hx : Z1k all[i] ws[k] = [(all[i].drop ws[k].length, 0)] := by unfold Z1k; rw [if_pos hp1]
      obtain ⟨hu, hul, hfin⟩ := fin _ _ hx; rw [Nat.sub_zero, List.drop_length, List.append_nil] at hfin; have hput := c33 (q := q) (ws := ws) hnd (by omega) F2 v2 hu; simp -implicitDefEqProofs only [go_sem]; refine Wd [(28, 1000), (30, 1000)] ?_; simp -implicitDefEqProofs only [go_sem]; refine AWp.planL (.q 0 (.q 1 (.q 2 (.q 3 (.q 4 (.q 5 (.q 6 (.q 7 (.q 8 (.q 9 (.q 10 (.e 11 (.q 12 (.q 13 (.q 14 (.q 15 .fin)))) .nil)))))))))))) hΓ hmix (by kernel_rfl) ?_; simp -implicitDefEqProofs only [hlt, hkl, Z2, ↓reduceIte, g1, Zw, Int.toNat_natCast, List.length_map, go_sem]; refine ⟨hxl, Zn hput (by simp) ?_⟩; rintro v' h' ⟨rfl, rfl⟩; unfold Z00; by_cases hh : hitF F2 (all[i].drop ws[k].length) (v2)
      · have hd : decide (¬ hitF F2 (all[i].drop ws[k].length) (v2)) = false := by simp [hh]
        have h3 := hfin c2 (by rw [hd, Bool.false_or]); rw [hd]; simp -implicitDefEqProofs only [Z8, List.foldl, Z0, go_sem]; refine Wd [] ?_; simp -implicitDefEqProofs only [go_sem]; exact ⟨hkr, (k + 1, putF F2 (all[i].drop ws[k].length) v2, c2), ⟨by simp, by simp [Z00, Z0]⟩, h3, by simp only; omega⟩
      · have hd : decide (¬ hitF F2 (all[i].drop ws[k].length) (v2)) = true := by simp [hh]
        have h3 := hfin true (by rw [hd, Bool.true_or]); rw [hd]; simp -implicitDefEqProofs only [Z8, List.foldl, Z0, go_sem]; refine Wd [] ?_; simp -implicitDefEqProofs only [go_sem]; exact ⟨hkr, (k + 1, putF F2 (all[i].drop ws[k].length) v2, true), ⟨by simp, by simp [Z00, Z0]⟩, h3, by simp only; omega⟩
    have e32b := t60 ws[k] all[i]; simp -implicitDefEqProofs only [go_sem]; refine Wd [(28, 1000), (30, 1000)] ?_; simp -implicitDefEqProofs only [go_sem]; refine Z4 e32b (.pures rfl) ?_
    cases hp2 : all[i].isPrefixOf ws[k]
    · simp -implicitDefEqProofs only [go_sem]
      refine Wd [] ?_; simp -implicitDefEqProofs only [go_sem]; have hx : Z1k all[i] ws[k] = [] := by unfold Z1k; rw [if_neg (by simp [hp1]), if_neg (by simp [hp2])]
      refine ⟨hkr, (k + 1, F2, c2), ⟨by simp, by simp [Z00, Z0]⟩, ⟨hkl, hs2, hf2, hsum2, hst2, fun h => ?_, ⟨v2, hF2, hv2⟩⟩, by simp only; omega⟩; obtain ⟨e2, e1, e3⟩ := hsf2 h; refine ⟨e2, e1, fun k' hk' x hx' => ?_⟩; rcases Nat.lt_or_ge k' k with h1 | h1
      · exact e3 k' h1 x hx'
      · have : k' = k := by simp only at hk'; omega
        subst this; rw [get k' hkl, hx] at hx'
        cases hx'
    have hxl : all[i].length ≤ ws[k].length := (List.isPrefixOf_iff_prefix.1 hp2).length_le; have hx : Z1k all[i] ws[k] = [(ws[k].drop all[i].length, (ws[k].drop all[i].length).length)] := by unfold Z1k; rw [if_neg (by simp [hp1]), if_pos hp2]
    obtain ⟨hu, hul, hfin⟩ := fin _ _ hx; rw [Nat.sub_self, List.drop_zero] at hfin; have hput := c33 (q := q) (ws := ws) hnd (by omega) F2 (v2 ++ ws[k].drop all[i].length) hu; simp -implicitDefEqProofs only [go_sem]; refine AWp.planL (.q 0 (.q 1 (.q 2 (.q 3 (.q 4 (.q 5 (.q 6 (.q 7 (.q 8 (.q 9 (.q 10 (.q 11 (.q 12 (.q 13 (.q 14 (.q 15 (.e 16 (.q 17 (.q 18 (.q 19 (.q 20 .fin)))) .nil))))))))))))))))) hΓ hmix (by kernel_rfl) ?_; simp -implicitDefEqProofs only [hlt, hkl, Z2, ↓reduceIte, g1, Zw, Int.toNat_natCast, List.length_map, go_sem]; refine ⟨hxl, hxl, by rw [List.length_drop] at hul ⊢; omega, Zn hput (by simp) ?_⟩; rintro v' h' ⟨rfl, rfl⟩; unfold Z00; by_cases hh : hitF F2 (ws[k].drop all[i].length) (v2 ++ ws[k].drop all[i].length)
    · have hd : decide (¬ hitF F2 (ws[k].drop all[i].length) (v2 ++ ws[k].drop all[i].length)) = false := by simp [hh]
      have h3 := hfin c2 (by rw [hd, Bool.false_or]); rw [hd]; simp -implicitDefEqProofs only [Z8, List.foldl, Z0, go_sem]; refine Wd [] ?_; simp -implicitDefEqProofs only [go_sem]; exact ⟨hkr, (k + 1, putF F2 (ws[k].drop all[i].length) (v2 ++ ws[k].drop all[i].length), c2), ⟨by simp, by simp [Z00, Z0]⟩, h3, by simp only; omega⟩
    · have hd : decide (¬ hitF F2 (ws[k].drop all[i].length) (v2 ++ ws[k].drop all[i].length)) = true := by simp [hh]
      have h3 := hfin true (by rw [hd, Bool.true_or]); rw [hd]; simp -implicitDefEqProofs only [Z8, List.foldl, Z0, go_sem]; refine Wd [] ?_; simp -implicitDefEqProofs only [go_sem]; exact ⟨hkr, (k + 1, putF F2 (ws[k].drop all[i].length) (v2 ++ ws[k].drop all[i].length), true), ⟨by simp, by simp [Z00, Z0]⟩, h3, by simp only; omega⟩
  intro F hF
  obtain ⟨bf, hb0, hbs⟩ : ∃ bf : Nat → Bool, bf 0 = false ∧ ∀ i (h : i < all.length), bf (i + 1) = (bf i || (decide (all[i] = []) && (F []).isSome)) :=
    ⟨fun i => decide ([] ∈ all.take i) && (F []).isSome, by simp, fun i h => by
      show (decide ([] ∈ all.take (i + 1)) && (F []).isSome) = ((decide ([] ∈ all.take i) && (F []).isSome) || (decide (all[i] = []) && (F []).isSome)); rw [List.take_succ_eq_append_getElem h]; simp only [List.mem_append, List.mem_singleton, Bool.decide_or]; rw [show decide ([] = all[i]) = decide (all[i] = []) from decide_eq_decide.2 ⟨Eq.symm, Eq.symm⟩, Bool.and_or_distrib_right]⟩
  have hbl : bf all.length = (F []).isSome := by
    obtain ⟨j, hj, ej⟩ := List.getElem_of_mem ((hmem []).2 hr); have up : ∀ i, i ≤ all.length → (bf i = true → (F []).isSome = true) ∧ (j < i → (F []).isSome = true → bf i = true) := by
      intro i
      induction i with
      | zero => intro _; exact ⟨(fun h => by rw [hb0] at h; cases h), fun h => absurd h (Nat.not_lt_zero j)⟩
      | succ i ih =>
        intro hi; obtain ⟨h1, h2⟩ := ih (by omega); rw [hbs i (by omega)]; refine ⟨fun h => ?_, fun hji hs => ?_⟩
        · rw [Bool.or_eq_true, Bool.and_eq_true] at h
          exact h.elim h1 fun h => h.2
        · rcases Nat.lt_or_ge j i with h3 | h3
          · rw [h2 h3 hs]; rfl
          · have : i = j := by omega
            subst this; rw [hs, ej]; simp
    obtain ⟨h1, h2⟩ := up all.length (Nat.le_refl _); rw [Bool.eq_iff_iff]; exact ⟨h1, h2 hj⟩
  obtain ⟨Wf, hW⟩ : ∃ Wf : Nat → List UInt8, ∀ i, Wf i = if bf i = true then (F []).getD [] else [] := ⟨_, fun _ => rfl⟩
  have hW0 : Wf 0 = [] := by rw [hW, hb0]; rfl
  refine AWp.seq (Wd [] ?_); unfold Z00; simp -implicitDefEqProofs only [Z0, go_sem]; refine AWp.seqM (fun _ : Unit => ⟨mkF 220 [(1, .ptr 0 0), (2, .ptr 1 0), (16, .p (.str (Wf all.length))), (17, .p (.bool (bf all.length)))], Z00 q ws all F⟩) (fun _ => True) (AWp.seq (Wd [] ?_)) ?_
  · simp -implicitDefEqProofs only [go_sem]
    refine AWp.block ?_
    refine AWp.loopI (fun i : Nat => ⟨mkF 220 [(1, .ptr 0 0), (2, .ptr 1 0), (5, .p (.sl (all.map .str))), (7, .own 2 all.length), (8, .own 3 all.length), (16, .p (.str (Wf i))), (17, .p (.bool (bf i))), (18, .p (.int .i64 i))], Z00 q ws all F⟩)
      (fun i => i ≤ all.length) (fun i => all.length - i) 0 (by simp [go_sem, Z00, Z0, hW0, hb0]) (Nat.zero_le _) ?_
    intro i hi; unfold Z00; simp -implicitDefEqProofs only [Z0, go_sem]; by_cases hlt : i < all.length
    rotate_left
    · have hie : i = all.length := by omega
      subst hie; refine Wd [] ?_; simp -implicitDefEqProofs only [Int.lt_irrefl, List.length_map, go_sem]; simp [Z0]
    have hlt' : (i : Int) < (all.length : Int) := by omega
    have hir : InR IntKind.i64 ((i : Int) + 1) := by simp only [InR]; omega
    have g1 := Z36 (F := F) hlt; have g2 := Z38 (F := F) hlt; have hbi := hbs i hlt; refine AWp.seq (Wd [] ?_); simp -implicitDefEqProofs only [hlt', List.length_map, go_sem]; by_cases hnil : all[i] = []
    · rw [hnil] at g1 g2
      cases hS : (F []).isSome
      · rw [hS] at g2 hbi
        have e1 : bf (i + 1) = bf i := by rw [hbi]; simp
        have e2 : Wf (i + 1) = Wf i := by rw [hW, hW, e1]
        refine AWp.seq (AWp.block (AWp.seq (Wd [] ?_))); simp -implicitDefEqProofs only [hlt, Z2, ↓reduceIte, g1, g2, Z0e, Zw, Int.toNat_natCast, hnil, go_sem]; refine Wd [] ?_; simp -implicitDefEqProofs only [go_sem]; refine Wd [] ?_; simp -implicitDefEqProofs only [go_sem]; exact ⟨hir, i + 1, ⟨⟨by simp only [e2], by simp only [e1], by simp⟩, by simp [Z0]⟩, hlt, by omega⟩
      · rw [hS] at g2 hbi
        have e1 : bf (i + 1) = true := by rw [hbi, hnil]; simp
        have e2 : Wf (i + 1) = (F []).getD [] := by rw [hW, e1]; rfl
        refine AWp.seq (AWp.block (AWp.seq (Wd [] ?_))); simp -implicitDefEqProofs only [hlt, Z2, ↓reduceIte, g1, g2, Z0e, Zw, Int.toNat_natCast, hnil, go_sem]; refine Wd [] ?_; simp -implicitDefEqProofs only [hlt, g1, Zw, Int.toNat_natCast, go_sem]; refine Wd [] ?_; simp -implicitDefEqProofs only [go_sem]; exact ⟨hir, i + 1, ⟨⟨by simp only [e2], by simp only [e1], by simp⟩, by simp [Z0]⟩, hlt, by omega⟩
    · have e1 : bf (i + 1) = bf i := by rw [hbi]; simp [hnil]
      have e2 : Wf (i + 1) = Wf i := by rw [hW, hW, e1]
      refine AWp.seq (AWp.block (AWp.seq (Wd [] ?_))); simp -implicitDefEqProofs only [hlt, Z2, ↓reduceIte, g1, g2, Z0e, Zw, Int.toNat_natCast, hnil, go_sem]; refine Wd [] ?_; simp -implicitDefEqProofs only [go_sem]; refine Wd [] ?_; simp -implicitDefEqProofs only [go_sem]; exact ⟨hir, i + 1, ⟨⟨by simp only [e2], by simp only [e1], by simp⟩, by simp [Z0]⟩, hlt, by omega⟩
  rintro _ -; rw [hbl, hW, hbl]; unfold Z00
  cases o with
  | none =>
    cases hFe : F [] with
    | none =>
      refine AWp.seq (Wd [] ?_); simp -implicitDefEqProofs only [Z0, Option.isSome_none, resA, noAV, ↓reduceIte, Bool.false_eq_true, go_sem]
    | some u =>
      have hu := hF.none ho hFe; have hu' : (4096 : Int) < (u.length : Int) := by omega
      refine AWp.seq (Wd [] ?_); simp -implicitDefEqProofs only [Z0, Option.isSome_none, Option.isSome_some, Option.getD_some, resA, noAV, ↓reduceIte, Bool.false_eq_true, hu', go_sem]
  | some w =>
  have hm : MinP ws w := ho; have hFe := hF.min hm; have hwl := hm.2.1; have hw' : ¬ (4096 : Int) < (w.length : Int) := by omega
  have hn := hv.ne'; obtain ⟨x, y, l, hxy, hlex, hx, hy, ex, ey⟩ := Zbi hn (hm.1.amb2 hn); have eN1 : ((w.length : Int) + 1).toNat = w.length + 1 := by omega
  rw [hFe]; refine AWp.seq (Wd [] ?_); simp -implicitDefEqProofs only [Z0, Option.isSome_some, Option.getD_some, ↓reduceIte, hw', go_sem]; refine AWp.seq (Wd [(39, 1000)] ?_); simp -implicitDefEqProofs only [go_sem]; refine AWp.planL (.q 0 (.q 1 (.q 2 (.q 3 (.q 4 (.q 5 (.q 6 (.e 7 (.s 0 (.s 1 (.s 2 (.s 3 (.e 8 (.q 9 .fin) .nil))))) .nil)))))))) hΓ hmix (by kernel_rfl) ?_; have hws256 : ws.length ≤ 256 := by omega
  have eD : (List.replicate (w.length + 1) false).map PV.bool = PV.bool false :: List.replicate w.length (PV.bool false) := by simp [List.replicate_succ]
  have hSD : SD ws w (List.replicate (w.length + 1) false) := ⟨by simp, fun j hj h => by
    rw [List.getD_eq_getElem?_getD, List.getElem?_replicate] at h
    split at h <;> cases h⟩
  have hAC : AC Try.prog 34 [.agg [.p (.int .i64 q), .p (.sl (ws.map .str))], .p (.str w), .full [], .full [], .own 4 (w.length + 1)]
      [.box [.p (.int .i64 q), .p (.sl (ws.map .str))], .box [.p (.str []), .full [], .full []], .row 9 1 (Z1g all F) .own, .row 4 1 (Z1i all F) .own, .row 4 1 (PV.bool false :: List.replicate w.length (PV.bool false)) .own] []
      (r34R ws w 4 5 [x, y] [.box [.p (.int .i64 q), .p (.sl (ws.map .str))], .box [.p (.str []), .full [], .full []], .row 9 1 (Z1g all F) .own, .row 4 1 (Z1i all F) .own, .row 4 1 (PV.bool false :: List.replicate w.length (PV.bool false)) .own, .row 32 1 [] .lax]) := by
    refine AC.adopt (l := []) 3 32 1 rfl (by simp) ?_; refine AC.args (args := [.agg [.p (.int .i64 q), .p (.sl (ws.map .str))], .p (.str w), .p (.sl []), .own 5 0, .own 4 (w.length + 1)]) rfl (fun i => ?_) ?_
    · match i with
      | 0 => exact .inl rfl
      | 1 => exact .inl rfl
      | 2 => exact .inr ⟨[], rfl, rfl⟩
      | 3 => exact .inl rfl
      | 4 => exact .inl rfl
      | n + 5 => exact .inl (by simp)
    have := r34 (q := q) hn hws256 hwl w.length 0 [] [] [.box [.p (.int .i64 q), .p (.sl (ws.map .str))], .box [.p (.str []), .full [], .full []], .row 9 1 (Z1g all F) .own, .row 4 1 (Z1i all F) .own, .row 4 1 (PV.bool false :: List.replicate w.length (PV.bool false)) .own, .row 32 1 [] .lax] 4 5 (List.replicate (w.length + 1) false) .lax
      (by omega) (by omega) (by simpa using hwl) (by simp) hSD (by rw [eD]; rfl) rfl (by simp) (by simp) (fun o ho => by
        simp only [List.mem_cons, List.not_mem_nil, or_false] at ho; rcases ho with rfl | rfl | rfl | rfl | rfl | rfl <;> exact ⟨fun k => rfl, fun b xs => rfl⟩)
    rw [List.drop_zero, hxy] at this
    simpa using this
  simp -implicitDefEqProofs only [eN1, go_sem]; refine ⟨⟨by simp [Zb], by omega⟩, ⟨by simp [Zb], by omega⟩, by simp only [InR]; omega, ⟨by omega, by omega, by omega⟩, ⟨by simp [Zb], by omega⟩, ⟨by simp [Zb], by omega⟩, ?_⟩; refine Zn hAC (by simp) ?_; rintro v h' ⟨D', rk', t1, t0, t2, t3, t4, t5, t6, rfl⟩; have b1 : h'[1]? = some (.box [.p (.str []), .full [], .full []]) := (t6 1 (by simp) (by omega) (by omega)).trans rfl; simp -implicitDefEqProofs only [Z8, List.foldl, List.length_cons, List.length_nil, go_sem]; refine Wd [(40, 8)] ?_; have hl1 : 1 < h'.length := (List.getElem?_eq_some_iff.1 b1).1; have fs : ∀ z, (h'.set 1 z)[1]? = some z := fun z => List.getElem?_set_self hl1
  simp -implicitDefEqProofs only [t5, b1, fs, List.map_cons, List.map_nil, show Int.toNat 0 = 0 from rfl, show Int.toNat 1 = 1 from rfl, List.getD_cons_zero, List.getD_cons_succ, slV, go_sem]; refine ⟨by omega, ⟨by omega, by omega⟩, by omega, by omega, ?_⟩; have e : resA ws (some w) = .agg [.str w, slV ((rdI ws w).getD 0 []), slV ((rdI ws w).getD 1 [])] := rfl; rw [e, hxy]
  rfl

theorem e16 (a b : List (List UInt8)) (hl : a.length ≤ 9223372036854775807) : PFn Try.prog 16 [.sl (a.map .str), .sl (b.map .str)] [.bool (decide (a = b))] := by
  refine PFn.of_body hΓ Try.func16 (by kernel_rfl) rfl (Wd [] ?_); simp -implicitDefEqProofs only [Try.ntmps16, Try.results16, Nat.reduceAdd, Nat.reduceSub, go_sem]; by_cases he : a.length = b.length
  rotate_left
  · simp -implicitDefEqProofs only [he, go_sem]
    exact (decide_eq_false fun e : a = b => he (by rw [e])).symm
  simp -implicitDefEqProofs only [he, go_sem]
  refine AWp.loopI (fun k : Nat => ⟨mkF 26 [(0, .p (.sl (a.map .str))), (1, .p (.sl (b.map .str))), (4, .p (.bool false)), (12, .p (.int .i64 b.length)), (13, .p (.int .i64 k))], []⟩)
    (fun k => k ≤ a.length ∧ a.take k = b.take k) (fun k => a.length - k) 0 (by simp [go_sem]) (by simp) ?_
  rintro k ⟨hk, heq⟩; refine Wd [(6, 9)] ?_; by_cases hlt : k < a.length
  · have hltb : k < b.length := by omega
    by_cases hk' : a[k] = b[k]
    · simp -implicitDefEqProofs only [hlt, hltb, Z2, ↓reduceIte, hk', go_sem]
      refine ⟨by simp only [InR]; omega, k + 1, by simp, ⟨hlt, ?_⟩, by omega⟩; rw [List.take_succ_eq_append_getElem hlt, List.take_succ_eq_append_getElem (by omega), heq, hk']
    · simp -implicitDefEqProofs only [hlt, hltb, Z2, ↓reduceIte, hk', go_sem]
      exact (decide_eq_false fun e : a = b => hk' (by subst e; rfl)).symm
  · have hltb : ¬ k < b.length := by omega
    simp -implicitDefEqProofs only [hlt, hltb, go_sem]; rw [List.take_of_length_le (by omega), List.take_of_length_le (by omega)] at heq; exact (decide_eq_true heq).symm

theorem s17 (m : List UInt8) (x y : List Nat) (hx : x.length ≤ 4096) (hy : y.length ≤ 4096) :
    PFn Try.prog 17 [.agg [.str m, slV x, slV y], .agg [.str m, slV x, slV y]] [.bool true] := by
  have e1 := t64 (zL x) (zL x) (by unfold zL; rw [List.length_map]; omega); have e2 := t64 (zL y) (zL y) (by unfold zL; rw [List.length_map]; omega); rw [decide_eq_true rfl] at e1 e2; rw [Zn0, Zn0]; refine PFn.of_body hΓ Try.func17 (by kernel_rfl) rfl (AWp.seq (Wd [] ?_)); simp -implicitDefEqProofs only [Try.ntmps17, Try.results17, Nat.reduceAdd, Nat.reduceSub, go_sem]; refine AWp.seq (Wd [] ?_); simp -implicitDefEqProofs only [go_sem]; refine Z4 e1 (.pures rfl) ?_; simp -implicitDefEqProofs only [go_sem]; refine Z4 e2 (.pures rfl) ?_; simp -implicitDefEqProofs only [go_sem]; refine Wd [] ?_; simp -implicitDefEqProofs only [go_sem]

/-! ### Least's errors -/
theorem o14e (q n : Int) (ws : List (List UInt8)) (hc : Z7 q ws ≠ 0) : PFn Try.prog 14 [Z9 q ws, .int .i64 n] [.str [], .bool false, .int .i64 1] := by
  have e1 := t45 q ws; unfold Z9 at e1; refine PFn.of_body hΓ Try.func14 (by kernel_rfl) rfl (AWp.seq (Wd [] ?_)); simp -implicitDefEqProofs only [Try.ntmps14, Try.results14, Nat.reduceAdd, Nat.reduceSub, Z9, go_sem]; refine AWp.seq (Wd [] ?_); simp -implicitDefEqProofs only [go_sem]; refine Z4 e1 (.still rfl) ?_; simp -implicitDefEqProofs only [hc, go_sem]
theorem o14r (q n : Int) (ws : List (List UInt8)) (hc : Z7 q ws = 0) (hn : n < 0 ∨ 12 < n) : PFn Try.prog 14 [Z9 q ws, .int .i64 n] [.str [], .bool false, .int .i64 2] := by
  have e1 := t45 q ws; rw [hc] at e1; unfold Z9 at e1; refine PFn.of_body hΓ Try.func14 (by kernel_rfl) rfl (AWp.seq (Wd [] ?_)); simp -implicitDefEqProofs only [Try.ntmps14, Try.results14, Nat.reduceAdd, Nat.reduceSub, Z9, go_sem]; refine AWp.seq (Wd [] ?_); simp -implicitDefEqProofs only [go_sem]; refine Z4 e1 (.still rfl) ?_; by_cases h0 : n < 0
  · simp -implicitDefEqProofs only [h0, go_sem]
  · have h12 : 12 < n := by omega
    simp -implicitDefEqProofs only [h0, h12, go_sem]
theorem q15e (q n : Int) (ws : List (List UInt8)) (hc : Z7 q ws ≠ 0) : PFn Try.prog 15 [Z9 q ws, .int .i64 n] [.str [], .bool false, .int .i64 1] := by
  have e1 := t44 q ws; unfold Z9 at e1; refine PFn.of_body hΓ Try.func15 (by kernel_rfl) rfl (AWp.seq (Wd [] ?_)); simp -implicitDefEqProofs only [Try.ntmps15, Try.results15, Nat.reduceAdd, Nat.reduceSub, Z9, go_sem]; refine AWp.seq (Wd [] ?_); simp -implicitDefEqProofs only [go_sem]; refine Z4 e1 (.still rfl) ?_; simp -implicitDefEqProofs only [hc, go_sem]
theorem q15r (q n : Int) (ws : List (List UInt8)) (hc : Z7 q ws = 0) (hn : n < 0 ∨ 12 < n) : PFn Try.prog 15 [Z9 q ws, .int .i64 n] [.str [], .bool false, .int .i64 2] := by
  have e1 := t44 q ws; rw [hc] at e1; unfold Z9 at e1; refine PFn.of_body hΓ Try.func15 (by kernel_rfl) rfl (AWp.seq (Wd [] ?_)); simp -implicitDefEqProofs only [Try.ntmps15, Try.results15, Nat.reduceAdd, Nat.reduceSub, Z9, go_sem]; refine AWp.seq (Wd [] ?_); simp -implicitDefEqProofs only [go_sem]; refine Z4 e1 (.still rfl) ?_; simp -implicitDefEqProofs only [go_sem]; refine AWp.seq (Wd [] ?_); by_cases h0 : n < 0
  · simp -implicitDefEqProofs only [h0, go_sem]
  · have h12 : 12 < n := by omega
    simp -implicitDefEqProofs only [h0, h12, go_sem]
theorem h92e (q : Int) (ws : List (List UInt8)) (hc : Z7 q ws ≠ 0) : PFn Try.prog 11 [Z9 q ws] [.bool false, .int .i64 1] := by
  have e1 := Dc.h153e q ws hc; unfold Z9 at e1; refine PFn.of_body hΓ Try.func11 (by kernel_rfl) rfl (AWp.seq (Wd [] ?_)); simp -implicitDefEqProofs only [Try.ntmps11, Try.results11, Nat.reduceAdd, Nat.reduceSub, Z9, go_sem]; refine AWp.seq (Wd [] ?_); simp -implicitDefEqProofs only [go_sem]; refine Z4 e1 (.still rfl) ?_; simp -implicitDefEqProofs only [go_sem]; have h10 : ¬ (1 : Int) = 0 := by decide
  refine AWp.seq (Wd [] ?_); simp -implicitDefEqProofs only [h10, go_sem]; refine Wd [] ?_; simp -implicitDefEqProofs only [go_sem]

def SetsR (q n : Int) (ws S : List (List UInt8)) (e1 : Int) (d : Bool) (m : List UInt8) (x y : List Nat) (b : Bool) (L : List UInt8) (f : Bool) (e3 : Int) : Prop :=
  x.length ≤ 4096 ∧ y.length ≤ 4096 ∧ S.length ≤ 9223372036854775807 ∧
  PFn Try.prog 8 [Z9 q ws] [.sl (S.map .str), .int .i64 e1] ∧ PFn Try.prog 9 [Z9 q ws] [.sl (S.map .str), .int .i64 e1] ∧
  PFn Try.prog 10 [Z9 q ws] [.bool d, .int .i64 e1] ∧ PFn Try.prog 11 [Z9 q ws] [.bool d, .int .i64 e1] ∧
  PFn Try.prog 12 [Z9 q ws] [.agg [.str m, slV x, slV y], .bool b, .int .i64 e1] ∧ PFn Try.prog 13 [Z9 q ws] [.agg [.str m, slV x, slV y], .bool b, .int .i64 e1] ∧
  PFn Try.prog 14 [Z9 q ws, .int .i64 n] [.str L, .bool f, .int .i64 e3] ∧ PFn Try.prog 15 [Z9 q ws, .int .i64 n] [.str L, .bool f, .int .i64 e3]

theorem Zco (q n : Int) (ws : List (List UInt8)) (hg : Z47 ws = false) (hn : 12 < n ∨ n ≤ 4 ∨ (n ≤ 8 ∧ q ≤ 3)) :
    ∃ S e1 d m x y b L f e3, SetsR q n ws S e1 d m x y b L f e3 := by
  by_cases hc : Z7 q ws = 0
  rotate_left
  · have e14 := t14 q ws
    rw [if_neg hc, if_neg hc] at e14; have e15 := t15 q ws; rw [if_neg hc, if_neg hc] at e15; exact ⟨[], 1, false, [], [], [], false, [], false, 1, by simp, by simp, by simp, e14, Dc.h153e q ws hc, e15, h92e q ws hc, r12e q ws hc, h13e q ws hc, o14e q n ws hc, q15e q n ws hc⟩
  have hv := valid_of hc; obtain ⟨p, rfl⟩ : ∃ p : Nat, q = p := ⟨q.toNat, by have := hv.q2; omega⟩; have hq2 := hv.q2; have hq16 := hv.q16; have hlen := hv.len; have hrl := Z34 hv; have e14 := t14 p ws; rw [if_pos hc, if_pos hc] at e14; have e15 := t15 p ws; rw [if_pos hc, if_pos hc] at e15; have eL : ∃ L f e3, PFn Try.prog 14 [Z9 p ws, .int .i64 n] [.str L, .bool f, .int .i64 e3] ∧ PFn Try.prog 15 [Z9 p ws, .int .i64 n] [.str L, .bool f, .int .i64 e3] := by
    by_cases hr : n < 0 ∨ 12 < n
    · exact ⟨[], false, 2, o14r p n ws hc hr, q15r p n ws hc hr⟩
    obtain ⟨k, rfl⟩ : ∃ k : Nat, n = k := ⟨n.toNat, by omega⟩; have hpow : p ^ k ≤ 65536 := by
      by_cases h4 : k ≤ 4
      · exact Nat.le_trans (Nat.pow_le_pow_right (by omega) h4) (Nat.le_trans (Nat.pow_le_pow_left (show p ≤ 16 by omega) 4) (by decide))
      · exact Nat.le_trans (Nat.pow_le_pow_right (by omega) (show k ≤ 8 by omega)) (Nat.le_trans (Nat.pow_le_pow_left (show p ≤ 3 by omega) 8) (by decide))
    obtain ⟨o, ho⟩ := leA ws p k (by omega) (by omega); exact ⟨_, _, _, o14 hc (by omega) hpow ho fun w hw => o35 p ws w hv.ne' (by omega) (by omega), q15 hc (by omega) hpow ho⟩
  obtain ⟨L, f, e3, eO, eQ⟩ := eL; have eA : ∃ m x y b, x.length ≤ 4096 ∧ y.length ≤ 4096 ∧ PFn Try.prog 12 [Z9 p ws] [.agg [.str m, slV x, slV y], .bool b, .int .i64 0] ∧ PFn Try.prog 13 [Z9 p ws] [.agg [.str m, slV x, slV y], .bool b, .int .i64 0] := by
    by_cases hr : Z1e ws []
    rotate_left
    · exact ⟨[], [], [], false, by simp, by simp, r12d p ws hc hr, h13d p ws hc hr⟩
    obtain ⟨w, x, y, l, hw, hxy, hne, hx, hy, ex, ey⟩ := Zkt hv hg hr; have hwl := hw.2.1; refine ⟨w, x, y, true, ?_, ?_, r12 p ws hc hr hw hxy, ?_⟩
    · have := Z9d hv.ne' hx
      rw [ex] at this; omega
    · have := Z9d hv.ne' hy
      rw [ey] at this; omega
    · have := h13 p ws hc hr (o := some w) hw
      simp only [resA, hxy, Option.isSome_some, ↓reduceIte] at this; exact this
  obtain ⟨m, x, y, b, hx, hy, eA, eH⟩ := eA; exact ⟨residL ws, 0, _, m, x, y, b, L, f, e3, hx, hy, by omega, e14, Dc.h153 p ws hc, e15, Dc.h92 p ws hc, eA, eH, eO, eQ⟩

theorem v3 (q n : Int) (ws : List (List UInt8)) (hws : ws.length ≤ 9223372036854775807) : PFn Try.prog 3 [Z9 q ws, .int .i64 n] [.bool true] := by
  have e6 : PFn Try.prog 6 [Z9 q ws] [.bool (Z47 ws)] := t24 q ws hws; have eAw := Zh7; unfold Z9 at e6; refine PFn.of_body hΓ Try.func3 (by kernel_rfl) rfl (AWp.seq (Wd [] ?_)); simp -implicitDefEqProofs only [Try.ntmps3, Try.results3, Nat.reduceAdd, Nat.reduceSub, Z9, go_sem]; by_cases hA : Z47 ws = true ∨ (8 < n ∧ n ≤ 12) ∨ (4 < n ∧ n ≤ 12 ∧ 3 < q)
  · refine AWp.seq (Wd [] ?_)
    simp -implicitDefEqProofs only [go_sem]; refine Z4 e6 (.still rfl) ?_
    cases hg : Z47 ws
    · rw [hg] at hA
      by_cases h8 : 8 < n
      · have h12 : n ≤ 12 := by
          rcases hA with h | h | h
          · cases h
          · exact h.2
          · exact h.2.1
        simp -implicitDefEqProofs only [h8, h12, go_sem]; refine Z4 eAw (.pures rfl) ?_; simp -implicitDefEqProofs only [go_sem]
      · have h4 : 4 < n ∧ n ≤ 12 ∧ 3 < q := by
          rcases hA with h | h | h
          · cases h
          · omega
          · exact h
        obtain ⟨h4, h12, h3⟩ := h4; simp -implicitDefEqProofs only [h8, h4, h12, h3, go_sem]; refine Z4 eAw (.pures rfl) ?_; simp -implicitDefEqProofs only [go_sem]
    · simp -implicitDefEqProofs only [go_sem]
      refine Z4 eAw (.pures rfl) ?_; simp -implicitDefEqProofs only [go_sem]
  have hg : Z47 ws = false := by
    cases h : Z47 ws
    · rfl
    · exact absurd (.inl h) hA
  have hB : ¬ (8 < n ∧ n ≤ 12) := fun h => hA (.inr (.inl h))
  have hC : ¬ (4 < n ∧ n ≤ 12 ∧ 3 < q) := fun h => hA (.inr (.inr h))
  rw [hg] at e6; obtain ⟨S, e1, d, m, x, y, b, L, f, e3, hx, hy, hS, a8, a9, a10, a11, a12, a13, a14, a15⟩ := Zco q n ws hg (by omega); have a16 := e16 S S hS; rw [decide_eq_true rfl] at a16; have a17 := s17 m x y hx hy; unfold Z9 at a8 a9 a10 a11 a12 a13 a14 a15; refine AWp.seqM (fun _ : Unit => ⟨mkF 146 [(1, .p (.int .i64 n)), (2, .ptr 0 0)], [Z0 q ws]⟩) (fun _ => True) (Wd [] ?_) ?_
  · simp -implicitDefEqProofs only [go_sem]
    refine Z4 e6 (.still rfl) ?_; by_cases h12 : n ≤ 12
    · have h8 : ¬ 8 < n := by omega
      by_cases h4 : 4 < n
      · have h3 : ¬ 3 < q := by omega
        simp -implicitDefEqProofs only [h8, h4, h12, h3, go_sem]; exact ⟨(), by simp [Z0]⟩
      · simp -implicitDefEqProofs only [h8, h4, go_sem]
        exact ⟨(), by simp [Z0]⟩
    · have h8 : 8 < n := by omega
      have h4 : 4 < n := by omega
      simp -implicitDefEqProofs only [h8, h4, h12, go_sem]; exact ⟨(), by simp [Z0]⟩
  intro _ _; simp -implicitDefEqProofs only [Z0, go_sem]; refine AWp.seq (Wd [] ?_); simp -implicitDefEqProofs only [go_sem]; refine Z4 a8 (.still rfl) ?_; simp -implicitDefEqProofs only [go_sem]; refine AWp.seq (Wd [] ?_); simp -implicitDefEqProofs only [go_sem]; refine Z4 a9 (.still rfl) ?_; simp -implicitDefEqProofs only [go_sem]; refine AWp.seq (Wd [] ?_); simp -implicitDefEqProofs only [go_sem]; refine Z4 a10 (.still rfl) ?_; simp -implicitDefEqProofs only [go_sem]; refine AWp.seq (Wd [] ?_); simp -implicitDefEqProofs only [go_sem]; refine Z4 a11 (.still rfl) ?_; simp -implicitDefEqProofs only [go_sem]; refine AWp.seq (Wd [] ?_); simp -implicitDefEqProofs only [go_sem]; refine Z4 a12 (.still rfl) ?_; simp -implicitDefEqProofs only [go_sem]; refine ⟨rfl, ?_⟩; refine AWp.seq (Wd [] ?_); simp -implicitDefEqProofs only [go_sem]; refine Z4 a13 (.still rfl) ?_; simp -implicitDefEqProofs only [go_sem]; refine ⟨rfl, ?_⟩; refine AWp.seq (Wd [] ?_); simp -implicitDefEqProofs only [go_sem]; refine Z4 a14 (.still rfl) ?_; simp -implicitDefEqProofs only [go_sem]; refine AWp.seq (Wd [] ?_); simp -implicitDefEqProofs only [go_sem]; refine Z4 a15 (.still rfl) ?_; simp -implicitDefEqProofs only [go_sem]; refine AWp.seq (Wd [] ?_); simp -implicitDefEqProofs only [go_sem]; refine Z4 a16 (.pures rfl) ?_; simp -implicitDefEqProofs only [beq_self_eq_true, go_sem]; refine Z4 a17 (.still rfl) ?_; simp -implicitDefEqProofs only [beq_self_eq_true, go_sem]; refine Z4 eAw (.pures rfl) ?_; simp -implicitDefEqProofs only [go_sem]; refine Wd [] ?_; simp -implicitDefEqProofs only [go_sem]
end Go.Proofs.Ytpljmccnfmkmfaa
end

section
namespace Go.Proofs.Ytpljmccnfmkmfaa
open Go Go.AM Go.RowKit Go.ChangeShapes

theorem own : ownKnob Try.prog.godebug = none := by kernel_rfl
theorem Zjp : laidOutB Try.prog = true := by kernel_rfl

def Zi5 : Sh := .agg [.int .i64, .sl .str]
theorem Zid {l : List PV} (h : ∀ i, i < l.length → Fit .str (l.getD i default)) : ∃ ws : List (List UInt8), l = ws.map .str ∧ ∀ w ∈ ws, w.length ≤ maxLen := by
  induction l with
  | nil => exact ⟨[], rfl, by simp⟩
  | cons x l ih =>
    obtain ⟨ws, h1, h2⟩ := ih (fun i hi => h (i + 1) (by simpa using hi)); have h0 := h 0 (by simp); simp only [List.getD_cons_zero] at h0
    cases h0 with
    | str s hs => exact ⟨s :: ws, by rw [h1]; rfl, fun w hw => by
        rcases List.mem_cons.1 hw with rfl | hw
        · exact hs
        · exact h2 w hw⟩
theorem Zff {p : PV} (h : Fit (.sl .str) p) : ∃ ws : List (List UInt8), p = .sl (ws.map .str) ∧ ws.length ≤ maxLen ∧ ∀ w ∈ ws, w.length ≤ maxLen := by
  cases h with
  | sl _ l h1 h2 =>
    obtain ⟨ws, rfl, h3⟩ := Zid h2; exact ⟨ws, rfl, by simpa using h1, h3⟩
theorem Zka {p : PV} (h : Fit Zi5 p) : ∃ (q : Int) (ws : List (List UInt8)), p = Z9 q ws ∧ InR .i64 q ∧ ws.length ≤ maxLen ∧ ∀ w ∈ ws, w.length ≤ maxLen := by
  cases h with
  | agg _ l h1 h2 =>
    match l, h1 with
    | [x, y], _ =>
      have h3 := h2 0 (by simp); have h4 := h2 1 (by simp); simp only [List.getD_cons_zero, List.getD_cons_succ] at h3 h4; obtain ⟨ws, rfl, h5⟩ := Zff h4
      cases h3 with
      | int _ n hn => exact ⟨n, ws, rfl, hn, h5⟩
end Go.Proofs.Ytpljmccnfmkmfaa
end

