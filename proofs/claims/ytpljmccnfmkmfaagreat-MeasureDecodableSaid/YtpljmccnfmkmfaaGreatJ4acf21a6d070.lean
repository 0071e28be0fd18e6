/-
  HasSuffix, Suffix.
  Prefix and Suffix of the reference, Suffix, Longest, Same, Make of the reference.
  Codes without beginnings of others, plain.
  The sizes of chapter 36 (Great); prefix codes of these sizes.
  Kraft's sum of a prefix code, plain: at most 1, and 1 exactly if nothing is missing.
  Words over an alphabet, and prefix codes as lists: plain.
  The law MeasureAdded (f7).
  rational.Check; slices.ContainsFunc of rationals, none of which is bad.
  The weights of the law MeasureDecodable.
  The stable sort of places, for few of them.
  completion.next: the next word of a length.
  measure.Weighted for weights n / S that add up to 1.
  The law MeasureDecodable (f9).
  slices.Equal of words.
  A prefix code is decodable: nothing dangles.
  The reference's lists of rests, and its CheckProof.
  The program's iterators over rests: what they hand to the loop.
  The program's CheckProof.
  The program's residuals: the closure that adds one.
  slices.SortFunc at the words' order: the row holds the sorted words.
  slices.SortFunc on an owned row of words, as a contract with the heap.
  The plain law of dangling suffixes: what can be reached, and the one sorted list of it.
  Plain law: the empty word dangles exactly if two different lists of words spell the same message.
-/
import Derived.Test.YtpljmccnfmkmfaaGreatJ5210ff2119ad
import Derived.Test.YtpljmccnfmkmfaaGreatJb42072f91512
import Derived.Test.YtpljmccnfmkmfaaGreatJ41f6a8d41adc
import Derived.Test.YtpljmccnfmkmfaaGreatJ915e894bb188
import Derived.Test.YtpljmccnfmkmfaaGreatJ1dd7860f5526
import Derived.Test.YtpljmccnfmkmfaaGreatJ2ef3d37145bc
import Derived.Test.YtpljmccnfmkmfaaGreatJ9170f3dd215a
import Derived.Test.YtpljmccnfmkmfaaGreatJa0d7c47cdb68
import Derived.Test.YtpljmccnfmkmfaaGreatJ801b00000743
import Derived.Test.YtpljmccnfmkmfaaGreatJ9302a737f7ce
import Derived.Test.YtpljmccnfmkmfaaGreatJ7b66db723381
import Derived.Test.YtpljmccnfmkmfaaGreatJc4bf605b9546

section
namespace Go.Proofs.YtpljmccnfmkmfaaGreat
open Go Go.AM
set_option maxRecDepth 100000
set_option linter.unusedSimpArgs false

end Go.Proofs.YtpljmccnfmkmfaaGreat
end

section
namespace Go.Proofs.YtpljmccnfmkmfaaGreat
open Go Go.AM
set_option maxRecDepth 100000
set_option linter.unusedSimpArgs false

end Go.Proofs.YtpljmccnfmkmfaaGreat
end

section
namespace Go.Proofs.YtpljmccnfmkmfaaGreat
open Go Go.AM
set_option maxRecDepth 100000
set_option maxHeartbeats 4000000
set_option linter.unusedSimpArgs false

theorem Valid.strict {q : Int} {ws : List (List UInt8)} (hv : Valid q ws) : ws.Pairwise ltW := List.pairwise_iff_getElem.2 fun i j hi hj hij => by
  have := hv.lt i j hij hj
  rwa [List.getD_eq_getElem?_getD, List.getD_eq_getElem?_getD, List.getElem?_eq_getElem hi, List.getElem?_eq_getElem hj, Option.getD_some, Option.getD_some] at this
end Go.Proofs.YtpljmccnfmkmfaaGreat
end

section
namespace Go.Proofs.YtpljmccnfmkmfaaGreat
open Go Go.AM
set_option maxRecDepth 100000
set_option maxHeartbeats 4000000
set_option linter.unusedSimpArgs false

def longW (w : List UInt8) : Bool := decide (5 < w.length) && decide (w.length ≤ 32)
def muchC (q : Int) (ws : List (List UInt8)) : Bool := decide (6 < ws.length) || (decide (3 < q) && decide (q ≤ 16))
def great36 (q : Int) (ws : List (List UInt8)) : Bool := ws.any longW || muchC q ws

theorem gr36 (q : Int) (ws : List (List UInt8)) (hl : ws.length ≤ 9223372036854775807) : PFn Tryz.prog 43 [codeV q ws] [.bool (great36 q ws)] := by
  refine PFn.of_body hΓ Tryz.func43 (by kernel_rfl) rfl (AWp.of_awpD [] hΓ hmix (by kernel_rfl) ?_)
  simp -implicitDefEqProofs only [Tryz.ntmps43, Tryz.results43, Nat.reduceAdd, Nat.reduceSub, codeV, go_sem]
  refine AWp.loopI (fun k : Nat => ⟨mkF 41 [(1, .ptr 0 0), (2, .p (.bool false)), (3, .p (.int .i64 k))], [codeB q ws]⟩)
    (fun k => k ≤ ws.length ∧ (ws.take k).any longW = false) (fun k => ws.length - k) 0 (by simp [go_sem, codeB]) (by simp) ?_
  rintro k ⟨hk, hno⟩
  refine AWp.of_awpD [] hΓ hmix (by kernel_rfl) ?_
  by_cases hlt : k < ws.length
  · by_cases h5 : (5 : Int) < ws[k].length
    · by_cases h32 : (ws[k].length : Int) ≤ 32
      · simp -implicitDefEqProofs only [hlt, h5, h32, getD_map_lt, ↓reduceIte, codeB, go_sem]
        have : ws.any longW = true := List.any_eq_true.2 ⟨_, List.getElem_mem hlt, by unfold longW; simp only [Bool.and_eq_true, decide_eq_true_eq]; omega⟩
        unfold great36
        rw [this]; rfl
      · have hno' : longW ws[k] = false := by unfold longW; simp only [Bool.and_eq_false_iff, decide_eq_false_iff_not]; omega
        simp -implicitDefEqProofs only [hlt, h5, h32, getD_map_lt, ↓reduceIte, codeB, go_sem]
        exact ⟨by simp only [InR]; omega, k + 1, by simp, ⟨hlt, by rw [List.take_succ_eq_append_getElem hlt, List.any_append, hno]; simp [hno']⟩, by omega⟩
    · have hno' : longW ws[k] = false := by unfold longW; simp only [Bool.and_eq_false_iff, decide_eq_false_iff_not]; omega
      simp -implicitDefEqProofs only [hlt, h5, getD_map_lt, ↓reduceIte, codeB, go_sem]
      exact ⟨by simp only [InR]; omega, k + 1, by simp, ⟨hlt, by rw [List.take_succ_eq_append_getElem hlt, List.any_append, hno]; simp [hno']⟩, by omega⟩
  · rw [List.take_of_length_le (by omega)] at hno
    unfold great36 muchC
    rw [hno]
    by_cases h6 : (6 : Int) < ws.length
    · simp -implicitDefEqProofs only [hlt, h6, codeB, go_sem]
      rw [decide_eq_true (by omega : 6 < ws.length)]; rfl
    · by_cases h3 : 3 < q
      · simp -implicitDefEqProofs only [hlt, h6, h3, codeB, go_sem]
        rw [decide_eq_false (by omega : ¬ 6 < ws.length)]; rfl
      · simp -implicitDefEqProofs only [hlt, h6, h3, codeB, go_sem]
        rw [decide_eq_false (by omega : ¬ 6 < ws.length)]; rfl

end Go.Proofs.YtpljmccnfmkmfaaGreat
end

section
namespace Go.Proofs.YtpljmccnfmkmfaaGreat.Kn
open Go Go.AM
set_option maxRecDepth 100000
set_option linter.unusedSimpArgs false

def ltr (a : Nat) : UInt8 := L16.getD a 0
def Alph (q : Nat) (w : List UInt8) : Prop := ∀ b ∈ w, ∃ a, a < q ∧ b = ltr a

def wtN (q : Nat) (w : List UInt8) : Nat := q ^ (32 - w.length)
def taken (q : Nat) (p : List UInt8) : List (List UInt8) → Nat
  | [] => 0
  | w :: ws => (if p.isPrefixOf w then wtN q w else 0) + taken q p ws

structure PCode (q : Nat) (ws : List (List UInt8)) : Prop where
  q0 : 0 < q
  q16 : q ≤ 16
  nodup : ws.Nodup
  free : ∀ x ∈ ws, ∀ y ∈ ws, y.isPrefixOf x = true → x = y
  alph : ∀ w ∈ ws, Alph q w
  short : ∀ w ∈ ws, w.length ≤ 32


end Go.Proofs.YtpljmccnfmkmfaaGreat.Kn
end

section
namespace Go.Proofs.YtpljmccnfmkmfaaGreat
open Go Go.AM
set_option maxRecDepth 100000
set_option linter.unusedSimpArgs false

theorem ixB_hit (c : UInt8) : ∀ (l : List UInt8) (n : Nat), 0 ≤ ixB c l n → ∃ k : Nat, ixB c l n = ((n + k : Nat) : Int) ∧ l.getD k 0 = c
  | [], n, h => by simp [ixB] at h
  | a :: l, n, h => by
    unfold ixB at h ⊢
    cases hb : Nat.beq a.toNat c.toNat with
    | true =>
      rw [hb] at h
      exact ⟨0, by simp, by simpa using UInt8.toNat_inj.1 (Nat.eq_of_beq_eq_true hb)⟩
    | false =>
      rw [hb] at h
      obtain ⟨k, h1, h2⟩ := ixB_hit c l (n + 1) h
      exact ⟨k + 1, by simp only [h1]; omega, by simpa using h2⟩
theorem alph_of {q : Int} {w : List UInt8} (h : wordCheck q w = 0) : Kn.Alph q.toNat w := fun b hb => by
  have hw : okW q w = true := by
    unfold wordCheck at h
    split at h
    · cases h
    · split at h
      · cases h
      · split at h
        · assumption
        · cases h
  have h1 := List.all_eq_true.1 hw b hb
  unfold okB at h1
  simp only [Bool.and_eq_true, decide_eq_true_eq] at h1
  obtain ⟨k, h3, h4⟩ := ixB_hit b L16 0 h1.1
  exact ⟨k, by omega, h4.symm⟩
theorem ixB_ltr {a : Nat} (ha : a < 16) : ixB (Kn.ltr a) L16 0 = a := by
  have key : ∀ a : Fin 16, ixB (L16.getD a.val 0) L16 0 = (a.val : Int) := by decide
  exact key ⟨a, ha⟩
end Go.Proofs.YtpljmccnfmkmfaaGreat
end

section
namespace Go.Proofs.YtpljmccnfmkmfaaGreat
open Go Go.AM Go.RowKit
set_option maxRecDepth 100000
set_option maxHeartbeats 4000000
set_option linter.unusedSimpArgs false

theorem aggN55 {A B C D : List UInt8} {x y : AV} {K : AV → Prop} (hx : x.pure = some (.agg [.bool false, .str A, .bool false, .str B])) (hy : y.pure = some (.agg [.bool false, .str C, .bool false, .str D]))
    (hK : K (.p (.bool (!(decide (A = C) && decide (B = D)))))) : aggK Γ .neq 55 x y K := by
  have he : ∃ te fs, Γ 55 = some te ∧ te.td = .struct fs ∧ te.eqs = true ∧ eqAgg Γ fs [.bool false, .str A, .bool false, .str B] [.bool false, .str C, .bool false, .str D] =
      some (((false == false) && (decide (A = C) && true)) && (((false == false) && (decide (B = D) && true)) && true)) := ⟨_, _, rfl, rfl, rfl, rfl⟩
  obtain ⟨te, fs, h1, h2, h3, h4⟩ := he
  have e : (((false == false) && (decide (A = C) && true)) && (((false == false) && (decide (B = D) && true)) && true)) = (decide (A = C) && decide (B = D)) := by simp
  rw [e] at h4
  unfold aggK
  rw [hx, hy]
  simp only [tyAt, h1, h2, h3, h4]
  exact ⟨⟨trivial, rfl, rfl⟩, hK⟩

end Go.Proofs.YtpljmccnfmkmfaaGreat
end

section
namespace Go.Proofs.YtpljmccnfmkmfaaGreat.Kn
open Go Go.AM
set_option maxRecDepth 100000
set_option maxHeartbeats 4000000
set_option linter.unusedSimpArgs false

theorem v111 (n d : Nat) (hn : n < capN) (hd : d < capN) (hd0 : d ≠ 0) : PFn Tryz.prog 111 [ratV n d] [.int .i64 0] := by
  have e1 := v97 n d hn hd hd0
  rw [ratV_low] at *
  refine PFn.of_body hΓ Tryz.func111 (by kernel_rfl) rfl (AWp.seq (AWp.of_awpD [] hΓ hmix (by kernel_rfl) ?_))
  simp -implicitDefEqProofs only [Tryz.ntmps111, Tryz.results111, Nat.reduceAdd, Nat.reduceSub, go_sem]
  refine AWp.of_awpD [(1, 1000)] hΓ hmix (by kernel_rfl) ?_
  simp -implicitDefEqProofs only [go_sem]
  refine AWp.planL (.q 0 (.q 2 (.e 1 (.s 2 (.q 3 .fin)) .nil))) hΓ hmix (by kernel_rfl) ?_
  simp -implicitDefEqProofs only [go_sem]
  refine callK_fn e1 (.still rfl) ?_
  simp -implicitDefEqProofs only [go_sem]
  refine aggN55 rfl rfl ?_
  rw [decide_eq_true rfl, decide_eq_true rfl]
  simp -implicitDefEqProofs only [Bool.and_self, Bool.not_true, go_sem]
theorem v110 (n d : Nat) (hn : n < capN) (hd : d < capN) (hd0 : d ≠ 0) : PFn Tryz.prog 110 [ratV n d] [.bool false] := by
  have e1 := v111 n d hn hd hd0
  rw [ratV_low] at *
  refine PFn.of_body hΓ Tryz.func110 (by kernel_rfl) rfl (AWp.of_awpD [] hΓ hmix (by kernel_rfl) ?_)
  simp -implicitDefEqProofs only [Tryz.ntmps110, Tryz.results110, Nat.reduceAdd, Nat.reduceSub, go_sem]
  refine callK_fn e1 (.still rfl) ?_
  simp -implicitDefEqProofs only [go_sem]

theorem c173 {h : List AObj} {g : FuncId} {caps : List AV} (rs : List (Nat × Nat)) (hl : rs.length ≤ 9223372036854775807)
    (hg : ∀ r ∈ rs, AC Tryz.prog g (.p (ratV r.1 r.2) :: caps) h [] (fun v h' => v = .p (.bool false) ∧ h' = h)) :
    AC Tryz.prog 173 [.p (.sl (rs.map fun r => ratV r.1 r.2)), .fn g caps] h [] (fun v h' => v = .p (.int .i64 (-1)) ∧ h' = h) := by
  refine AC.of_bodyE hΓ Tryz.func173 (by kernel_rfl) rfl (AWp.mono (Q := fun e st => AM.Ends e ∧ st.tmps.getD 4 .junk = .p (.int .i64 (-1)) ∧ st.h = h) ?_ ?_)
  rotate_left
  · rintro e ⟨tm, h'⟩ ⟨he, h1, h2⟩
    simp only at h1 h2
    subst h2
    refine ⟨he, _, Less.refl _, ?_⟩
    unfold DoneE
    simp +contextual -implicitDefEqProofs only [Tryz.results173, h1, go_sem]
    exact ⟨_, Nat.le_refl _, .inl rfl, List.take_length⟩
  refine AWp.of_awpD [] hΓ hmix (by kernel_rfl) ?_
  simp +contextual -implicitDefEqProofs only [Tryz.ntmps173, Nat.reduceAdd, Nat.reduceSub, go_sem]
  refine AWp.loopI (fun k : Nat => ⟨mkF 19 [(0, .p (.sl (rs.map fun r => ratV r.1 r.2))), (1, .fn g caps), (7, .p (.int .i64 rs.length)), (8, .p (.int .i64 k))], h⟩)
    (fun k => k ≤ rs.length) (fun k => rs.length - k) 0 (by simp [go_sem, weakH_self]) (by simp) ?_
  rintro k hk
  refine AWp.of_awpD [] hΓ hmix (by kernel_rfl) ?_
  by_cases hlt : k < rs.length
  · have hgk : (rs.map fun r => ratV r.1 r.2).getD k default = ratV rs[k].1 rs[k].2 := getD_map_lt _ _ _ _ hlt
    have hac := hg rs[k] (List.getElem_mem hlt)
    rw [ratV_low] at hgk hac
    simp -implicitDefEqProofs only [List.length_map, hlt, hgk, Int.toNat_natCast, go_sem]
    refine callK_ac hac (by simp) ?_
    rintro v h' ⟨rfl, rfl⟩
    simp -implicitDefEqProofs only [killAll, List.foldl, go_sem]
    exact ⟨by simp only [InR]; omega, k + 1, by simp [weakH_self], hlt, by omega⟩
  · simp -implicitDefEqProofs only [hlt, go_sem]
theorem c109 {h : List AObj} {g : FuncId} {caps : List AV} (rs : List (Nat × Nat)) (hl : rs.length ≤ 9223372036854775807)
    (hg : ∀ r ∈ rs, AC Tryz.prog g (.p (ratV r.1 r.2) :: caps) h [] (fun v h' => v = .p (.bool false) ∧ h' = h)) :
    AC Tryz.prog 109 [.p (.sl (rs.map fun r => ratV r.1 r.2)), .fn g caps] h [] (fun v h' => v = .p (.bool false) ∧ h' = h) := by
  refine AC.of_bodyE hΓ Tryz.func109 (by kernel_rfl) rfl (AWp.mono (Q := fun e st => AM.Ends e ∧ st.tmps.getD 4 .junk = .p (.bool false) ∧ st.h = h) ?_ ?_)
  rotate_left
  · rintro e ⟨tm, h'⟩ ⟨he, h1, h2⟩
    simp only at h1 h2
    subst h2
    refine ⟨he, _, Less.refl _, ?_⟩
    unfold DoneE
    simp +contextual -implicitDefEqProofs only [Tryz.results109, h1, go_sem]
    exact ⟨_, Nat.le_refl _, .inl rfl, List.take_length⟩
  refine AWp.of_awpD [] hΓ hmix (by kernel_rfl) ?_
  simp +contextual -implicitDefEqProofs only [Tryz.ntmps109, Nat.reduceAdd, Nat.reduceSub, go_sem]
  refine callK_ac (c173 rs hl hg) (by simp) ?_
  rintro v h' ⟨rfl, rfl⟩
  simp -implicitDefEqProofs only [killAll, List.foldl, go_sem]
  omega
end Go.Proofs.YtpljmccnfmkmfaaGreat.Kn
end

section
namespace Go.Proofs.YtpljmccnfmkmfaaGreat
open Go Go.AM
set_option maxRecDepth 100000
set_option maxHeartbeats 4000000
set_option linter.unusedSimpArgs false

def wN (pk : List UInt8) (i : Nat) : Nat := if pk = [] then 1 else 1 + (pk.getD (i % pk.length) 0).toNat % 9
def wL (q : Nat) (pk : List UInt8) : List Nat := (List.range q).map (wN pk)
theorem wN_b (pk : List UInt8) (i : Nat) : 1 ≤ wN pk i ∧ wN pk i ≤ 9 := by unfold wN; split <;> omega
theorem wL_len (q : Nat) (pk : List UInt8) : (wL q pk).length = q := by unfold wL; simp
theorem wL_succ (q : Nat) (pk : List UInt8) : wL (q + 1) pk = wL q pk ++ [wN pk q] := by unfold wL; rw [List.range_succ, List.map_append]; rfl
theorem wL_sum (pk : List UInt8) : ∀ q, q ≤ (wL q pk).sum ∧ (wL q pk).sum ≤ 9 * q
  | 0 => by simp [wL]
  | q + 1 => by
    have h1 := wL_sum pk q
    have h2 := wN_b pk q
    rw [wL_succ, List.sum_append]
    simp only [List.sum_cons, List.sum_nil]
    omega
theorem wL_mem {q : Nat} {pk : List UInt8} {n : Nat} (h : n ∈ wL q pk) : 1 ≤ n ∧ n ≤ 9 := by
  unfold wL at h
  obtain ⟨i, _, rfl⟩ := List.mem_map.1 h
  exact wN_b pk i
theorem others {q : Nat} {L : List Nat} (hl : L.length = q) (h2 : 2 ≤ q) (h3 : q ≤ 3) (hb : ∀ n ∈ L, 1 ≤ n ∧ n ≤ 9) {k : Nat} (hk : k < L.length) : L[k] + 1 ≤ L.sum ∧ L.sum ≤ L[k] + 18 := by
  match L, hl, hb, hk with
  | [], h, _, _ => simp at h; omega
  | [a], h, _, _ => simp at h; omega
  | [a, b], _, hb, hk =>
    have := hb a (by simp); have := hb b (by simp)
    match k, hk with
    | 0, _ => simp; omega
    | 1, _ => simp; omega
  | [a, b, c], _, hb, hk =>
    have := hb a (by simp); have := hb b (by simp); have := hb c (by simp)
    match k, hk with
    | 0, _ => simp; omega
    | 1, _ => simp; omega
    | 2, _ => simp; omega
  | _ :: _ :: _ :: _ :: l, h, _, _ => simp at h; omega
theorem size_nV (l : List Nat) : sizeOK (l.map Kn.nV) 1 := fun x hx => by
  obtain ⟨b, _, rfl⟩ := List.mem_map.1 hx
  rfl
theorem one_nV (l : List Nat) : oneOK (l.map Kn.nV) := fun x hx c hc => by
  obtain ⟨b, _, rfl⟩ := List.mem_map.1 hx
  have : c = Kn.nV b := by simpa [PV.cells, Kn.nV] using hc
  rw [this]; rfl

theorem c56 (q : Nat) (hq1 : 2 ≤ q) (hq : q ≤ 3) (pk : List UInt8) (hpk : pk.length ≤ 9223372036854775807)
    (h57 : ∀ n d : Nat, 1 ≤ n → n ≤ 9 → n + 1 ≤ d → d ≤ n + 18 → PFn Tryz.prog 57 [.int .i64 n, .int .i64 d] [Kn.ratV n d]) : PFn Tryz.prog 56 [.int .i64 q, .sl (pk.map u8V)] [.sl ((wL q pk).map fun n => Kn.ratV n (wL q pk).sum)] := by
  refine PFn.of_body hΓ Tryz.func56 (by kernel_rfl) rfl (AWp.seq (AWp.of_awpD [] hΓ hmix (by kernel_rfl) ?_))
  simp -implicitDefEqProofs only [Tryz.ntmps56, Tryz.results56, Nat.reduceAdd, Nat.reduceSub, go_sem]
  refine AWp.seq (AWp.of_awpD [] hΓ hmix (by kernel_rfl) ?_)
  simp -implicitDefEqProofs only [go_sem]
  refine AWp.seq (AWp.of_awpD [] hΓ hmix (by kernel_rfl) ?_)
  simp -implicitDefEqProofs only [go_sem]
  refine AWp.adopt (l := []) 6 3 1 (by rfl) (by simp) ?_
  simp -implicitDefEqProofs only [go_sem]
  refine AWp.seq (AWp.seq (AWp.of_awpD [] hΓ hmix (by kernel_rfl) ?_))
  simp -implicitDefEqProofs only [go_sem]
  refine AWp.block ?_
  refine AWp.loopJ (fun i : Nat => ⟨mkF 51 [(0, .p (.int .i64 q)), (1, .p (.sl (pk.map u8V))), (5, .p (.int .i64 ((wL i pk).sum : Nat))), (6, .own 0 i), (12, .p (.int .i64 q)), (13, .p (.int .i64 i))], [.row 3 1 ((wL i pk).map Kn.nV) .lax]⟩)
    (fun i => i ≤ q) (fun i => q - i) 0 (fun x => by simp [BelowAll, mkF, AV.blw, AV.blw.blwL, blwH, AObj.blw]) (by simp [go_sem, wL]) (Nat.zero_le _) ?_
  intro i hi
  simp -implicitDefEqProofs only [go_sem]
  refine AWp.of_awpD [] hΓ hmix (by kernel_rfl) ?_
  by_cases hlt : i < q
  · have hlt' : (i : Int) < (q : Int) := by omega
    have hs := wL_sum pk i
    have hb := wN_b pk i
    have hs1 : ∀ x : Nat, sizeOK [PV.int .i64 (x : Int)] 1 := fun x => size_nV [x]
    have ho1 : ∀ x : Nat, oneOK [PV.int .i64 (x : Int)] := fun x => one_nV [x]
    by_cases hp : pk = []
    · have hw : wN pk i = 1 := by unfold wN; rw [if_pos hp]
      have hp0 : ¬ (0 : Int) < (pk.length : Int) := by rw [hp]; simp
      simp -implicitDefEqProofs only [hlt', hp0, List.length_map, go_sem]
      refine ⟨⟨hs1 1, by omega⟩, ⟨hs1 1, ho1 1⟩, ⟨by omega, by omega⟩, by simp only [InR]; omega, by simp only [InR]; omega, i + 1, ⟨⟨?_, rfl, by omega⟩, .inr (.inl ?_)⟩, by omega, by omega⟩
      · rw [wL_succ, List.sum_append, hw]; simp
      · rw [wL_succ, List.map_append, hw]; rfl
    · have hpl : 0 < pk.length := List.length_pos_iff.2 hp
      have hp0 : (0 : Int) < (pk.length : Int) := by omega
      have him : i % pk.length < pk.length := Nat.mod_lt _ hpl
      have hgm : (pk.map u8V).getD (i % pk.length) default = .int .u8 ((pk.getD (i % pk.length) 0).toNat : Int) := by
        rw [getD_map_lt _ _ _ _ him, List.getD_eq_getElem?_getD, List.getElem?_eq_getElem him, Option.getD_some]; rfl
      have hw : wN pk i = 1 + (pk.getD (i % pk.length) 0).toNat % 9 := by unfold wN; rw [if_neg hp]
      have hB : (pk.getD (i % pk.length) 0).toNat < 256 := UInt8.toNat_lt _
      generalize (pk.getD (i % pk.length) 0).toNat = B at *
      have hmod : (i : Int) % (pk.length : Int) = ((i % pk.length : Nat) : Int) := by simp
      have hwr : IntKind.i64.wrap ((B : Nat) : Int) = (B : Nat) := InR.wrap (k := .i64) (by simp only [InR]; omega)
      have hnn : (0 : Int) ≤ ((i % pk.length : Nat) : Int) := by omega
      have hlm : ((i % pk.length : Nat) : Int) < (pk.length : Int) := by omega
      have hsum : (1 : Int) + (B : Int) % 9 = ((wN pk i : Nat) : Int) := by omega
      simp -implicitDefEqProofs only [hlt', hp0, hmod, hnn, hlm, hgm, hwr, him, hsum, Int.toNat_natCast, List.length_map, go_sem]
      refine ⟨by omega, by simp only [InR]; omega, ⟨hs1 _, by omega⟩, ⟨hs1 _, ho1 _⟩, ⟨by omega, by omega⟩, by simp only [InR]; omega, by simp only [InR]; omega, i + 1, ⟨⟨?_, rfl, by omega⟩, .inr (.inl ?_)⟩, by omega, by omega⟩
      · rw [wL_succ, List.sum_append]; simp
      · rw [wL_succ, List.map_append]; rfl
  have hiq : q = i := by omega
  subst hiq
  have hs := wL_sum pk q
  have hll := wL_len q pk
  have hmem := fun n => wL_mem (q := q) (pk := pk) (n := n)
  generalize hL : wL q pk = L at *
  simp -implicitDefEqProofs only [Int.lt_irrefl, go_sem]
  refine AWp.freeze 0 rfl ?_
  simp -implicitDefEqProofs only [Frozen, AV.thaw, AObj.thaw, AV.thaw.thawL, List.map_cons, List.map_nil, List.set_cons_zero, List.set_cons_succ, go_sem]
  refine AWp.seq (AWp.of_awpD [] hΓ hmix (by kernel_rfl) ?_)
  simp -implicitDefEqProofs only [go_sem]
  refine AWp.adopt (l := []) 9 55 4 (by rfl) (by simp) ?_
  simp -implicitDefEqProofs only [go_sem]
  refine AWp.seq (AWp.seq (AWp.of_awpD [] hΓ hmix (by kernel_rfl) ?_))
  simp -implicitDefEqProofs only [List.length_map, go_sem]
  refine AWp.block ?_
  generalize hS : L.sum = S at *
  obtain ⟨rv, hrv⟩ : ∃ rv : Nat → PV, rv = fun n => Kn.ratV n S := ⟨_, rfl⟩
  have hrc : ∀ n, ∃ A B, rv n = .agg [.bool false, .str A, .bool false, .str B] := fun n => by rw [hrv]; exact ⟨_, _, rfl⟩
  have hcall : ∀ k (hk : k < L.length), PFn Tryz.prog 57 [.int .i64 (L[k] : Nat), .int .i64 S] [rv L[k]] := fun k hk => by
    have := hmem _ (List.getElem_mem hk)
    rw [hrv]
    have hot := others hll hq1 hq hmem hk
    rw [hS] at hot
    exact h57 L[k] S this.1 this.2 (by omega) (by omega)
  rw [← hrv]
  refine AWp.loopJ (fun k : Nat => ⟨mkF 51 [(5, .p (.int .i64 S)), (9, .own 1 k), (37, .p (.sl (L.map Kn.nV))), (38, .p (.int .i64 L.length)), (39, .p (.int .i64 k))], [.dead, .row 55 4 ((L.take k).map rv) .lax]⟩)
    (fun k => k ≤ L.length) (fun k => L.length - k) 0 (fun x => by simp [BelowAll, mkF, AV.blw, AV.blw.blwL, blwH, AObj.blw]) (by simp [go_sem, Kn.nV]) (Nat.zero_le _) ?_
  intro k hk
  simp -implicitDefEqProofs only [go_sem]
  refine AWp.of_awpD [] hΓ hmix (by kernel_rfl) ?_
  by_cases hlt : k < L.length
  rotate_left
  · have hkl : L.length = k := by omega
    subst hkl
    simp -implicitDefEqProofs only [Int.lt_irrefl, go_sem]
    refine AWp.of_awpD [] hΓ hmix (by kernel_rfl) ?_
    simp -implicitDefEqProofs only [List.take_length, go_sem]
  have hlt' : (k : Int) < (L.length : Int) := by omega
  have hg : (L.map Kn.nV).getD k default = .int .i64 (L[k] : Nat) := getD_map_lt _ _ _ _ hlt
  obtain ⟨A, B, hAB⟩ := hrc L[k]
  have e57 := hcall k hlt
  have htk : (L.take (k + 1)).map rv = (L.take k).map rv ++ [.agg [.bool false, .str A, .bool false, .str B]] := by
    rw [List.take_succ_eq_append_getElem hlt, List.map_append, ← hAB]; rfl
  rw [hAB] at e57
  simp -implicitDefEqProofs only [hlt, hlt', hg, Int.toNat_natCast, List.length_map, go_sem]
  refine callK_fn e57 (.pures rfl) ?_
  simp -implicitDefEqProofs only [go_sem]
  have hsz : sizeOK [PV.agg [.bool false, .str A, .bool false, .str B]] 4 := by simp [sizeOK, PV.cells]
  have hon : oneOK [PV.agg [.bool false, .str A, .bool false, .str B]] := by simp [oneOK, PV.cells, PV.isAgg]
  exact ⟨⟨hsz, by omega⟩, ⟨by omega, hsz, hon⟩, ⟨.inl (by omega), by omega, by omega⟩, by simp only [InR]; omega, k + 1, ⟨⟨rfl, by omega⟩, .inr (.inl (by rw [htk]))⟩, by omega, by omega⟩
end Go.Proofs.YtpljmccnfmkmfaaGreat
end

section
namespace Go.Proofs.YtpljmccnfmkmfaaGreat
open Go Go.AM
set_option maxRecDepth 100000
set_option maxHeartbeats 4000000
set_option linter.unusedSimpArgs false

end Go.Proofs.YtpljmccnfmkmfaaGreat
end

section
namespace Go.Proofs.YtpljmccnfmkmfaaGreat
open Go Go.AM
set_option maxRecDepth 100000
set_option maxHeartbeats 4000000
set_option linter.unusedSimpArgs false

end Go.Proofs.YtpljmccnfmkmfaaGreat
end

section
namespace Go.Proofs.YtpljmccnfmkmfaaGreat
open Go Go.AM
set_option maxRecDepth 100000
set_option maxHeartbeats 4000000
set_option linter.unusedSimpArgs false

theorem mem_le_sum {x : Nat} : ∀ {l : List Nat}, x ∈ l → x ≤ l.sum
  | y :: l, h => by
    rw [List.sum_cons]
    rcases List.mem_cons.1 h with rfl | h
    · omega
    · have := mem_le_sum h; omega
def nlW (L : List Nat) (b : UInt8) : Nat := L.getD (ixB b L16 0).toNat 0
theorem nlW_le {L : List Nat} (b : UInt8) : nlW L b ≤ L.sum := by
  unfold nlW
  rw [List.getD_eq_getElem?_getD]
  cases h : L[(ixB b L16 0).toNat]? with
  | none => exact Nat.zero_le _
  | some x => exact mem_le_sum (List.mem_of_getElem? h)
theorem nu_le {L : List Nat} : ∀ w : List UInt8, Mc.nu (nlW L) w ≤ L.sum ^ w.length
  | [] => by simp [Mc.nu]
  | b :: w => by
    rw [Mc.nu_cons, List.length_cons, Nat.pow_succ, Nat.mul_comm]
    exact Nat.mul_le_mul (nu_le w) (nlW_le b)
theorem tot_le5 {L : List Nat} : ∀ X : List (List UInt8), (∀ w ∈ X, w.length ≤ 5) → Mc.tot (nlW L) L.sum 5 X ≤ X.length * L.sum ^ 5
  | [], _ => by simp [Mc.tot]
  | w :: X, h => by
    rw [Mc.tot_cons, List.length_cons, Nat.succ_mul, Nat.add_comm]
    have h1 := tot_le5 (L := L) X fun x hx => h x (by simp [hx])
    have h2 := Nat.mul_le_mul (nu_le (L := L) w) (Nat.le_refl (L.sum ^ (5 - w.length)))
    rw [← Nat.pow_add, show w.length + (5 - w.length) = 5 by have := h w (by simp); omega] at h2
    omega
theorem add_same {a n S : Nat} (hS : S ≠ 0) : Kn.ratV (a * S + n * S) (S * S) = Kn.ratV (a + n) S :=
  (Kn.low_eq (Nat.mul_ne_zero hS hS) hS).2 (by grind)
theorem out_step {a b S k : Nat} (hS : S ≠ 0) (hk : k ≤ 5) : Kn.ratV (a * S ^ k + b * S ^ 5) (S ^ 5 * S ^ k) = Kn.ratV (a + b * S ^ (5 - k)) (S ^ 5) := by
  have h5 : S ^ 5 = S ^ (5 - k) * S ^ k := by rw [← Nat.pow_add]; congr 1; omega
  have hp : ∀ m, S ^ m ≠ 0 := fun m => Nat.ne_of_gt (Nat.pow_pos (Nat.pos_of_ne_zero hS))
  refine (Kn.low_eq (Nat.mul_ne_zero (hp 5) (hp k)) (hp 5)).2 ?_
  generalize S ^ 5 = A at *
  generalize S ^ (5 - k) = B at *
  generalize S ^ k = C at *
  subst h5
  grind
theorem rat_zero {S : Nat} (hS : S ≠ 0) : Kn.ratV 0 1 = Kn.ratV 0 S := (Kn.low_eq (by decide) hS).2 (by simp)
theorem rat_one {S : Nat} (hS : S ≠ 0) : Kn.ratV S S = Kn.ratV 1 1 := (Kn.low_eq hS (by decide)).2 (by simp)
theorem cap40 {x : Nat} (h : x < 256 ^ 40) : x < capN := cap_of h (by decide)

theorem c53 (q : Nat) (ws : List (List UInt8)) (L : List Nat) (hv : Valid q ws) (hw5 : ∀ w ∈ ws, w.length ≤ 5) (hq : q ≤ 3) (hLl : L.length = q) (hLb : ∀ n ∈ L, 1 ≤ n ∧ n ≤ 9) :
    PFn Tryz.prog 53 [codeV q ws, .sl (L.map fun n => Kn.ratV n L.sum)] [Kn.ratV (Mc.tot (nlW L) L.sum 5 ws) (L.sum ^ 5), .int .i64 0] := by
  have hlen := hv.len
  have h2 := hv.q2
  have hws := hv.words
  have hs27 : 1 ≤ L.sum ∧ L.sum ≤ 27 := by
    match L, hLl, hLb with
    | [], h, _ => simp at h; omega
    | [a], h, _ => simp at h; omega
    | [a, b], _, hb => have := hb a (by simp); have := hb b (by simp); simp; omega
    | [a, b, c], _, hb => have := hb a (by simp); have := hb b (by simp); have := hb c (by simp); simp; omega
    | _ :: _ :: _ :: _ :: l, h, _ => simp at h; omega
  have hcode : codeCheck (q : Int) ws = 0 := check_of hv.q2 hv.q16 (fun e => by have := hv.pos; rw [e] at this; simp at this) hv.len hv.words hv.strict
  have e80 := t45 (q : Int) ws
  rw [hcode] at e80
  obtain ⟨S, hS⟩ : ∃ S, S = L.sum := ⟨_, rfl⟩
  rw [← hS] at hs27 ⊢
  have hS0 : S ≠ 0 := by omega
  obtain ⟨rs, hrs⟩ : ∃ rs : List (Nat × Nat), rs = L.map fun n => (n, S) := ⟨_, rfl⟩
  have hrsV : (L.map fun n => Kn.ratV n S) = rs.map fun r => Kn.ratV r.1 r.2 := by rw [hrs, List.map_map]; rfl
  have hrl : rs.length = q := by rw [hrs, List.length_map, hLl]
  have hSc : ∀ k, k ≤ 10 → S ^ k < capN := fun k hk => by
    have h1 : S ^ k ≤ 27 ^ k := Nat.pow_le_pow_left hs27.2 k
    have h2 : 27 ^ k ≤ 27 ^ 10 := Nat.pow_le_pow_right (by decide) hk
    have h3 : 27 ^ 10 < 256 ^ 40 := by decide
    exact cap40 (by omega)
  have hsm : ∀ x : Nat, x < 1000000000000000000000 → x < capN := fun x h => cap40 (Nat.lt_trans h (by decide))
  have hc109 := fun h => Kn.c109 (h := h) (g := 110) (caps := []) rs (by omega) (fun r hr => by
    rw [hrs] at hr
    obtain ⟨n, hn, rfl⟩ := List.mem_map.1 hr
    have := hLb n hn
    exact AC.of_fn (h := h) (args := [.p (Kn.ratV n S)]) (Kn.v110 n S (hsm n (by omega)) (hsm S (by omega)) hS0) (.inl rfl))
  obtain ⟨sA, hsA⟩ : ∃ f : Nat → List UInt8, f = fun i => magB (Kn.lowN (L.take i).sum S) := ⟨_, rfl⟩
  obtain ⟨sB, hsB⟩ : ∃ f : Nat → List UInt8, f = fun i => magB (Kn.lowD (L.take i).sum S) := ⟨_, rfl⟩
  have hsV : ∀ i, Kn.ratV (L.take i).sum S = .agg [.bool false, .str (sA i), .bool false, .str (sB i)] := fun i => by rw [hsA, hsB]; rfl
  have hz : Kn.ratV 0 S = .agg [.bool false, .str (sA 0), .bool false, .str (sB 0)] := hsV 0
  have hone : Kn.ratV 1 1 = .agg [.bool false, .str (sA q), .bool false, .str (sB q)] := by
    rw [← rat_one hS0, ← hsV q, List.take_of_length_le (by omega), ← hS]
  have e72 := Kn.v52 0 capN_pos
  have e91 := Kn.v58
  rw [rat_zero hS0, hz] at e72
  rw [hone] at e91
  rw [hrsV]
  obtain ⟨PL, hPL⟩ : ∃ PL, PL = rs.map fun r => Kn.ratV r.1 r.2 := ⟨_, rfl⟩
  have hPLl : PL.length = q := by rw [hPL, List.length_map, hrl]
  have hPLg : ∀ k (hk : k < L.length), PL.getD k default = Kn.ratV L[k] S := fun k hk => by
    have : k < rs.length := by omega
    rw [hPL, getD_map_lt _ _ _ _ this]
    have : rs[k] = (L[k], S) := by simp [hrs]
    rw [this]
  rw [← hPL] at hc109 ⊢
  unfold codeV at e80
  obtain ⟨x, y, hR⟩ : ∃ x y, Kn.ratV (Mc.tot (nlW L) S 5 ws) (S ^ 5) = .agg [.bool false, .str x, .bool false, .str y] := ⟨_, _, rfl⟩
  refine PFn.of_body hΓ Tryz.func53 (by kernel_rfl) rfl (AWp.seq (AWp.of_awpD [] hΓ hmix (by kernel_rfl) ?_))
  simp -implicitDefEqProofs only [Tryz.ntmps53, Tryz.results53, Nat.reduceAdd, Nat.reduceSub, codeV, go_sem]
  refine AWp.seq (AWp.block ?_)
  refine AWp.of_awpD [] hΓ hmix (by kernel_rfl) ?_
  simp -implicitDefEqProofs only [go_sem]
  refine callK_fn e80 (.still rfl) ?_
  simp -implicitDefEqProofs only [hPLl, go_sem]
  refine callK_ac (hc109 _) (by simp) ?_
  rintro v h' ⟨rfl, rfl⟩
  simp -implicitDefEqProofs only [killAll, List.foldl, go_sem]
  refine AWp.seq (AWp.of_awpD [] hΓ hmix (by kernel_rfl) ?_)
  simp -implicitDefEqProofs only [go_sem]
  refine callK_fn e72 (.still rfl) ?_
  simp -implicitDefEqProofs only [go_sem]
  refine AWp.seq (AWp.of_awpD [] hΓ hmix (by kernel_rfl) ?_)
  simp -implicitDefEqProofs only [go_sem]
  refine AWp.seq (AWp.seq (AWp.of_awpD [] hΓ hmix (by kernel_rfl) ?_))
  simp -implicitDefEqProofs only [hPLl, go_sem]
  refine AWp.block ?_
  refine AWp.loopJ (fun i : Nat => ⟨mkF 82 [(1, .p (.sl PL)), (2, .ptr 0 0), (4, .ptr 1 0), (5, .p (.int .i64 0)), (6, .ptr 2 0), (7, .ptr 3 0), (34, .p (.sl PL)), (35, .p (.int .i64 q)), (36, .p (.int .i64 i))],
      [.box [.p (.int .i64 q), .p (.sl (ws.map .str))], .box [.p (.bool false), .p (.str []), .p (.bool false), .p (.str [])], .box [.p (.bool false), .p (.str (sA 0)), .p (.bool false), .p (.str (sB 0))], .box [.p (.bool false), .p (.str (sA i)), .p (.bool false), .p (.str (sB i))]]⟩)
    (fun i => i ≤ q) (fun i => q - i) 0 (fun x => by simp [BelowAll, mkF, AV.blw, AV.blw.blwL, blwH, AObj.blw]) (by simp [go_sem]) (Nat.zero_le _) ?_
  intro i hi
  simp -implicitDefEqProofs only [go_sem]
  refine AWp.of_awpD [] hΓ hmix (by kernel_rfl) ?_
  by_cases hlt : i < q
  · have hlt' : (i : Int) < (q : Int) := by omega
    have hiL : i < L.length := by omega
    have hgi := hPLg i hiL
    have hb := hLb _ (List.getElem_mem hiL)
    have hsum : (L.take i).sum ≤ 27 ∧ (L.take (i + 1)).sum = (L.take i).sum + L[i] := by
      have h1 := List.take_succ_eq_append_getElem hiL
      have h2 : (L.take (i + 1)).sum = (L.take i).sum + L[i] := by rw [h1, List.sum_append]; simp
      have h3 : (L.take i).sum + (L.drop i).sum = L.sum := by rw [← List.sum_append, List.take_append_drop]
      exact ⟨by omega, h2⟩
    have e49 := Kn.v51 L[i] S 0 S (hsm _ (by omega)) (hsm _ (by omega)) capN_pos (hsm _ (by omega)) hS0 hS0 (hsm _ (by
      have := Nat.mul_le_mul (show L[i] ≤ 9 by omega) hs27.2; omega)) (by rw [Nat.zero_mul]; exact capN_pos)
    rw [Nat.zero_mul, cmpN_gt (Nat.mul_pos (by omega) (by omega)), hz] at e49
    have m1 : (L.take i).sum * S ≤ 27 * 27 := Nat.mul_le_mul hsum.1 hs27.2
    have m2 : L[i] * S ≤ 9 * 27 := Nat.mul_le_mul hb.2 hs27.2
    have m3 : S * S ≤ 27 * 27 := Nat.mul_le_mul hs27.2 hs27.2
    have e112 := Kn.v112 (L.take i).sum S L[i] S (hsm _ (by omega)) (hsm _ (by omega)) (hsm _ (by omega)) (hsm _ (by omega)) hS0 hS0 (hsm _ (by omega)) (hsm _ (by omega))
    rw [add_same hS0, ← hsum.2, hsV (i + 1), hsV i] at e112
    obtain ⟨xa, xb, hx⟩ : ∃ xa xb, Kn.ratV L[i] S = .agg [.bool false, .str xa, .bool false, .str xb] := ⟨_, _, rfl⟩
    rw [hx] at hgi e49 e112
    simp -implicitDefEqProofs only [hlt', hgi, hPLl, hlt, Int.toNat_natCast, go_sem]
    have h10 : ¬ (1 : Int) ≤ 0 := by omega
    refine callK_fn e49 (.still rfl) ?_
    simp -implicitDefEqProofs only [h10, go_sem]
    refine callK_fn e112 (.still rfl) ?_
    simp -implicitDefEqProofs only [go_sem]
    exact ⟨by simp only [InR]; omega, i + 1, ⟨by omega, rfl, rfl⟩, by omega, by omega⟩
  have hiq : q = i := by omega
  subst hiq
  simp -implicitDefEqProofs only [Int.lt_irrefl, go_sem]
  refine AWp.seq (AWp.of_awpD [(16, 1000)] hΓ hmix (by kernel_rfl) ?_)
  simp -implicitDefEqProofs only [go_sem]
  refine AWp.planL (.q 0 (.e 1 (.s 0 (.q 2 .fin)) .nil)) hΓ hmix (by kernel_rfl) ?_
  simp -implicitDefEqProofs only [go_sem]
  refine callK_fn e91 (.still rfl) ?_
  simp -implicitDefEqProofs only [go_sem]
  refine aggN55 rfl rfl ?_
  rw [decide_eq_true rfl, decide_eq_true rfl]
  simp -implicitDefEqProofs only [Bool.and_self, Bool.not_true, go_sem]
  obtain ⟨oA, hoA⟩ : ∃ f : Nat → List UInt8, f = fun i => magB (Kn.lowN (Mc.tot (nlW L) S 5 (ws.take i)) (S ^ 5)) := ⟨_, rfl⟩
  obtain ⟨oB, hoB⟩ : ∃ f : Nat → List UInt8, f = fun i => magB (Kn.lowD (Mc.tot (nlW L) S 5 (ws.take i)) (S ^ 5)) := ⟨_, rfl⟩
  have hoV : ∀ i, Kn.ratV (Mc.tot (nlW L) S 5 (ws.take i)) (S ^ 5) = .agg [.bool false, .str (oA i), .bool false, .str (oB i)] := fun i => by rw [hoA, hoB]; rfl
  have hS5 : S ^ 5 ≠ 0 := Nat.ne_of_gt (Nat.pow_pos (by omega))
  have hz2 : sA 0 = oA 0 ∧ sB 0 = oB 0 := by
    have h1 := hoV 0
    rw [List.take_zero, show Mc.tot (nlW L) S 5 [] = 0 from rfl, ← rat_zero hS5, rat_zero hS0, hz] at h1
    injection h1 with h1
    injection h1 with _ h1
    injection h1 with h2 h1
    injection h1 with _ h1
    injection h1 with h3 _
    injection h2 with h2
    injection h3 with h3
    exact ⟨h2, h3⟩
  refine AWp.seq (AWp.of_awpD [] hΓ hmix (by kernel_rfl) ?_)
  simp -implicitDefEqProofs only [go_sem]
  refine AWp.seq (AWp.seq (AWp.of_awpD [] hΓ hmix (by kernel_rfl) ?_))
  simp -implicitDefEqProofs only [List.length_map, go_sem]
  refine AWp.block ?_
  refine AWp.loopJ (fun i : Nat => ⟨mkF 82 [(1, .p (.sl PL)), (2, .ptr 0 0), (4, .ptr 1 0), (5, .p (.int .i64 0)), (10, .ptr 4 0), (55, .p (.sl (ws.map .str))), (56, .p (.int .i64 ws.length)), (57, .p (.int .i64 i))],
      [.box [.p (.int .i64 q), .p (.sl (ws.map .str))], .box [.p (.bool false), .p (.str []), .p (.bool false), .p (.str [])], .box [.p (.bool false), .p (.str (sA 0)), .p (.bool false), .p (.str (sB 0))], .box [.p (.bool false), .p (.str (sA q)), .p (.bool false), .p (.str (sB q))],
        .box [.p (.bool false), .p (.str (oA i)), .p (.bool false), .p (.str (oB i))]]⟩)
    (fun i => i ≤ ws.length) (fun i => ws.length - i) 0 (fun x => by simp [BelowAll, mkF, AV.blw, AV.blw.blwL, blwH, AObj.blw]) (by simp [go_sem, hz2]) (Nat.zero_le _) ?_
  clear hi
  intro i hi
  simp -implicitDefEqProofs only [go_sem]
  refine AWp.of_awpD [(26, 1000)] hΓ hmix (by kernel_rfl) ?_
  by_cases hlt : i < ws.length
  rotate_left
  · have hiw : ws.length = i := by omega
    subst hiw
    have hfin := hoV ws.length
    rw [List.take_length] at hfin
    rw [hfin]
    simp -implicitDefEqProofs only [Int.lt_irrefl, go_sem]
    refine AWp.of_awpD [] hΓ hmix (by kernel_rfl) ?_
    simp -implicitDefEqProofs only [go_sem]
  have hlt' : (i : Int) < (ws.length : Int) := by omega
  have hmw := List.getElem_mem hlt
  have hw := hw5 _ hmw
  have hal := alph_of (hws _ hmw).2.2
  rw [Int.toNat_natCast] at hal
  have hgw : (ws.map PV.str).getD i default = .str ws[i] := getD_map_lt _ _ _ _ hlt
  have htot : Mc.tot (nlW L) S 5 (ws.take (i + 1)) = Mc.tot (nlW L) S 5 (ws.take i) + Mc.nu (nlW L) ws[i] * S ^ (5 - ws[i].length) := by
    rw [List.take_succ_eq_append_getElem hlt, Mc.tot_app, Mc.tot_cons]; rfl
  have hT : Mc.tot (nlW L) S 5 (ws.take i) ≤ 64 * S ^ 5 := by
    have h1 := tot_le5 (L := L) (ws.take i) fun w h => hw5 w (List.mem_of_mem_take h)
    rw [← hS] at h1
    have h3 : (ws.take i).length ≤ 64 := by rw [List.length_take]; omega
    exact Nat.le_trans h1 (Nat.mul_le_mul_right _ h3)
  have hN := nu_le (L := L) ws[i]
  rw [← hS] at hN
  have h27 : ∀ k, k ≤ 5 → S ^ k ≤ 14348907 := fun k hk => by
    have h1 : S ^ k ≤ 27 ^ k := Nat.pow_le_pow_left hs27.2 k
    have h2 : 27 ^ k ≤ 27 ^ 5 := Nat.pow_le_pow_right (by decide) hk
    omega
  have hp0 : ∀ k, S ^ k ≠ 0 := fun k => Nat.ne_of_gt (Nat.pow_pos (by omega))
  have b5 := h27 5 (by omega)
  have bw := h27 ws[i].length hw
  have m1 : Mc.tot (nlW L) S 5 (ws.take i) * S ^ ws[i].length ≤ (64 * 14348907) * 14348907 := Nat.mul_le_mul (by omega) bw
  have m2 : Mc.nu (nlW L) ws[i] * S ^ 5 ≤ 14348907 * 14348907 := Nat.mul_le_mul (by omega) b5
  have m3 : S ^ 5 * S ^ ws[i].length ≤ 14348907 * 14348907 := Nat.mul_le_mul b5 bw
  have e112 := Kn.v112 (Mc.tot (nlW L) S 5 (ws.take i)) (S ^ 5) (Mc.nu (nlW L) ws[i]) (S ^ ws[i].length) (hsm _ (by omega)) (hsm _ (by omega)) (hsm _ (by omega)) (hsm _ (by omega)) (hp0 5) (hp0 _) (hsm _ (by omega)) (hsm _ (by omega))
  rw [out_step hS0 hw, ← htot, hoV (i + 1), hoV i] at e112
  generalize ws[i] = w at *
  obtain ⟨pA, hpA⟩ : ∃ f : Nat → List UInt8, f = fun k => magB (Kn.lowN (Mc.nu (nlW L) (w.take k)) (S ^ k)) := ⟨_, rfl⟩
  obtain ⟨pB, hpB⟩ : ∃ f : Nat → List UInt8, f = fun k => magB (Kn.lowD (Mc.nu (nlW L) (w.take k)) (S ^ k)) := ⟨_, rfl⟩
  have hpV : ∀ k, Kn.ratV (Mc.nu (nlW L) (w.take k)) (S ^ k) = .agg [.bool false, .str (pA k), .bool false, .str (pB k)] := fun k => by rw [hpA, hpB]; rfl
  have hpw : Kn.ratV (Mc.nu (nlW L) w) (S ^ w.length) = .agg [.bool false, .str (pA w.length), .bool false, .str (pB w.length)] := by rw [← hpV, List.take_length]
  rw [hpw] at e112
  have hp02 : sA q = pA 0 ∧ sB q = pB 0 := by
    have h1 := hpV 0
    rw [List.take_zero, Mc.nu_nil, Nat.pow_zero, hone] at h1
    injection h1 with h1
    injection h1 with _ h1
    injection h1 with h2 h1
    injection h1 with _ h1
    injection h1 with h3 _
    injection h2 with h2
    injection h3 with h3
    exact ⟨h2, h3⟩
  simp -implicitDefEqProofs only [hlt', hgw, hlt, Int.toNat_natCast, List.length_map, go_sem]
  refine callK_fn e91 (.still rfl) ?_
  simp -implicitDefEqProofs only [go_sem]
  refine AWp.loopJ (fun k : Nat => ⟨mkF 82 [(1, .p (.sl PL)), (2, .ptr 0 0), (4, .ptr 1 0), (5, .p (.int .i64 0)), (10, .ptr 4 0), (12, .p (.str w)), (13, .ptr 5 0), (55, .p (.sl (ws.map .str))), (56, .p (.int .i64 ws.length)), (57, .p (.int .i64 i)), (63, .p (.int .i64 w.length)), (64, .p (.int .i64 k))],
      [.box [.p (.int .i64 q), .p (.sl (ws.map .str))], .box [.p (.bool false), .p (.str []), .p (.bool false), .p (.str [])], .box [.p (.bool false), .p (.str (sA 0)), .p (.bool false), .p (.str (sB 0))], .box [.p (.bool false), .p (.str (sA q)), .p (.bool false), .p (.str (sB q))],
        .box [.p (.bool false), .p (.str (oA i)), .p (.bool false), .p (.str (oB i))], .box [.p (.bool false), .p (.str (pA k)), .p (.bool false), .p (.str (pB k))]]⟩)
    (fun k => k ≤ w.length) (fun k => w.length - k) 0 (fun x => by simp [BelowAll, mkF, AV.blw, AV.blw.blwL, blwH, AObj.blw]) (by simp [go_sem, hp02]) (Nat.zero_le _) ?_
  intro k hk
  simp -implicitDefEqProofs only [go_sem]
  refine AWp.of_awpD [(26, 1000)] hΓ hmix (by kernel_rfl) ?_
  by_cases hkl : k < w.length
  rotate_left
  · have hkw : w.length = k := by omega
    rw [hkw] at e112
    have hkw' : ¬ (k : Int) < (w.length : Int) := by omega
    simp -implicitDefEqProofs only [hkw', go_sem]
    refine callK_fn e112 (.still rfl) ?_
    simp -implicitDefEqProofs only [go_sem]
    exact ⟨by simp only [InR]; omega, i + 1, ⟨by omega, rfl, rfl⟩, by omega, by omega⟩
  have hkl' : (k : Int) < (w.length : Int) := by omega
  obtain ⟨a, ha, hba⟩ := hal w[k] (List.getElem_mem hkl)
  have hix : ixB w[k] L16 0 = a := by rw [hba]; exact ixB_ltr (by omega)
  have haL : a < L.length := by omega
  have hnl : nlW L w[k] = L[a] := by
    unfold nlW
    rw [hix, Int.toNat_natCast, List.getD_eq_getElem?_getD, List.getElem?_eq_getElem haL, Option.getD_some]
  have hgb : w.getD k 0 = w[k] := by rw [List.getD_eq_getElem?_getD, List.getElem?_eq_getElem hkl, Option.getD_some]
  have e114 := t101 [48, 49, 50, 51, 52, 53, 54, 55, 56, 57, 97, 98, 99, 100, 101, 102] (w[k].toNat : Int)
  rw [show ((w[k].toNat : Int)).toNat.toUInt8 = w[k] by simp, show ixB w[k] [48, 49, 50, 51, 52, 53, 54, 55, 56, 57, 97, 98, 99, 100, 101, 102] 0 = a from hix] at e114
  have hnu : Mc.nu (nlW L) (w.take (k + 1)) = Mc.nu (nlW L) (w.take k) * L[a] := by
    rw [List.take_succ_eq_append_getElem hkl, Mc.nu_app, Mc.nu_cons, Mc.nu_nil, Nat.mul_one, hnl]
  have hb := hLb _ (List.getElem_mem haL)
  have hNk := nu_le (L := L) (w.take k)
  rw [← hS, List.length_take, Nat.min_eq_left hk] at hNk
  have bk := h27 k (by omega)
  have mm1 : Mc.nu (nlW L) (w.take k) * L[a] ≤ 14348907 * 9 := Nat.mul_le_mul (by omega) hb.2
  have mm2 : S ^ k * S ≤ 14348907 * 27 := Nat.mul_le_mul bk hs27.2
  have e113 := Kn.v113 (Mc.nu (nlW L) (w.take k)) (S ^ k) L[a] S (hsm _ (by omega)) (hsm _ (by omega)) (hsm _ (by omega)) (hsm _ (by omega)) (hp0 k) hS0 (hsm _ (by omega)) (hsm _ (by omega))
  rw [← hnu, ← Nat.pow_succ, hpV (k + 1), hpV k] at e113
  have hga := hPLg a haL
  obtain ⟨xa, xb, hx⟩ : ∃ xa xb, Kn.ratV L[a] S = .agg [.bool false, .str xa, .bool false, .str xb] := ⟨_, _, rfl⟩
  rw [hx] at hga e113
  have haP : a < PL.length := by omega
  simp -implicitDefEqProofs only [hkl', go_sem]
  refine AWp.planL (.q 0 (.q 1 (.q 2 (.q 3 (.q 4 (.e 5 (.s 0 (.s 1 (.q 6 (.q 7 (.e 8 (.e 9 .fin .nil) .nil))))) .nil)))))) hΓ hmix (by kernel_rfl) ?_
  simp -implicitDefEqProofs only [hkl, hgb, Int.toNat_natCast, go_sem]
  refine callK_fn e114 (.still rfl) ?_
  simp -implicitDefEqProofs only [haP, hga, Int.toNat_natCast, go_sem]
  refine callK_fn e113 (.still rfl) ?_
  simp -implicitDefEqProofs only [go_sem]
  exact ⟨by simp only [InR]; omega, k + 1, ⟨by omega, rfl, rfl⟩, by omega, by omega⟩
end Go.Proofs.YtpljmccnfmkmfaaGreat
end

section
namespace Go.Proofs.YtpljmccnfmkmfaaGreat
open Go Go.AM
set_option maxRecDepth 100000
set_option maxHeartbeats 4000000
set_option linter.unusedSimpArgs false

theorem wL_letters {q : Nat} {L : List Nat} (hq : q ≤ 16) (hL : L.length = q) : ((List.range q).map Kn.ltr).map (nlW L) = L := by
  refine List.ext_getElem (by simp [hL]) fun i h1 h2 => ?_
  have hi : i < q := by simpa using h1
  simp only [List.getElem_map, List.getElem_range]
  unfold nlW
  rw [ixB_ltr (by omega), Int.toNat_natCast, List.getD_eq_getElem?_getD, List.getElem?_eq_getElem h2, Option.getD_some]
theorem sum_ones {α : Type} : ∀ l : List α, (l.map fun _ => 1).sum = l.length
  | [] => rfl
  | a :: l => by rw [List.map_cons, List.sum_cons, sum_ones l, List.length_cons, Nat.add_comm]
theorem nu_one : ∀ w : List UInt8, Mc.nu (fun _ => 1) w = 1
  | [] => rfl
  | b :: w => by rw [Mc.nu_cons, nu_one w]
theorem krS_tot (q : Nat) : ∀ ws : List (List UInt8), Kn.krS q (ws.map List.length) = Mc.tot (fun _ => 1) q 32 ws
  | [] => rfl
  | w :: ws => by
    have ih := krS_tot q ws
    rw [Mc.tot_cons, nu_one, Nat.one_mul, ← ih]
    unfold Kn.krS
    rw [List.map_cons, List.map_cons, List.sum_cons]
theorem krS_bd {q : Nat} (hq : 1 ≤ q) : ∀ l : List Nat, Kn.krS q l ≤ l.length * q ^ 32
  | [] => by simp [Kn.krS]
  | n :: l => by
    have ih := krS_bd hq l
    unfold Kn.krS at ih ⊢
    rw [List.map_cons, List.sum_cons, List.length_cons, Nat.succ_mul]
    have := Nat.pow_le_pow_right hq (show 32 - n ≤ 32 by omega)
    omega
theorem nu_pos {L : List Nat} (hL : ∀ n ∈ L, 1 ≤ n) : ∀ {w : List UInt8}, Kn.Alph L.length w → L.length ≤ 16 → 1 ≤ Mc.nu (nlW L) w
  | [], _, _ => Nat.le_refl _
  | b :: w, h, h16 => by
    rw [Mc.nu_cons]
    obtain ⟨a, ha, hb⟩ := h b (by simp)
    have h1 : 1 ≤ nlW L b := by
      unfold nlW
      rw [hb, ixB_ltr (by omega), Int.toNat_natCast, List.getD_eq_getElem?_getD, List.getElem?_eq_getElem ha, Option.getD_some]
      exact hL _ (List.getElem_mem ha)
    have h2 := nu_pos hL (w := w) (fun c hc => h c (by simp [hc])) h16
    exact Nat.mul_pos h1 h2

theorem b9h (q : Int) (ws : List (List UInt8)) (pk : List UInt8) (hws : ws.length ≤ 9223372036854775807) (hpk : pk.length ≤ 9223372036854775807)
    (h57 : ∀ n d : Nat, 1 ≤ n → n ≤ 9 → n + 1 ≤ d → d ≤ n + 18 → PFn Tryz.prog 57 [.int .i64 n, .int .i64 d] [Kn.ratV n d]) (h57o : PFn Tryz.prog 57 [.int .i64 1, .int .i64 1] [Kn.ratV 1 1]) (h57z : PFn Tryz.prog 57 [.int .i64 0, .int .i64 1] [Kn.ratV 0 1])
    (hD : ∀ (q : Int) (ws : List (List UInt8)), codeCheck q ws = 0 → ∃ is : Bool, PFn Tryz.prog 55 [codeV q ws] [.bool is, .int .i64 0] ∧ (is = true → Mc.UD ws)) : PFn Tryz.prog 9 [codeV q ws, .sl (pk.map u8V)] [.bool true] := by
  have e43 := gr36 q ws hws
  have e40 := t44 q ws
  unfold codeV at e43 e40
  refine PFn.of_body hΓ Tryz.func9 (by kernel_rfl) rfl (AWp.seq (AWp.of_awpD [] hΓ hmix (by kernel_rfl) ?_))
  simp -implicitDefEqProofs only [Tryz.ntmps9, Tryz.results9, Nat.reduceAdd, Nat.reduceSub, codeV, go_sem]
  cases hg : great36 q ws
  rotate_left
  · rw [hg] at e43
    refine AWp.seq ?_
    refine AWp.of_awpD [] hΓ hmix (by kernel_rfl) ?_
    simp -implicitDefEqProofs only [go_sem]
    refine callK_fn e43 (.still rfl) ?_
    simp -implicitDefEqProofs only [go_sem]
    refine callK_fn awake36 (.pures rfl) ?_
    simp -implicitDefEqProofs only [go_sem]
  rw [hg] at e43
  by_cases hc : codeCheck q ws = 0
  rotate_left
  · refine AWp.seq ?_
    refine AWp.of_awpD [] hΓ hmix (by kernel_rfl) ?_
    simp -implicitDefEqProofs only [go_sem]
    refine callK_fn e43 (.still rfl) ?_
    simp -implicitDefEqProofs only [go_sem]
    refine callK_fn e40 (.still rfl) ?_
    simp -implicitDefEqProofs only [hc, go_sem]
    refine callK_fn awake36 (.pures rfl) ?_
    simp -implicitDefEqProofs only [go_sem]
  rw [hc] at e40
  have hv := valid_of hc
  have h2 := hv.q2
  have h16 := hv.q16
  obtain ⟨p, rfl⟩ : ∃ p : Nat, q = p := ⟨q.toNat, by omega⟩
  have hg2 := hg
  unfold great36 muchC at hg2
  simp only [Bool.or_eq_false_iff, decide_eq_false_iff_not, Bool.and_eq_false_iff] at hg2
  have hq3 : p ≤ 3 := by have := hg2.2.2; omega
  have hl6 : ws.length ≤ 6 := by have := hg2.2.1; omega
  have hw5 : ∀ w ∈ ws, w.length ≤ 5 := fun w hw => by
    have h1 := List.any_eq_false.1 hg2.1 w hw
    have h3 := (hv.words w hw).2.1
    unfold longW at h1
    simp at h1; omega
  have hnd : ws.Nodup := hv.strict.imp fun {a b} h e => by subst e; exact ltW_irrefl _ h
  have hal : ∀ w ∈ ws, Kn.Alph p w := fun w hw => by
    have := alph_of (hv.words w hw).2.2
    rwa [Int.toNat_natCast] at this
  have hA : ∀ x ∈ ws, ∀ b ∈ x, b ∈ (List.range p).map Kn.ltr := fun x hx b hb => by
    obtain ⟨a, ha, rfl⟩ := hal x hx b hb
    exact List.mem_map.2 ⟨a, List.mem_range.2 ha, rfl⟩
  have hLl := wL_len p pk
  have hLb : ∀ n ∈ wL p pk, 1 ≤ n ∧ n ≤ 9 := fun n hn => wL_mem hn
  have hLs := wL_sum pk p
  obtain ⟨is, e55, hUD⟩ := hD (p : Int) ws hc
  have e44 := cm28 (p : Int) ws hc
  have e56 := c56 p (by omega) hq3 pk hpk h57
  have e53 := c53 p ws (wL p pk) hv hw5 hq3 hLl hLb
  have e57 : PFn Tryz.prog 57 [.int .i64 1, .int .i64 1] [Kn.ratV 1 1] := h57o
  have e57z : PFn Tryz.prog 57 [.int .i64 0, .int .i64 1] [Kn.ratV 0 1] := h57z
  rw [Int.toNat_natCast] at e44
  have hmK : is = true → Kn.krS p (ws.map List.length) ≤ p ^ 32 := fun h => by
    have := Mc.mcmillan (A := (List.range p).map Kn.ltr) (n := fun _ => 1) (L := 32) hnd (hUD h) hA (fun w hw => (hv.words w hw).2.1) (by rw [sum_ones]; simp; omega)
    rw [sum_ones, List.length_map, List.length_range] at this
    rw [krS_tot]
    exact this
  have hmT : is = true → Mc.tot (nlW (wL p pk)) (wL p pk).sum 5 ws ≤ (wL p pk).sum ^ 5 := fun h => by
    have hs := wL_letters (q := p) (L := wL p pk) (by omega) hLl
    have := Mc.mcmillan (A := (List.range p).map Kn.ltr) (n := nlW (wL p pk)) (L := 5) hnd (hUD h) hA hw5 (by rw [hs]; omega)
    rwa [hs] at this
  obtain ⟨w0, hw0⟩ : ∃ w0, w0 ∈ ws := by
    have := hv.pos
    cases ws with
    | nil => simp at this
    | cons a l => exact ⟨a, by simp⟩
  have hKpos : 0 < Kn.krS p (ws.map List.length) := by
    unfold Kn.krS
    have h1 : p ^ (32 - w0.length) ∈ (ws.map List.length).map fun n => p ^ (32 - n) := List.mem_map.2 ⟨w0.length, List.mem_map.2 ⟨w0, hw0, rfl⟩, rfl⟩
    have h3 := mem_le_sum h1
    have h4 : 0 < p ^ (32 - w0.length) := Nat.pow_pos (by omega)
    omega
  have hTpos : 0 < Mc.tot (nlW (wL p pk)) (wL p pk).sum 5 ws := by
    unfold Mc.tot
    have h1 : Mc.nu (nlW (wL p pk)) w0 * (wL p pk).sum ^ (5 - w0.length) ∈ ws.map fun x => Mc.nu (nlW (wL p pk)) x * (wL p pk).sum ^ (5 - x.length) := List.mem_map.2 ⟨w0, hw0, rfl⟩
    have h3 := mem_le_sum h1
    have h5 := nu_pos (fun n hn => (hLb n hn).1) (w := w0) (by rw [hLl]; exact hal w0 hw0) (by omega)
    have h4 : 0 < (wL p pk).sum ^ (5 - w0.length) := Nat.pow_pos (by omega)
    have := Nat.mul_pos h5 h4
    omega
  have hTle : Mc.tot (nlW (wL p pk)) (wL p pk).sum 5 ws ≤ 6 * 14348907 := by
    have h1 := tot_le5 (L := wL p pk) ws hw5
    have h3 : (wL p pk).sum ^ 5 ≤ 27 ^ 5 := Nat.pow_le_pow_left (by omega) 5
    have h4 := Nat.mul_le_mul hl6 h3
    omega
  have hSle : (wL p pk).sum ^ 5 ≤ 14348907 := by
    have h3 : (wL p pk).sum ^ 5 ≤ 27 ^ 5 := Nat.pow_le_pow_left (by omega) 5
    omega
  have hS0 : (wL p pk).sum ^ 5 ≠ 0 := Nat.ne_of_gt (Nat.pow_pos (by omega))
  have hKle : Kn.krS p (ws.map List.length) ≤ 6 * 3 ^ 32 := by
    have h1 := krS_bd (q := p) (by omega) (ws.map List.length)
    rw [List.length_map] at h1
    exact Nat.le_trans h1 (Nat.mul_le_mul hl6 (Nat.pow_le_pow_left hq3 32))
  have hsm : ∀ x : Nat, x < 256 ^ 30 → x < capN := fun x h => cap_of h (by decide)
  have hp32 : p ^ 32 ≤ 3 ^ 32 := Nat.pow_le_pow_left hq3 32
  have hp0 : p ^ 32 ≠ 0 := Nat.ne_of_gt (Nat.pow_pos (by omega))
  have hbig : 6 * 3 ^ 32 < 256 ^ 30 := by decide
  have e49x := Kn.v51 (Kn.krS p (ws.map List.length)) (p ^ 32) 1 1 (hsm _ (by omega)) (hsm _ (by omega)) Kn.one_cap Kn.one_cap hp0 (by decide) (by rw [Nat.mul_one]; exact hsm _ (by omega)) (by rw [Nat.one_mul]; exact hsm _ (by omega))
  have e49y := Kn.v51 (Mc.tot (nlW (wL p pk)) (wL p pk).sum 5 ws) ((wL p pk).sum ^ 5) 1 1 (hsm _ (by omega)) (hsm _ (by omega)) Kn.one_cap Kn.one_cap hS0 (by decide) (by rw [Nat.mul_one]; exact hsm _ (by omega)) (by rw [Nat.one_mul]; exact hsm _ (by omega))
  have e49u := Kn.v51 (Kn.krS p (ws.map List.length)) (p ^ 32) 0 1 (hsm _ (by omega)) (hsm _ (by omega)) capN_pos Kn.one_cap hp0 (by decide) (by rw [Nat.mul_one]; exact hsm _ (by omega)) (by rw [Nat.zero_mul]; exact capN_pos)
  have e49v := Kn.v51 (Mc.tot (nlW (wL p pk)) (wL p pk).sum 5 ws) ((wL p pk).sum ^ 5) 0 1 (hsm _ (by omega)) (hsm _ (by omega)) capN_pos Kn.one_cap hS0 (by decide) (by rw [Nat.mul_one]; exact hsm _ (by omega)) (by rw [Nat.zero_mul]; exact capN_pos)
  rw [Nat.mul_one, Nat.one_mul] at e49x e49y
  rw [Nat.mul_one, Nat.zero_mul, cmpN_gt hKpos] at e49u
  rw [Nat.mul_one, Nat.zero_mul, cmpN_gt hTpos] at e49v
  generalize Kn.krS p (ws.map List.length) = K at *
  generalize Mc.tot (nlW (wL p pk)) (wL p pk).sum 5 ws = T at *
  generalize (wL p pk).sum ^ 5 = V at *
  obtain ⟨PL, hPL⟩ : ∃ PL, PL = (wL p pk).map fun n => Kn.ratV n (wL p pk).sum := ⟨_, rfl⟩
  rw [← hPL] at e53 e56
  obtain ⟨xA, xB, hx⟩ : ∃ A B, Kn.ratV K (p ^ 32) = .agg [.bool false, .str A, .bool false, .str B] := ⟨_, _, rfl⟩
  obtain ⟨yA, yB, hy⟩ : ∃ A B, Kn.ratV T V = .agg [.bool false, .str A, .bool false, .str B] := ⟨_, _, rfl⟩
  obtain ⟨oA, oB, ho⟩ : ∃ A B, Kn.ratV 1 1 = .agg [.bool false, .str A, .bool false, .str B] := ⟨_, _, rfl⟩
  obtain ⟨zA, zB, hz⟩ : ∃ A B, Kn.ratV 0 1 = .agg [.bool false, .str A, .bool false, .str B] := ⟨_, _, rfl⟩
  rw [hx] at e44 e49x e49u
  rw [hy] at e53 e49y e49v
  rw [ho] at e57 e49x e49y
  rw [hz] at e57z e49u e49v
  unfold codeV at e44 e53 e55
  refine AWp.seq (AWp.of_awpD [] hΓ hmix (by kernel_rfl) ?_)
  simp -implicitDefEqProofs only [go_sem]
  refine callK_fn e43 (.still rfl) ?_
  simp -implicitDefEqProofs only [go_sem]
  refine callK_fn e40 (.still rfl) ?_
  simp -implicitDefEqProofs only [go_sem]
  refine AWp.seq (AWp.of_awpD [] hΓ hmix (by kernel_rfl) ?_)
  simp -implicitDefEqProofs only [go_sem]
  refine callK_fn e55 (.still rfl) ?_
  simp -implicitDefEqProofs only [go_sem]
  refine AWp.seq (AWp.of_awpD [] hΓ hmix (by kernel_rfl) ?_)
  simp -implicitDefEqProofs only [go_sem]
  refine callK_fn e44 (.still rfl) ?_
  simp -implicitDefEqProofs only [go_sem]
  refine AWp.seqM (fun _ : Unit => ⟨mkF 71 [(2, .ptr 0 0), (4, .p (.bool false)), (5, .p (.bool is)), (6, .p (.int .i64 0)), (7, .ptr 1 0), (8, .p (.int .i64 0)), (9, .ptr 2 0), (10, .p (.int .i64 0))],
      [.box [.p (.int .i64 p), .p (.sl (ws.map .str))], .box [.p (.bool false), .p (.str xA), .p (.bool false), .p (.str xB)], .box [.p (.bool false), .p (.str yA), .p (.bool false), .p (.str yB)]]⟩)
    (fun _ => True) (AWp.of_awpD [(5, 1000)] hΓ hmix (by kernel_rfl) ?_) ?_
  · simp -implicitDefEqProofs only [go_sem]
    refine AWp.planL (.q 0 (.q 1 (.q 2 (.q 3 (.e 4 (.s 0 (.e 5 (.q 6 (.q 7 (.q 8 (.e 9 (.s 0 (.s 1 (.s 2 (.s 3 (.s 6 (.s 7 (.s 8 (.e 10 (.s 8 (.q 11 .fin)) .nil)))))))) .nil)))) (.e 9 (.s 0 (.s 1 (.s 2 (.s 3 (.e 5 (.q 6 (.q 7 (.q 8 (.e 10 (.s 8 (.q 11 .fin)) .nil)))) .nil))))) .nil))) (.e 9 (.s 0 (.s 1 (.s 2 (.s 3 (.e 4 (.s 0 (.e 5 (.q 6 (.q 7 (.q 8 (.e 10 (.s 8 (.q 11 .fin)) .nil)))) .nil)) .nil))))) .nil)))))) hΓ hmix (by kernel_rfl) ?_
    simp -implicitDefEqProofs only [go_sem]
    refine ⟨?_, ?_⟩
    · refine callK_fn e56 (.pures rfl) ?_
      simp -implicitDefEqProofs only [go_sem]
      refine ⟨?_, ?_⟩
      · refine callK_fn e53 (.still rfl) ?_
        simp -implicitDefEqProofs only [go_sem]
        exact ⟨(), trivial⟩
      · refine callK_fn e53 (.still rfl) ?_
        simp -implicitDefEqProofs only [go_sem]
        exact ⟨(), trivial⟩
    · refine callK_fn e56 (.pures rfl) ?_
      simp -implicitDefEqProofs only [go_sem]
      refine callK_fn e53 (.still rfl) ?_
      simp -implicitDefEqProofs only [go_sem]
      exact ⟨(), trivial⟩
  intro _ _
  refine AWp.seq (AWp.of_awpD [] hΓ hmix (by kernel_rfl) ?_)
  simp -implicitDefEqProofs only [ite_self, go_sem]
  refine AWp.seq (AWp.of_awpD [] hΓ hmix (by kernel_rfl) ?_)
  simp -implicitDefEqProofs only [go_sem]
  refine callK_fn e57 (.still rfl) ?_
  simp -implicitDefEqProofs only [go_sem]
  have h10 : (0 : Int) < 1 := by decide
  cases his : is
  · subst his
    refine AWp.seq (AWp.of_awpD [] hΓ hmix (by kernel_rfl) ?_)
    simp -implicitDefEqProofs only [go_sem]
    refine AWp.of_awpD [(11, 1000)] hΓ hmix (by kernel_rfl) ?_
    simp -implicitDefEqProofs only [go_sem]
    refine AWp.planL (.q 0 (.e 1 (.s 0 (.e 2 (.q 3 (.q 4 (.q 5 (.e 6 (.s 5 (.e 7 (.q 8 (.q 9 (.q 10 (.e 11 (.q 12 (.q 13 .fin)) .nil)))) .nil)) .nil)))) .nil)) .nil)) hΓ hmix (by kernel_rfl) ?_
    simp -implicitDefEqProofs only [go_sem]
    refine callK_fn e57z (.still rfl) ?_
    simp -implicitDefEqProofs only [go_sem]
    refine callK_fn e49u (.still rfl) ?_
    simp -implicitDefEqProofs only [h10, go_sem]
    refine callK_fn e57z (.still rfl) ?_
    simp -implicitDefEqProofs only [go_sem]
    refine callK_fn e49v (.still rfl) ?_
    simp -implicitDefEqProofs only [h10, go_sem]
    refine callK_fn awake36 (.pures rfl) ?_
    simp -implicitDefEqProofs only [go_sem]
  · subst his
    have k1 : ¬ (0 : Int) < cmpN K (p ^ 32) := by
      have := hmK rfl
      unfold cmpN
      split
      · decide
      · split
        · decide
        · omega
    have k2 : ¬ (0 : Int) < cmpN T V := by
      have := hmT rfl
      unfold cmpN
      split
      · decide
      · split
        · decide
        · omega
    refine AWp.seq (AWp.of_awpD [] hΓ hmix (by kernel_rfl) ?_)
    simp -implicitDefEqProofs only [go_sem]
    refine callK_fn e49x (.still rfl) ?_
    simp -implicitDefEqProofs only [k1, go_sem]
    refine callK_fn e49y (.still rfl) ?_
    simp -implicitDefEqProofs only [k2, go_sem]
    refine AWp.of_awpD [(11, 1000)] hΓ hmix (by kernel_rfl) ?_
    simp -implicitDefEqProofs only [go_sem]
    refine AWp.planL (.q 0 (.e 1 (.s 0 (.e 2 (.q 3 (.q 4 (.q 5 (.e 6 (.s 5 (.e 7 (.q 8 (.q 9 (.q 10 (.e 11 (.q 12 (.q 13 .fin)) .nil)))) .nil)) .nil)))) .nil)) .nil)) hΓ hmix (by kernel_rfl) ?_
    simp -implicitDefEqProofs only [go_sem]
    refine callK_fn e57z (.still rfl) ?_
    simp -implicitDefEqProofs only [go_sem]
    refine callK_fn e49u (.still rfl) ?_
    simp -implicitDefEqProofs only [h10, go_sem]
    refine callK_fn e57z (.still rfl) ?_
    simp -implicitDefEqProofs only [go_sem]
    refine callK_fn e49v (.still rfl) ?_
    simp -implicitDefEqProofs only [h10, go_sem]
    refine callK_fn awake36 (.pures rfl) ?_
    simp -implicitDefEqProofs only [go_sem]
end Go.Proofs.YtpljmccnfmkmfaaGreat
end

section
namespace Go.Proofs.YtpljmccnfmkmfaaGreat
open Go Go.AM
set_option maxRecDepth 100000
set_option maxHeartbeats 4000000
set_option linter.unusedSimpArgs false

end Go.Proofs.YtpljmccnfmkmfaaGreat
end

section
namespace Go.Proofs.YtpljmccnfmkmfaaGreat
open Go Go.AM
set_option maxRecDepth 100000
set_option maxHeartbeats 4000000
set_option linter.unusedSimpArgs false

def cutW (w x : List UInt8) : List UInt8 := if x.isPrefixOf w then w.drop x.length else w
theorem t51 (w x : List UInt8) : PFn Tryz.prog 275 [.str w, .str x] [.str (cutW w x), .bool (x.isPrefixOf w)] := by
  refine PFn.of_body hΓ Tryz.func275 (by kernel_rfl) rfl (AWp.of_awpD [] hΓ hmix (by kernel_rfl) ?_)
  simp +contextual -implicitDefEqProofs only [Tryz.ntmps275, Tryz.results275, Nat.reduceAdd, Nat.reduceSub, go_sem]
  refine callK_fn (t85 w x) (.pures rfl) ?_
  cases hp : x.isPrefixOf w
  · simp -implicitDefEqProofs only [go_sem]
    unfold cutW; rw [if_neg (by rw [hp]; simp)]
  · simp -implicitDefEqProofs only [go_sem]
    exact ⟨(List.isPrefixOf_iff_prefix.1 hp).length_le, by unfold cutW; rw [if_pos hp]⟩

theorem t20 (w x : List UInt8) : PFn Tryz.prog 253 [.str w, .str x] [.str (cutW w x), .bool (x.isPrefixOf w)] := by
  refine PFn.of_body hΓ Tryz.func253 (by kernel_rfl) rfl (AWp.of_awpD [] hΓ hmix (by kernel_rfl) ?_)
  simp +contextual -implicitDefEqProofs only [Tryz.ntmps253, Tryz.results253, Nat.reduceAdd, Nat.reduceSub, go_sem]
  refine callK_fn (t51 w x) (.pures rfl) ?_
  simp +contextual -implicitDefEqProofs only [go_sem]

theorem c52 {h : List AObj} (q : Int) (ws : List (List UInt8)) : AC Tryz.prog 221 [.agg [.p (.int .i64 q), .p (.sl (ws.map .str))]] h [] (fun v h' => v = .fn 252 [.ptr h.length 0] ∧ h' = h ++ [codeB q ws]) := by
  refine AC.of_bodyE hΓ Tryz.func221 (by kernel_rfl) rfl (AWp.mono (Q := fun e st => AM.Ends e ∧ st.tmps.getD 2 .junk = .fn 252 [.ptr h.length 0] ∧ st.h = h ++ [codeB q ws]) ?_ ?_)
  rotate_left
  · rintro e ⟨tm, h'⟩ ⟨he, h1, h2⟩
    simp only at h1 h2
    subst h2
    refine ⟨he, _, Less.refl _, ?_⟩
    unfold DoneE
    simp +contextual -implicitDefEqProofs only [Tryz.results221, h1, go_sem]
    exact ⟨h.length + 1, by omega, .inl (by simp), List.take_of_length_le (by simp)⟩
  refine AWp.of_awpD [] hΓ hmix (by kernel_rfl) ?_
  simp +contextual -implicitDefEqProofs only [Tryz.ntmps221, Nat.reduceAdd, Nat.reduceSub, codeB, go_sem]

end Go.Proofs.YtpljmccnfmkmfaaGreat
end

section
namespace Go.Proofs.YtpljmccnfmkmfaaGreat.Dc
open Go Go.AM
set_option maxRecDepth 100000
set_option linter.unusedSimpArgs false

def restAt (ws : List (List UInt8)) (i k : Nat) : List (List UInt8) :=
  if i ≠ k ∧ (ws.getD k []).isPrefixOf (ws.getD i []) then [(ws.getD i []).drop (ws.getD k []).length] else []
def restsOf (ws : List (List UInt8)) (i n : Nat) : List (List UInt8) := (List.range n).flatMap (restAt ws i)
def firstN (ws : List (List UInt8)) (n : Nat) : List (List UInt8) := (List.range n).flatMap fun i => restsOf ws i ws.length
def firstS (ws : List (List UInt8)) : List (List UInt8) := firstN ws ws.length

def nextAt (r x : List UInt8) : List (List UInt8) := if x.isPrefixOf r then [r.drop x.length] else if r.isPrefixOf x then [x.drop r.length] else []
def nextS (ws : List (List UInt8)) (r : List UInt8) : List (List UInt8) := ws.flatMap (nextAt r)
end Go.Proofs.YtpljmccnfmkmfaaGreat.Dc
end

section
namespace Go.Proofs.YtpljmccnfmkmfaaGreat.Dc
open Go Go.AM
set_option maxRecDepth 100000
set_option linter.unusedSimpArgs false

theorem callK_yc {E : Env} {tm : List AV} {h : List AObj} {KS : St → Prop} {d : Option Nat} {b : Nat} {args : List AV} {ks : List Nat} {R : AV → List AObj → Prop} (hf : YC E.P b args h ks R) (hks : ∀ k ∈ ks, E.n0 ≤ k ∨ k ∈ E.ks)
    (hk : ∀ v h', R v h' → KS ⟨putD (killAll ks tm) d v, h'⟩) : callK E ⟨tm, h⟩ d (.yld b) args KS := ⟨ks, R, hf, hks, hk⟩

def pairAt (x y : List UInt8) : List (List UInt8 × List UInt8) := if x.isPrefixOf y ∧ y.drop x.length ≠ [] then [(y, y.drop x.length)] else []
def pairsK (ws : List (List UInt8)) (i k : Nat) : List (List UInt8 × List UInt8) := (ws.take k).flatMap (pairAt (ws.getD i []))
def pairsN (ws : List (List UInt8)) (i : Nat) : List (List UInt8 × List UInt8) := (List.range i).flatMap fun i => pairsK ws i ws.length
def pairs (ws : List (List UInt8)) : List (List UInt8 × List UInt8) := pairsN ws ws.length

theorem pairsN_succ (ws : List (List UInt8)) (n : Nat) : pairsN ws (n + 1) = pairsN ws n ++ pairsK ws n ws.length := by
  unfold pairsN; rw [List.range_succ, List.flatMap_append]; simp
theorem pairsK_succ {ws : List (List UInt8)} {i k : Nat} (hk : k < ws.length) : pairsK ws i (k + 1) = pairsK ws i k ++ pairAt (ws.getD i []) ws[k] := by
  unfold pairsK; rw [List.take_succ_eq_append_getElem hk, List.flatMap_append]; simp
theorem pairsN_le (ws : List (List UInt8)) : ∀ {n : Nat}, n ≤ ws.length → ∃ l, pairsN ws n ++ l = pairs ws := by
  intro n hn
  induction hd : ws.length - n generalizing n with
  | zero => exact ⟨[], by rw [show n = ws.length by omega]; simp [pairs]⟩
  | succ d ih =>
    obtain ⟨l, hl⟩ := ih (n := n + 1) (by omega) (by omega)
    exact ⟨pairsK ws n ws.length ++ l, by rw [← List.append_assoc, ← pairsN_succ]; exact hl⟩
theorem pairsK_le (ws : List (List UInt8)) (i : Nat) : ∀ {k : Nat}, k ≤ ws.length → ∃ l, pairsK ws i k ++ l = pairsK ws i ws.length := by
  intro k hk
  refine ⟨(ws.drop k).flatMap (pairAt (ws.getD i [])), ?_⟩
  unfold pairsK
  rw [List.take_length, ← List.flatMap_append, List.take_append_drop]

theorem c86 {h : List AObj} {b c : Nat} {ks : List Nat} (hbk : b ∉ ks) (hck : c ∉ ks) (q : Int) (ws : List (List UInt8)) (hws : ws.length ≤ 1000) {J : List (List UInt8 × List UInt8) → List AObj → Prop} {D : List AObj → Prop} (hJ0 : J [] h)
    (hbox : ∀ done h', J done h' → h'[c]? = some (codeB q ws) ∧ h.length ≤ h'.length) (hD : ∀ h', D h' → h.length ≤ h'.length)
    (hround : ∀ done y r h', (∃ l, done ++ (y, r) :: l = pairs ws) → J done h' → YC Tryz.prog b [.p (.str y), .p (.str r)] h' ks (fun v h'' => (v = .p (.bool true) ∧ J (done ++ [(y, r)]) h'') ∨ (v = .p (.bool false) ∧ D h''))) :
    AC Tryz.prog 252 [.yld b, .ptr c 0] h ks (fun _ h' => J (pairs ws) h' ∨ D h') := by
  have nb : ∀ {k}, k ∈ ks → b ≠ k := fun h e => hbk (e ▸ h)
  have nc : ∀ {k}, k ∈ ks → c ≠ k := fun h e => hck (e ▸ h)
  refine AC.of_bodyE hΓ Tryz.func252 (by kernel_rfl) rfl (AWp.mono (Q := fun e st => AM.Ends e ∧ (J (pairs ws) st.h ∨ D st.h)) ?_ ?_)
  rotate_left
  · rintro e st ⟨he, hst⟩
    refine ⟨he, st, Less.refl st, ?_⟩
    refine ⟨st.h.length, hst.elim (fun hj => (hbox _ _ hj).2) (hD _), .inl rfl, ?_⟩
    rw [List.take_length]; exact hst
  refine AWp.of_awpD [] hΓ hmix (by kernel_rfl) ?_
  have hb0 := (hbox _ _ hJ0).1
  simp +contextual -implicitDefEqProofs only [Tryz.ntmps252, Nat.reduceAdd, Nat.reduceSub, hb0, codeB, go_sem]
  refine AWp.loopI (fun p : Nat × List AObj => ⟨mkF 43 [(0, .yld b), (1, .ptr c 0), (10, .p (.sl (ws.map .str))), (11, .p (.int .i64 ws.length)), (12, .p (.int .i64 p.1))], p.2⟩)
    (fun p => p.1 ≤ ws.length ∧ J (pairsN ws p.1) p.2) (fun p => ws.length - p.1) (0, h) (by simp [go_sem, weakH_self]) ⟨Nat.zero_le _, hJ0⟩ ?_
  rintro ⟨i, h1⟩ ⟨hi, hJ1⟩
  simp only at hi hJ1
  refine AWp.of_awpD [] hΓ hmix (by kernel_rfl) ?_
  have hb1 := (hbox _ _ hJ1).1
  simp +contextual -implicitDefEqProofs only [hb1, getD_map_lt, ↓reduceIte, codeB, go_sem]
  refine ⟨fun hlt => ?_, fun hge => .inl (by rw [show i = ws.length by omega] at hJ1; exact hJ1)⟩
  have hwi : ws.getD i [] = ws[i] := by rw [List.getD_eq_getElem?_getD, List.getElem?_eq_getElem hlt, Option.getD_some]
  refine AWp.loopI (fun p : Nat × List AObj => ⟨mkF 43 [(0, .yld b), (1, .ptr c 0), (4, .p (.str ws[i])), (10, .p (.sl (ws.map .str))), (11, .p (.int .i64 ws.length)), (12, .p (.int .i64 i)),
      (17, .p (.sl (ws.map .str))), (18, .p (.int .i64 ws.length)), (19, .p (.int .i64 p.1))], p.2⟩)
    (fun p => p.1 ≤ ws.length ∧ J (pairsN ws i ++ pairsK ws i p.1) p.2) (fun p => ws.length - p.1) (0, h1) (by simp [go_sem, weakH_self]) ⟨Nat.zero_le _, by simpa [pairsK] using hJ1⟩ ?_
  rintro ⟨k, h2⟩ ⟨hk, hJ2⟩
  simp only at hk hJ2
  refine AWp.of_awpD [] hΓ hmix (by kernel_rfl) ?_
  simp +contextual -implicitDefEqProofs only [getD_map_lt, ↓reduceIte, codeB, go_sem]
  refine ⟨fun hlt2 => ?_, fun hge => ⟨by simp only [InR]; omega, (i + 1, h2), by simp [weakH_self], ⟨hlt, by rw [pairsN_succ, show ws.length = k by omega]; exact hJ2⟩, by simp only; omega⟩⟩
  refine callK_fn (t20 ws[k] ws[i]) (.pures rfl) ?_
  have hs := pairsK_succ (i := i) hlt2
  rw [hwi] at hs
  cases hp : ws[i].isPrefixOf ws[k]
  · simp -implicitDefEqProofs only [go_sem]
    have : pairAt ws[i] ws[k] = [] := by unfold pairAt; rw [if_neg (by simp [hp])]
    rw [this, List.append_nil] at hs
    exact ⟨by simp only [InR]; omega, (k + 1, h2), by simp [weakH_self], ⟨hlt2, by simp only; rw [hs]; exact hJ2⟩, by simp only; omega⟩
  · have hcut : cutW ws[k] ws[i] = ws[k].drop ws[i].length := by unfold cutW; rw [if_pos hp]
    by_cases he : cutW ws[k] ws[i] = []
    · simp -implicitDefEqProofs only [he, go_sem]
      have : pairAt ws[i] ws[k] = [] := by unfold pairAt; rw [if_neg (fun e => e.2 (hcut ▸ he))]
      rw [this, List.append_nil] at hs
      exact ⟨by simp only [InR]; omega, (k + 1, h2), by simp [weakH_self], ⟨hlt2, by simp only; rw [hs]; exact hJ2⟩, by simp only; omega⟩
    · simp -implicitDefEqProofs only [he, go_sem]
      have : pairAt ws[i] ws[k] = [(ws[k], cutW ws[k] ws[i])] := by unfold pairAt; rw [hcut, if_pos ⟨hp, hcut ▸ he⟩]
      rw [this] at hs
      obtain ⟨l1, hl1⟩ := pairsK_le ws i (k := k + 1) hlt2
      obtain ⟨l2, hl2⟩ := pairsN_le ws (n := i + 1) hlt
      have hdone : ∃ l, (pairsN ws i ++ pairsK ws i k) ++ (ws[k], cutW ws[k] ws[i]) :: l = pairs ws := ⟨l1 ++ l2, by
        rw [← hl2, pairsN_succ, ← hl1, hs]; simp⟩
      refine callK_yc (hround _ _ _ _ hdone hJ2) (fun k hk => .inr hk) ?_
      rintro v h' (⟨rfl, hj⟩ | ⟨rfl, hd⟩)
      · rw [killAll_keep (fun k hk => by simp [AV.kill, AV.kill.killL, nb hk, nc hk])]
        simp -implicitDefEqProofs only [go_sem]
        exact ⟨by simp only [InR]; omega, (k + 1, h'), by simp [weakH_self], ⟨hlt2, by simp only; rw [hs, ← List.append_assoc]; exact hj⟩, by simp only; omega⟩
      · rw [killAll_keep (fun k hk => by simp [AV.kill, AV.kill.killL, nb hk, nc hk])]
        simp -implicitDefEqProofs only [go_sem]
        exact .inr hd

def nextP (r x : List UInt8) : List (List UInt8 × Nat) := if x.isPrefixOf r then [(r.drop x.length, 0)] else if r.isPrefixOf x then [(x.drop r.length, (x.drop r.length).length)] else []
def nextsP (ws : List (List UInt8)) (r : List UInt8) : List (List UInt8 × Nat) := ws.flatMap (nextP r)
theorem nextsP_succ {ws : List (List UInt8)} {k : Nat} (r : List UInt8) (hk : k < ws.length) : nextsP (ws.take (k + 1)) r = nextsP (ws.take k) r ++ nextP r ws[k] := by
  rw [List.take_succ_eq_append_getElem hk]; unfold nextsP; rw [List.flatMap_append]; simp
theorem nextsP_le (ws : List (List UInt8)) (r : List UInt8) (k : Nat) : ∃ l, nextsP (ws.take k) r ++ l = nextsP ws r :=
  ⟨nextsP (ws.drop k) r, by unfold nextsP; rw [← List.flatMap_append, List.take_append_drop]⟩

theorem c87 {h : List AObj} {b c d : Nat} {ks : List Nat} (hbk : b ∉ ks) (hck : c ∉ ks) (hdk : d ∉ ks) (q : Int) (ws : List (List UInt8)) (r : List UInt8) (hws : ws.length ≤ 1000) {J : List (List UInt8 × Nat) → List AObj → Prop} {D : List AObj → Prop} (hJ0 : J [] h)
    (hbox : ∀ done h', J done h' → h'[c]? = some (codeB q ws) ∧ h'[d]? = some (.box [.p (.str r)]) ∧ h.length ≤ h'.length) (hD : ∀ h', D h' → h.length ≤ h'.length)
    (hround : ∀ done u n h', (∃ l, done ++ (u, n) :: l = nextsP ws r) → J done h' → YC Tryz.prog b [.p (.str u), .p (.int .i64 (n : Nat))] h' ks (fun v h'' => (v = .p (.bool true) ∧ J (done ++ [(u, n)]) h'') ∨ (v = .p (.bool false) ∧ D h''))) :
    AC Tryz.prog 254 [.yld b, .ptr c 0, .ptr d 0] h ks (fun _ h' => J (nextsP ws r) h' ∨ D h') := by
  have nb : ∀ {k}, k ∈ ks → b ≠ k := fun h e => hbk (e ▸ h)
  have nc : ∀ {k}, k ∈ ks → c ≠ k := fun h e => hck (e ▸ h)
  have nd : ∀ {k}, k ∈ ks → d ≠ k := fun h e => hdk (e ▸ h)
  refine AC.of_bodyE hΓ Tryz.func254 (by kernel_rfl) rfl (AWp.mono (Q := fun e st => AM.Ends e ∧ (J (nextsP ws r) st.h ∨ D st.h)) ?_ ?_)
  rotate_left
  · rintro e st ⟨he, hst⟩
    refine ⟨he, st, Less.refl st, ?_⟩
    refine ⟨st.h.length, hst.elim (fun hj => (hbox _ _ hj).2.2) (hD _), .inl rfl, ?_⟩
    rw [List.take_length]; exact hst
  refine AWp.of_awpD [] hΓ hmix (by kernel_rfl) ?_
  have hb0 := (hbox _ _ hJ0).1
  simp +contextual -implicitDefEqProofs only [Tryz.ntmps254, Nat.reduceAdd, Nat.reduceSub, hb0, codeB, go_sem]
  refine AWp.loopI (fun p : Nat × List AObj => ⟨mkF 44 [(0, .yld b), (1, .ptr c 0), (2, .ptr d 0), (11, .p (.sl (ws.map .str))), (12, .p (.int .i64 ws.length)), (13, .p (.int .i64 p.1))], p.2⟩)
    (fun p => p.1 ≤ ws.length ∧ J (nextsP (ws.take p.1) r) p.2) (fun p => ws.length - p.1) (0, h) (by simp [go_sem, weakH_self]) ⟨Nat.zero_le _, by simpa [nextsP] using hJ0⟩ ?_
  rintro ⟨k, h2⟩ ⟨hk, hJ2⟩
  simp only at hk hJ2
  refine AWp.of_awpD [] hΓ hmix (by kernel_rfl) ?_
  have hb2 := (hbox _ _ hJ2).2.1
  simp +contextual -implicitDefEqProofs only [hb2, getD_map_lt, ↓reduceIte, codeB, go_sem]
  refine ⟨fun hlt => callK_fn (t20 r ws[k]) (.pures rfl) ?_, fun hge => .inl (by rw [List.take_of_length_le (by omega)] at hJ2; exact hJ2)⟩
  have hs := nextsP_succ r hlt
  obtain ⟨l1, hl1⟩ := nextsP_le ws r (k + 1)
  have fin : ∀ u n, nextP r ws[k] = [(u, n)] → ∃ l, nextsP (ws.take k) r ++ (u, n) :: l = nextsP ws r := fun u n e => ⟨l1, by rw [← hl1, hs, e]; simp⟩
  cases hp : ws[k].isPrefixOf r
  · simp -implicitDefEqProofs only [hb2, go_sem]
    refine callK_fn (t20 ws[k] r) (.pures rfl) ?_
    cases hp2 : r.isPrefixOf ws[k]
    · simp -implicitDefEqProofs only [go_sem]
      have : nextP r ws[k] = [] := by unfold nextP; rw [if_neg (by simp [hp]), if_neg (by simp [hp2])]
      rw [this, List.append_nil] at hs
      exact ⟨by simp only [InR]; omega, (k + 1, h2), by simp [weakH_self], ⟨hlt, by simp only; rw [hs]; exact hJ2⟩, by simp only; omega⟩
    · simp -implicitDefEqProofs only [go_sem]
      have hcut : cutW ws[k] r = ws[k].drop r.length := by unfold cutW; rw [if_pos hp2]
      have he : nextP r ws[k] = [(cutW ws[k] r, (cutW ws[k] r).length)] := by unfold nextP; rw [if_neg (by simp [hp]), if_pos hp2, hcut]
      refine callK_yc (hround _ _ _ _ (fin _ _ he) hJ2) (fun k hk => .inr hk) ?_
      rw [he] at hs
      rintro v h' (⟨rfl, hj⟩ | ⟨rfl, hd⟩)
      · rw [killAll_keep (fun k hk => by simp [AV.kill, AV.kill.killL, nb hk, nc hk, nd hk])]
        simp -implicitDefEqProofs only [go_sem]
        exact ⟨by simp only [InR]; omega, (k + 1, h'), by simp [weakH_self], ⟨hlt, by simp only; rw [hs]; exact hj⟩, by simp only; omega⟩
      · rw [killAll_keep (fun k hk => by simp [AV.kill, AV.kill.killL, nb hk, nc hk, nd hk])]
        simp -implicitDefEqProofs only [go_sem]
        exact .inr hd
  · simp -implicitDefEqProofs only [go_sem]
    have hcut : cutW r ws[k] = r.drop ws[k].length := by unfold cutW; rw [if_pos hp]
    have he : nextP r ws[k] = [(cutW r ws[k], 0)] := by unfold nextP; rw [if_pos hp, hcut]
    refine callK_yc (hround _ _ _ _ (fin _ _ he) hJ2) (fun k hk => .inr hk) ?_
    rw [he] at hs
    rintro v h' (⟨rfl, hj⟩ | ⟨rfl, hd⟩)
    · rw [killAll_keep (fun k hk => by simp [AV.kill, AV.kill.killL, nb hk, nc hk, nd hk])]
      simp -implicitDefEqProofs only [go_sem]
      exact ⟨by simp only [InR]; omega, (k + 1, h'), by simp [weakH_self], ⟨hlt, by simp only; rw [hs]; exact hj⟩, by simp only; omega⟩
    · rw [killAll_keep (fun k hk => by simp [AV.kill, AV.kill.killL, nb hk, nc hk, nd hk])]
      simp -implicitDefEqProofs only [go_sem]
      exact .inr hd
end Go.Proofs.YtpljmccnfmkmfaaGreat.Dc
end

section
namespace Go.Proofs.YtpljmccnfmkmfaaGreat.Dc
open Go Go.AM
set_option maxRecDepth 100000
set_option linter.unusedSimpArgs false

/-! A map to bools, all true: a set of words, in the order of their coming. -/
def entT (k : List UInt8) : List UInt8 × PV := (k, .bool true)
def addK (ks : List (List UInt8)) (k : List UInt8) : List (List UInt8) := if k ∈ ks then ks else ks ++ [k]
def keysOf (l : List (List UInt8)) : List (List UInt8) := l.foldl addK []
def setM (l : List (List UInt8)) : List (List UInt8 × PV) := (keysOf l).map entT

theorem midx_set (k : List UInt8) : ∀ ks : List (List UInt8), (k ∉ ks → midx k (ks.map entT) = none) ∧ (k ∈ ks → ∃ j, midx k (ks.map entT) = some j ∧ ∃ h : j < ks.length, ks[j] = k)
  | [] => ⟨fun _ => rfl, fun h => by cases h⟩
  | a :: ks => by
    obtain ⟨h1, h2⟩ := midx_set k ks
    constructor
    · intro h
      simp only [List.mem_cons, not_or] at h
      rw [List.map_cons]; unfold midx; rw [if_neg (show ¬ k = (entT a).1 from h.1)]
      rw [h1 h.2]; rfl
    · intro h
      by_cases e : k = a
      · exact ⟨0, by simp [midx, entT, e], by simp, e.symm⟩
      · simp only [List.mem_cons, e, false_or] at h
        obtain ⟨j, h3, h4, h5⟩ := h2 h
        refine ⟨j + 1, ?_, by simpa using h4, by simpa using h5⟩
        rw [List.map_cons]; unfold midx; rw [if_neg (show ¬ k = (entT a).1 from e)]
        rw [h3]; rfl
theorem mset_set (k : List UInt8) (ks : List (List UInt8)) : mset k (.bool true) (ks.map entT) = (addK ks k).map entT := by
  unfold mset addK
  by_cases h : k ∈ ks
  · obtain ⟨j, h1, h2, h3⟩ := (midx_set k ks).2 h
    rw [h1, if_pos h]
    apply List.ext_getElem (by simp)
    intro i hi _
    simp only [List.getElem_set, List.getElem_map]
    split
    · subst_vars; rfl
    · rfl
  · rw [(midx_set k ks).1 h, if_neg h]; simp [entT]
theorem mget_set (k : List UInt8) (ks : List (List UInt8)) : (mget k (ks.map entT)).getD (.bool false) = .bool (decide (k ∈ ks)) := by
  unfold mget
  by_cases h : k ∈ ks
  · obtain ⟨j, h1, h2, h3⟩ := (midx_set k ks).2 h
    rw [h1, decide_eq_true h]
    simp only [Option.map_some, Option.getD_some, List.getD_eq_getElem?_getD, List.getElem?_map, List.getElem?_eq_getElem h2, entT]
  · rw [(midx_set k ks).1 h, decide_eq_false h]; rfl
theorem keysOf_snoc (l : List (List UInt8)) (k : List UInt8) : keysOf (l ++ [k]) = addK (keysOf l) k := by unfold keysOf; rw [List.foldl_append]; rfl
theorem mem_foldK (k : List UInt8) : ∀ (l acc : List (List UInt8)), k ∈ l.foldl addK acc ↔ k ∈ acc ∨ k ∈ l
  | [], acc => by simp
  | a :: l, acc => by
    rw [List.foldl_cons, mem_foldK k l]
    unfold addK
    split
    · rename_i h
      simp only [List.mem_cons]
      exact ⟨fun h' => h'.elim .inl (fun h => .inr (.inr h)), fun h' => h'.elim .inl (fun h' => h'.elim (fun e => .inl (e ▸ h)) .inr)⟩
    · simp only [List.mem_append, List.mem_cons, List.not_mem_nil, or_false, or_assoc]
theorem mem_keysOf (l : List (List UInt8)) (k : List UInt8) : k ∈ keysOf l ↔ k ∈ l := by unfold keysOf; rw [mem_foldK]; simp
theorem len_foldK : ∀ (l acc : List (List UInt8)), (l.foldl addK acc).length ≤ acc.length + l.length
  | [], acc => by simp
  | a :: l, acc => by
    rw [List.foldl_cons]
    have h1 := len_foldK l (addK acc a)
    have h2 : (addK acc a).length ≤ acc.length + 1 := by unfold addK; split <;> simp
    simp only [List.length_cons]; omega
theorem keysOf_len (l : List (List UInt8)) : (keysOf l).length ≤ l.length := by have := len_foldK l []; simpa [keysOf] using this
theorem setM_snoc (l : List (List UInt8)) (k : List UInt8) : mset k (.bool true) (setM l) = setM (l ++ [k]) := by unfold setM; rw [mset_set, keysOf_snoc]
theorem setM_get (l : List (List UInt8)) (k : List UInt8) : (mget k (setM l)).getD (.bool false) = .bool (decide (k ∈ l)) := by
  unfold setM; rw [mget_set]; simp only [mem_keysOf]

theorem c52 {h : List AObj} (q : Int) (ws : List (List UInt8)) : AC Tryz.prog 221 [.agg [.p (.int .i64 q), .p (.sl (ws.map .str))]] h [] (fun v h' => v = .fn 252 [.ptr h.length 0] ∧ h' = h ++ [codeB q ws]) := by
  refine AC.of_bodyE hΓ Tryz.func221 (by kernel_rfl) rfl (AWp.mono (Q := fun e st => AM.Ends e ∧ st.tmps.getD 2 .junk = .fn 252 [.ptr h.length 0] ∧ st.h = h ++ [codeB q ws]) ?_ ?_)
  rotate_left
  · rintro e ⟨tm, h'⟩ ⟨he, h1, h2⟩
    simp only at h1 h2
    subst h2
    refine ⟨he, _, Less.refl _, ?_⟩
    unfold DoneE
    simp +contextual -implicitDefEqProofs only [Tryz.results221, h1, go_sem]
    exact ⟨h.length + 1, by omega, .inl (by simp), List.take_of_length_le (by simp)⟩
  refine AWp.of_awpD [] hΓ hmix (by kernel_rfl) ?_
  simp +contextual -implicitDefEqProofs only [Tryz.ntmps221, Nat.reduceAdd, Nat.reduceSub, codeB, go_sem]

theorem c53 {h : List AObj} (q : Int) (ws : List (List UInt8)) (r : List UInt8) : AC Tryz.prog 222 [.agg [.p (.int .i64 q), .p (.sl (ws.map .str))], .p (.str r)] h []
    (fun v h' => v = .fn 254 [.ptr h.length 0, .ptr (h.length + 1) 0] ∧ h' = h ++ [codeB q ws, .box [.p (.str r)]]) := by
  refine AC.of_bodyE hΓ Tryz.func222 (by kernel_rfl) rfl (AWp.mono (Q := fun e st => AM.Ends e ∧ st.tmps.getD 4 .junk = .fn 254 [.ptr h.length 0, .ptr (h.length + 1) 0] ∧ st.h = h ++ [codeB q ws, .box [.p (.str r)]]) ?_ ?_)
  rotate_left
  · rintro e ⟨tm, h'⟩ ⟨he, h1, h2⟩
    simp only at h1 h2
    subst h2
    refine ⟨he, _, Less.refl _, ?_⟩
    unfold DoneE
    simp +contextual -implicitDefEqProofs only [Tryz.results222, h1, go_sem]
    exact ⟨h.length + 2, by omega, .inl (by simp), List.take_of_length_le (by simp)⟩
  refine AWp.of_awpD [] hΓ hmix (by kernel_rfl) ?_
  simp +contextual -implicitDefEqProofs only [Tryz.ntmps222, Nat.reduceAdd, Nat.reduceSub, codeB, List.length_append, List.append_assoc, go_sem]

theorem weakH_dead : ∀ h : List AObj, weakH h (List.replicate h.length .dead)
  | [] => trivial
  | _ :: h => ⟨.inl rfl, weakH_dead h⟩

def ltW (a b : List UInt8) : Prop := a.length < b.length ∨ (a.length = b.length ∧ bLt a b = true)
theorem bLt_cons (x y : UInt8) (a b : List UInt8) : bLt (x :: a) (y :: b) = true ↔ x.toNat < y.toNat ∨ (x.toNat = y.toNat ∧ bLt a b = true) := by
  have e : bLt (x :: a) (y :: b) = (match Nat.blt x.toNat y.toNat with | true => true | false => (match Nat.beq x.toNat y.toNat with | true => bLt a b | false => false)) := rfl
  rw [e]
  cases h1 : Nat.blt x.toNat y.toNat
  · have h2 : ¬ x.toNat < y.toNat := fun h => by rw [(Nat.blt_eq (x := x.toNat)).symm.mp h] at h1; cases h1
    cases h3 : Nat.beq x.toNat y.toNat
    · have : ¬ x.toNat = y.toNat := fun h => by rw [h] at h3; simp at h3
      simp [h2, this]
    · have := Nat.eq_of_beq_eq_true h3
      simp [h2, this]
  · have := (Nat.blt_eq (x := x.toNat)).mp h1
    simp [this]
theorem bLt_trans : ∀ {a b c : List UInt8}, bLt a b = true → bLt b c = true → bLt a c = true
  | a, [], c, h, _ => by cases a <;> cases h
  | [], _ :: _, [], _, h => by cases h
  | [], _ :: _, _ :: _, _, _ => rfl
  | x :: a, y :: b, [], _, h => by cases h
  | x :: a, y :: b, z :: c, h1, h2 => by
    rw [bLt_cons] at h1 h2 ⊢
    rcases h1 with h1 | ⟨h1, h3⟩
    · rcases h2 with h2 | ⟨h2, _⟩
      · exact .inl (by omega)
      · exact .inl (by omega)
    · rcases h2 with h2 | ⟨h2, h4⟩
      · exact .inl (by omega)
      · exact .inr ⟨by omega, bLt_trans h3 h4⟩
theorem bLt_irrefl : ∀ a : List UInt8, bLt a a = false
  | [] => rfl
  | x :: a => by
    rw [Bool.eq_false_iff]
    intro h
    rw [bLt_cons] at h
    rcases h with h | ⟨_, h⟩
    · omega
    · rw [bLt_irrefl a] at h; cases h
theorem ltW_iff (a b : List UInt8) : cmpW a b < 0 ↔ ltW a b := by
  unfold cmpW ltW
  by_cases h1 : a.length < b.length
  · rw [if_pos h1]; simp [h1]
  · by_cases h2 : b.length < a.length
    · rw [if_neg h1, if_pos h2]; simp [h1]; omega
    · rw [if_neg h1, if_neg h2]
      have h3 : a.length = b.length := by omega
      unfold cmpB
      cases bLt a b
      · cases bEq a b <;> simp [h1]
      · simp [h3]
theorem ltW_trans {a b c : List UInt8} (h1 : ltW a b) (h2 : ltW b c) : ltW a c := by
  rcases h1 with h1 | ⟨h1, h3⟩ <;> rcases h2 with h2 | ⟨h2, h4⟩
  · exact .inl (by omega)
  · exact .inl (by omega)
  · exact .inl (by omega)
  · exact .inr ⟨by omega, bLt_trans h3 h4⟩
theorem ltW_irrefl (a : List UInt8) : ¬ ltW a a := by
  rintro (h | ⟨_, h⟩)
  · omega
  · rw [bLt_irrefl] at h; cases h

theorem firstNZ_zero {l : List Int} (h : firstNZ l = 0) : ∀ x ∈ l, x = 0 := by
  intro x hx
  unfold firstNZ at h
  cases hf : l.find? (fun x => decide (x ≠ 0)) with
  | none => simpa using List.find?_eq_none.1 hf x hx
  | some y =>
    have h1 := List.find?_some hf
    rw [hf] at h
    simp only [decide_eq_true_eq] at h1
    exact absurd h h1

structure Valid (q : Int) (ws : List (List UInt8)) : Prop where
  q2 : 2 ≤ q
  q16 : q ≤ 16
  pos : 0 < ws.length
  len : ws.length ≤ 64
  ne : ∀ i, i < ws.length → ws.getD i [] ≠ []
  short : ∀ i, i < ws.length → (ws.getD i []).length ≤ 32
  word : ∀ i, i < ws.length → wordCheck q (ws.getD i []) = 0
  lt : ∀ i j, i < j → j < ws.length → ltW (ws.getD i []) (ws.getD j [])

theorem valid_of {q : Int} {ws : List (List UInt8)} (h : codeCheck q ws = 0) : Valid q ws := by
  unfold codeCheck at h
  split at h
  · omega
  rename_i h1
  split at h
  · omega
  rename_i h2
  split at h
  · omega
  rename_i h3
  have h4 : ∀ i, i < ws.length → wordErr q ws i = 0 := fun i hi => firstNZ_zero h _ (List.mem_map.2 ⟨i, List.mem_range.2 hi, rfl⟩)
  have h5 : ∀ i, i < ws.length → ws.getD i [] ≠ [] ∧ ¬ 32 < (ws.getD i []).length ∧ wordCheck q (ws.getD i []) = 0 ∧ ¬ (0 < i ∧ 0 ≤ cmpW (ws.getD (i - 1) []) (ws.getD i [])) := fun i hi => by
    have := h4 i hi
    unfold wordErr at this
    simp only at this
    split at this
    · omega
    rename_i g1
    split at this
    · omega
    rename_i g2
    split at this
    · omega
    rename_i g3
    split at this
    · omega
    rename_i g4
    exact ⟨g1, g2, by omega, g4⟩
  have step : ∀ i, i + 1 < ws.length → ltW (ws.getD i []) (ws.getD (i + 1) []) := fun i hi => by
    have := (h5 (i + 1) hi).2.2.2
    rw [← ltW_iff]
    simp only [Nat.add_sub_cancel] at this
    omega
  refine ⟨by omega, by omega, by omega, by omega, fun i hi => (h5 i hi).1, fun i hi => by have := (h5 i hi).2.1; omega, fun i hi => (h5 i hi).2.2.1, ?_⟩
  intro i j hij hj
  obtain ⟨d, rfl⟩ : ∃ d, j = i + 1 + d := ⟨j - i - 1, by omega⟩
  clear hij
  induction d with
  | zero => exact step i hj
  | succ d ih => exact ltW_trans (ih (by omega)) (step (i + 1 + d) hj)

theorem pairs_first {ws : List (List UInt8)} (hd : ∀ i j, i < ws.length → j < ws.length → ws.getD i [] = ws.getD j [] → i = j) (l : List (List UInt8)) : (∀ p ∈ pairs ws, p.2 ∈ l) ↔ ∀ u ∈ firstS ws, u ∈ l := by
  have get : ∀ i, i < ws.length → ∀ (h : i < ws.length), ws.getD i [] = ws[i] := fun i hi h => by rw [List.getD_eq_getElem?_getD, List.getElem?_eq_getElem h, Option.getD_some]
  constructor
  · intro h u hu
    unfold firstS firstN restsOf at hu
    obtain ⟨i, hi, hu⟩ := List.mem_flatMap.1 hu
    obtain ⟨k, hk, hu⟩ := List.mem_flatMap.1 hu
    have hi := List.mem_range.1 hi
    have hk := List.mem_range.1 hk
    unfold restAt at hu
    split at hu
    · rename_i hc
      simp only [List.mem_singleton] at hu; subst hu
      refine h (ws.getD i [], _) ?_
      unfold pairs pairsN pairsK
      refine List.mem_flatMap.2 ⟨k, List.mem_range.2 hk, List.mem_flatMap.2 ⟨ws.getD i [], ?_, ?_⟩⟩
      · rw [List.take_length, get i hi hi]; exact List.getElem_mem hi
      · unfold pairAt
        have hne : List.drop (ws.getD k []).length (ws.getD i []) ≠ [] := fun e => by
          refine hc.1 (hd i k hi hk ?_)
          have h1 := List.isPrefixOf_iff_prefix.1 hc.2
          obtain ⟨t, ht⟩ := h1
          have : t = [] := by rw [← ht] at e; simpa using e
          rw [this, List.append_nil] at ht; exact ht.symm
        rw [if_pos ⟨hc.2, hne⟩]
        exact List.mem_singleton.2 rfl
    · cases hu
  · intro h p hp
    unfold pairs pairsN pairsK at hp
    obtain ⟨k, hk, hp⟩ := List.mem_flatMap.1 hp
    obtain ⟨y, hy, hp⟩ := List.mem_flatMap.1 hp
    have hk := List.mem_range.1 hk
    rw [List.take_length] at hy
    obtain ⟨i, hi, rfl⟩ := List.getElem_of_mem hy
    unfold pairAt at hp
    split at hp
    · rename_i hc
      simp only [List.mem_singleton] at hp; subst hp
      refine h _ ?_
      unfold firstS firstN restsOf
      refine List.mem_flatMap.2 ⟨i, List.mem_range.2 hi, List.mem_flatMap.2 ⟨k, List.mem_range.2 hk, ?_⟩⟩
      unfold restAt
      have hne : i ≠ k := fun e => hc.2 (by subst e; rw [get i hi hi]; simp)
      rw [get i hi hi, if_pos ⟨hne, hc.1⟩]
      exact List.mem_singleton.2 rfl
    · cases hp
end Go.Proofs.YtpljmccnfmkmfaaGreat.Dc
end

section
namespace Go.Proofs.YtpljmccnfmkmfaaGreat.Dc
open Go Go.AM
set_option maxRecDepth 100000
set_option linter.unusedSimpArgs false

def heapR (q : Int) (ws done : List (List UInt8)) (rk : RK) (T : List AObj) : List AObj :=
  codeB q ws :: .mp (setM done) :: .box [.map 1] :: .box [.own 6 (keysOf done).length] :: .box [.fn 220 [.ptr 2 0, .ptr 3 0]] :: codeB q ws :: .row 9 1 ((keysOf done).map .str) rk :: T

theorem keysOf_old {l : List (List UInt8)} {k : List UInt8} (h : k ∈ l) : keysOf (l ++ [k]) = keysOf l := by
  rw [keysOf_snoc]; unfold addK; rw [if_pos ((mem_keysOf l k).2 h)]
theorem keysOf_new {l : List (List UInt8)} {k : List UInt8} (h : k ∉ l) : keysOf (l ++ [k]) = keysOf l ++ [k] := by
  rw [keysOf_snoc]; unfold addK; rw [if_neg (fun e => h ((mem_keysOf l k).1 e))]

theorem c82 (q : Int) (ws done : List (List UInt8)) (rk : RK) (T : List AObj) (r : List UInt8) (hrk : rk ≠ .raw ∧ (done ≠ [] → rk = .own)) (hT : T.map (AObj.kill 6) = T) (hlen : (keysOf done).length ≤ 1000000) :
    AC Tryz.prog 220 [.p (.str r), .ptr 2 0, .ptr 3 0] (heapR q ws done rk T) [6] (fun v h' => v = .tup [] ∧ ∃ rk', (rk' ≠ .raw ∧ (done ++ [r] ≠ [] → rk' = .own)) ∧ h' = heapR q ws (done ++ [r]) rk' T) := by
  refine AC.of_bodyE hΓ Tryz.func220 (by kernel_rfl) rfl (AWp.mono (Q := fun e st => AM.Ends e ∧ ∃ rk', (rk' ≠ .raw ∧ (done ++ [r] ≠ [] → rk' = .own)) ∧ st.h = heapR q ws (done ++ [r]) rk' T) ?_ ?_)
  rotate_left
  · rintro e st ⟨he, rk', h1, h2⟩
    refine ⟨he, st, Less.refl st, ?_⟩
    have h3 : (heapR q ws done rk T).length = st.h.length := by rw [h2]; simp [heapR]
    refine ⟨st.h.length, by omega, .inl rfl, ?_⟩
    rw [List.take_length]
    exact ⟨rfl, rk', h1, h2⟩
  refine AWp.of_awpD [] hΓ hmix (by kernel_rfl) ?_
  unfold heapR
  simp -implicitDefEqProofs only [Tryz.ntmps220, Nat.reduceAdd, Nat.reduceSub, codeB, setM_get, go_sem]
  by_cases hm : r ∈ done
  · simp -implicitDefEqProofs only [hm, go_sem]
    refine ⟨rk, ⟨hrk.1, fun _ => hrk.2 (fun e => by rw [e] at hm; cases hm)⟩, ?_⟩
    have e1 : setM (done ++ [r]) = setM done := by unfold setM; rw [keysOf_old hm]
    rw [e1, keysOf_old hm]
    simp
  · simp -implicitDefEqProofs only [hm, setM_snoc, hT, go_sem]
    rw [keysOf_new hm]
    exact ⟨⟨by simp [sizeOK, PV.cells], by omega⟩, ⟨by simp [sizeOK, PV.cells], by simp [oneOK, PV.cells, PV.isAgg]⟩, ⟨hrk.1, .inr (by simp), by omega, by omega⟩, RK.own, ⟨by simp, fun _ => rfl⟩, by simp⟩
end Go.Proofs.YtpljmccnfmkmfaaGreat.Dc
end

section
namespace Go.Proofs.YtpljmccnfmkmfaaGreat.Dc
open Go Go.AM
set_option maxRecDepth 100000
set_option linter.unusedSimpArgs false

theorem cmpK_eq (a b : List UInt8) : cmpK a b = cmpW a b := by
  unfold cmpK cmpW
  by_cases h1 : a.length < b.length
  · rw [if_pos h1, if_pos (show (a.length : Int) < b.length by omega)]; rfl
  · by_cases h2 : b.length < a.length
    · rw [if_neg h1, if_pos h2, if_neg (show ¬ (a.length : Int) < b.length by omega), if_pos (show (b.length : Int) < a.length by omega)]; rfl
    · rw [if_neg h1, if_neg h2, if_neg (show ¬ (a.length : Int) < b.length by omega), if_neg (show ¬ (b.length : Int) < a.length by omega), if_pos rfl, cmpB_eq]

theorem bLt_total : ∀ {a b : List UInt8}, bLt a b = false → bLt b a = false → a = b
  | [], [], _, _ => rfl
  | [], _ :: _, h, _ => by cases h
  | _ :: _, [], _, h => by cases h
  | x :: a, y :: b, h1, h2 => by
    have n1 := mt (bLt_cons x y a b).2 (by rw [h1]; simp)
    have n2 := mt (bLt_cons y x b a).2 (by rw [h2]; simp)
    simp only [not_or, not_and, Bool.not_eq_true] at n1 n2
    have e : x.toNat = y.toNat := by omega
    rw [UInt8.toNat_inj.1 e, bLt_total (n1.2 e) (n2.2 e.symm)]
theorem ltW_total {a b : List UInt8} (h1 : ¬ ltW a b) (h2 : ¬ ltW b a) : a = b := by
  unfold ltW at h1 h2
  simp only [not_or, not_and, Bool.not_eq_true] at h1 h2
  have e : a.length = b.length := by omega
  exact bLt_total (h1.2 e) (h2.2 e.symm)

theorem ltOf_iff (a b : List UInt8) : ltOf cmpK a b = true ↔ ltW a b := by
  unfold ltOf
  rw [decide_eq_true_eq, cmpK_eq]; exact ltW_iff a b
theorem ltOf_false (a b : List UInt8) : ltOf cmpK a b = false ↔ ¬ ltW a b := by
  rw [← ltOf_iff]; simp

theorem swoW : Sort.SWO (ltOf cmpK) where
  irrefl x := (ltOf_false x x).2 (ltW_irrefl x)
  trans x y z h1 h2 := (ltOf_iff x z).2 (ltW_trans ((ltOf_iff x y).1 h1) ((ltOf_iff y z).1 h2))
  ntrans x y z h1 h2 := by
    rw [ltOf_false] at *
    intro h
    by_cases hyz : ltW z y
    · exact h1 (ltW_trans h hyz)
    · have := ltW_total h2 hyz
      subst this; exact h1 h

def encW (x : List UInt8) : Value := .string ⟨x.toArray⟩
def sortW (l : List (List UInt8)) : List (List UInt8) := l.mergeSort fun x y => !(ltOf cmpK) y x

theorem k84 (a b : ByteArray) (w : World) : Calls Tryz.prog 223 #[.string a, .string b] w fun e w' => e = .returned (.int .i64 (cmpK a.data.toList b.data.toList)) ∧ ∃ q os, w' = Sort.grow (w.drewN q) os := by
  have hc1 := k103
  have hc2 := k104
  have hc3 := k102
  go_enter Tryz.func223, Tryz.ntmps223
  go_wp2_with (first | (go_at_call 76; refine (hc1 _ _ _).mono ?_; rintro e w' ⟨rfl, rfl⟩) | (go_at_call 163; refine (hc2 _ _ _).mono ?_; rintro e w' ⟨rfl, rfl⟩) | (go_at_call 162; refine (hc3 _ _ _ _ _ (newCells _ _ _ _ _ rfl) (newCells _ _ _ _ _ rfl)).mono ?_; rintro e w' ⟨rfl, rfl⟩))
  all_goals go_ret
  all_goals have e1 : ∀ x : ByteArray, x.data.toList.length = x.size := fun x => by simp
  · refine ⟨congrArg (fun n => Ending.returned (Value.int .i64 n)) ?_, 0, #[_], by rw [Sort.alloc_eq_grow]; rfl⟩
    have hs : a.size = b.size := by
      rcases Nat.lt_trichotomy a.size b.size with g | g | g
      · rw [if_pos g] at h; cases h
      · exact g
      · rw [if_neg (by omega), if_pos g] at h; cases h
    unfold cmpK
    simp only [e1, hs]
    rw [if_pos (by simp)]
  · refine ⟨congrArg (fun n => Ending.returned (Value.int .i64 n)) ?_, 0, #[_], by rw [Sort.alloc_eq_grow]; rfl⟩
    unfold cmpK
    simp only [e1]
    rw [if_pos (show (a.size : Int) < b.size by omega)]; rfl
  · refine ⟨congrArg (fun n => Ending.returned (Value.int .i64 n)) ?_, 0, #[_], by rw [Sort.alloc_eq_grow]; rfl⟩
    unfold cmpK
    simp only [e1]
    rw [if_neg (show ¬ (a.size : Int) < b.size by omega), if_pos (show (b.size : Int) < a.size by omega)]; rfl

theorem sort_calls (d : List (List UInt8)) (blk off cap : Nat) (w : World) (hH : Sort.Holds encW w blk off d.toArray) (hblk : blk < w.heap.size) (hsz : d.length < 4611686018427387904) :
    Calls Tryz.prog 127 #[.slice (some ⟨blk, off, none⟩) d.length cap, .func (.func 223) #[] #[]] w fun e w' => e = .returned (.tuple #[]) ∧ ∃ n os, w' = sortWorld encW w blk off n (sortW d).toArray os := by
  have eg : ∀ args w, (callFunc 223 args).run Tryz.prog w = .ok (.enter 223 args) w := entersF_of Tryz.func223 (by kernel_rfl) rfl
  have hcmp : CmpLays1 Tryz.prog 223 #[] encW cmpK blk off d.toArray.size w := fun m os dk _ x y => k84 ⟨x.toArray⟩ ⟨y.toArray⟩ _
  have h := Any.slices_SortFunc_total Tryz.sortS encW (fun _ => rfl) cmpK swoW 223 #[] blk off cap d.toArray w eg hcmp hH hblk (by simpa using hsz) (fun x y h1 h2 => ltW_total ((ltOf_false x y).1 h1) ((ltOf_false y x).1 h2))
  exact h
end Go.Proofs.YtpljmccnfmkmfaaGreat.Dc
end

section
namespace Go.Proofs.YtpljmccnfmkmfaaGreat.Dc
open Go Go.AM Go.RowKit
set_option maxRecDepth 100000
set_option linter.unusedSimpArgs false

theorem flats_str (l : List (List UInt8)) : flats (l.map .str) = l.map .str := by
  induction l with
  | nil => rfl
  | cons x l ih =>
    have e : flats ((x :: l).map PV.str) = PV.str x :: flats (l.map .str) := rfl
    rw [e, ih]; rfl
theorem sortW_length (l : List (List UInt8)) : (sortW l).length = l.length := by unfold sortW; simp
theorem encW_of {I : Nat → Prop} {w : World} {x : List UInt8} {v : Value} (h : PR I w (.str x) v) : v = encW x := by
  cases h with | str s => rfl
theorem pr_encW {I : Nat → Prop} {w : World} (x : List UInt8) : PR I w (.str x) (encW x) := .mkStr (by simp)

def SortsBy (g : FuncId) : Prop := ∀ (d : List (List UInt8)) (blk off cap : Nat) (w : World), Sort.Holds encW w blk off d.toArray → blk < w.heap.size → d.length < 4611686018427387904 →
    Calls Tryz.prog 127 #[.slice (some ⟨blk, off, none⟩) d.length cap, .func (.func g) #[] #[]] w fun e w' => e = .returned (.tuple #[]) ∧ ∃ n os, w' = sortWorld encW w blk off n (sortW d).toArray os

theorem c83_of {g : FuncId} (hs : SortsBy g) {h : List AObj} {b : Nat} (l : List (List UInt8)) (hb : h[b]? = some (.row 9 1 (l.map .str) .own)) (hsz : l.length ≤ 1000000) :
    AC Tryz.prog 127 [.own b l.length, .fn g []] h [] (fun v h' => v = .tup [] ∧ h' = h.set b (.row 9 1 ((sortW l).map .str) .own)) := by
  refine ⟨entersF_of Tryz.func127 (by kernel_rfl) rfl, fun X I μ ob w cargs R hlen hargs _ => ?_⟩
  obtain ⟨a0, f0, rfl⟩ : ∃ a f, cargs = [a, f] := by
    match cargs, hlen with
    | [a, f], _ => exact ⟨a, f, rfl⟩
  have g0 := hargs 0 (by simp)
  have g1 := hargs 1 (by simp)
  simp only [List.getD_cons_zero, List.getD_cons_succ] at g0 g1
  obtain ⟨a, c, rfl, hbn, hbm⟩ := g0.own_inv
  obtain ⟨cs, rfl, hcl, _⟩ := g1.fn_inv
  have hcs : cs = [] := by simpa using hcl.symm
  subst hcs
  obtain ⟨hall, hrow⟩ := R.objs _ _ hb
  rcases hrow with ⟨g, hg, off, cap, cur, fr, vs, e1, e2, e3, e4, e5, e6, e7, e8, e9, e10⟩ | ⟨hk, _⟩
  rotate_left
  · cases hk
  rw [hbm] at e1
  simp only [List.length_map] at e1 e5 e7 e8 e9 e10
  injection e1 with e1a _ e1c
  subst e1a e1c
  have hfr := e3 rfl
  subst hfr
  have hgl := (R.own b g hg).2.2
  have cell : ∀ j (hj : j < l.length), cur[off + j]? = some (encW l[j]) := fun j hj => by
    have h1 := e10 j (by omega)
    rw [flats_str, getD_map_lt _ _ _ _ hj] at h1
    have h2 := encW_of h1
    have h3 : cur.toList[off + j]? = some (vs.getD j undef) := by
      have : vs[j]? = some (vs.getD j undef) := by rw [List.getD_eq_getElem?_getD, List.getElem?_eq_getElem (by omega)]; rfl
      rw [← e8, List.getElem?_take_of_lt (by omega), List.getElem?_drop] at this
      exact this.trans (by rw [e8])
    rw [Array.getElem?_toList, h2] at h3
    exact h3
  have hH : Sort.Holds encW w g off l.toArray := fun j hj => by
    have hj' : j < l.length := by simpa using hj
    refine ⟨?_, ?_⟩
    · unfold World.cell?
      simp only [e2]
      rw [cell j hj', getElem!_pos l.toArray j hj]
      simp
    · unfold World.frozen?
      simp only [e2]
      simp
  have hc := hs l g off c w hH hgl (by omega)
  refine Calls.mono (P := Tryz.prog) hc ?_
  rintro e w' ⟨rfl, n, os, rfl⟩
  have hsl : (sortW l).toArray.size = l.length := by simp [sortW_length]
  -- the world that is left
  have hnew : (sortWorld encW w g off n (sortW l).toArray os).heap[g]? = some (.cells (Sort.putCells encW off (sortW l).toArray cur) 9 (0, 0)) := by
    unfold sortWorld
    rw [Sort.heap_grow_old _ _ (by simp [Sort.ahead]; exact hgl)]
    show (w.heap.modify g _)[g]? = _
    rw [Array.getElem?_modify, if_pos rfl, e2]; rfl
  have hold : ∀ k, k < w.heap.size → k ≠ g → (sortWorld encW w g off n (sortW l).toArray os).heap[k]? = w.heap[k]? := fun k hk hne => by
    unfold sortWorld
    rw [Sort.heap_grow_old _ _ (by simp [Sort.ahead]; exact hk)]
    show (w.heap.modify g _)[k]? = _
    rw [Array.getElem?_modify, if_neg (fun e => hne e.symm)]
  have hgrow : w.grownBy (sortWorld encW w g off n (sortW l).toArray os) (some g) := ⟨rfl, rfl, rfl, by simp [sortWorld, Sort.ahead], fun k hk hk2 => hold k hk (fun e => hk2 (by rw [e]))⟩
  have hput : ∀ j, j < l.length → (Sort.putCells encW off (sortW l).toArray cur)[off + j]? = some (encW ((sortW l).getD j [])) := fun j hj => by
    unfold Sort.putCells
    rw [Array.getElem?_mapIdx, cell j hj]
    simp only [Option.map_some]
    rw [if_pos ⟨Nat.le_add_right _ _, by rw [hsl]; omega⟩, Nat.add_sub_cancel_left, getElem!_pos (sortW l).toArray j (by rw [hsl]; exact hj), List.getD_eq_getElem?_getD, List.getElem?_eq_getElem (by rw [sortW_length]; exact hj)]
    simp
  have hps : (Sort.putCells encW off (sortW l).toArray cur).size = cur.size := by unfold Sort.putCells; rw [Array.size_mapIdx]
  have hpl : (((Sort.putCells encW off (sortW l).toArray cur).toList.drop off).take l.length).length = l.length := by
    have h1 : (Sort.putCells encW off (sortW l).toArray cur).toList.length = cur.size := by simpa using hps
    rw [List.length_take, List.length_drop, h1]; omega
  have R2 := R.write (b0 := b) (g0 := g) (o := .row 9 1 ((sortW l).map .str) .own) hbn hg hgrow ⟨fun x hx => by
      obtain ⟨u, _, rfl⟩ := List.mem_map.1 hx; rfl, .inl ⟨g, hg, off, c, Sort.putCells encW off (sortW l).toArray cur, (0, 0), ((Sort.putCells encW off (sortW l).toArray cur).toList.drop off).take l.length, by rw [hbm, List.length_map, sortW_length], hnew, fun _ => rfl, by simp,
        by rw [List.length_map, sortW_length]; exact e5, e6, by rw [hps]; exact e7, by rw [List.length_map, sortW_length, Nat.mul_one], by
          rw [List.length_map, sortW_length, hpl, Nat.mul_one], fun j hj => ?_⟩⟩
  · exact ⟨_, .tup [], _, I, μ, ob, rfl, R2, .tup [] [] rfl (by simp), fun _ h => h, fun _ _ _ => rfl, by simp, fun g hg => .inl hg, fun b g hb => .inl ⟨b, hb⟩, fun k hk hno => hold k hk (fun e => hno b (by rw [e]; exact hg)), rfl, rfl⟩
  · rw [List.length_map, sortW_length, Nat.mul_one] at hj
    rw [flats_str, getD_map_lt _ _ _ _ (by rw [sortW_length]; exact hj)]
    have : (((Sort.putCells encW off (sortW l).toArray cur).toList.drop off).take l.length).getD j undef = encW ((sortW l).getD j []) := by
      rw [List.getD_eq_getElem?_getD, List.getElem?_take_of_lt hj, List.getElem?_drop, Array.getElem?_toList, hput j hj]; rfl
    rw [this, List.getD_eq_getElem?_getD, List.getElem?_eq_getElem (by rw [sortW_length]; exact hj)]
    exact pr_encW _

theorem c83 {h : List AObj} {b : Nat} (l : List (List UInt8)) (hb : h[b]? = some (.row 9 1 (l.map .str) .own)) (hsz : l.length ≤ 1000000) :
    AC Tryz.prog 127 [.own b l.length, .fn 223 []] h [] (fun v h' => v = .tup [] ∧ h' = h.set b (.row 9 1 ((sortW l).map .str) .own)) := c83_of sort_calls l hb hsz

theorem c83n {g : FuncId} {h : List AObj} {b : Nat} : AC Tryz.prog 127 [.own b 0, .fn g []] h [] (fun v h' => v = .tup [] ∧ h' = h) := by
  refine ⟨entersF_of Tryz.func127 (by kernel_rfl) rfl, fun X I μ ob w cargs R hlen hargs _ => ?_⟩
  obtain ⟨a0, f0, rfl⟩ : ∃ a f, cargs = [a, f] := by
    match cargs, hlen with
    | [a, f], _ => exact ⟨a, f, rfl⟩
  have g0 := hargs 0 (by simp)
  simp only [List.getD_cons_zero] at g0
  obtain ⟨a, c, rfl, hbn, hbm⟩ := g0.own_inv
  have hc : Calls Tryz.prog 127 #[.slice a 0 c, f0] w fun e w' => e = .returned (.tuple #[]) ∧ w' = w := AnyF.slices_SortFunc_none (ρ := Tryz.sortS_ren) { Tryz.sortS with } a c f0 w
  refine Calls.mono (P := Tryz.prog) hc ?_
  rintro e w' ⟨rfl, rfl⟩
  exact ⟨_, .tup [], _, I, μ, ob, rfl, R, .tup [] [] rfl (by simp), fun _ h => h, fun _ _ _ => rfl, Nat.le_refl _, fun g hg => .inl hg, fun b g hb => .inl ⟨b, hb⟩, fun k hk hno => rfl, rfl, rfl⟩
end Go.Proofs.YtpljmccnfmkmfaaGreat.Dc
end

section
namespace Go.Proofs.YtpljmccnfmkmfaaGreat.Dc
open Go Go.AM
set_option linter.unusedSimpArgs false

inductive Reach (ws : List (List UInt8)) : List UInt8 → Prop
  | first (u : List UInt8) (h : u ∈ firstS ws) : Reach ws u
  | next (r u : List UInt8) (hr : Reach ws r) (hne : r ≠ []) (h : u ∈ nextS ws r) : Reach ws u

theorem mem_nextS {ws : List (List UInt8)} {r u : List UInt8} : u ∈ nextS ws r ↔ ∃ x ∈ ws, (x.isPrefixOf r = true ∧ u = r.drop x.length) ∨ (x.isPrefixOf r = false ∧ r.isPrefixOf x = true ∧ u = x.drop r.length) := by
  unfold nextS
  rw [List.mem_flatMap]
  constructor
  · rintro ⟨x, hx, hu⟩
    refine ⟨x, hx, ?_⟩
    unfold nextAt at hu
    split at hu
    · rename_i h; exact .inl ⟨h, by simpa using hu⟩
    · rename_i h
      split at hu
      · rename_i h2; exact .inr ⟨Bool.eq_false_iff.2 h, h2, by simpa using hu⟩
      · cases hu
  · rintro ⟨x, hx, h | h⟩
    · exact ⟨x, hx, by unfold nextAt; rw [if_pos h.1, h.2]; simp⟩
    · exact ⟨x, hx, by unfold nextAt; rw [if_neg (by simp [h.1]), if_pos h.2.1, h.2.2]; simp⟩
theorem mem_firstS {ws : List (List UInt8)} {u : List UInt8} : u ∈ firstS ws ↔ ∃ i k, i < ws.length ∧ k < ws.length ∧ i ≠ k ∧ (ws.getD k []).isPrefixOf (ws.getD i []) = true ∧ u = (ws.getD i []).drop (ws.getD k []).length := by
  unfold firstS firstN restsOf
  simp only [List.mem_flatMap, List.mem_range]
  constructor
  · rintro ⟨i, hi, k, hk, hu⟩
    unfold restAt at hu
    split at hu
    · rename_i h; exact ⟨i, k, hi, hk, h.1, h.2, by simpa using hu⟩
    · cases hu
  · rintro ⟨i, k, hi, hk, h1, h2, rfl⟩
    exact ⟨i, hi, k, hk, by unfold restAt; rw [if_pos ⟨h1, h2⟩]; simp⟩

theorem reach_suffix {ws : List (List UInt8)} {x : List UInt8} (h : Reach ws x) : ∃ w ∈ ws, x <:+ w := by
  induction h with
  | first u h =>
    obtain ⟨i, k, hi, _, _, _, rfl⟩ := mem_firstS.1 h
    refine ⟨ws.getD i [], ?_, List.drop_suffix _ _⟩
    rw [List.getD_eq_getElem?_getD, List.getElem?_eq_getElem hi, Option.getD_some]; exact List.getElem_mem hi
  | next r u hr hne h ih =>
    obtain ⟨w, hw, hs⟩ := ih
    obtain ⟨x, hx, ⟨_, rfl⟩ | ⟨_, _, rfl⟩⟩ := mem_nextS.1 h
    · exact ⟨w, hw, (List.drop_suffix _ _).trans hs⟩
    · exact ⟨x, hx, List.drop_suffix _ _⟩

def endsOf (w : List UInt8) : List (List UInt8) := (List.range (w.length + 1)).map fun k => w.drop k
def sufs (ws : List (List UInt8)) : List (List UInt8) := ws.flatMap endsOf
theorem mem_sufs {ws : List (List UInt8)} {x : List UInt8} (h : ∃ w ∈ ws, x <:+ w) : x ∈ sufs ws := by
  obtain ⟨w, hw, t, ht⟩ := h
  refine List.mem_flatMap.2 ⟨w, hw, List.mem_map.2 ⟨t.length, List.mem_range.2 (by rw [← ht]; simp; omega), by rw [← ht]; simp⟩⟩
theorem sufs_len : ∀ {ws : List (List UInt8)} {n : Nat}, (∀ w ∈ ws, w.length ≤ n) → (sufs ws).length ≤ ws.length * (n + 1)
  | [], n, _ => by simp [sufs]
  | w :: ws, n, h => by
    have := sufs_len (ws := ws) (fun w hw => h w (by simp [hw]))
    have h1 := h w (by simp)
    unfold sufs at this ⊢
    simp only [List.flatMap_cons, List.length_append, List.length_cons, endsOf, List.length_map, List.length_range, Nat.succ_mul]
    omega

/-! ### Sorted lists -/
theorem sortW_perm (l : List (List UInt8)) : (sortW l).Perm l := List.mergeSort_perm l _
theorem mem_sortW (l : List (List UInt8)) (x : List UInt8) : x ∈ sortW l ↔ x ∈ l := (sortW_perm l).mem_iff
theorem sortW_sorted (l : List (List UInt8)) : (sortW l).Pairwise fun a b => ¬ ltW b a := by
  have h := List.pairwise_mergeSort (le := fun x y => !(ltOf cmpK) y x) (fun a b c h1 h2 => by
    simp only [Bool.not_eq_true', ltOf_false] at *
    intro h
    by_cases hbc : ltW b c
    · exact h1 (by
        by_cases hab : ltW a b
        · exact absurd (ltW_trans hab (ltW_trans hbc h)) (ltW_irrefl a)
        · have := ltW_total hab h1
          subst this; exact absurd (ltW_trans hbc h) (ltW_irrefl _))
    · have := ltW_total hbc h2
      subst this; exact h1 h) (fun a b => by
    simp only [Bool.or_eq_true, Bool.not_eq_true', ltOf_false]
    by_cases hab : ltW b a
    · exact .inr (fun h => ltW_irrefl a (ltW_trans h hab))
    · exact .inl hab) l
  refine h.imp ?_
  intro a b hab
  simpa [ltOf_false] using hab
theorem sortW_nodup {l : List (List UInt8)} (h : l.Nodup) : (sortW l).Nodup := (sortW_perm l).nodup_iff.2 h
theorem sortW_strict {l : List (List UInt8)} (h : l.Nodup) : (sortW l).Pairwise ltW := by
  refine (sortW_sorted l).imp₂ ?_ (sortW_nodup h)
  intro a b h1 h2
  by_cases hab : ltW a b
  · exact hab
  · exact absurd (ltW_total hab h1) h2

theorem strict_unique : ∀ {l m : List (List UInt8)}, l.Pairwise ltW → m.Pairwise ltW → (∀ x, x ∈ l ↔ x ∈ m) → l = m
  | [], [], _, _, _ => rfl
  | [], b :: m, _, _, h => absurd ((h b).2 (by simp)) (by simp)
  | a :: l, [], _, _, h => absurd ((h a).1 (by simp)) (by simp)
  | a :: l, b :: m, hl, hm, h => by
    obtain ⟨ha, hl2⟩ := List.pairwise_cons.1 hl
    obtain ⟨hb, hm2⟩ := List.pairwise_cons.1 hm
    have e : a = b := by
      rcases List.mem_cons.1 ((h a).1 (by simp)) with e | e
      · exact e
      · rcases List.mem_cons.1 ((h b).2 (by simp)) with e2 | e2
        · exact e2.symm
        · exact absurd (ltW_trans (ha b e2) (hb a e)) (ltW_irrefl a)
    subst e
    refine congrArg (List.cons a) (strict_unique hl2 hm2 (fun x => ⟨fun hx => ?_, fun hx => ?_⟩))
    · rcases List.mem_cons.1 ((h x).1 (by simp [hx])) with e | e
      · subst e; exact absurd (ha x hx) (ltW_irrefl x)
      · exact e
    · rcases List.mem_cons.1 ((h x).2 (by simp [hx])) with e | e
      · subst e; exact absurd (hb x hx) (ltW_irrefl x)
      · exact e

theorem foldK_nodup : ∀ (l acc : List (List UInt8)), acc.Nodup → (l.foldl addK acc).Nodup
  | [], acc, h => h
  | a :: l, acc, h => by
    rw [List.foldl_cons]
    refine foldK_nodup l _ ?_
    unfold addK
    split
    · exact h
    · rename_i hn
      exact List.nodup_append.2 ⟨h, by simp, fun x hx y hy e => by simp only [List.mem_singleton] at hy; subst hy; subst e; exact hn hx⟩
theorem keysOf_nodup (l : List (List UInt8)) : (keysOf l).Nodup := foldK_nodup l [] List.nodup_nil

open Classical in
noncomputable def residL (ws : List (List UInt8)) : List (List UInt8) := sortW ((keysOf (sufs ws)).filter fun x => decide (Reach ws x))
theorem mem_residL {ws : List (List UInt8)} {x : List UInt8} : x ∈ residL ws ↔ Reach ws x := by
  unfold residL
  rw [mem_sortW, List.mem_filter, mem_keysOf]
  simp only [decide_eq_true_eq]
  exact ⟨fun h => h.2, fun h => ⟨mem_sufs (reach_suffix h), h⟩⟩
theorem residL_strict (ws : List (List UInt8)) : (residL ws).Pairwise ltW := sortW_strict ((keysOf_nodup _).filter _)
theorem residL_of {ws l : List (List UInt8)} (hn : l.Nodup) (h : ∀ x, x ∈ l ↔ Reach ws x) : sortW l = residL ws :=
  strict_unique (sortW_strict hn) (residL_strict ws) (fun x => by rw [mem_sortW, mem_residL]; exact h x)
end Go.Proofs.YtpljmccnfmkmfaaGreat.Dc
end

section
namespace Go.Proofs.YtpljmccnfmkmfaaGreat.Dc
open Go Go.AM
set_option linter.unusedSimpArgs false

def Amb (ws : List (List UInt8)) : Prop := ∃ A B : List (List UInt8), (∀ x ∈ A, x ∈ ws) ∧ (∀ x ∈ B, x ∈ ws) ∧ A ≠ B ∧ A.flatten = B.flatten

theorem reach_step {ws : List (List UInt8)} : ∀ (n : Nat) {A B : List (List UInt8)} {r : List UInt8}, A.length + B.length ≤ n → (∀ x ∈ A, x ∈ ws) → (∀ x ∈ B, x ∈ ws) → Reach ws r → r ++ A.flatten = B.flatten → Reach ws []
  | n, A, B, [], _, _, _, hr, _ => hr
  | n, A, [], c :: r, _, _, _, _, h => by simp at h
  | 0, A, m :: B, c :: r, hn, _, _, _, _ => by simp at hn
  | n + 1, A, m :: B, c :: r, hn, hA, hB, hr, h => by
    have hm : m ∈ ws := hB m (by simp)
    rw [List.flatten_cons, List.append_eq_append_iff] at h
    have hne : c :: r ≠ [] := by simp
    simp only [List.length_cons] at hn
    generalize c :: r = r at h hr hne
    rcases h with ⟨a, h1, h2⟩ | ⟨a, h1, h2⟩
    · cases hp : m.isPrefixOf r
      · have hu : a ∈ nextS ws r := mem_nextS.2 ⟨m, hm, .inr ⟨hp, by rw [h1, List.isPrefixOf_iff_prefix]; exact List.prefix_append _ _, by rw [h1, List.drop_left]⟩⟩
        exact reach_step n (A := B) (B := A) (by omega) (fun x hx => hB x (by simp [hx])) hA (.next r a hr hne hu) h2.symm
      · have hl := (List.isPrefixOf_iff_prefix.1 hp).length_le
        have ha : a = [] := by
          have := congrArg List.length h1
          rw [List.length_append] at this
          exact List.length_eq_zero_iff.1 (by omega)
        subst ha
        rw [List.append_nil] at h1
        exact .next r [] hr hne (mem_nextS.2 ⟨m, hm, .inl ⟨hp, by rw [h1, List.drop_length]⟩⟩)
    · have hu : a ∈ nextS ws r := mem_nextS.2 ⟨m, hm, .inl ⟨by rw [h1, List.isPrefixOf_iff_prefix]; exact List.prefix_append _ _, by rw [h1, List.drop_left]⟩⟩
      exact reach_step n (A := A) (B := B) (by omega) hA (fun x hx => hB x (by simp [hx])) (.next r a hr hne hu) h2.symm

theorem first_of {ws : List (List UInt8)} {x y u : List UInt8} (hx : x ∈ ws) (hy : y ∈ ws) (hne : x ≠ y) (h : x = y ++ u) : u ∈ firstS ws := by
  obtain ⟨i, hi, rfl⟩ := List.getElem_of_mem hx
  obtain ⟨k, hk, rfl⟩ := List.getElem_of_mem hy
  have get : ∀ i, (h : i < ws.length) → ws.getD i [] = ws[i] := fun i h => by rw [List.getD_eq_getElem?_getD, List.getElem?_eq_getElem h, Option.getD_some]
  refine mem_firstS.2 ⟨i, k, hi, hk, fun e => hne (by subst e; rfl), ?_, ?_⟩
  · rw [get i hi, get k hk, h, List.isPrefixOf_iff_prefix]; exact List.prefix_append _ _
  · rw [get i hi, get k hk, h, List.drop_left]

theorem amb_sound {ws : List (List UInt8)} (hne : ∀ x ∈ ws, x ≠ []) : ∀ {A B : List (List UInt8)}, (∀ x ∈ A, x ∈ ws) → (∀ x ∈ B, x ∈ ws) → A ≠ B → A.flatten = B.flatten → Reach ws []
  | [], [], _, _, h, _ => absurd rfl h
  | [], y :: B, _, hB, _, h => by
    rw [List.flatten_nil, List.flatten_cons] at h
    exact absurd (List.append_eq_nil_iff.1 h.symm).1 (hne y (hB y (by simp)))
  | x :: A, [], hA, _, _, h => by
    rw [List.flatten_nil, List.flatten_cons] at h
    exact absurd (List.append_eq_nil_iff.1 h).1 (hne x (hA x (by simp)))
  | x :: A, y :: B, hA, hB, hn, h => by
    have hx := hA x (by simp)
    have hy := hB y (by simp)
    by_cases e : x = y
    · subst e
      rw [List.flatten_cons, List.flatten_cons] at h
      exact amb_sound hne (A := A) (B := B) (fun z hz => hA z (by simp [hz])) (fun z hz => hB z (by simp [hz])) (fun e => hn (by rw [e])) (List.append_cancel_left h)
    · rw [List.flatten_cons, List.flatten_cons, List.append_eq_append_iff] at h
      rcases h with ⟨a, h1, h2⟩ | ⟨a, h1, h2⟩
      · exact reach_step _ (A := B) (B := A) (Nat.le_refl _) (fun z hz => hB z (by simp [hz])) (fun z hz => hA z (by simp [hz])) (.first a (first_of hy hx (Ne.symm e) h1)) h2.symm
      · exact reach_step _ (A := A) (B := B) (Nat.le_refl _) (fun z hz => hA z (by simp [hz])) (fun z hz => hB z (by simp [hz])) (.first a (first_of hx hy e h1)) h2.symm

theorem reach_spelt {ws : List (List UInt8)} (hd : ∀ i j, i < ws.length → j < ws.length → ws.getD i [] = ws.getD j [] → i = j) {u : List UInt8} (h : Reach ws u) :
    ∃ (x y : List UInt8) (A B : List (List UInt8)), x ∈ ws ∧ y ∈ ws ∧ x ≠ y ∧ (∀ z ∈ A, z ∈ ws) ∧ (∀ z ∈ B, z ∈ ws) ∧ (x :: A).flatten = (y :: B).flatten ++ u := by
  have get : ∀ i, (h : i < ws.length) → ws.getD i [] = ws[i] := fun i h => by rw [List.getD_eq_getElem?_getD, List.getElem?_eq_getElem h, Option.getD_some]
  induction h with
  | first u h =>
    obtain ⟨i, k, hi, hk, hne, hp, rfl⟩ := mem_firstS.1 h
    refine ⟨ws.getD i [], ws.getD k [], [], [], by rw [get i hi]; exact List.getElem_mem hi, by rw [get k hk]; exact List.getElem_mem hk, fun e => hne (hd i k hi hk e), by simp, by simp, ?_⟩
    obtain ⟨t, ht⟩ := List.isPrefixOf_iff_prefix.1 hp
    rw [← ht]; simp
  | next r u hr hne h ih =>
    obtain ⟨x, y, A, B, hx, hy, hxy, hA, hB, e⟩ := ih
    obtain ⟨w, hw, ⟨hp, rfl⟩ | ⟨_, hp, rfl⟩⟩ := mem_nextS.1 h
    · obtain ⟨t, ht⟩ := List.isPrefixOf_iff_prefix.1 hp
      refine ⟨x, y, A, B ++ [w], hx, hy, hxy, hA, fun z hz => ?_, ?_⟩
      · rcases List.mem_append.1 hz with hz | hz
        · exact hB z hz
        · rw [List.mem_singleton.1 hz]; exact hw
      · rw [e, ← ht, List.drop_left]; simp
    · obtain ⟨t, ht⟩ := List.isPrefixOf_iff_prefix.1 hp
      refine ⟨y, x, B ++ [w], A, hy, hx, Ne.symm hxy, fun z hz => ?_, hA, ?_⟩
      · rcases List.mem_append.1 hz with hz | hz
        · exact hB z hz
        · rw [List.mem_singleton.1 hz]; exact hw
      · rw [e, ← ht, List.drop_left]; simp

theorem amb_iff {ws : List (List UInt8)} (hne : ∀ x ∈ ws, x ≠ []) (hd : ∀ i j, i < ws.length → j < ws.length → ws.getD i [] = ws.getD j [] → i = j) : Reach ws [] ↔ Amb ws := by
  constructor
  · intro h
    obtain ⟨x, y, A, B, hx, hy, hxy, hA, hB, e⟩ := reach_spelt hd h
    refine ⟨x :: A, y :: B, fun z hz => ?_, fun z hz => ?_, fun e => hxy (by injection e), by rw [e, List.append_nil]⟩
    · rcases List.mem_cons.1 hz with rfl | hz
      · exact hx
      · exact hA z hz
    · rcases List.mem_cons.1 hz with rfl | hz
      · exact hy
      · exact hB z hz
  · rintro ⟨A, B, hA, hB, hn, h⟩
    exact amb_sound hne hA hB hn h

end Go.Proofs.YtpljmccnfmkmfaaGreat.Dc
end

