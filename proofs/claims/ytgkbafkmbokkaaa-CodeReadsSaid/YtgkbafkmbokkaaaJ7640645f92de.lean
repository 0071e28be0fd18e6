/-
  The law CodeSums.
  slices.Compare of indices; the law CodeRounds.
  The reference's readings.
-/
import Derived.Test.YtgkbafkmbokkaaaJ0d96762c0a0d
import Derived.Test.YtgkbafkmbokkaaaJbc21b95c2746
import Derived.Test.YtgkbafkmbokkaaaJ7f6da131cd26

section
namespace Go.Proofs.Ytgkbafkmbokkaaa
open Go Go.AM
set_option maxRecDepth 100000
set_option linter.unusedSimpArgs false

theorem wordCheck_append {q : Int} {u v : List UInt8} (hl : u.length + v.length ≤ 65536) : wordCheck q (u ++ v) = 0 ↔ wordCheck q u = 0 ∧ wordCheck q v = 0 := by
  unfold wordCheck okW
  by_cases h1 : q < 1 ∨ 16 < q
  · rw [if_pos h1, if_pos h1, if_pos h1]; decide
  · simp only [if_neg h1, List.length_append, if_neg (show ¬ 65536 < u.length + v.length by omega), if_neg (show ¬ 65536 < u.length by omega), if_neg (show ¬ 65536 < v.length by omega), List.all_append]
    cases u.all (okB q) <;> cases v.all (okB q) <;> decide

/-- Two integers held against each other. -/
theorem eq44 (s : List UInt8) : aggE Γ .eql 44 (.agg [.p (.bool false), .p (.str s)]) (.agg [.p (.bool false), .p (.str s)]) = some (.p (.bool true)) := by
  have : aggE Γ .eql 44 (.agg [.p (.bool false), .p (.str s)]) (.agg [.p (.bool false), .p (.str s)]) = some (.p (.bool (false == false && (bEq s s && true)))) := rfl
  rw [this, bEq_eq]; simp

theorem cnt_rev {ws : List (List UInt8)} {q : Int} (hv : Valid q ws) (w : List UInt8) : cnt (made (revs ws)) w.reverse = cnt ws w := by
  have hr := valid_of (rev_valid hv)
  refine cnt_turn (fun x hx => (hv.words x hx).1) (fun x hx => (hr.words x hx).1) (strict_nodup hv.strict) (strict_nodup (made_strict _)) (fun x => ?_) w
  rw [mem_made]
  unfold revs
  rw [List.mem_map]
  constructor
  · rintro ⟨a, ha, rfl⟩; simpa using ha
  · intro h; exact ⟨_, h, by simp⟩

theorem u36 (a b : Nat) (ha : a < capN) (hb : b < capN) : PFn Try.prog 36 [intN false a, intN false b] [intN false (a * b)] := by
  have ea := u69n false a ha
  have eb := u69n false b hb
  have la := cap_dig ha
  have lb := cap_dig hb
  have e1 := u68 (digD B32 a) (digD B32 b) (dig_lt a) (dig_lt b) (by omega) (by omega)
  rw [digD_val (by decide), digD_val (by decide)] at e1
  have hl : (digD B32 (a * b)).length ≤ 100 := by
    refine digD_small (by decide) ?_
    rw [show (100 : Nat) = 50 + 50 from rfl, Nat.pow_add, ← capN_eq]
    exact Nat.mul_lt_mul_of_lt_of_lt ha hb
  have e2 := u66 false (digD B32 (a * b)) (dig_lt _) (by omega)
  rw [digD_val (by decide)] at e2
  have hff : (false != false) = false := rfl
  refine PFn.of_body hΓ Try.func36 (by kernel_rfl) rfl (AWp.of_awpD [(1, 11)] hΓ hmix (by kernel_rfl) ?_)
  simp -implicitDefEqProofs only [Try.ntmps36, Try.results36, Nat.reduceAdd, Nat.reduceSub, intN_pos, go_sem]
  refine callVPK_fn ea (.still rfl) ?_
  simp -implicitDefEqProofs only [go_sem]
  refine callVPK_fn eb (.still rfl) ?_
  simp -implicitDefEqProofs only [go_sem]
  refine callVPK_fn e1 (.pures rfl) ?_
  simp -implicitDefEqProofs only [hff, go_sem]
  refine callVPK_fn e2 (.pures rfl) ?_
  simp -implicitDefEqProofs only [intN_pos, go_sem]

set_option maxHeartbeats 4000000 in
theorem u7 (q : Int) (ws : List (List UInt8)) (u v : List UInt8) (hws : ws.length ≤ 9223372036854775807) : PFn Try.prog 7 [codeV q ws, .str u, .str v] [.bool true] := by
  refine PFn.of_body hΓ Try.func7 (by kernel_rfl) rfl (AWp.of_awpD [(9, 1000), (10, 22)] hΓ hmix (by kernel_rfl) ?_)
  simp +contextual -implicitDefEqProofs only [codeV, Try.ntmps7, Try.results7, Nat.reduceAdd, Nat.reduceSub, go_sem]
  refine callK_fn (u28 q ws hws) (.still rfl) ?_
  cases hf : fineB q ws
  · simp -implicitDefEqProofs only [go_sem]
    refine callK_fn awake_ok (.pures rfl) ?_
    simp -implicitDefEqProofs only [go_sem]
  simp only [fineB, Bool.and_eq_true, decide_eq_true_eq] at hf
  have h := hf.2
  have hv := valid_of h
  have hlen := hv.len
  have hpos := hv.pos
  by_cases hul : (12 : Int) < u.length
  · simp -implicitDefEqProofs only [hul, go_sem]
    refine callK_fn awake_ok (.pures rfl) ?_
    simp -implicitDefEqProofs only [go_sem]
  by_cases hvl : (12 : Int) < v.length
  · simp -implicitDefEqProofs only [hul, hvl, go_sem]
    refine callK_fn awake_ok (.pures rfl) ?_
    simp -implicitDefEqProofs only [go_sem]
  have hn : ∀ x ∈ ws, x ≠ [] := fun x hx => (hv.words x hx).1
  have huv : (u ++ v).length = u.length + v.length := by simp
  have hr := rev_valid hv
  have hrv := valid_of hr
  have hrl := hrv.len
  have e39 := t39 q ws
  rw [if_pos h, if_pos h] at e39
  rw [if_pos hr, hr] at e39
  have eu := u32 q ws u (fun _ => hn) (fun _ => by omega) (fun _ _ => by omega)
  have ev := u32 q ws v (fun _ => hn) (fun _ => by omega) (fun _ _ => by omega)
  have euv := u32 q ws (u ++ v) (fun _ => hn) (fun _ => by omega) (fun _ _ => by omega)
  have er := u32 q (made (revs ws)) (u ++ v).reverse (fun _ x hx => (hrv.words x hx).1) (fun _ => by omega) (fun _ _ => by rw [List.length_reverse]; omega)
  have e35 := u35 (u ++ v) (by omega)
  rw [if_pos h] at eu ev euv
  rw [if_pos hr, word_rev, cnt_rev hv] at er
  have hwa := wordCheck_append (q := q) (u := u) (v := v) (by omega)
  simp -implicitDefEqProofs only [hul, hvl, go_sem]
  by_cases h1 : wordCheck q u = 0
  · by_cases h2 : wordCheck q v = 0
    · have h3 : wordCheck q (u ++ v) = 0 := hwa.2 ⟨h1, h2⟩
      rw [if_pos h1, intN_pos] at eu
      rw [if_pos h2, intN_pos] at ev
      rw [if_pos h3, intN_pos] at euv er
      refine callK_fn eu (.still rfl) ?_
      simp -implicitDefEqProofs only [go_sem]
      refine callK_fn ev (.still rfl) ?_
      simp -implicitDefEqProofs only [go_sem]
      refine ⟨by omega, callK_fn euv (.still rfl) ?_⟩
      simp -implicitDefEqProofs only [go_sem]
      refine callK_fn e39 (.still rfl) ?_
      simp -implicitDefEqProofs only [codeV, go_sem]
      refine AWp.planL (.q 0 (.q 1 (.q 2 (.q 3 (.e 4 (.s 0 (.e 5 (.q 6 (.q 7 (.q 8 (.e 9 (.s 0 (.s 1 (.s 2 (.s 3 (.s 6 (.s 7 (.s 8 (.e 10 (.s 8 (.q 11 .fin)) .nil)))))))) .nil)))) (.e 9 (.s 0 (.s 1 (.s 2 (.s 3 (.e 5 (.q 6 (.q 7 (.q 8 (.e 10 (.s 8 (.q 11 .fin)) .nil)))) .nil))))) .nil))) (.e 9 (.s 0 (.s 1 (.s 2 (.s 3 (.e 4 (.s 0 (.e 5 (.q 6 (.q 7 (.q 8 (.e 10 (.s 8 (.q 11 .fin)) .nil)))) .nil)) .nil))))) .nil)))))) hΓ hmix (by kernel_rfl) ?_
      simp -implicitDefEqProofs only [go_sem]
      have hmul := cnt_mul hn v u.length u (Nat.le_refl _)
      have cu := cnt_cap hn (by omega : ws.length ≤ 256) (w := u) (by omega)
      have cv := cnt_cap hn (by omega : ws.length ≤ 256) (w := v) (by omega)
      have cuv := cnt_cap hn (by omega : ws.length ≤ 256) (w := u ++ v) (by omega)
      have e36 := u36 (cnt ws u) (cnt ws v) (cap_40 cu) (cap_40 cv)
      have e33 := u33 (cnt ws (u ++ v)) (cnt ws u * cnt ws v) (cap_40 cuv) (cap_40 (Nat.le_trans hmul cuv))
      have hge : 0 ≤ cmpN (cnt ws (u ++ v)) (cnt ws u * cnt ws v) := by
        unfold cmpN
        rw [if_neg (by omega)]
        split <;> decide
      rw [intN_pos, intN_pos, intN_pos] at e36
      rw [intN_pos, intN_pos] at e33
      refine ⟨by omega, ?_, ?_⟩
      · refine callK_fn e35 (.pures rfl) ?_
        simp -implicitDefEqProofs only [go_sem]
        refine ⟨?_, ?_⟩
        · refine callK_fn er (.still rfl) ?_
          simp -implicitDefEqProofs only [ite_self, go_sem]
          refine ⟨by omega, ?_⟩
          refine callVPK_fn e36 (.still rfl) ?_
          simp -implicitDefEqProofs only [go_sem]
          refine callVPK_fn e33 (.still rfl) ?_
          simp -implicitDefEqProofs only [hge, go_sem]
          refine aggE_ok (v := .p (.bool true)) (eq44 _) ?_
          simp -implicitDefEqProofs only [go_sem]
          refine callVPK_fn awake_ok (.pures rfl) ?_
          simp -implicitDefEqProofs only [go_sem]
        · refine ⟨by omega, ?_⟩
          refine callK_fn er (.still rfl) ?_
          simp -implicitDefEqProofs only [ite_self, go_sem]
          refine callVPK_fn e36 (.still rfl) ?_
          simp -implicitDefEqProofs only [go_sem]
          refine callVPK_fn e33 (.still rfl) ?_
          simp -implicitDefEqProofs only [hge, go_sem]
          refine aggE_ok (v := .p (.bool true)) (eq44 _) ?_
          simp -implicitDefEqProofs only [go_sem]
          refine callVPK_fn awake_ok (.pures rfl) ?_
          simp -implicitDefEqProofs only [go_sem]
      · refine ⟨by omega, ?_⟩
        refine callK_fn e35 (.pures rfl) ?_
        simp -implicitDefEqProofs only [go_sem]
        · refine callK_fn er (.still rfl) ?_
          simp -implicitDefEqProofs only [ite_self, go_sem]
          refine callVPK_fn e36 (.still rfl) ?_
          simp -implicitDefEqProofs only [go_sem]
          refine callVPK_fn e33 (.still rfl) ?_
          simp -implicitDefEqProofs only [hge, go_sem]
          refine aggE_ok (v := .p (.bool true)) (eq44 _) ?_
          simp -implicitDefEqProofs only [go_sem]
          refine callVPK_fn awake_ok (.pures rfl) ?_
          simp -implicitDefEqProofs only [go_sem]
    · have h3 : ¬ wordCheck q (u ++ v) = 0 := fun e => h2 (hwa.1 e).2
      rw [if_pos h1, intN_pos] at eu
      rw [if_neg h2, intN_pos] at ev
      rw [if_neg h3, intN_pos] at euv
      refine callK_fn eu (.still rfl) ?_
      simp -implicitDefEqProofs only [go_sem]
      refine callK_fn ev (.still rfl) ?_
      simp -implicitDefEqProofs only [go_sem]
      refine ⟨by omega, callK_fn euv (.still rfl) ?_⟩
      simp -implicitDefEqProofs only [h2, h3, go_sem]
      refine callK_fn awake_ok (.pures rfl) ?_
      simp -implicitDefEqProofs only [go_sem]
  · have h3 : ¬ wordCheck q (u ++ v) = 0 := fun e => h1 (hwa.1 e).1
    rw [if_neg h1, intN_pos] at eu
    rw [if_neg h3, intN_pos] at euv
    by_cases h2 : wordCheck q v = 0
    · rw [if_pos h2, intN_pos] at ev
      refine callK_fn eu (.still rfl) ?_
      simp -implicitDefEqProofs only [go_sem]
      refine callK_fn ev (.still rfl) ?_
      simp -implicitDefEqProofs only [go_sem]
      refine ⟨by omega, callK_fn euv (.still rfl) ?_⟩
      simp -implicitDefEqProofs only [h1, h3, go_sem]
      refine callK_fn awake_ok (.pures rfl) ?_
      simp -implicitDefEqProofs only [go_sem]
    · rw [if_neg h2, intN_pos] at ev
      refine callK_fn eu (.still rfl) ?_
      simp -implicitDefEqProofs only [go_sem]
      refine callK_fn ev (.still rfl) ?_
      simp -implicitDefEqProofs only [go_sem]
      refine ⟨by omega, callK_fn euv (.still rfl) ?_⟩
      simp -implicitDefEqProofs only [h1, h3, go_sem]
      refine callK_fn awake_ok (.pures rfl) ?_
      simp -implicitDefEqProofs only [go_sem]
end Go.Proofs.Ytgkbafkmbokkaaa
end

section
namespace Go.Proofs.Ytgkbafkmbokkaaa
open Go Go.AM
set_option maxRecDepth 100000
set_option linter.unusedSimpArgs false

theorem u45 (a b : List Nat) (ha : a.length ≤ 1000000) (hb : b.length ≤ 1000000) : PFn Try.prog 45 [slV a, slV b] [.int .i64 (cmpLs a b)] := by
  refine PFn.of_body hΓ Try.func45 (by kernel_rfl) rfl (AWp.of_awpD [] hΓ hmix (by kernel_rfl) ?_)
  simp +contextual -implicitDefEqProofs only [slV, Try.ntmps45, Try.results45, Nat.reduceAdd, Nat.reduceSub, go_sem]
  refine AWp.loopI (fun k : Nat => ⟨mkF 36 [(0, .p (.sl (a.map ivN))), (1, .p (.sl (b.map ivN))), (4, .p (.int .i64 0)), (9, .p (.sl (a.map ivN))), (10, .p (.int .i64 a.length)), (11, .p (.int .i64 k))], []⟩)
    (fun k => k ≤ a.length ∧ k ≤ b.length ∧ cmpLs a b = cmpLs (a.drop k) (b.drop k)) (fun k => a.length - k) 0 (by simp [go_sem]) (by simp) ?_
  rintro k ⟨hk, hkb, hc⟩
  simp -implicitDefEqProofs only [go_sem]
  refine AWp.of_awpD [] hΓ hmix (by kernel_rfl) ?_
  by_cases hlt : k < a.length
  · have hda : a.drop k = a[k] :: a.drop (k + 1) := List.drop_eq_getElem_cons hlt
    by_cases hlb : k < b.length
    · have hdb : b.drop k = b[k] :: b.drop (k + 1) := List.drop_eq_getElem_cons hlb
      have hge : ¬ (b.length : Int) ≤ k := by omega
      have e80 := t103 (a[k] : Int) (b[k] : Int)
      rw [hda, hdb] at hc
      simp -implicitDefEqProofs only [hlt, hlb, getD_map_lt, ↓reduceIte, hge, ivN, go_sem]
      refine callK_fn e80 (.pures rfl) ?_
      rcases Nat.lt_trichotomy a[k] b[k] with h | h | h
      · have hv : cmpI (a[k] : Int) (b[k] : Int) = -1 := by unfold cmpI; rw [if_pos (by omega)]
        have hn : ¬ (-1 : Int) = 0 := by decide
        rw [hv]
        simp -implicitDefEqProofs only [hn, go_sem]
        rw [hc, cmpLs_lt _ _ h]
      · have hv : cmpI (a[k] : Int) (b[k] : Int) = 0 := by unfold cmpI; rw [if_neg (by omega), if_neg (by omega)]
        rw [hv]
        rw [h, cmpLs_same] at hc
        simp -implicitDefEqProofs only [go_sem]
        exact ⟨by simp only [InR]; omega, k + 1, by omega, ⟨hlt, hlb, hc⟩, by omega⟩
      · have hv : cmpI (a[k] : Int) (b[k] : Int) = 1 := by unfold cmpI; rw [if_neg (by omega), if_pos (by omega)]
        have hn : ¬ (1 : Int) = 0 := by decide
        rw [hv]
        simp -implicitDefEqProofs only [hn, go_sem]
        rw [hc, cmpLs_gt _ _ h]
    · have hdb : b.drop k = [] := List.drop_eq_nil_of_le (by omega)
      have hge : (b.length : Int) ≤ k := by omega
      rw [hda, hdb] at hc
      simp -implicitDefEqProofs only [hlt, getD_map_lt, ↓reduceIte, hge, ivN, go_sem]
      rw [hc]; rfl
  · have hda : a.drop k = [] := List.drop_eq_nil_of_le (by omega)
    have hz : ¬ (k : Int) < a.length := by omega
    rw [hda] at hc
    by_cases hlb : k < b.length
    · have hdb : b.drop k = b[k] :: b.drop (k + 1) := List.drop_eq_getElem_cons hlb
      have hlt2 : (a.length : Int) < b.length := by omega
      rw [hdb] at hc
      simp -implicitDefEqProofs only [hz, hlt, hlt2, go_sem]
      rw [hc]; rfl
    · have hdb : b.drop k = [] := List.drop_eq_nil_of_le (by omega)
      have hlt2 : ¬ (a.length : Int) < b.length := by omega
      rw [hdb] at hc
      simp -implicitDefEqProofs only [hz, hlt, hlt2, go_sem]
      rw [hc]; rfl

theorem u46 (a b : List Nat) (hl : a.length ≤ 9223372036854775807) : PFn Try.prog 46 [slV a, slV b] [.bool (decide (a = b))] := by
  refine PFn.of_body hΓ Try.func46 (by kernel_rfl) rfl (AWp.of_awpD [(6, 9)] hΓ hmix (by kernel_rfl) ?_)
  simp +contextual -implicitDefEqProofs only [slV, Try.ntmps46, Try.results46, Nat.reduceAdd, Nat.reduceSub, go_sem]
  by_cases he : a.length = b.length
  rotate_left
  · have hz : ¬ (a.length : Int) = b.length := by omega
    simp -implicitDefEqProofs only [he, hz, List.length_map, go_sem]
    exact (decide_eq_false fun e => he (by rw [e])).symm
  simp -implicitDefEqProofs only [he, List.length_map, go_sem]
  refine AWp.loopI (fun k : Nat => ⟨mkF 26 [(0, .p (.sl (a.map ivN))), (1, .p (.sl (b.map ivN))), (4, .p (.bool false)), (12, .p (.int .i64 b.length)), (13, .p (.int .i64 k))], []⟩)
    (fun k => k ≤ a.length ∧ a.take k = b.take k) (fun k => a.length - k) 0 (by simp [go_sem]) (by simp) ?_
  rintro k ⟨hk, heq⟩
  simp -implicitDefEqProofs only [go_sem]
  refine AWp.of_awpD [(6, 9)] hΓ hmix (by kernel_rfl) ?_
  by_cases hlt : k < b.length
  · have hla : k < a.length := by omega
    by_cases hk' : a[k] = b[k]
    · have hk2 : (a[k] : Int) = b[k] := by omega
      simp -implicitDefEqProofs only [hlt, hla, getD_map_lt, ↓reduceIte, ivN, hk2, hk', go_sem]
      refine ⟨by simp only [InR]; omega, k + 1, by simp, ⟨hla, ?_⟩, by omega⟩
      rw [List.take_succ_eq_append_getElem hla, List.take_succ_eq_append_getElem hlt, heq, hk']
    · have hk2 : ¬ (a[k] : Int) = b[k] := by omega
      simp -implicitDefEqProofs only [hlt, hla, getD_map_lt, ↓reduceIte, ivN, hk2, hk', go_sem]
      exact (decide_eq_false fun e => hk' (by subst e; rfl)).symm
  · have hz : ¬ (k : Int) < b.length := by omega
    simp -implicitDefEqProofs only [hz, hlt, go_sem]
    rw [List.take_of_length_le (by omega), List.take_of_length_le (by omega)] at heq
    exact (decide_eq_true heq).symm

/-- The list that a law makes of its bytes. -/
def idxL (ws : List (List UInt8)) (l : List UInt8) : List Nat := l.map fun b => b.toNat % ws.length
theorem enc_ok {q : Int} {ws : List (List UInt8)} (h : codeCheck q ws = 0) {r : List Nat} (hr : ∀ k ∈ r, k < ws.length) (hl : (encN ws r).length ≤ 65536) (hrl : r.length ≤ 1000000) :
    PFn Try.prog 37 [codeV q ws, slV r] [.str (encN ws r), .int .i64 0] := by
  have e := u37 q ws (r.map fun (k : Nat) => (k : Int)) (by simpa using hrl)
  have h2 : encE q ws (r.map fun (k : Nat) => (k : Int)) = 0 := by
    unfold encE
    rw [if_pos h, if_pos (encN_In hr), encN_L, if_neg (by omega)]
  have h3 : encS q ws (r.map fun (k : Nat) => (k : Int)) = encN ws r := by
    unfold encS; rw [if_pos h2, encN_L]
  rw [h2, h3, List.map_map] at e
  exact e

set_option maxHeartbeats 4000000 in
theorem u10 (q : Int) (ws : List (List UInt8)) (l : List UInt8) (hws : ws.length ≤ 9223372036854775807) (hll : l.length ≤ 9223372036854775807) : PFn Try.prog 10 [codeV q ws, .sl (l.map u8V)] [.bool true] := by
  refine PFn.of_body hΓ Try.func10 (by kernel_rfl) rfl (AWp.seq (AWp.of_awpD [] hΓ hmix (by kernel_rfl) ?_))
  simp -implicitDefEqProofs only [Try.ntmps10, Try.results10, Nat.reduceAdd, Nat.reduceSub, codeV, go_sem]
  refine AWp.seq (AWp.of_awpD [] hΓ hmix (by kernel_rfl) ?_)
  simp -implicitDefEqProofs only [go_sem]
  refine callK_fn (u28 q ws hws) (.still rfl) ?_
  cases hf1 : fineB q ws
  · simp -implicitDefEqProofs only [go_sem]
    refine callK_fn awake_ok (.pures rfl) ?_
    simp -implicitDefEqProofs only [go_sem]
  by_cases hl5 : l.length ≤ 5
  rotate_left
  · have h5 : (5 : Int) < l.length := by omega
    simp -implicitDefEqProofs only [List.length_map, h5, go_sem]
    refine callK_fn awake_ok (.pures rfl) ?_
    simp -implicitDefEqProofs only [go_sem]
  have h5 : ¬ (5 : Int) < l.length := by omega
  simp -implicitDefEqProofs only [List.length_map, h5, go_sem]
  refine AWp.seq (AWp.of_awpD [] hΓ hmix (by kernel_rfl) ?_)
  simp -implicitDefEqProofs only [go_sem]
  refine AWp.adopt (l := []) 5 3 1 rfl (by simp) ?_
  simp only [fineB, Bool.and_eq_true, decide_eq_true_eq] at hf1
  have h1 := hf1.2
  have hv := valid_of h1
  have hpos := hv.pos
  have hwl := hv.len
  generalize hix : idxL ws l = ix
  have hixl : ix.length = l.length := by rw [← hix]; simp [idxL]
  have hixb : ∀ k ∈ ix, k < ws.length := fun k hk => by
    rw [← hix] at hk
    obtain ⟨b, _, rfl⟩ := List.mem_map.1 hk
    exact Nat.mod_lt _ hpos
  simp -implicitDefEqProofs only [go_sem]
  refine AWp.seq (AWp.seq (AWp.of_awpD [] hΓ hmix (by kernel_rfl) ?_))
  simp -implicitDefEqProofs only [List.length_map, go_sem]
  refine AWp.block ?_
  refine AWp.mono (Q := fun e st => e = .exit 0 ∧ Weak st ⟨mkF 131 [(2, .ptr 0 0), (5, .own 1 l.length)], [codeB q ws, .row 3 1 (ix.map ivN) .lax]⟩) ?_ ?_
  · refine AWp.loopI (fun k : Nat => ⟨mkF 131 [(2, .ptr 0 0), (5, .own 1 k), (28, .p (.sl (l.map u8V))), (29, .p (.int .i64 l.length)), (30, .p (.int .i64 k))], [codeB q ws, .row 3 1 ((ix.take k).map ivN) .lax]⟩)
      (fun k => k ≤ l.length) (fun k => l.length - k) 0 (by simp [go_sem, codeB]) (by omega) ?_
    intro k hk
    simp -implicitDefEqProofs only [codeB, go_sem]
    refine AWp.of_awpD [] hΓ hmix (by kernel_rfl) ?_
    by_cases hlt : k < l.length
    · have hu : (l.map u8V).getD k default = .int .u8 l[k].toNat := by rw [getD_map_lt _ _ _ _ hlt]; rfl
      simp -implicitDefEqProofs only [hlt, hu, ↓reduceIte, go_sem]
      have hwr : IntKind.wrap .i64 (l[k].toNat : Int) = l[k].toNat := InR.wrap (by simp only [InR]; have := l[k].toNat_lt; omega)
      have hki : k < ix.length := by omega
      have hkx : ((l[k].toNat : Int) % (ws.length : Int)) = (ix[k] : Int) := by
        have : ix[k] = l[k].toNat % ws.length := by subst hix; simp [idxL]
        rw [this]; simp
      rw [hwr, hkx]
      refine ⟨⟨by omega, by omega⟩, ⟨size_iv [_], by omega⟩, ⟨size_iv [_], one_iv [_]⟩, ⟨.inl (by omega), by omega, by omega⟩, by simp only [InR]; omega, k + 1, ⟨⟨rfl, by omega⟩, .inr rfl, .inr ?_⟩, hlt, by omega⟩
      rw [List.take_succ_eq_append_getElem hki, List.map_append]; rfl
    · have hkl : k = l.length := by omega
      simp -implicitDefEqProofs only [hlt, ↓reduceIte, go_sem]
      exact ⟨hkl.symm, .inr rfl, by rw [hkl, ← hixl, List.take_length]⟩
  rintro e st ⟨rfl, hw⟩
  show AWp _ _ _ _ _
  refine AWp.weak hw ?_
  clear hw
  simp -implicitDefEqProofs only [codeB, go_sem]
  refine AWp.freeze 1 rfl ?_
  simp -implicitDefEqProofs only [Frozen, AV.thaw, AObj.thaw, AV.thaw.thawL, List.map_cons, List.map_nil, List.set_cons_zero, List.set_cons_succ, go_sem]
  have hw8 : ∀ x ∈ ws, x.length ≤ 8 := fun x hx => by
    have hg := hf1.1
    rw [Bool.not_eq_true', Bool.or_eq_false_iff] at hg
    have h3 := List.any_eq_false.1 hg.2 x hx
    have h4 := (hv.words x hx).2.1
    simp [greatW] at h3
    omega
  have hwl40 : (encN ws ix).length ≤ 40 := by
    have := encN_len hw8 ix
    have : 8 * ix.length ≤ 8 * 5 := Nat.mul_le_mul_left _ (by omega)
    omega
  have e37 := enc_ok h1 hixb (by omega) (by omega)
  have hn : ∀ x ∈ ws, x ≠ [] := fun x hx => (hv.words x hx).1
  have hwc := encN_word hv hixb (by omega)
  have hmem := (mem_rdI hn ix (encN ws ix)).2 ⟨hixb, rfl⟩
  have e32 := u32 q ws (encN ws ix) (fun _ => hn) (fun _ => by omega) (fun _ _ => hwl40)
  have e39 := u39 q ws (encN ws ix) (fun _ _ => hwl40)
  rw [if_pos h1, if_pos hwc, intN_pos] at e32
  generalize hW : encN ws ix = w at *
  have hlen := rdI_len hn w.length w (Nat.le_refl _)
  refine AWp.seq (AWp.of_awpD [] hΓ hmix (by kernel_rfl) ?_)
  simp -implicitDefEqProofs only [go_sem]
  refine callK_fn e37 (.still rfl) ?_
  simp -implicitDefEqProofs only [go_sem]
  refine AWp.seq (AWp.of_awpD [] hΓ hmix (by kernel_rfl) ?_)
  simp -implicitDefEqProofs only [go_sem]
  refine AWp.seq (AWp.of_awpD [] hΓ hmix (by kernel_rfl) ?_)
  simp -implicitDefEqProofs only [go_sem]
  refine callK_fn e32 (.still rfl) ?_
  simp -implicitDefEqProofs only [go_sem]
  refine AWp.seq (AWp.of_awpD [] hΓ hmix (by kernel_rfl) ?_)
  simp -implicitDefEqProofs only [go_sem]
  refine callK_fn e39 (.still rfl) ?_
  have e1 := u34 4096 (by omega)
  have hc40 := cnt_cap hn (by omega) hwl40
  have e33 := u33 (cnt ws w) 4096 (cap_40 hc40) (cap_40 (show 4096 ≤ 256 ^ 40 from by decide))
  simp only [intN_pos] at e1 e33
  by_cases h4 : 4096 < cnt ws w
  · have hE : facE q ws w = 4 := by unfold facE; rw [if_pos h1, if_pos hwc, if_pos h4]
    rw [cmpN_gt h4] at e33
    rw [hE]
    have h01 : (0 : Int) < 1 := by decide
    simp -implicitDefEqProofs only [go_sem]
    refine AWp.seq (AWp.of_awpD [] hΓ hmix (by kernel_rfl) ?_)
    simp -implicitDefEqProofs only [go_sem]
    refine AWp.of_awpD [(17, 8), (27, 16)] hΓ hmix (by kernel_rfl) ?_
    simp -implicitDefEqProofs only [go_sem]
    refine callVPK_fn e1 (.pures rfl) ?_
    simp -implicitDefEqProofs only [go_sem]
    refine callVPK_fn e33 (.still rfl) ?_
    simp -implicitDefEqProofs only [h01, go_sem]
    refine callVPK_fn awake_ok (.pures rfl) ?_
    simp -implicitDefEqProofs only [h01, go_sem]
  have hE : facE q ws w = 0 := by unfold facE; rw [if_pos h1, if_pos hwc, if_neg h4]
  have hR : facR q ws w = rdI ws w := by unfold facR; rw [if_pos ⟨h1, hwc, by omega⟩]
  rw [hE, hR]
  have hsort := rdI_sorted hn w.length w (Nat.le_refl _)
  have hall : ∀ r ∈ rdI ws w, (∀ k ∈ r, k < ws.length) ∧ encN ws r = w := fun r hr => (mem_rdI hn r w).1 hr
  generalize hA : rdI ws w = A at *
  have hne4 : ¬ (0 : Int) = 4 := by decide
  simp -implicitDefEqProofs only [go_sem]
  refine AWp.seq (AWp.of_awpD [] hΓ hmix (by kernel_rfl) ?_)
  simp -implicitDefEqProofs only [go_sem]
  refine AWp.seq (AWp.of_awpD [(17, 8)] hΓ hmix (by kernel_rfl) ?_)
  simp -implicitDefEqProofs only [hne4, go_sem]
  refine AWp.seq (AWp.of_awpD [] hΓ hmix (by kernel_rfl) ?_)
  simp -implicitDefEqProofs only [go_sem]
  refine AWp.seq (AWp.seq (AWp.of_awpD [] hΓ hmix (by kernel_rfl) ?_))
  simp -implicitDefEqProofs only [List.length_map, go_sem]
  have hAl : A.length ≤ 4096 := by omega
  refine AWp.block ?_
  refine AWp.mono (Q := fun e st => e = .exit 2 ∧ Weak st ⟨mkF 131 [(10, .ptr 2 0), (12, .p (.sl (A.map slV))), (13, .p (.int .i64 0)), (14, .p (.bool true))], [.dead, .dead, .box [.p (.bool false), .p (.str (magB (cnt ws w)))]]⟩) ?_ ?_
  · refine AWp.loopI (fun i : Nat => ⟨mkF 131 [(2, .ptr 0 0), (5, .p (.sl (ix.map ivN))), (8, .p (.str w)), (10, .ptr 2 0), (12, .p (.sl (A.map slV))), (13, .p (.int .i64 0)), (14, .p (.bool (decide (ix ∈ A.take i)))), (75, .p (.sl (A.map slV))), (76, .p (.int .i64 A.length)), (77, .p (.int .i64 i))], [codeB q ws, .dead, .box [.p (.bool false), .p (.str (magB (cnt ws w)))]]⟩)
      (fun i => i ≤ A.length) (fun i => A.length - i) 0 (by simp [go_sem, codeB]) (by omega) ?_
    intro i hi
    simp -implicitDefEqProofs only [codeB, go_sem]
    refine AWp.of_awpD [] hΓ hmix (by kernel_rfl) ?_
    by_cases hlt : i < A.length
    · have hAi := hall A[i] (List.getElem_mem hlt)
      have hail := len_encN hn A[i] hAi.1
      rw [hAi.2] at hail
      have eenc := enc_ok h1 hAi.1 (by rw [hAi.2]; omega) (by omega)
      have eq46 := u46 A[i] ix (by omega)
      have hdec : decide (ix ∈ A.take (i + 1)) = (decide (ix ∈ A.take i) || decide (A[i] = ix)) := by
        rw [List.take_succ_eq_append_getElem hlt, Bool.eq_iff_iff]
        simp only [Bool.or_eq_true, decide_eq_true_eq, List.mem_append, List.mem_singleton]
        exact ⟨fun h => h.imp id Eq.symm, fun h => h.imp id Eq.symm⟩
      have hir : InR .i64 ((i : Int) + 1) := by simp only [InR]; omega
      rw [hAi.2] at eenc
      simp -implicitDefEqProofs only [hlt, getD_map_lt, ↓reduceIte, slV, go_sem]
      refine callK_fn eenc (.still rfl) ?_
      have hfin : ∀ b, decide (ix ∈ A.take (i + 1)) = b → b = decide (ix ∈ A.take (i + 1)) := fun b h => h.symm
      cases hfd : decide (ix ∈ A.take i)
      · rw [hfd, Bool.false_or] at hdec
        by_cases hi0 : i = 0
        · have hz : ¬ (0 : Int) < i := by omega
          simp -implicitDefEqProofs only [hz, go_sem]
          refine callK_fn eq46 (.pures rfl) ?_
          simp -implicitDefEqProofs only [go_sem]
          exact ⟨hir, i + 1, ⟨⟨hdec, by omega⟩, .inr rfl⟩, hlt, by omega⟩
        · have hz : (0 : Int) < i := by omega
          have hl1 : i - 1 < A.length := by omega
          have e45 := u45 (A[i - 1]) A[i] (by
            have := len_encN hn A[i - 1] (hall _ (List.getElem_mem hl1)).1
            rw [(hall _ (List.getElem_mem hl1)).2] at this; omega) (by omega)
          rw [List.pairwise_iff_getElem.1 hsort (i - 1) i hl1 hlt (by omega)] at e45
          have eT : ((i : Int) - 1).toNat = i - 1 := by omega
          have hm1 : ¬ (0 : Int) ≤ -1 := by decide
          simp -implicitDefEqProofs only [hz, eT, hl1, getD_map_lt, ↓reduceIte, slV, List.length_map, go_sem]
          refine ⟨by simp only [InR]; omega, ⟨by omega, by omega⟩, callK_fn e45 (.pures rfl) ?_⟩
          simp -implicitDefEqProofs only [hm1, go_sem]
          refine callK_fn eq46 (.pures rfl) ?_
          simp -implicitDefEqProofs only [go_sem]
          exact ⟨hir, i + 1, ⟨⟨hdec, by omega⟩, .inr rfl⟩, hlt, by omega⟩
      · rw [hfd, Bool.true_or] at hdec
        by_cases hi0 : i = 0
        · have hz : ¬ (0 : Int) < i := by omega
          simp -implicitDefEqProofs only [hz, go_sem]
          exact ⟨hir, i + 1, ⟨⟨of_decide_eq_true hdec, by omega⟩, .inr rfl⟩, hlt, by omega⟩
        · have hz : (0 : Int) < i := by omega
          have hl1 : i - 1 < A.length := by omega
          have e45 := u45 (A[i - 1]) A[i] (by
            have := len_encN hn A[i - 1] (hall _ (List.getElem_mem hl1)).1
            rw [(hall _ (List.getElem_mem hl1)).2] at this; omega) (by omega)
          rw [List.pairwise_iff_getElem.1 hsort (i - 1) i hl1 hlt (by omega)] at e45
          have eT : ((i : Int) - 1).toNat = i - 1 := by omega
          have hm1 : ¬ (0 : Int) ≤ -1 := by decide
          simp -implicitDefEqProofs only [hz, eT, hl1, getD_map_lt, ↓reduceIte, slV, List.length_map, go_sem]
          refine ⟨by simp only [InR]; omega, ⟨by omega, by omega⟩, callK_fn e45 (.pures rfl) ?_⟩
          simp -implicitDefEqProofs only [hm1, go_sem]
          exact ⟨hir, i + 1, ⟨⟨of_decide_eq_true hdec, by omega⟩, .inr rfl⟩, hlt, by omega⟩
    · have hiA : i = A.length := by omega
      have hz : ¬ (A.length : Int) < A.length := by omega
      have hdt : decide (ix ∈ A.take A.length) = true := by rw [List.take_length]; exact decide_eq_true hmem
      rw [hiA, hdt]
      simp -implicitDefEqProofs only [hz, go_sem]
  rintro e st ⟨rfl, hw⟩
  show AWp _ _ _ _ _
  refine AWp.weak hw ?_
  clear hw
  simp -implicitDefEqProofs only [go_sem]
  refine AWp.of_awpD [(27, 16)] hΓ hmix (by kernel_rfl) ?_
  simp -implicitDefEqProofs only [go_sem]
  have e2 := u34 A.length (by omega)
  rw [hlen, intN_pos] at e2
  rw [hlen]
  refine callVPK_fn e2 (.pures rfl) ?_
  simp -implicitDefEqProofs only [go_sem]
  refine aggE_ok (v := .p (.bool true)) (eq44 _) ?_
  simp -implicitDefEqProofs only [go_sem]
  refine callVPK_fn awake_ok (.pures rfl) ?_
  simp -implicitDefEqProofs only [go_sem]
end Go.Proofs.Ytgkbafkmbokkaaa
end

section
namespace Go.Proofs.Ytgkbafkmbokkaaa
open Go Go.AM Go.RowKit
set_option maxRecDepth 100000
set_option linter.unusedSimpArgs false

theorem size_sls (l : List (List Nat)) : sizeOK (l.map slV) 1 := fun x hx => by
  obtain ⟨b, _, rfl⟩ := List.mem_map.1 hx
  rfl

set_option maxHeartbeats 1000000 in
theorem u77 {q : Int} {ws : List (List UInt8)} (hn : ∀ x ∈ ws, x ≠ []) (hws : ws.length ≤ 256) : ∀ (m : Nat) (w : List UInt8), w.length ≤ m → w.length ≤ 1000 → (rdI ws w).length ≤ 100000 → PFn Try.prog 77 [codeV q ws, .str w] [.sl ((rdI ws w).map slV)] := by
  intro m
  induction m with
  | zero =>
    intro w hm _ _
    have : w = [] := List.length_eq_zero_iff.1 (by omega)
    subst this
    refine PFn.of_body hΓ Try.func77 (by kernel_rfl) rfl (AWp.of_awpD [(8, 9)] hΓ hmix (by kernel_rfl) ?_)
    simp -implicitDefEqProofs only [Try.ntmps77, Try.results77, Nat.reduceAdd, Nat.reduceSub, codeV, go_sem]
    refine ⟨⟨by simp [sizeOK, PV.cells], by omega⟩, ?_⟩
    rw [rdI_nil]; rfl
  | succ m ih =>
    intro w hm hwl hrl
    by_cases hw : w = []
    · subst hw
      refine PFn.of_body hΓ Try.func77 (by kernel_rfl) rfl (AWp.of_awpD [(8, 9)] hΓ hmix (by kernel_rfl) ?_)
      simp -implicitDefEqProofs only [Try.ntmps77, Try.results77, Nat.reduceAdd, Nat.reduceSub, codeV, go_sem]
      refine ⟨⟨by simp [sizeOK, PV.cells], by omega⟩, ?_⟩
      rw [rdI_nil]; rfl
    rw [rdI_step hn hw] at hrl ⊢
    refine PFn.of_body hΓ Try.func77 (by kernel_rfl) rfl (AWp.seq (AWp.of_awpD [] hΓ hmix (by kernel_rfl) ?_))
    simp -implicitDefEqProofs only [Try.ntmps77, Try.results77, Nat.reduceAdd, Nat.reduceSub, codeV, go_sem]
    refine AWp.seq (AWp.of_awpD [] hΓ hmix (by kernel_rfl) ?_)
    simp -implicitDefEqProofs only [hw, go_sem]
    refine AWp.seq (AWp.of_awpD [] hΓ hmix (by kernel_rfl) ?_)
    simp -implicitDefEqProofs only [go_sem]
    refine AWp.adopt (l := []) 5 53 1 rfl (by simp) ?_
    simp -implicitDefEqProofs only [List.set_cons_zero, List.set_cons_succ, go_sem]
    refine AWp.seq (AWp.seq (AWp.of_awpD [] hΓ hmix (by kernel_rfl) ?_))
    simp -implicitDefEqProofs only [go_sem]
    refine AWp.block ?_
    refine AWp.mono (Q := fun e st => e = .exit 0 ∧ Weak st ⟨mkF 54 [(5, .own 1 (rdTo ws w ws.length).length)], [codeB q ws, .row 53 1 ((rdTo ws w ws.length).map slV) .lax]⟩) ?_ ?_
    · refine AWp.loopI (fun k : Nat => ⟨mkF 54 [(1, .p (.str w)), (2, .ptr 0 0), (5, .own 1 (rdTo ws w k).length), (6, .p (.int .i64 k))], [codeB q ws, .row 53 1 ((rdTo ws w k).map slV) .lax]⟩)
        (fun k => k ≤ ws.length) (fun k => ws.length - k) 0 (by simp [go_sem, codeB, rdTo]) (by simp) ?_
      intro k hk
      simp -implicitDefEqProofs only [codeB, go_sem]
      refine AWp.of_awpD [(8, 9)] hΓ hmix (by kernel_rfl) ?_
      by_cases hlt : k < ws.length
      · have e52 := u52 w ws[k]
        have hs := rdTo_succ ws w k
        simp -implicitDefEqProofs only [hlt, getD_map_lt, ↓reduceIte, List.length_map, go_sem]
        refine callK_fn e52 (.pures rfl) ?_
        cases hp : ws[k].isPrefixOf w
        · have h0 : rdAt ws w k = [] := by unfold rdAt; rw [List.getD_eq_getElem?_getD, List.getElem?_eq_getElem hlt, Option.getD_some, hp]; rfl
          rw [h0, List.append_nil] at hs
          simp -implicitDefEqProofs only [go_sem]
          exact ⟨by simp only [InR]; omega, k + 1, ⟨⟨by rw [hs], by simp⟩, .inr rfl, by rw [hs]⟩, hlt, by omega⟩
        · have hpl := (List.isPrefixOf_iff_prefix.1 hp).length_le
          have hxp : 0 < ws[k].length := List.length_pos_iff.2 (hn _ (List.getElem_mem hlt))
          have h0 : rdAt ws w k = (rdI ws (w.drop ws[k].length)).map (k :: ·) := by unfold rdAt; rw [List.getD_eq_getElem?_getD, List.getElem?_eq_getElem hlt, Option.getD_some, hp, if_pos rfl]
          have hmono := rdTo_mono ws w hlt
          have hrec := ih (w.drop ws[k].length) (by rw [List.length_drop]; omega) (by rw [List.length_drop]; omega) (by
            have : (rdAt ws w k).length = (rdI ws (w.drop ws[k].length)).length := by rw [h0, List.length_map]
            omega)
          simp -implicitDefEqProofs only [hlt, getD_map_lt, ↓reduceIte, go_sem]
          refine ⟨hpl, callK_fn hrec (.still rfl) ?_⟩
          simp -implicitDefEqProofs only [go_sem]
          have hRl : (rdI ws (w.drop ws[k].length)).length = (rdAt ws w k).length := by rw [h0, List.length_map]
          have hRm : ∀ r ∈ rdI ws (w.drop ws[k].length), r.length ≤ 1000 := fun r hr => by
            have h1 := (mem_rdI hn r _).1 hr
            have h2 := len_encN hn r h1.1
            rw [h1.2, List.length_drop] at h2
            omega
          rw [h0] at hs
          generalize rdI ws (w.drop ws[k].length) = R at *
          refine AWp.loopJ (fun i : Nat => ⟨mkF 54 [(1, .p (.str w)), (2, .ptr 0 0), (5, .own 1 (rdTo ws w k ++ (R.take i).map (k :: ·)).length), (6, .p (.int .i64 k)), (7, .p (.sl (R.map slV))), (8, .p (.int .i64 i))], [codeB q ws, .row 53 1 ((rdTo ws w k ++ (R.take i).map (k :: ·)).map slV) .lax]⟩)
            (fun i => i ≤ R.length) (fun i => R.length - i) 0 (fun i => ⟨by simp, by simp [mkF, AV.blw, AV.blw.blwL], by simp [blwH, AObj.blw, AV.blw, AV.blw.blwL, codeB]⟩) (by simp [go_sem, codeB]) (by simp) ?_
          intro i hi
          simp -implicitDefEqProofs only [codeB, go_sem]
          refine AWp.of_awpD [(8, 9)] hΓ hmix (by kernel_rfl) ?_
          by_cases hlt2 : i < R.length
          · have hRi := hRm _ (List.getElem_mem hlt2)
            simp -implicitDefEqProofs only [hlt2, getD_map_lt, ↓reduceIte, List.length_map, slV, go_sem]
            have hs1 : sizeOK [PV.int .i64 (k : Int)] 1 := size_iv [k]
            have hsl : ∀ l, sizeOK [PV.sl l] 1 := fun l => by simp [sizeOK, PV.cells]
            have hol : ∀ l, oneOK [PV.sl l] := fun l => by simp [oneOK, PV.cells, PV.isAgg]
            have hnl : (rdTo ws w k ++ (R.take i).map (k :: ·)).length ≤ 100000 := by
              rw [List.length_append, List.length_map, List.length_take]; omega
            have htk : (R.take (i + 1)).map (k :: ·) = (R.take i).map (k :: ·) ++ [k :: R[i]] := by rw [List.take_succ_eq_append_getElem hlt2, List.map_append]; rfl
            have hrow : (rdTo ws w k ++ (R.take (i + 1)).map (k :: ·)).map slV = (rdTo ws w k ++ (R.take i).map (k :: ·)).map slV ++ [PV.sl (PV.int .i64 (k : Int) :: R[i].map ivN)] := by
              rw [htk, ← List.append_assoc, List.map_append (l₂ := [k :: R[i]])]; rfl
            refine ⟨⟨hs1, by omega⟩, ⟨size_iv _, one_iv _⟩, ⟨hs1, by omega, by omega⟩, ⟨hsl _, by omega⟩, ⟨hsl _, hol _⟩, ⟨.inl (by omega), by omega, by omega⟩, by simp only [InR]; omega, i + 1, ⟨⟨?_, by simp⟩, .inr rfl, .inr ?_⟩, hlt2, by omega⟩
            · rw [htk, ← List.append_assoc, List.length_append]; rfl
            · rw [hrow]; rfl
          · have hil : i = R.length := by omega
            rw [hil, List.take_length, ← hs]
            simp -implicitDefEqProofs only [Nat.lt_irrefl, List.length_map, go_sem]
            exact ⟨by simp only [InR]; omega, k + 1, ⟨⟨rfl, by simp⟩, .inr rfl, rfl⟩, hlt, by omega⟩
      · have hkl : k = ws.length := by omega
        rw [hkl]
        simp -implicitDefEqProofs only [Nat.lt_irrefl, List.length_map, go_sem]
        exact .inr rfl
    rintro e st ⟨rfl, hw⟩
    show AWp _ _ _ _ _
    refine AWp.weak hw ?_
    clear hw
    simp -implicitDefEqProofs only [codeB, go_sem]
    refine AWp.of_awpD [] hΓ hmix (by kernel_rfl) ?_
    simp -implicitDefEqProofs only [go_sem]
end Go.Proofs.Ytgkbafkmbokkaaa
end

