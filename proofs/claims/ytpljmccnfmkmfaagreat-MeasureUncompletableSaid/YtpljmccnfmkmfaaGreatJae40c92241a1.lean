/-
  The shelf's contracts for (*strings.Builder).WriteString and String at this program.
  code.Encode.
  Reversed words: slices.Reverse of bytes, word.Reverse.
  code.Reverse.
  The law MeasureParts (f11).
  The first uncompletable word, plain; complete codes have weight 1, others less (if uniquely decodable).
  measure.Uncompletable (f36), measure.Complete (f32); the law MeasureUncompletable (f6).
-/
import Derived.Shelf.Strings.Builder1
import Derived.Test.YtpljmccnfmkmfaaGreatProg
import Derived.Test.YtpljmccnfmkmfaaGreatJ79a4babdd0a8
import Derived.Test.YtpljmccnfmkmfaaGreatJ6e75561e6ca1
import Derived.Test.YtpljmccnfmkmfaaGreatJ3bf02559cfdf
import Derived.Test.YtpljmccnfmkmfaaGreatJ9a13e3d10180
import Derived.Test.YtpljmccnfmkmfaaGreatJd7e6bd41c65e
import Derived.Test.YtpljmccnfmkmfaaGreatJae758b01f501
import Derived.Test.YtpljmccnfmkmfaaGreatJea7f0d87aabf
import Derived.Test.YtpljmccnfmkmfaaGreatJ4fb671369e34

section
namespace Go.Proofs
open Go.Shelf
end Go.Proofs
end

section
namespace Go.Proofs.YtpljmccnfmkmfaaGreat
open Go Go.AM Go.RowKit
set_option maxRecDepth 100000
set_option linter.unusedSimpArgs false

end Go.Proofs.YtpljmccnfmkmfaaGreat
end

section
namespace Go.Proofs.YtpljmccnfmkmfaaGreat
open Go Go.AM
set_option maxRecDepth 100000
set_option linter.unusedSimpArgs false

end Go.Proofs.YtpljmccnfmkmfaaGreat
end

section
namespace Go.Proofs.YtpljmccnfmkmfaaGreat
open Go Go.AM
set_option maxRecDepth 100000
set_option linter.unusedSimpArgs false

end Go.Proofs.YtpljmccnfmkmfaaGreat
end

section
namespace Go.Proofs.YtpljmccnfmkmfaaGreat
open Go Go.AM Go.RowKit
set_option maxRecDepth 100000
set_option maxHeartbeats 4000000
set_option linter.unusedSimpArgs false

theorem wc_iff {q : Int} {w : List UInt8} (h2 : 2 ≤ q) (h16 : q ≤ 16) (hl : w.length ≤ 65536) : wordCheck q w = 0 ↔ ∀ b ∈ w, okB q b = true := by
  constructor
  · intro h
    unfold wordCheck at h
    rw [if_neg (by omega), if_neg (by omega)] at h
    split at h
    · rename_i hk
      unfold okW at hk
      exact List.all_eq_true.1 hk
    · cases h
  · intro h
    exact wordCheck_good (by omega) (by omega) (by omega) (List.all_eq_true.2 h)
theorem fac_ok {q : Int} {ws : List (List UInt8)} (h : codeCheck q ws = 0) {w : List UInt8} (hw : ∀ b ∈ w, okB q b = true) (hl : w.length ≤ 4000) :
    PFn Tryz.prog 34 [.agg [.int .i64 q, .sl (ws.map .str)], .str w] [.bool (facB ws w), .int .i64 0] := by
  have hv := valid_of h
  have e := c34 q ws w hl
  have r1 : facE q ws w = 0 := by
    unfold facE
    rw [if_pos h]
    exact (wc_iff hv.q2 hv.q16 (by omega)).2 hw
  have r2 : facR q ws w = facB ws w := by unfold facR; rw [r1]; rfl
  rw [r1, r2] at e
  exact e
end Go.Proofs.YtpljmccnfmkmfaaGreat
end

section
namespace Go.Proofs.YtpljmccnfmkmfaaGreat
open Go Go.AM Go.RowKit
set_option maxRecDepth 100000
set_option linter.unusedSimpArgs false

theorem least_nat {P : Nat → Prop} (v : Nat) (h : P v) : ∃ u, P u ∧ ∀ x, x < u → ¬ P x := by
  induction v using Nat.strongRecOn with
  | _ v ih =>
    by_cases hx : ∃ x, x < v ∧ P x
    · obtain ⟨x, h1, h2⟩ := hx
      exact ih x h1 h2
    · exact ⟨v, h, fun x h1 h2 => hx ⟨x, h1, h2⟩⟩
theorem wn_alph {q : Nat} (hq : 0 < q) (v : Nat) : Kn.Alph q (wn q v) := by
  induction v using Nat.strongRecOn with
  | _ v ih =>
    rcases num_cases hq v with h | ⟨u, b, hb, rfl, hu⟩
    · subst h
      intro b hb
      rw [wn_zero] at hb
      cases hb
    · intro c hc
      rw [wn_succ hq u b hb] at hc
      rcases List.mem_append.1 hc with hc | hc
      · exact ih u hu c hc
      · exact ⟨b, hb, List.mem_singleton.1 hc⟩
theorem ok_alph {q : Nat} (h16 : q ≤ 16) {w : List UInt8} (h : Kn.Alph q w) : ∀ b ∈ w, okB q b = true := fun b hb => by
  obtain ⟨a, ha, rfl⟩ := h b hb
  unfold okB
  rw [ixB_ltr (by omega)]
  simp only [Bool.and_eq_true, decide_eq_true_eq]
  omega
structure SeA (q : Nat) (ws : List (List UInt8)) (n : Int) (r : Option Nat) : Prop where
  some : ∀ v, r = some v → stN ws q v = [] ∧ (∀ u, u < v → stN ws q u ≠ []) ∧ (0 ≤ n → ((wn q v).length : Int) ≤ n)
  none : r = none → ∀ v, (0 ≤ n → ((wn q v).length : Int) ≤ n) → stN ws q v ≠ []
theorem seA (q : Nat) (hq : 0 < q) (h16 : q ≤ 16) (ws : List (List UInt8)) (n : Int) : ∃ r, SeA q ws n r := by
  by_cases h : ∃ v, stN ws q v = [] ∧ (0 ≤ n → ((wn q v).length : Int) ≤ n)
  · obtain ⟨v, h⟩ := h
    obtain ⟨u, ⟨h1, h2⟩, h3⟩ := least_nat (P := fun v => stN ws q v = [] ∧ (0 ≤ n → ((wn q v).length : Int) ≤ n)) v h
    refine ⟨.some u, fun v hv => ?_, fun e => by cases e⟩
    cases hv
    refine ⟨h1, fun x hx hd => h3 x hx ⟨hd, fun h0 => ?_⟩, h2⟩
    have := wn_len hq h16 (Nat.le_of_lt hx)
    have := h2 h0
    omega
  · exact ⟨.none, fun v e => (by cases e), fun _ v hl hd => h ⟨v, hd, hl⟩⟩
theorem dead_fac {ws : List (List UInt8)} {q v : Nat} : stN ws q v = [] ↔ facB ws (wn q v) = false := by
  have e : facB ws (wn q v) = decide (0 < (stN ws q v).length) := rfl
  rw [e]
  simp
theorem SeA.hit {q : Nat} {ws : List (List UInt8)} {n : Int} {r : Option Nat} (A : SeA q ws n r) (hq : 0 < q) (h16 : q ≤ 16) {w : List UInt8} (hw : Kn.Alph q w) (hl : 0 ≤ n → (w.length : Int) ≤ n) (hf : facB ws w = false) :
    ∃ v, r = .some v ∧ ¬ ltW w (wn q v) := by
  obtain ⟨x, rfl⟩ := wn_surj hq w hw
  have hd := dead_fac.2 hf
  cases hr : r with
  | none => exact absurd hd (A.none hr x hl)
  | some v =>
    refine ⟨v, rfl, fun hlt => ?_⟩
    obtain ⟨_, h2, _⟩ := A.some v hr
    have hvx : ¬ x < v := fun h => h2 x h hd
    rcases Nat.lt_or_ge v x with h | h
    · exact ltW_irrefl _ (ltW_trans hlt (wn_lt hq h16 x v h))
    · have : x = v := by omega
      rw [this] at hlt
      exact ltW_irrefl _ hlt
end Go.Proofs.YtpljmccnfmkmfaaGreat
end

section
namespace Go.Proofs.YtpljmccnfmkmfaaGreat
open Go Go.AM Go.RowKit
set_option maxRecDepth 100000
set_option maxHeartbeats 4000000
set_option linter.unusedSimpArgs false

theorem c84a (q : Nat) (ws : List (List UInt8)) (n : Int) (h : codeCheck q ws = 0) (hn : -1 ≤ n ∧ n ≤ 32) {r : Option Nat} (A : SeA q ws n r) (hF : FewS ws q) :
    PFn Tryz.prog 84 [codeV q ws, .int .i64 n] [.str (seR q r), .bool r.isSome, .int .i64 0] := c84 q ws n h hn r A.some A.none hF
theorem c32 (q : Nat) (ws : List (List UInt8)) (h : codeCheck q ws = 0) {r : Option Nat} (A : SeA q ws (-1) r) (hF : FewS ws q) :
    PFn Tryz.prog 32 [codeV q ws] [.bool (!r.isSome), .int .i64 0] := by
  have e80 := t45 q ws
  have e84 := c84a q ws (-1) h (by omega) A hF
  rw [h] at e80
  unfold codeV at e80 e84
  refine PFn.of_body hΓ Tryz.func32 (by kernel_rfl) rfl (AWp.seq (AWp.of_awpD [] hΓ hmix (by kernel_rfl) ?_))
  simp -implicitDefEqProofs only [Tryz.ntmps32, Tryz.results32, Nat.reduceAdd, Nat.reduceSub, codeV, go_sem]
  refine AWp.seq (AWp.of_awpD [] hΓ hmix (by kernel_rfl) ?_)
  simp -implicitDefEqProofs only [go_sem]
  refine callK_fn e80 (.still rfl) ?_
  simp -implicitDefEqProofs only [go_sem]
  refine AWp.seq (AWp.of_awpD [] hΓ hmix (by kernel_rfl) ?_)
  simp -implicitDefEqProofs only [go_sem]
  refine callK_fn e84 (.still rfl) ?_
  simp -implicitDefEqProofs only [go_sem]
  refine AWp.of_awpD [] hΓ hmix (by kernel_rfl) ?_
  simp -implicitDefEqProofs only [go_sem]
theorem c36 (q : Nat) (ws : List (List UInt8)) (n : Int) (h : codeCheck q ws = 0) (hn : 0 ≤ n ∧ n ≤ 32) {r : Option Nat} (A : SeA q ws n r) (hF : FewS ws q) :
    PFn Tryz.prog 36 [codeV q ws, .int .i64 n] [.str (seR q r), .bool r.isSome, .int .i64 0] := by
  have e80 := t45 q ws
  have e84 := c84a q ws n h (by omega) A hF
  rw [h] at e80
  unfold codeV at e80 e84
  have n1 : ¬ n < 0 := by omega
  have n2 : ¬ 32 < n := by omega
  refine PFn.of_body hΓ Tryz.func36 (by kernel_rfl) rfl (AWp.seq (AWp.of_awpD [] hΓ hmix (by kernel_rfl) ?_))
  simp -implicitDefEqProofs only [Tryz.ntmps36, Tryz.results36, Nat.reduceAdd, Nat.reduceSub, codeV, go_sem]
  refine AWp.seq (AWp.of_awpD [] hΓ hmix (by kernel_rfl) ?_)
  simp -implicitDefEqProofs only [go_sem]
  refine callK_fn e80 (.still rfl) ?_
  simp -implicitDefEqProofs only [go_sem]
  refine AWp.seq (AWp.of_awpD [] hΓ hmix (by kernel_rfl) ?_)
  simp -implicitDefEqProofs only [n1, n2, go_sem]
  refine AWp.of_awpD [] hΓ hmix (by kernel_rfl) ?_
  simp -implicitDefEqProofs only [go_sem]
  refine callK_fn e84 (.still rfl) ?_
  simp -implicitDefEqProofs only [go_sem]

open Classical in
theorem b6 (q : Int) (ws : List (List UInt8)) (w : List UInt8) (hws : ws.length ≤ 9223372036854775807) : PFn Tryz.prog 6 [codeV q ws, .str w] [.bool true] := by
  have e30 := h30 q ws hws
  have e40 := t44 q ws
  unfold codeV at e30 e40
  refine PFn.of_body hΓ Tryz.func6 (by kernel_rfl) rfl (AWp.seq (AWp.of_awpD [] hΓ hmix (by kernel_rfl) ?_))
  simp -implicitDefEqProofs only [Tryz.ntmps6, Tryz.results6, Nat.reduceAdd, Nat.reduceSub, codeV, go_sem]
  obtain ⟨g, hg⟩ : ∃ g, g = (great36 q ws || decide (codeCheck q ws = 0 ∧ ¬ FewS ws q.toNat)) := ⟨_, rfl⟩
  rw [← hg] at e30
  cases g
  rotate_left
  · refine AWp.seq ?_
    refine AWp.of_awpD [] hΓ hmix (by kernel_rfl) ?_
    simp -implicitDefEqProofs only [go_sem]
    refine callK_fn e30 (.still rfl) ?_
    simp -implicitDefEqProofs only [go_sem]
    refine callK_fn awake36 (.pures rfl) ?_
    simp -implicitDefEqProofs only [go_sem]
  by_cases hc : codeCheck q ws = 0
  rotate_left
  · refine AWp.seq ?_
    refine AWp.of_awpD [] hΓ hmix (by kernel_rfl) ?_
    simp -implicitDefEqProofs only [go_sem]
    refine callK_fn e30 (.still rfl) ?_
    simp -implicitDefEqProofs only [go_sem]
    refine callK_fn e40 (.still rfl) ?_
    simp -implicitDefEqProofs only [hc, go_sem]
    refine callK_fn awake36 (.pures rfl) ?_
    simp -implicitDefEqProofs only [go_sem]
  have hF : FewS ws q.toNat := by
    have := hg.symm
    rw [Bool.or_eq_false_iff, decide_eq_false_iff_not] at this
    exact Classical.byContradiction fun hn => this.2 ⟨hc, hn⟩
  clear hg
  rw [hc] at e40
  by_cases h8 : (8 : Int) < (w.length : Int)
  · refine AWp.seq ?_
    refine AWp.of_awpD [] hΓ hmix (by kernel_rfl) ?_
    simp -implicitDefEqProofs only [go_sem]
    refine callK_fn e30 (.still rfl) ?_
    simp -implicitDefEqProofs only [go_sem]
    refine callK_fn e40 (.still rfl) ?_
    simp -implicitDefEqProofs only [h8, go_sem]
    refine callK_fn awake36 (.pures rfl) ?_
    simp -implicitDefEqProofs only [go_sem]
  have hv := valid_of hc
  have h2 := hv.q2
  have h16 := hv.q16
  obtain ⟨p, rfl⟩ : ∃ p : Nat, q = p := ⟨q.toNat, by omega⟩
  rw [Int.toNat_natCast] at hF
  have hp : 0 < p := by omega
  have hp16 : p ≤ 16 := by omega
  obtain ⟨r, A⟩ := seA p hp hp16 ws 8
  obtain ⟨r2, A2⟩ := seA p hp hp16 ws (-1)
  have e36 := c36 p ws 8 hc (by omega) A hF
  have e32 := c32 p ws hc A2 hF
  have hs2 : r.isSome = true → r2.isSome = true := fun h => by
    obtain ⟨v, hr⟩ := Option.isSome_iff_exists.1 h
    cases h3 : r2 with
    | some _ => rfl
    | none => exact absurd (A.some v hr).1 (A2.none h3 v (by omega))
  have hu8 : (seR p r).length ≤ 8 := by
    cases h3 : r with
    | none => exact Nat.zero_le _
    | some v =>
      have := (A.some v h3).2.2 (by omega)
      show (wn p v).length ≤ 8
      omega
  have hu9 : ¬ (8 : Int) < ((seR p r).length : Int) := by omega
  have huok : ∀ b ∈ seR p r, okB p b = true := by
    cases h3 : r with
    | none => intro b hb; cases hb
    | some v => exact ok_alph hp16 (wn_alph hp v)
  have huf : r.isSome = true → facB ws (seR p r) = false := fun h => by
    obtain ⟨v, hr⟩ := Option.isSome_iff_exists.1 h
    rw [hr]
    exact dead_fac.1 (A.some v hr).1
  have hu0 : r.isSome = false → seR p r = [] := fun h => by
    cases h3 : r with
    | none => rfl
    | some v => rw [h3] at h; cases h
  have ef1 := fac_ok hc (w := seR p r) huok (by omega)
  have hwx : wordCheck p w = 0 → facB ws w = false → r.isSome = true ∧ ¬ cmpW w (seR p r) < 0 := fun h1 h3 => by
    have ha := alph_of h1
    rw [Int.toNat_natCast] at ha
    obtain ⟨v, hr, hlt⟩ := A.hit hp hp16 ha (by omega) h3
    rw [hr]
    exact ⟨rfl, fun h => hlt ((ltW_iff _ _).1 h)⟩
  have e42 := t79' w (seR p r)
  generalize seR p r = u at *
  generalize hb1 : r.isSome = b1 at *
  generalize hb2 : r2.isSome = b2 at *
  unfold codeV at e36 e32
  refine AWp.seq ?_
  refine AWp.of_awpD [] hΓ hmix (by kernel_rfl) ?_
  simp -implicitDefEqProofs only [go_sem]
  refine callK_fn e30 (.still rfl) ?_
  simp -implicitDefEqProofs only [go_sem]
  refine callK_fn e40 (.still rfl) ?_
  simp -implicitDefEqProofs only [h8, go_sem]
  refine AWp.seq (AWp.of_awpD [] hΓ hmix (by kernel_rfl) ?_)
  simp -implicitDefEqProofs only [go_sem]
  refine callK_fn e36 (.still rfl) ?_
  simp -implicitDefEqProofs only [go_sem]
  refine AWp.seq (AWp.of_awpD [] hΓ hmix (by kernel_rfl) ?_)
  simp -implicitDefEqProofs only [go_sem]
  refine callK_fn e32 (.still rfl) ?_
  simp -implicitDefEqProofs only [go_sem]
  have e41 := t78 p w
  cases b1
  · have hu := hu0 rfl
    subst hu
    refine AWp.seq (AWp.of_awpD [] hΓ hmix (by kernel_rfl) ?_)
    simp -implicitDefEqProofs only [go_sem]
    refine AWp.seq (AWp.of_awpD [] hΓ hmix (by kernel_rfl) ?_)
    simp -implicitDefEqProofs only [go_sem]
    by_cases hw0 : wordCheck p w = 0
    rotate_left
    · refine AWp.seq (AWp.of_awpD [] hΓ hmix (by kernel_rfl) ?_)
      simp -implicitDefEqProofs only [go_sem]
      refine callK_fn e41 (.pures rfl) ?_
      simp -implicitDefEqProofs only [hw0, go_sem]
      refine callK_fn awake36 (.pures rfl) ?_
      simp -implicitDefEqProofs only [go_sem]
    have ef2 := fac_ok hc (w := w) ((wc_iff h2 h16 (by omega)).1 hw0) (by omega)
    have hwy := hwx hw0
    rw [hw0] at e41
    refine AWp.seq (AWp.of_awpD [] hΓ hmix (by kernel_rfl) ?_)
    simp -implicitDefEqProofs only [go_sem]
    refine callK_fn e41 (.pures rfl) ?_
    simp -implicitDefEqProofs only [go_sem]
    refine AWp.seq (AWp.of_awpD [] hΓ hmix (by kernel_rfl) ?_)
    simp -implicitDefEqProofs only [go_sem]
    refine callK_fn ef2 (.still rfl) ?_
    simp -implicitDefEqProofs only [go_sem]
    cases hf : facB ws w
    · obtain ⟨k1, _⟩ := hwy hf
      cases k1
    · refine AWp.of_awpD [] hΓ hmix (by kernel_rfl) ?_
      simp -implicitDefEqProofs only [go_sem]
      refine callK_fn awake36 (.pures rfl) ?_
      simp -implicitDefEqProofs only [go_sem]
  · have hb := hs2 rfl
    subst hb
    rw [huf rfl] at ef1
    refine AWp.seq (AWp.of_awpD [] hΓ hmix (by kernel_rfl) ?_)
    simp -implicitDefEqProofs only [go_sem]
    refine AWp.seq (AWp.of_awpD [] hΓ hmix (by kernel_rfl) ?_)
    simp -implicitDefEqProofs only [go_sem]
    refine callK_fn ef1 (.still rfl) ?_
    simp -implicitDefEqProofs only [hu9, go_sem]
    by_cases hw0 : wordCheck p w = 0
    rotate_left
    · refine AWp.seq (AWp.of_awpD [] hΓ hmix (by kernel_rfl) ?_)
      simp -implicitDefEqProofs only [go_sem]
      refine callK_fn e41 (.pures rfl) ?_
      simp -implicitDefEqProofs only [hw0, go_sem]
      refine callK_fn awake36 (.pures rfl) ?_
      simp -implicitDefEqProofs only [go_sem]
    have ef2 := fac_ok hc (w := w) ((wc_iff h2 h16 (by omega)).1 hw0) (by omega)
    have hwy := hwx hw0
    rw [hw0] at e41
    refine AWp.seq (AWp.of_awpD [] hΓ hmix (by kernel_rfl) ?_)
    simp -implicitDefEqProofs only [go_sem]
    refine callK_fn e41 (.pures rfl) ?_
    simp -implicitDefEqProofs only [go_sem]
    refine AWp.seq (AWp.of_awpD [] hΓ hmix (by kernel_rfl) ?_)
    simp -implicitDefEqProofs only [go_sem]
    refine callK_fn ef2 (.still rfl) ?_
    simp -implicitDefEqProofs only [go_sem]
    cases hf : facB ws w
    · obtain ⟨_, k2⟩ := hwy hf
      rw [decide_eq_false k2] at e42
      refine AWp.of_awpD [] hΓ hmix (by kernel_rfl) ?_
      simp -implicitDefEqProofs only [go_sem]
      refine callK_fn e42 (.pures rfl) ?_
      simp -implicitDefEqProofs only [go_sem]
      refine callK_fn awake36 (.pures rfl) ?_
      simp -implicitDefEqProofs only [go_sem]
    · refine AWp.of_awpD [] hΓ hmix (by kernel_rfl) ?_
      simp -implicitDefEqProofs only [go_sem]
      refine callK_fn awake36 (.pures rfl) ?_
      simp -implicitDefEqProofs only [go_sem]
end Go.Proofs.YtpljmccnfmkmfaaGreat
end

