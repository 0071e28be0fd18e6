/-
  Texts of this claim, joined.
-/
import Derived.Test.YtpljmccnfmkmfaaGreatRows
import Derived.Test.YtpljmccnfmkmfaaGreatJ5b7d53fdd7d5
import Derived.Test.YtpljmccnfmkmfaaGreatJ167ababdc979

set_option maxRecDepth 100000
namespace Go.Proofs.YtpljmccnfmkmfaaGreat
open Go Go.AM Go.RowKit Go.ChangeShapes

theorem bytes_of {p : PV} (h : Fit (.sl (.int .u8)) p) : ∃ l : List UInt8, p = .sl (l.map u8V) ∧ l.length ≤ maxLen := by
  cases h with
  | sl _ l h1 h2 =>
    have : ∃ bs : List UInt8, l = bs.map u8V := by
      clear h1
      induction l with
      | nil => exact ⟨[], rfl⟩
      | cons x l ih =>
        obtain ⟨bs, h3⟩ := ih (fun i hi => h2 (i + 1) (by simpa using hi))
        have h0 := h2 0 (by simp)
        simp only [List.getD_cons_zero] at h0
        cases h0 with
        | int _ n hn =>
          refine ⟨UInt8.ofNat n.toNat :: bs, ?_⟩
          rw [h3, List.map_cons]
          congr 1
          simp only [InR] at hn
          simp only [u8V, UInt8.toNat_ofNat', PV.int.injEq, true_and]
          omega
    obtain ⟨bs, rfl⟩ := this
    exact ⟨bs, rfl, by simpa using h1⟩

theorem maximal_lifted (os : Os) (started : os.Started) (H : Type) (enc : TypeId × Value → H) :
    ReturnsInHanded {} Tryz.checked os 10 .any (Rows.measureMaximalSpec.pre6 enc Tryz.prog Tryz.f10 Rows.measureMaximalRow.domain false) (Rows.measureMaximalSpec.post enc Tryz.prog Tryz.f10 false true false false) := by
  refine lift (C := Tryz.checked) (shs := [codeSh, .sl (.int .u8)]) (tb := 4) own laidOut started (by kernel_rfl) Tryz.func10
    (ChangeSpec.witness6 (enc := enc) (C := Tryz.checked) false ⟨#[], #[.agg #[.int .i64 0, .slice none 0 0], .slice none 0 0], []⟩ 8 (by kernel_rfl) (by kernel_rfl) (by kernel_rfl) (by kernel_rfl))
    (by kernel_rfl) (by kernel_rfl) (by kernel_rfl) (by kernel_rfl) rfl ?_ ?_
  · intro ds hd
    match ds, hd with
    | [d1, d2], _ => rfl
  · intro pv h
    obtain ⟨p1, _, rfl, h1, h⟩ := h.cons
    obtain ⟨p2, _, rfl, h2, h⟩ := h.cons
    have := h.zero
    subst this
    obtain ⟨q, ws, rfl, _, hws, _⟩ := code_of h1
    obtain ⟨pk, rfl, hpk⟩ := bytes_of h2
    exact b10 q ws pk hws hpk

theorem maximal_holds : Rows.MeasureMaximalSaid :=
  OpenClaim.holds_of_wide 10 Tryz.f10 rfl rfl rfl rfl rfl rfl rfl ⟨rfl, rfl, rfl, rfl, rfl⟩ rfl rfl rfl rfl rfl (by kernel_rfl) Tryz.func10 (by kernel_rfl)
    (of_decide_eq_true (by kernel_rfl)) (by unfold Func.isWrapper; first | (rw [if_pos (by decide +kernel)]; kernel_rfl) | (rw [if_neg (by decide +kernel)]; exact ⟨rfl, rfl⟩))
    (fun os started H enc _ => maximal_lifted os started H enc)
#print axioms maximal_holds
end Go.Proofs.YtpljmccnfmkmfaaGreat
