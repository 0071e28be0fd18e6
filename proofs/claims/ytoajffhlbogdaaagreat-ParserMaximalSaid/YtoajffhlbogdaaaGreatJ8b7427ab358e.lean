/-
  The given statement ParserMaximal, for all arguments, without conditions.
-/
import Derived.Test.YtoajffhlbogdaaaGreatRows
import Derived.Test.YtoajffhlbogdaaaGreatJd8ad1e3bfa01
import Derived.Test.YtoajffhlbogdaaaGreatJ85b86ccf99c9

namespace Go.Proofs.YtoajffhlbogdaaaGreat
open Go Go.AM Go.RowKit Go.ChangeShapes
set_option maxRecDepth 100000

theorem maximal_lifted (os : Os) (started : os.Started) (H : Type) (enc : TypeId × Value → H) :
    ReturnsInHanded {} Tryz.checked os 3 .any (Rows.parserMaximalSpec.pre6 enc Tryz.prog Tryz.f3 Rows.parserMaximalRow.domain false) (Rows.parserMaximalSpec.post enc Tryz.prog Tryz.f3 false true false false) := by
  refine lift (C := Tryz.checked) (shs := [codeSh, .str]) (tb := 4) own laidOut started (by kernel_rfl) Tryz.func3
    (ChangeSpec.witness6 (enc := enc) (C := Tryz.checked) false ⟨#[], #[.agg #[.int .i64 0, .slice none 0 0], .string ⟨#[]⟩], []⟩ 8 (by kernel_rfl) (by kernel_rfl) (by kernel_rfl) (by kernel_rfl))
    (by kernel_rfl) (by kernel_rfl) (by kernel_rfl) (by kernel_rfl) rfl ?_ ?_
  · intro ds hd
    match ds, hd with
    | [d1, d2], _ => rfl
  · intro pv h
    obtain ⟨p1, _, rfl, h1, h⟩ := h.cons
    obtain ⟨p2, _, rfl, h2, h⟩ := h.cons
    have := h.zero
    subst this
    obtain ⟨q, ws, rfl, _, hws, _⟩ := code_of h1
    cases h2 with
    | str w hw => exact o3 q ws w hws

theorem maximal_holds : Rows.ParserMaximalSaid :=
  OpenClaim.holds_of_wide 3 Tryz.f3 rfl rfl rfl rfl rfl rfl rfl ⟨rfl, rfl, rfl, rfl, rfl⟩ rfl rfl rfl rfl rfl (by kernel_rfl) Tryz.func3 (by kernel_rfl)
    (of_decide_eq_true (by kernel_rfl)) (by unfold Func.isWrapper; first | (rw [if_pos (by decide +kernel)]; kernel_rfl) | (rw [if_neg (by decide +kernel)]; exact ⟨rfl, rfl⟩))
    (fun os started H enc _ => maximal_lifted os started H enc)
#print axioms maximal_holds
end Go.Proofs.YtoajffhlbogdaaaGreat
