/-
  The given statement ParserStates, for all arguments, without conditions.
-/
import Derived.Test.YtolopbodgkmenaaJ985e8e9e43a3
import Derived.Test.YtolopbodgkmenaaJ36938a1b8a46

namespace Go.Proofs.Ytolopbodgkmenaa
open Go Go.AM Go.RowKit Go.ChangeShapes
set_option maxRecDepth 100000

theorem states_lifted (os : Os) (started : os.Started) (H : Type) (enc : TypeId × Value → H) :
    ReturnsInHanded {} Try.checked os 4 .any (Rows.parserStatesSpec.pre6 enc Try.prog Try.f4 Rows.parserStatesRow.domain false) (Rows.parserStatesSpec.post enc Try.prog Try.f4 false true false false) := by
  refine lift (C := Try.checked) (shs := [codeSh]) (tb := 4) own laidOut started (by kernel_rfl) Try.func4
    (ChangeSpec.witness6 (enc := enc) (C := Try.checked) false ⟨#[], #[.agg #[.int .i64 0, .slice none 0 0]], []⟩ 8 (by kernel_rfl) (by kernel_rfl) (by kernel_rfl) (by kernel_rfl))
    (by kernel_rfl) (by kernel_rfl) (by kernel_rfl) (by kernel_rfl) rfl ?_ ?_
  · intro ds hd
    match ds, hd with
    | [d1], _ => rfl
  · intro pv h
    obtain ⟨p1, _, rfl, h1, h⟩ := h.cons
    have := h.zero
    subst this
    obtain ⟨q, ws, rfl, _, hws, _⟩ := code_of h1
    exact p4 q ws hws

theorem states_holds : Rows.ParserStatesSaid :=
  OpenClaim.holds_of_wide 4 Try.f4 rfl rfl rfl rfl rfl rfl rfl ⟨rfl, rfl, rfl, rfl, rfl⟩ rfl rfl rfl rfl rfl (by kernel_rfl) Try.func4 (by kernel_rfl)
    (of_decide_eq_true (by kernel_rfl)) (by unfold Func.isWrapper; first | (rw [if_pos (by decide +kernel)]; kernel_rfl) | (rw [if_neg (by decide +kernel)]; exact ⟨rfl, rfl⟩))
    (fun os started H enc _ => states_lifted os started H enc)
#print axioms states_holds
end Go.Proofs.Ytolopbodgkmenaa
