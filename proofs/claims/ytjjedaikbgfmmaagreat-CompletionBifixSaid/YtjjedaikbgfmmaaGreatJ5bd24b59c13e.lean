/-
  The given statement CompletionBifix, for all arguments, without conditions.
-/
import Derived.Test.YtjjedaikbgfmmaaGreatRows
import Derived.Test.YtjjedaikbgfmmaaGreatJ0d4e1aaf8cc2
import Derived.Test.YtjjedaikbgfmmaaGreatJc5581824d57c

namespace Go.Proofs.YtjjedaikbgfmmaaGreat
open Go Go.AM Go.RowKit Go.ChangeShapes
set_option maxRecDepth 100000

theorem bifix_lifted (os : Os) (started : os.Started) (H : Type) (enc : TypeId × Value → H) :
    ReturnsInHanded {} Tryz.checked os 10 .any (Rows.completionBifixSpec.pre6 enc Tryz.prog Tryz.f10 Rows.completionBifixRow.domain false) (Rows.completionBifixSpec.post enc Tryz.prog Tryz.f10 false true false false) := by
  refine lift (C := Tryz.checked) (shs := [codeSh]) (tb := 4) own laidOut started (by kernel_rfl) Tryz.func10
    (ChangeSpec.witness6 (enc := enc) (C := Tryz.checked) false ⟨#[], #[.agg #[.int .i64 0, .slice none 0 0]], []⟩ 8 (by kernel_rfl) (by kernel_rfl) (by kernel_rfl) (by kernel_rfl))
    (by kernel_rfl) (by kernel_rfl) (by kernel_rfl) (by kernel_rfl) rfl ?_ ?_
  · intro ds hd
    match ds, hd with
    | [d1], _ => rfl
  · intro pv h
    obtain ⟨p1, _, rfl, h1, h⟩ := h.cons
    have := h.zero
    subst this
    obtain ⟨q, ws, rfl, _, hws, _⟩ := code_of h1
    exact b10 q ws hws

theorem bifix_holds : Rows.CompletionBifixSaid :=
  OpenClaim.holds_of_wide 10 Tryz.f10 rfl rfl rfl rfl rfl rfl rfl ⟨rfl, rfl, rfl, rfl, rfl⟩ rfl rfl rfl rfl rfl (by kernel_rfl) Tryz.func10 (by kernel_rfl)
    (of_decide_eq_true (by kernel_rfl)) (by unfold Func.isWrapper; first | (rw [if_pos (by decide +kernel)]; kernel_rfl) | (rw [if_neg (by decide +kernel)]; exact ⟨rfl, rfl⟩))
    (fun os started H enc _ => bifix_lifted os started H enc)
#print axioms bifix_holds
end Go.Proofs.YtjjedaikbgfmmaaGreat
