/-
  The given statement CompletionWhole, for all arguments, without conditions.
-/
import Derived.Test.YtjjedaikbgfmmaaGreatRows
import Derived.Test.YtjjedaikbgfmmaaGreatJ7f3542453af6
import Derived.Test.YtjjedaikbgfmmaaGreatJ860bb9acc020

namespace Go.Proofs.YtjjedaikbgfmmaaGreat
open Go Go.AM Go.RowKit Go.ChangeShapes
set_option maxRecDepth 100000

theorem whole_lifted (os : Os) (started : os.Started) (H : Type) (enc : TypeId × Value → H) :
    ReturnsInHanded {} Tryz.checked os 6 .any (Rows.completionWholeSpec.pre6 enc Tryz.prog Tryz.f6 Rows.completionWholeRow.domain false) (Rows.completionWholeSpec.post enc Tryz.prog Tryz.f6 false true false false) := by
  refine lift (C := Tryz.checked) (shs := [codeSh]) (tb := 4) own laidOut started (by kernel_rfl) Tryz.func6
    (ChangeSpec.witness6 (enc := enc) (C := Tryz.checked) false ⟨#[], #[.agg #[.int .i64 0, .slice none 0 0]], []⟩ 8 (by kernel_rfl) (by kernel_rfl) (by kernel_rfl) (by kernel_rfl))
    (by kernel_rfl) (by kernel_rfl) (by kernel_rfl) (by kernel_rfl) rfl ?_ ?_
  · intro ds hd
    match ds, hd with
    | [d1], _ => rfl
  · intro pv h
    obtain ⟨p1, _, rfl, h1, h⟩ := h.cons
    have := h.zero
    subst this
    obtain ⟨q, ws, rfl, _, hws, _⟩ := code_of h1
    exact b6 q ws hws

theorem whole_holds : Rows.CompletionWholeSaid :=
  OpenClaim.holds_of_wide 6 Tryz.f6 rfl rfl rfl rfl rfl rfl rfl ⟨rfl, rfl, rfl, rfl, rfl⟩ rfl rfl rfl rfl rfl (by kernel_rfl) Tryz.func6 (by kernel_rfl)
    (of_decide_eq_true (by kernel_rfl)) (by unfold Func.isWrapper; first | (rw [if_pos (by decide +kernel)]; kernel_rfl) | (rw [if_neg (by decide +kernel)]; exact ⟨rfl, rfl⟩))
    (fun os started H enc _ => whole_lifted os started H enc)
#print axioms whole_holds
end Go.Proofs.YtjjedaikbgfmmaaGreat
