/-
  The given statement CompletionPrefixed, for all arguments, without conditions.
-/
import Derived.Test.YtjjedaikbgfmmaaGreatRows
import Derived.Test.YtjjedaikbgfmmaaGreatJ7f3542453af6
import Derived.Test.YtjjedaikbgfmmaaGreatJ186e8683b12f

namespace Go.Proofs.YtjjedaikbgfmmaaGreat
open Go Go.AM Go.RowKit Go.ChangeShapes
set_option maxRecDepth 100000

theorem prefixed_lifted (os : Os) (started : os.Started) (H : Type) (enc : TypeId × Value → H) :
    ReturnsInHanded {} Tryz.checked os 11 .any (Rows.completionPrefixedSpec.pre6 enc Tryz.prog Tryz.f11 Rows.completionPrefixedRow.domain false) (Rows.completionPrefixedSpec.post enc Tryz.prog Tryz.f11 false true false false) := by
  refine lift (C := Tryz.checked) (shs := [codeSh]) (tb := 4) own laidOut started (by kernel_rfl) Tryz.func11
    (ChangeSpec.witness6 (enc := enc) (C := Tryz.checked) false ⟨#[], #[.agg #[.int .i64 0, .slice none 0 0]], []⟩ 8 (by kernel_rfl) (by kernel_rfl) (by kernel_rfl) (by kernel_rfl))
    (by kernel_rfl) (by kernel_rfl) (by kernel_rfl) (by kernel_rfl) rfl ?_ ?_
  · intro ds hd
    match ds, hd with
    | [d1], _ => rfl
  · intro pv h
    obtain ⟨p1, _, rfl, h1, h⟩ := h.cons
    have := h.zero
    subst this
    obtain ⟨q, ws, rfl, _, hws, _⟩ := code_of h1
    exact b11 q ws hws

theorem prefixed_holds : Rows.CompletionPrefixedSaid :=
  OpenClaim.holds_of_wide 11 Tryz.f11 rfl rfl rfl rfl rfl rfl rfl ⟨rfl, rfl, rfl, rfl, rfl⟩ rfl rfl rfl rfl rfl (by kernel_rfl) Tryz.func11 (by kernel_rfl)
    (of_decide_eq_true (by kernel_rfl)) (by unfold Func.isWrapper; first | (rw [if_pos (by decide +kernel)]; kernel_rfl) | (rw [if_neg (by decide +kernel)]; exact ⟨rfl, rfl⟩))
    (fun os started H enc _ => prefixed_lifted os started H enc)
#print axioms prefixed_holds
end Go.Proofs.YtjjedaikbgfmmaaGreat
