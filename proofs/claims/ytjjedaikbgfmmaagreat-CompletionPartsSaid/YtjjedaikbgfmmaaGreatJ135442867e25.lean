/-
  The given statement CompletionParts, for all arguments, without conditions.
-/
import Derived.Test.YtjjedaikbgfmmaaGreatRows
import Derived.Test.YtjjedaikbgfmmaaGreatJ0d4e1aaf8cc2
import Derived.Test.YtjjedaikbgfmmaaGreatJ51a941995bde

namespace Go.Proofs.YtjjedaikbgfmmaaGreat
open Go Go.AM Go.RowKit Go.ChangeShapes
set_option maxRecDepth 100000

theorem parts_lifted (os : Os) (started : os.Started) (H : Type) (enc : TypeId × Value → H) :
    ReturnsInHanded {} Tryz.checked os 9 .any (Rows.completionPartsSpec.pre6 enc Tryz.prog Tryz.f9 Rows.completionPartsRow.domain false) (Rows.completionPartsSpec.post enc Tryz.prog Tryz.f9 false true false false) := by
  refine lift (C := Tryz.checked) (shs := [codeSh, .sl (.int .i64)]) (tb := 4) own laidOut started (by kernel_rfl) Tryz.func9
    (ChangeSpec.witness6 (enc := enc) (C := Tryz.checked) false ⟨#[], #[.agg #[.int .i64 0, .slice none 0 0], .slice none 0 0], []⟩ 8 (by kernel_rfl) (by kernel_rfl) (by kernel_rfl) (by kernel_rfl))
    (by kernel_rfl) (by kernel_rfl) (by kernel_rfl) (by kernel_rfl) rfl ?_ ?_
  · intro ds hd
    match ds, hd with
    | [d1, d2], _ => rfl
  · intro pv h
    obtain ⟨p1, _, rfl, h1, h⟩ := h.cons
    obtain ⟨p2, _, rfl, h2, h⟩ := h.cons
    have := h.zero
    subst this
    obtain ⟨q, ws, rfl, _, hws, _⟩ := code_of h1
    obtain ⟨l, rfl, hl, _⟩ := nums_of h2
    exact b9 q ws l hws hl

theorem parts_holds : Rows.CompletionPartsSaid :=
  OpenClaim.holds_of_wide 9 Tryz.f9 rfl rfl rfl rfl rfl rfl rfl ⟨rfl, rfl, rfl, rfl, rfl⟩ rfl rfl rfl rfl rfl (by kernel_rfl) Tryz.func9 (by kernel_rfl)
    (of_decide_eq_true (by kernel_rfl)) (by unfold Func.isWrapper; first | (rw [if_pos (by decide +kernel)]; kernel_rfl) | (rw [if_neg (by decide +kernel)]; exact ⟨rfl, rfl⟩))
    (fun os started H enc _ => parts_lifted os started H enc)
#print axioms parts_holds
end Go.Proofs.YtjjedaikbgfmmaaGreat
