/-
  The given statement CompletionEmbeds, for all arguments, without conditions.
-/
import Derived.Test.YtjjedaikbgfmmaaGreatRows
import Derived.Test.YtjjedaikbgfmmaaGreatJ7f3542453af6
import Derived.Test.YtjjedaikbgfmmaaGreatJ3ace7574147c

namespace Go.Proofs.YtjjedaikbgfmmaaGreat
open Go Go.AM Go.RowKit Go.ChangeShapes
set_option maxRecDepth 100000

theorem embeds_lifted (os : Os) (started : os.Started) (H : Type) (enc : TypeId × Value → H) :
    ReturnsInHanded {} Tryz.checked os 7 .any (Rows.completionEmbedsSpec.pre6 enc Tryz.prog Tryz.f7 Rows.completionEmbedsRow.domain false) (Rows.completionEmbedsSpec.post enc Tryz.prog Tryz.f7 false true false false) := by
  refine lift (C := Tryz.checked) (shs := [codeSh, .int .u8]) (tb := 4) own laidOut started (by kernel_rfl) Tryz.func7
    (ChangeSpec.witness6 (enc := enc) (C := Tryz.checked) false ⟨#[], #[.agg #[.int .i64 0, .slice none 0 0], .int .u8 0], []⟩ 8 (by kernel_rfl) (by kernel_rfl) (by kernel_rfl) (by kernel_rfl))
    (by kernel_rfl) (by kernel_rfl) (by kernel_rfl) (by kernel_rfl) rfl ?_ ?_
  · intro ds hd
    match ds, hd with
    | [d1, d2], _ => rfl
  · intro pv h
    obtain ⟨p1, _, rfl, h1, h⟩ := h.cons
    obtain ⟨p2, _, rfl, h2, h⟩ := h.cons
    have := h.zero
    subst this
    obtain ⟨q, ws, rfl, _, hws, _⟩ := code_of h1
    cases h2 with
    | int k n hn =>
      have hn : 0 ≤ n ∧ n ≤ 255 := by simpa only [InR] using hn
      exact b7 q ws n hws hn.1 hn.2

theorem embeds_holds : Rows.CompletionEmbedsSaid :=
  OpenClaim.holds_of_wide 7 Tryz.f7 rfl rfl rfl rfl rfl rfl rfl ⟨rfl, rfl, rfl, rfl, rfl⟩ rfl rfl rfl rfl rfl (by kernel_rfl) Tryz.func7 (by kernel_rfl)
    (of_decide_eq_true (by kernel_rfl)) (by unfold Func.isWrapper; first | (rw [if_pos (by decide +kernel)]; kernel_rfl) | (rw [if_neg (by decide +kernel)]; exact ⟨rfl, rfl⟩))
    (fun os started H enc _ => embeds_lifted os started H enc)
#print axioms embeds_holds
end Go.Proofs.YtjjedaikbgfmmaaGreat
