/-
  The given statement CodeSums, for all arguments, without conditions.
-/
import Derived.Test.YtgkbafkmbokkaaaRows
import Derived.Test.YtgkbafkmbokkaaaJe4dfe1dd1332

namespace Go.Proofs.Ytgkbafkmbokkaaa
open Go Go.AM Go.RowKit Go.ChangeShapes
set_option maxRecDepth 100000

theorem sums_lifted (os : Os) (started : os.Started) (H : Type) (enc : TypeId × Value → H) :
    ReturnsInHanded {} Try.checked os 7 .any (Rows.codeSumsSpec.pre6 enc Try.prog Try.f7 Rows.codeSumsRow.domain false) (Rows.codeSumsSpec.post enc Try.prog Try.f7 false true false false) := by
  refine lift (C := Try.checked) (shs := [codeSh, .str, .str]) (tb := 4) own laidOut started (by kernel_rfl) Try.func7
    (ChangeSpec.witness6 (enc := enc) (C := Try.checked) false ⟨#[], #[.agg #[.int .i64 0, .slice none 0 0], .string ⟨#[]⟩, .string ⟨#[]⟩], []⟩ 8 (by kernel_rfl) (by kernel_rfl) (by kernel_rfl) (by kernel_rfl))
    (by kernel_rfl) (by kernel_rfl) (by kernel_rfl) (by kernel_rfl) rfl ?_ ?_
  · intro ds hd
    match ds, hd with
    | [d1, d2, d3], _ => rfl
  · intro pv h
    obtain ⟨p1, _, rfl, h1, h⟩ := h.cons
    obtain ⟨p2, _, rfl, h2, h⟩ := h.cons
    obtain ⟨p3, _, rfl, h3, h⟩ := h.cons
    have := h.zero
    subst this
    obtain ⟨q, ws, rfl, _, hws, _⟩ := code_of h1
    cases h2 with
    | str u hu =>
      cases h3 with
      | str v hv => exact u7 q ws u v hws

theorem sums_holds : Rows.CodeSumsSaid :=
  OpenClaim.holds_of_wide 7 Try.f7 rfl rfl rfl rfl rfl rfl rfl ⟨rfl, rfl, rfl, rfl, rfl⟩ rfl rfl rfl rfl rfl (by kernel_rfl) Try.func7 (by kernel_rfl)
    (of_decide_eq_true (by kernel_rfl)) (by unfold Func.isWrapper; first | (rw [if_pos (by decide +kernel)]; kernel_rfl) | (rw [if_neg (by decide +kernel)]; exact ⟨rfl, rfl⟩))
    (fun os started H enc _ => sums_lifted os started H enc)
#print axioms sums_holds
end Go.Proofs.Ytgkbafkmbokkaaa
