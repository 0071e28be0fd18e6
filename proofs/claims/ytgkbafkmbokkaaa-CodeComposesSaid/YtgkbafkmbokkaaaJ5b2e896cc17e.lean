/-
  The given statement CodeComposes, for all arguments, without conditions.
-/
import Derived.Test.YtgkbafkmbokkaaaRows
import Derived.Test.YtgkbafkmbokkaaaJbd26ef440519

namespace Go.Proofs.Ytgkbafkmbokkaaa
open Go Go.AM Go.RowKit Go.ChangeShapes
set_option maxRecDepth 100000

theorem composes_lifted (os : Os) (started : os.Started) (H : Type) (enc : TypeId × Value → H) :
    ReturnsInHanded {} Try.checked os 9 .any (Rows.codeComposesSpec.pre6 enc Try.prog Try.f9 Rows.codeComposesRow.domain false) (Rows.codeComposesSpec.post enc Try.prog Try.f9 false true false false) := by
  refine lift (C := Try.checked) (shs := [codeSh, codeSh]) (tb := 4) own laidOut started (by kernel_rfl) Try.func9
    (ChangeSpec.witness6 (enc := enc) (C := Try.checked) false ⟨#[], #[.agg #[.int .i64 0, .slice none 0 0], .agg #[.int .i64 0, .slice none 0 0]], []⟩ 8 (by kernel_rfl) (by kernel_rfl) (by kernel_rfl) (by kernel_rfl))
    (by kernel_rfl) (by kernel_rfl) (by kernel_rfl) (by kernel_rfl) rfl ?_ ?_
  · intro ds hd
    match ds, hd with
    | [d1, d2], _ => rfl
  · intro pv h
    obtain ⟨p1, _, rfl, h1, h⟩ := h.cons
    obtain ⟨p2, _, rfl, h2, h⟩ := h.cons
    have := h.zero
    subst this
    obtain ⟨p, cs, rfl, _, hcs, _⟩ := code_of h1
    obtain ⟨q, ds, rfl, _, hds, _⟩ := code_of h2
    exact u9 p q cs ds hcs hds

theorem composes_holds : Rows.CodeComposesSaid :=
  OpenClaim.holds_of_wide 9 Try.f9 rfl rfl rfl rfl rfl rfl rfl ⟨rfl, rfl, rfl, rfl, rfl⟩ rfl rfl rfl rfl rfl (by kernel_rfl) Try.func9 (by kernel_rfl)
    (of_decide_eq_true (by kernel_rfl)) (by unfold Func.isWrapper; first | (rw [if_pos (by decide +kernel)]; kernel_rfl) | (rw [if_neg (by decide +kernel)]; exact ⟨rfl, rfl⟩))
    (fun os started H enc _ => composes_lifted os started H enc)
#print axioms composes_holds
end Go.Proofs.Ytgkbafkmbokkaaa
