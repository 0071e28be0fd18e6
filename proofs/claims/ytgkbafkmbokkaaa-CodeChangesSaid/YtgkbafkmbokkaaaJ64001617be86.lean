/-
  The given statement CodeChanges, for all arguments, without conditions.
-/
import Derived.Test.YtgkbafkmbokkaaaRows
import Derived.Test.YtgkbafkmbokkaaaJ7bf4b1d7a58f

namespace Go.Proofs.Ytgkbafkmbokkaaa
open Go Go.AM Go.RowKit Go.ChangeShapes
set_option maxRecDepth 100000

theorem changes_lifted (os : Os) (started : os.Started) (H : Type) (enc : TypeId × Value → H) :
    ReturnsInHanded {} Try.checked os 4 .any (Rows.codeChangesSpec.pre6 enc Try.prog Try.f4 Rows.codeChangesRow.domain false) (Rows.codeChangesSpec.post enc Try.prog Try.f4 false true false false) := by
  refine lift (C := Try.checked) (shs := [codeSh, codeSh]) (tb := 4) own laidOut started (by kernel_rfl) Try.func4
    (ChangeSpec.witness6 (enc := enc) (C := Try.checked) false ⟨#[], #[.agg #[.int .i64 0, .slice none 0 0], .agg #[.int .i64 0, .slice none 0 0]], []⟩ 8 (by kernel_rfl) (by kernel_rfl) (by kernel_rfl) (by kernel_rfl))
    (by kernel_rfl) (by kernel_rfl) (by kernel_rfl) (by kernel_rfl) rfl ?_ ?_
  · intro ds hd
    match ds, hd with
    | [d1, d2], _ => rfl
  · intro pv h
    obtain ⟨p1, _, rfl, h1, h⟩ := h.cons
    obtain ⟨p2, _, rfl, h2, h⟩ := h.cons
    have := h.zero
    subst this
    obtain ⟨p, cs, rfl, _, hcs, _⟩ := code_of h1
    obtain ⟨q, ds, rfl, _, hds, _⟩ := code_of h2
    exact u4 p q cs ds hcs hds

theorem changes_holds : Rows.CodeChangesSaid :=
  OpenClaim.holds_of_wide 4 Try.f4 rfl rfl rfl rfl rfl rfl rfl ⟨rfl, rfl, rfl, rfl, rfl⟩ rfl rfl rfl rfl rfl (by kernel_rfl) Try.func4 (by kernel_rfl)
    (of_decide_eq_true (by kernel_rfl)) (by unfold Func.isWrapper; first | (rw [if_pos (by decide +kernel)]; kernel_rfl) | (rw [if_neg (by decide +kernel)]; exact ⟨rfl, rfl⟩))
    (fun os started H enc _ => changes_lifted os started H enc)
#print axioms changes_holds
end Go.Proofs.Ytgkbafkmbokkaaa
