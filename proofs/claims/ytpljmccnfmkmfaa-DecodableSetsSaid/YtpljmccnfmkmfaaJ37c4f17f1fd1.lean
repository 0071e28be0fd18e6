/-
  Texts of this claim, joined.
-/
import Derived.Test.YtpljmccnfmkmfaaRows
import Derived.Test.YtpljmccnfmkmfaaJ26e01fea858e

set_option maxRecDepth 100000
namespace Go.Proofs.Ytpljmccnfmkmfaa
open Go Go.AM Go.RowKit Go.ChangeShapes

theorem Z9g (os : Os) (started : os.Started) (H : Type) (enc : TypeId × Value → H) :
    ReturnsInHanded {} Try.checked os 3 .any (Rows.decodableSetsSpec.pre6 enc Try.prog Try.f3 Rows.decodableSetsRow.domain false) (Rows.decodableSetsSpec.post enc Try.prog Try.f3 false true false false) := by
  refine lift (C := Try.checked) (shs := [Zi5, .int .i64]) (tb := 4) own Zjp started (by kernel_rfl) Try.func3
    (ChangeSpec.witness6 (enc := enc) (C := Try.checked) false ⟨#[], #[.agg #[.int .i64 0, .slice none 0 0], .int .i64 0], []⟩ 8 (by kernel_rfl) (by kernel_rfl) (by kernel_rfl) (by kernel_rfl))
    (by kernel_rfl) (by kernel_rfl) (by kernel_rfl) (by kernel_rfl) rfl ?_ ?_
  · intro ds hd
    match ds, hd with
    | [d1, d2], _ => rfl
  · intro pv h
    obtain ⟨p1, _, rfl, h1, h⟩ := h.cons; obtain ⟨p2, _, rfl, h2, h⟩ := h.cons; have := h.zero; subst this; obtain ⟨q, ws, rfl, _, hws, _⟩ := Zka h1
    cases h2 with
    | int _ n hn => exact v3 q n ws hws

theorem sets_holds : Rows.DecodableSetsSaid :=
  OpenClaim.holds_of_wide 3 Try.f3 rfl rfl rfl rfl rfl rfl rfl ⟨rfl, rfl, rfl, rfl, rfl⟩ rfl rfl rfl rfl rfl (by kernel_rfl) Try.func3 (by kernel_rfl)
    (of_decide_eq_true (by kernel_rfl)) (by unfold Func.isWrapper; first | (rw [if_pos (by decide +kernel)]; kernel_rfl) | (rw [if_neg (by decide +kernel)]; exact ⟨rfl, rfl⟩))
    (fun os started H enc _ => Z9g os started H enc)
#print axioms sets_holds
end Go.Proofs.Ytpljmccnfmkmfaa
