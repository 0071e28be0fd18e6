/-
  Texts of this claim, joined.
-/
import Derived.Test.YtpljmccnfmkmfaaRows
import Derived.Test.YtpljmccnfmkmfaaJdccf5d7f6a6b

set_option maxRecDepth 100000
namespace Go.Proofs.Ytpljmccnfmkmfaa
open Go Go.AM Go.RowKit Go.ChangeShapes

theorem Z8d (os : Os) (started : os.Started) (H : Type) (enc : TypeId × Value → H) :
    ReturnsInHanded {} Try.checked os 5 .any (Rows.decodableLeastSpec.pre6 enc Try.prog Try.f5 Rows.decodableLeastRow.domain false) (Rows.decodableLeastSpec.post enc Try.prog Try.f5 false true false false) := by
  refine lift (C := Try.checked) (shs := [Zhv]) (tb := 4) own Zjg started (by kernel_rfl) Try.func5
    (ChangeSpec.witness6 (enc := enc) (C := Try.checked) false ⟨#[], #[.agg #[.int .i64 0, .slice none 0 0]], []⟩ 8 (by kernel_rfl) (by kernel_rfl) (by kernel_rfl) (by kernel_rfl))
    (by kernel_rfl) (by kernel_rfl) (by kernel_rfl) (by kernel_rfl) rfl ?_ ?_
  · intro ds hd
    match ds, hd with
    | [d1], _ => rfl
  · intro pv h
    obtain ⟨p1, _, rfl, h1, h⟩ := h.cons; have := h.zero; subst this; obtain ⟨q, ws, rfl, _, hws, _⟩ := Zk0 h1; exact v5 q ws hws

theorem least_holds : Rows.DecodableLeastSaid :=
  OpenClaim.holds_of_wide 5 Try.f5 rfl rfl rfl rfl rfl rfl rfl ⟨rfl, rfl, rfl, rfl, rfl⟩ rfl rfl rfl rfl rfl (by kernel_rfl) Try.func5 (by kernel_rfl)
    (of_decide_eq_true (by kernel_rfl)) (by unfold Func.isWrapper; first | (rw [if_pos (by decide +kernel)]; kernel_rfl) | (rw [if_neg (by decide +kernel)]; exact ⟨rfl, rfl⟩))
    (fun os started H enc _ => Z8d os started H enc)
#print axioms least_holds
end Go.Proofs.Ytpljmccnfmkmfaa
