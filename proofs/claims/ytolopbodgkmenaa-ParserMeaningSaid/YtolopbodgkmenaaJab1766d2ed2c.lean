/-
  The given statement ParserMeaning, for all arguments, without conditions.
-/
import Derived.Test.YtolopbodgkmenaaJ985e8e9e43a3
import Derived.Test.YtolopbodgkmenaaJ6982489f0391

namespace Go.Proofs.Ytolopbodgkmenaa
open Go Go.AM Go.RowKit Go.ChangeShapes
set_option maxRecDepth 100000

theorem meaning_lifted (os : Os) (started : os.Started) (H : Type) (enc : TypeId × Value → H) :
    ReturnsInHanded {} Try.checked os 6 .any (Rows.parserMeaningSpec.pre6 enc Try.prog Try.f6 Rows.parserMeaningRow.domain false) (Rows.parserMeaningSpec.post enc Try.prog Try.f6 false true false false) := by
  refine lift (C := Try.checked) (shs := [codeSh, .str]) (tb := 4) own laidOut started (by kernel_rfl) Try.func6
    (ChangeSpec.witness6 (enc := enc) (C := Try.checked) false ⟨#[], #[.agg #[.int .i64 0, .slice none 0 0], .string ⟨#[]⟩], []⟩ 8 (by kernel_rfl) (by kernel_rfl) (by kernel_rfl) (by kernel_rfl))
    (by kernel_rfl) (by kernel_rfl) (by kernel_rfl) (by kernel_rfl) rfl ?_ ?_
  · intro ds hd
    match ds, hd with
    | [d1, d2], _ => rfl
  · intro pv h
    obtain ⟨p1, _, rfl, h1, h⟩ := h.cons
    obtain ⟨p2, _, rfl, h2, h⟩ := h.cons
    have := h.zero
    subst this
    obtain ⟨q, ws, rfl, _, hws, _⟩ := code_of h1
    cases h2 with
    | str w hw => exact p6 q ws w hws

theorem meaning_holds : Rows.ParserMeaningSaid :=
  OpenClaim.holds_of_wide 6 Try.f6 rfl rfl rfl rfl rfl rfl rfl ⟨rfl, rfl, rfl, rfl, rfl⟩ rfl rfl rfl rfl rfl (by kernel_rfl) Try.func6 (by kernel_rfl)
    (of_decide_eq_true (by kernel_rfl)) (by unfold Func.isWrapper; first | (rw [if_pos (by decide +kernel)]; kernel_rfl) | (rw [if_neg (by decide +kernel)]; exact ⟨rfl, rfl⟩))
    (fun os started H enc _ => meaning_lifted os started H enc)
#print axioms meaning_holds
end Go.Proofs.Ytolopbodgkmenaa
