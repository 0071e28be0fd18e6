/-
  The given statement CompletionWords, for all arguments, without conditions.
-/
import Derived.Test.YtpljmccnfmkmfaaGreatRows
import Derived.Test.YtpljmccnfmkmfaaGreatJa7eb13b5efb9
import Derived.Test.YtpljmccnfmkmfaaGreatJf0db6f010d77

namespace Go.Proofs.YtpljmccnfmkmfaaGreat
open Go Go.AM Go.RowKit Go.ChangeShapes
set_option maxRecDepth 100000

theorem words_lifted (os : Os) (started : os.Started) (H : Type) (enc : TypeId × Value → H) :
    ReturnsInHanded {} Tryz.checked os 3 .any (Rows.completionWordsSpec.pre6 enc Tryz.prog Tryz.f3 Rows.completionWordsRow.domain false) (Rows.completionWordsSpec.post enc Tryz.prog Tryz.f3 false true false false) := by
  refine lift (C := Tryz.checked) (shs := [codeSh, .int .i64]) (tb := 4) own laidOut started (by kernel_rfl) Tryz.func3
    (ChangeSpec.witness6 (enc := enc) (C := Tryz.checked) false ⟨#[], #[.agg #[.int .i64 0, .slice none 0 0], .int .i64 0], []⟩ 8 (by kernel_rfl) (by kernel_rfl) (by kernel_rfl) (by kernel_rfl))
    (by kernel_rfl) (by kernel_rfl) (by kernel_rfl) (by kernel_rfl) rfl ?_ ?_
  · intro ds hd
    match ds, hd with
    | [d1, d2], _ => rfl
  · intro pv h
    obtain ⟨p1, _, rfl, h1, h⟩ := h.cons
    obtain ⟨p2, _, rfl, h2, h⟩ := h.cons
    have := h.zero
    subst this
    obtain ⟨q, ws, rfl, _, hws, _⟩ := code_of h1
    cases h2 with
    | int _ n hn => exact b3 q ws n hws

theorem words_holds : Rows.CompletionWordsSaid :=
  OpenClaim.holds_of_wide 3 Tryz.f3 rfl rfl rfl rfl rfl rfl rfl ⟨rfl, rfl, rfl, rfl, rfl⟩ rfl rfl rfl rfl rfl (by kernel_rfl) Tryz.func3 (by kernel_rfl)
    (of_decide_eq_true (by kernel_rfl)) (by unfold Func.isWrapper; first | (rw [if_pos (by decide +kernel)]; kernel_rfl) | (rw [if_neg (by decide +kernel)]; exact ⟨rfl, rfl⟩))
    (fun os started H enc _ => words_lifted os started H enc)
#print axioms words_holds
end Go.Proofs.YtpljmccnfmkmfaaGreat
