/-
  The given statement DecodableSuffixes: each dangling suffix is a proper end of a word, empty only if the code is not decodable, they are in strict order, and what follows from each is among them. For all codes, without conditions.
-/
import Derived.Test.YtpancbdaigaheaaRows
import Derived.Test.YtpancbdaigaheaaGs
import Derived.Test.YtpancbdaigaheaaHq
namespace Go.Proofs.Ytpancbdaigaheaa
open Go Go.AM Go.RowKit Go.ChangeShapes
set_option maxRecDepth 100000

theorem suffixes_lifted (os : Os) (started : os.Started) (H : Type) (enc : TypeId × Value → H) :
    ReturnsInHanded {} Try.checked os 3 .any (Rows.decodableSuffixesSpec.pre6 enc Try.prog Try.f3 Rows.decodableSuffixesRow.domain false) (Rows.decodableSuffixesSpec.post enc Try.prog Try.f3 false true false false) := by
  refine lift (C := Try.checked) (shs := [codeSh]) (tb := 4) own laidOut started (by kernel_rfl) Try.func3
    (ChangeSpec.witness6 (enc := enc) (C := Try.checked) false ⟨#[], #[.agg #[.int .i64 0, .slice none 0 0]], []⟩ 8 (by kernel_rfl) (by kernel_rfl) (by kernel_rfl) (by kernel_rfl))
    (by kernel_rfl) (by kernel_rfl) (by kernel_rfl) (by kernel_rfl) rfl ?_ ?_
  · intro ds hd
    match ds, hd with
    | [d1], _ => rfl
  · intro pv h
    obtain ⟨p1, _, rfl, h1, h⟩ := h.cons
    have := h.zero
    subst this
    obtain ⟨q, ws, rfl, _, hws, _⟩ := code_of h1
    exact t3 q ws hws

theorem suffixes_holds : Rows.DecodableSuffixesSaid :=
  OpenClaim.holds_of_wide 3 Try.f3 rfl rfl rfl rfl rfl rfl rfl ⟨rfl, rfl, rfl, rfl, rfl⟩ rfl rfl rfl rfl rfl (by kernel_rfl) Try.func3 (by kernel_rfl)
    (of_decide_eq_true (by kernel_rfl)) (by unfold Func.isWrapper; first | (rw [if_pos (by decide +kernel)]; kernel_rfl) | (rw [if_neg (by decide +kernel)]; exact ⟨rfl, rfl⟩))
    (fun os started H enc _ => suffixes_lifted os started H enc)
#print axioms suffixes_holds
end Go.Proofs.Ytpancbdaigaheaa
