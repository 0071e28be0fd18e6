/-
  The given statement DecodablePrefixes: a prefix code has no dangling suffixes and other codes have some, and a code is decodable exactly if the reversed one is. For all codes, without conditions.
-/
import Derived.Test.YtpancbdaigaheaaRows
import Derived.Test.YtpancbdaigaheaaJqdecodableprefixes

namespace Go.Proofs.Ytpancbdaigaheaa
open Go Go.AM Go.RowKit Go.ChangeShapes
set_option maxRecDepth 100000

theorem prefixes_lifted (os : Os) (started : os.Started) (H : Type) (enc : TypeId × Value → H) :
    ReturnsInHanded {} Try.checked os 9 .any (Rows.decodablePrefixesSpec.pre6 enc Try.prog Try.f9 Rows.decodablePrefixesRow.domain false) (Rows.decodablePrefixesSpec.post enc Try.prog Try.f9 false true false false) := by
  refine lift (C := Try.checked) (shs := [codeSh]) (tb := 4) own laidOut started (by kernel_rfl) Try.func9
    (ChangeSpec.witness6 (enc := enc) (C := Try.checked) false ⟨#[], #[.agg #[.int .i64 0, .slice none 0 0]], []⟩ 8 (by kernel_rfl) (by kernel_rfl) (by kernel_rfl) (by kernel_rfl))
    (by kernel_rfl) (by kernel_rfl) (by kernel_rfl) (by kernel_rfl) rfl ?_ ?_
  · intro ds hd
    match ds, hd with
    | [d1], _ => rfl
  · intro pv h
    obtain ⟨p1, _, rfl, h1, h⟩ := h.cons
    have := h.zero
    subst this
    obtain ⟨q, ws, rfl, _, hws, _⟩ := code_of h1
    exact t9 q ws hws

theorem prefixes_holds : Rows.DecodablePrefixesSaid :=
  OpenClaim.holds_of_wide 9 Try.f9 rfl rfl rfl rfl rfl rfl rfl ⟨rfl, rfl, rfl, rfl, rfl⟩ rfl rfl rfl rfl rfl (by kernel_rfl) Try.func9 (by kernel_rfl)
    (of_decide_eq_true (by kernel_rfl)) (by unfold Func.isWrapper; first | (rw [if_pos (by decide +kernel)]; kernel_rfl) | (rw [if_neg (by decide +kernel)]; exact ⟨rfl, rfl⟩))
    (fun os started H enc _ => prefixes_lifted os started H enc)
#print axioms prefixes_holds
end Go.Proofs.Ytpancbdaigaheaa
