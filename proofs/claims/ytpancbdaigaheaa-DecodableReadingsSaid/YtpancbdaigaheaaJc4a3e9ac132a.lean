/-
  The given statement DecodableReadings, for all arguments, without conditions.
-/
import Derived.Test.YtpancbdaigaheaaRows
import Derived.Test.YtpancbdaigaheaaJb5c1111b06af

namespace Go.Proofs.Ytpancbdaigaheaa
open Go Go.AM Go.RowKit Go.ChangeShapes
set_option maxRecDepth 100000

theorem readings_lifted (os : Os) (started : os.Started) (H : Type) (enc : TypeId × Value → H) :
    ReturnsInHanded {} Try.checked os 11 .any (Rows.decodableReadingsSpec.pre6 enc Try.prog Try.f11 Rows.decodableReadingsRow.domain false) (Rows.decodableReadingsSpec.post enc Try.prog Try.f11 false true false false) := by
  refine lift (C := Try.checked) (shs := [codeSh, .str]) (tb := 4) own laidOut started (by kernel_rfl) Try.func11
    (ChangeSpec.witness6 (enc := enc) (C := Try.checked) false ⟨#[], #[.agg #[.int .i64 0, .slice none 0 0], .string ⟨#[]⟩], []⟩ 8 (by kernel_rfl) (by kernel_rfl) (by kernel_rfl) (by kernel_rfl))
    (by kernel_rfl) (by kernel_rfl) (by kernel_rfl) (by kernel_rfl) rfl ?_ ?_
  · intro ds hd
    match ds, hd with
    | [d1, d2], _ => rfl
  · intro pv h
    obtain ⟨p1, _, rfl, h1, h⟩ := h.cons
    obtain ⟨p2, _, rfl, h2, h⟩ := h.cons
    have := h.zero
    subst this
    obtain ⟨q, ws, rfl, _, hws, _⟩ := code_of h1
    cases h2 with
    | str w hw => exact t11g q ws w hws

theorem readings_holds : Rows.DecodableReadingsSaid :=
  OpenClaim.holds_of_wide 11 Try.f11 rfl rfl rfl rfl rfl rfl rfl ⟨rfl, rfl, rfl, rfl, rfl⟩ rfl rfl rfl rfl rfl (by kernel_rfl) Try.func11 (by kernel_rfl)
    (of_decide_eq_true (by kernel_rfl)) (by unfold Func.isWrapper; first | (rw [if_pos (by decide +kernel)]; kernel_rfl) | (rw [if_neg (by decide +kernel)]; exact ⟨rfl, rfl⟩))
    (fun os started H enc _ => readings_lifted os started H enc)
#print axioms readings_holds
end Go.Proofs.Ytpancbdaigaheaa
