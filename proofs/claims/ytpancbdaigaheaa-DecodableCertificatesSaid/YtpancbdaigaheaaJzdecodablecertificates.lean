/-
  The given statement DecodableCertificates: with an accepted proof no message is ambiguous, with an accepted ambiguity the code is not decodable, and a proof remains one with a further word from which nothing follows. For all codes, ambiguities and lists, without conditions.
-/
import Derived.Test.YtpancbdaigaheaaRows
import Derived.Test.YtpancbdaigaheaaJqdecodablecertificates

namespace Go.Proofs.Ytpancbdaigaheaa
open Go Go.AM Go.RowKit Go.ChangeShapes
set_option maxRecDepth 100000

theorem certificates_lifted (os : Os) (started : os.Started) (H : Type) (enc : TypeId × Value → H) :
    ReturnsInHanded {} Try.checked os 8 .any (Rows.decodableCertificatesSpec.pre6 enc Try.prog Try.f8 Rows.decodableCertificatesRow.domain false) (Rows.decodableCertificatesSpec.post enc Try.prog Try.f8 false true false false) := by
  refine lift (C := Try.checked) (shs := [codeSh, ambSh, .sl .str]) (tb := 4) own laidOut started (by kernel_rfl) Try.func8
    (ChangeSpec.witness6 (enc := enc) (C := Try.checked) false ⟨#[], #[.agg #[.int .i64 0, .slice none 0 0], .agg #[.string ⟨#[]⟩, .slice none 0 0, .slice none 0 0], .slice none 0 0], []⟩ 8 (by kernel_rfl) (by kernel_rfl) (by kernel_rfl) (by kernel_rfl))
    (by kernel_rfl) (by kernel_rfl) (by kernel_rfl) (by kernel_rfl) rfl ?_ ?_
  · intro ds hd
    match ds, hd with
    | [d1, d2, d3], _ => rfl
  · intro pv h
    obtain ⟨p1, _, rfl, h1, h⟩ := h.cons
    obtain ⟨p2, _, rfl, h2, h⟩ := h.cons
    obtain ⟨p3, _, rfl, h3, h⟩ := h.cons
    have := h.zero
    subst this
    obtain ⟨q, ws, rfl, _, hws, _⟩ := code_of h1
    obtain ⟨m, a, b, rfl, _, ha, hb⟩ := amb_of h2
    obtain ⟨l, rfl, hl, _⟩ := words_of h3
    exact t8 q ws m a b l hws ha hb hl

theorem certificates_holds : Rows.DecodableCertificatesSaid :=
  OpenClaim.holds_of_wide 8 Try.f8 rfl rfl rfl rfl rfl rfl rfl ⟨rfl, rfl, rfl, rfl, rfl⟩ rfl rfl rfl rfl rfl (by kernel_rfl) Try.func8 (by kernel_rfl)
    (of_decide_eq_true (by kernel_rfl)) (by unfold Func.isWrapper; first | (rw [if_pos (by decide +kernel)]; kernel_rfl) | (rw [if_neg (by decide +kernel)]; exact ⟨rfl, rfl⟩))
    (fun os started H enc _ => certificates_lifted os started H enc)
#print axioms certificates_holds
end Go.Proofs.Ytpancbdaigaheaa
