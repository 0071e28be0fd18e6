/-
  The given statement ParserReads, for all arguments, without conditions.
-/
import Derived.Test.YtolopbodgkmenaaJ665c12459058
import Derived.Test.YtolopbodgkmenaaJ565fe036894d

namespace Go.Proofs.Ytolopbodgkmenaa
open Go Go.AM Go.RowKit Go.ChangeShapes
set_option maxRecDepth 100000

theorem reads_lifted (os : Os) (started : os.Started) (H : Type) (enc : TypeId × Value → H) :
    ReturnsInHanded {} Try.checked os 5 .any (Rows.parserReadsSpec.pre6 enc Try.prog Try.f5 Rows.parserReadsRow.domain false) (Rows.parserReadsSpec.post enc Try.prog Try.f5 false true false false) := by
  refine lift (C := Try.checked) (shs := [codeSh, parSh, .int .i64, .str, .str]) (tb := 4) own laidOut started (by kernel_rfl) Try.func5
    (ChangeSpec.witness6 (enc := enc) (C := Try.checked) false ⟨#[], #[.agg #[.int .i64 0, .slice none 0 0], .agg #[.int .i64 0, .slice none 0 0, .slice none 0 0, .slice none 0 0], .int .i64 0, .string ⟨#[]⟩, .string ⟨#[]⟩], []⟩ 8 (by kernel_rfl) (by kernel_rfl) (by kernel_rfl) (by kernel_rfl))
    (by kernel_rfl) (by kernel_rfl) (by kernel_rfl) (by kernel_rfl) rfl ?_ ?_
  · intro ds hd
    match ds, hd with
    | [d1, d2, d3, d4, d5], _ => rfl
  · intro pv h
    obtain ⟨p1, _, rfl, h1, h⟩ := h.cons
    obtain ⟨p2, _, rfl, h2, h⟩ := h.cons
    obtain ⟨p3, _, rfl, h3, h⟩ := h.cons
    obtain ⟨p4, _, rfl, h4, h⟩ := h.cons
    obtain ⟨p5', _, rfl, h5, h⟩ := h.cons
    have := h.zero
    subst this
    obtain ⟨q, ws, rfl, _, hws, _⟩ := code_of h1
    obtain ⟨r, P, N, E, rfl⟩ := par_of h2
    cases h3 with
    | int _ s hs =>
      cases h4 with
      | str w hw =>
        cases h5 with
        | str x hx => exact p5 q ws r P N E s w x hws

theorem reads_holds : Rows.ParserReadsSaid :=
  OpenClaim.holds_of_wide 5 Try.f5 rfl rfl rfl rfl rfl rfl rfl ⟨rfl, rfl, rfl, rfl, rfl⟩ rfl rfl rfl rfl rfl (by kernel_rfl) Try.func5 (by kernel_rfl)
    (of_decide_eq_true (by kernel_rfl)) (by unfold Func.isWrapper; first | (rw [if_pos (by decide +kernel)]; kernel_rfl) | (rw [if_neg (by decide +kernel)]; exact ⟨rfl, rfl⟩))
    (fun os started H enc _ => reads_lifted os started H enc)
#print axioms reads_holds
end Go.Proofs.Ytolopbodgkmenaa
