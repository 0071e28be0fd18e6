/-
  Texts of this claim, joined.
-/
import Derived.Test.YtpljmccnfmkmfaaGreatJdb080b7e5952

set_option linter.unusedSimpArgs false
set_option maxRecDepth 1000000
namespace Go.Proofs.YtpljmccnfmkmfaaGreat
open Go Go.AM

theorem comE : (Zav ⟨Tryz.prog, Γ, axA⟩ ptA 2000 32 [.p (.agg [.int .i64 2, .sl [.str [48], .str [48, 49], .str [49, 49]]])]).bind AV.pvT = some (.tup [.p (.bool true), .p (.int .i64 0)]) := by kernel_rfl
theorem com_c : PFn Tryz.prog 32 [.agg [.int .i64 2, .sl [.str [48], .str [48, 49], .str [49, 49]]]] [.bool true, .int .i64 0] := by
  obtain ⟨v, h1, h2⟩ := Option.bind_eq_some_iff.1 comE; exact .of_acP ((Z4c hEA h1).monoR fun u h' ⟨e1, e2⟩ => ⟨by rw [e1]; exact h2, e2⟩)
theorem uncE : (Zav ⟨Tryz.prog, Γ, axA⟩ ptA 2000 36 [.p (.agg [.int .i64 2, .sl [.str [48, 48], .str [49, 49]]]), .p (.int .i64 5)]).bind AV.pvT = some (.tup [.p (.str [48, 49, 48]), .p (.bool true), .p (.int .i64 0)]) := by kernel_rfl
theorem unc_d : PFn Tryz.prog 36 [.agg [.int .i64 2, .sl [.str [48, 48], .str [49, 49]]], .int .i64 5] [.str [48, 49, 48], .bool true, .int .i64 0] := by
  obtain ⟨v, h1, h2⟩ := Option.bind_eq_some_iff.1 uncE; exact .of_acP ((Z4c hEA h1).monoR fun u h' ⟨e1, e2⟩ => ⟨by rw [e1]; exact h2, e2⟩)
end Go.Proofs.YtpljmccnfmkmfaaGreat
