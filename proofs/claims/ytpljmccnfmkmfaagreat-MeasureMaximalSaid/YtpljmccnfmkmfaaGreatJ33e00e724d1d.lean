/-
  Texts of this claim, joined.
-/
import Derived.Test.YtpljmccnfmkmfaaGreatJd3464cd513bf

set_option linter.unusedSimpArgs false
set_option maxRecDepth 1000000
namespace Go.Proofs.YtpljmccnfmkmfaaGreat
open Go Go.AM

theorem ratB4 : ((List.range 18).all fun d => ratOk (runEP ⟨Tryz.prog, Γ, axR⟩ ptA 2000 57 [.p (.int .i64 4), .p (.int .i64 ((4 + d + 1 : Nat) : Int))]) 4 (4 + d + 1)) = true := by kernel_rfl
theorem ratB5 : ((List.range 18).all fun d => ratOk (runEP ⟨Tryz.prog, Γ, axR⟩ ptA 2000 57 [.p (.int .i64 5), .p (.int .i64 ((5 + d + 1 : Nat) : Int))]) 5 (5 + d + 1)) = true := by kernel_rfl
theorem ratB6 : ((List.range 18).all fun d => ratOk (runEP ⟨Tryz.prog, Γ, axR⟩ ptA 2000 57 [.p (.int .i64 6), .p (.int .i64 ((6 + d + 1 : Nat) : Int))]) 6 (6 + d + 1)) = true := by kernel_rfl
end Go.Proofs.YtpljmccnfmkmfaaGreat
