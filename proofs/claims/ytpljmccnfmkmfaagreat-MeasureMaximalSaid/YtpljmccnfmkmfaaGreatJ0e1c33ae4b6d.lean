/-
  Texts of this claim, joined.
-/
import Derived.Test.YtpljmccnfmkmfaaGreatJd3464cd513bf

set_option linter.unusedSimpArgs false
set_option maxRecDepth 1000000
namespace Go.Proofs.YtpljmccnfmkmfaaGreat
open Go Go.AM

theorem ratB1 : ((List.range 18).all fun d => ratOk (runEP ⟨Tryz.prog, Γ, axR⟩ ptA 2000 57 [.p (.int .i64 1), .p (.int .i64 ((1 + d + 1 : Nat) : Int))]) 1 (1 + d + 1)) = true := by kernel_rfl
theorem ratB2 : ((List.range 18).all fun d => ratOk (runEP ⟨Tryz.prog, Γ, axR⟩ ptA 2000 57 [.p (.int .i64 2), .p (.int .i64 ((2 + d + 1 : Nat) : Int))]) 2 (2 + d + 1)) = true := by kernel_rfl
theorem ratB3 : ((List.range 18).all fun d => ratOk (runEP ⟨Tryz.prog, Γ, axR⟩ ptA 2000 57 [.p (.int .i64 3), .p (.int .i64 ((3 + d + 1 : Nat) : Int))]) 3 (3 + d + 1)) = true := by kernel_rfl
end Go.Proofs.YtpljmccnfmkmfaaGreat
