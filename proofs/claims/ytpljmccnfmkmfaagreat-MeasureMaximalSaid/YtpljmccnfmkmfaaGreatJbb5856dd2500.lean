/-
  Texts of this claim, joined.
-/
import Derived.Test.YtpljmccnfmkmfaaGreatJd3464cd513bf

set_option linter.unusedSimpArgs false
set_option maxRecDepth 1000000
namespace Go.Proofs.YtpljmccnfmkmfaaGreat
open Go Go.AM

theorem ratB7 : ((List.range 18).all fun d => ratOk (runEP ⟨Tryz.prog, Γ, axR⟩ ptA 2000 57 [.p (.int .i64 7), .p (.int .i64 ((7 + d + 1 : Nat) : Int))]) 7 (7 + d + 1)) = true := by kernel_rfl
theorem ratB8 : ((List.range 18).all fun d => ratOk (runEP ⟨Tryz.prog, Γ, axR⟩ ptA 2000 57 [.p (.int .i64 8), .p (.int .i64 ((8 + d + 1 : Nat) : Int))]) 8 (8 + d + 1)) = true := by kernel_rfl
theorem ratB9 : ((List.range 18).all fun d => ratOk (runEP ⟨Tryz.prog, Γ, axR⟩ ptA 2000 57 [.p (.int .i64 9), .p (.int .i64 ((9 + d + 1 : Nat) : Int))]) 9 (9 + d + 1)) = true := by kernel_rfl
end Go.Proofs.YtpljmccnfmkmfaaGreat
