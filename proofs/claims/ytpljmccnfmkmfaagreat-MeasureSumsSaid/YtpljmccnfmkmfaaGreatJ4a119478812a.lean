/-
  Texts of this claim, joined.
-/
import Derived.Test.YtpljmccnfmkmfaaGreatJ5dd30d06378a

set_option linter.unusedSimpArgs false
set_option maxRecDepth 1000000
namespace Go.Proofs.YtpljmccnfmkmfaaGreat
open Go Go.AM

theorem r11E : (Zav ⟨Tryz.prog, Γ, axA⟩ ptA 2000 57 [.p (.int .i64 1), .p (.int .i64 1)]).bind AV.pvT = some (.p (.agg [.bool false, .str [1], .bool false, .str [1]])) := by kernel_rfl
theorem r11 : PFn Tryz.prog 57 [.int .i64 1, .int .i64 1] [.agg [.bool false, .str [1], .bool false, .str [1]]] := by
  obtain ⟨v, h1, h2⟩ := Option.bind_eq_some_iff.1 r11E; exact .of_acP ((Z4c hEA h1).monoR fun u h' ⟨e1, e2⟩ => ⟨by rw [e1]; exact h2, e2⟩)
theorem r12E : (Zav ⟨Tryz.prog, Γ, axA⟩ ptA 2000 57 [.p (.int .i64 1), .p (.int .i64 2)]).bind AV.pvT = some (.p (.agg [.bool false, .str [1], .bool false, .str [2]])) := by kernel_rfl
theorem r12 : PFn Tryz.prog 57 [.int .i64 1, .int .i64 2] [.agg [.bool false, .str [1], .bool false, .str [2]]] := by
  obtain ⟨v, h1, h2⟩ := Option.bind_eq_some_iff.1 r12E; exact .of_acP ((Z4c hEA h1).monoR fun u h' ⟨e1, e2⟩ => ⟨by rw [e1]; exact h2, e2⟩)
theorem decE : (Zav ⟨Tryz.prog, Γ, axA⟩ ptA 2000 55 [.p (.agg [.int .i64 2, .sl [.str [48], .str [48, 49], .str [49, 49]]])]).bind AV.pvT = some (.tup [.p (.bool true), .p (.int .i64 0)]) := by kernel_rfl
theorem dec_c : PFn Tryz.prog 55 [.agg [.int .i64 2, .sl [.str [48], .str [48, 49], .str [49, 49]]]] [.bool true, .int .i64 0] := by
  obtain ⟨v, h1, h2⟩ := Option.bind_eq_some_iff.1 decE; exact .of_acP ((Z4c hEA h1).monoR fun u h' ⟨e1, e2⟩ => ⟨by rw [e1]; exact h2, e2⟩)
theorem max_c : PFn Tryz.prog 38 [.agg [.int .i64 2, .sl [.str [48], .str [48, 49], .str [49, 49]]]] [.bool true, .int .i64 0] := by
  have e1 := dec_c; have e2 := of_c; have e3 := Zqk; refine PFn.of_body hΓ Tryz.func38 (by kernel_rfl) rfl (Wd [(7, 5)] ?_); simp -implicitDefEqProofs only [Tryz.ntmps38, Tryz.results38, Nat.reduceAdd, Nat.reduceSub, go_sem]; refine Z0 e1 (.owned rfl rfl) ?_; simp -implicitDefEqProofs only [go_sem]; refine Z0 e2 (.owned rfl rfl) ?_; simp -implicitDefEqProofs only [go_sem]; refine Z1 e3 (.still rfl) ?_; simp -implicitDefEqProofs only [go_sem]; refine aggR rfl rfl ?_; simp -implicitDefEqProofs only [go_sem]
theorem Znf : PFn Tryz.prog 31 [] [.bool true] := by
  have e1 := of_c; have e2 := of_d; have e3 := com_c; have e4 := max_c; have e5 := unc_d; have f1 := cm14 2 [1, 2, 2] (by decide) (by decide) (by decide) (by decide); have f2 := cm14 2 [1, 1, 2] (by decide) (by decide) (by decide) (by decide); rw [decide_eq_true (show Kn.krS 2 [1, 2, 2] ≤ 2 ^ 32 by decide)] at f1; rw [decide_eq_false (show ¬ Kn.krS 2 [1, 1, 2] ≤ 2 ^ 32 by decide)] at f2; have g1 := r11; have g2 := r12; have s3 : ∀ a b c : PV, a.cells.length = 1 → b.cells.length = 1 → c.cells.length = 1 → Zu [a, b, c] 1 := fun a b c h1 h2 h3 => by simp [Zu, h1, h2, h3]
  refine PFn.of_body hΓ Tryz.func31 (by kernel_rfl) rfl (Wd [(10, 40)] ?_); simp -implicitDefEqProofs only [Tryz.ntmps31, Tryz.results31, Nat.reduceAdd, Nat.reduceSub, go_sem]; refine ⟨⟨s3 _ _ _ rfl rfl rfl, by decide⟩, by decide, ⟨by simp [Zu, PV.cells], by decide⟩, by decide, ?_⟩; refine Z0 e1 (.owned rfl rfl) ?_; simp -implicitDefEqProofs only [go_sem]; refine Z0 e2 (.owned rfl rfl) ?_; simp -implicitDefEqProofs only [go_sem]; refine Z0 e3 (.owned rfl rfl) ?_; simp -implicitDefEqProofs only [go_sem]; refine Z0 e4 (.owned rfl rfl) ?_; simp -implicitDefEqProofs only [go_sem]; refine Z0 e5 (.owned rfl rfl) ?_; simp -implicitDefEqProofs only [go_sem]; have f1 : PFn Tryz.prog 46 [.int .i64 2, .sl [.int .i64 1, .int .i64 2, .int .i64 2]] [.bool true, .int .i64 0] := f1; have f2 : PFn Tryz.prog 46 [.int .i64 2, .sl [.int .i64 1, .int .i64 1, .int .i64 2]] [.bool false, .int .i64 0] := f2; refine ⟨⟨s3 _ _ _ rfl rfl rfl, by decide⟩, ?_⟩; refine Z0 f1 (.owned rfl rfl) ?_; simp -implicitDefEqProofs only [go_sem]; refine ⟨⟨s3 _ _ _ rfl rfl rfl, by decide⟩, ?_⟩; refine Z0 f2 (.owned rfl rfl) ?_; simp -implicitDefEqProofs only [ite_self, Int.lt_irrefl, if_false, go_sem]; refine Z1 g1 (.still rfl) ?_; simp -implicitDefEqProofs only [go_sem]; refine aggR rfl rfl ?_; simp -implicitDefEqProofs only [go_sem]; refine Z1 g2 (.still rfl) ?_; simp -implicitDefEqProofs only [go_sem]; refine aggR rfl rfl ?_; simp -implicitDefEqProofs only [go_sem]
end Go.Proofs.YtpljmccnfmkmfaaGreat
