/-
  Texts of this claim, joined.
-/
import Derived.Test.YtnilegembmcelaaDoorJ6f8a81100f23
import Derived.Test.YtnilegembmcelaaDoorCards
import Derived.Test.YtnilegembmcelaaDoorTie
import Derived.SevenTiedAt

namespace Go.Proofs.YtnilegembmcelaaDoor
open Go

theorem card_holds : Rows.TopResetPairsCardSaid :=
  Claim7.holds_tied_plain_at .later [] [.data, .data] true (true, "fd8cd4135d0ac8c9ed4f168f2fc1216684c53e13209d41745683e19d857e2144") false
    Z40 (fun _ h => by cases h) (by kernel_rfl) (fun _ h => by cases h) topResetPairs_row_tie rfl ⟨rfl, rfl⟩ (by kernel_rfl) rfl
    (fun f fn hf hfn => by
      obtain rfl : f = 3 := Option.some.inj ((show Tryd.prog.funcNamed "groove/groovetop.TopResetPairs" = some 3 by kernel_rfl).symm.trans hf) |>.symm; obtain rfl : fn = Tryd.f3 := (Option.some.inj (Tryd.func3.symm.trans hfn)).symm; exact ⟨by kernel_rfl, fun j t ht => by
        rw [Tryd.params3] at ht; have hm : t ∈ [24] := by simpa using Array.mem_of_getElem? ht
        have hall : ([24].all fun u => !Tryd.prog.wantsStandIn u) = true := by kernel_rfl
        exact (show Tryd.prog.wantsStandIn t = false by simpa using List.all_eq_true.1 hall t hm)⟩)
    (by kernel_rfl)
#print axioms card_holds
end Go.Proofs.YtnilegembmcelaaDoor
