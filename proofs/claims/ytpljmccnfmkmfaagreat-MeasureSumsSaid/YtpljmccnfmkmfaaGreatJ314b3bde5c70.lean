/-
  Texts of this claim, joined.
-/
import Derived.Shelf.SlSortCmp.NoneTotal
import Derived.Shelf.SlGeneric
import Derived.Ground.SlsfProg
import Derived.Test.YtpljmccnfmkmfaaGreatProg
import Derived.Test.YtpljmccnfmkmfaaGreatJ4011be2ffc9f
import Derived.Test.YtpljmccnfmkmfaaGreatJf769cdf4d129

set_option linter.unusedSimpArgs false
set_option maxRecDepth 100000
section
namespace Go.Proofs
open Go.Shelf
end Go.Proofs
end

section
namespace Go.Proofs.YtpljmccnfmkmfaaGreat
open Go Go.AM

def encW (x : List UInt8) : Value := .string ⟨x.toArray⟩
end Go.Proofs.YtpljmccnfmkmfaaGreat
end

section
namespace Go.Proofs.YtpljmccnfmkmfaaGreat
open Go Go.AM Go.RowKit

theorem Z4l (l : List (List UInt8)) : Z03 (l.map .str) = l.map .str := by
  induction l with
  | nil => rfl
  | cons x l ih =>
    have e : Z03 ((x :: l).map PV.str) = PV.str x :: Z03 (l.map .str) := rfl; rw [e, ih]; rfl
theorem Zg9 {I : Nat → Prop} {w : World} {x : List UInt8} {v : Value} (h : PR I w (.str x) v) : v = encW x := by
  cases h with | str s => rfl
theorem Zem {I : Nat → Prop} {w : World} (x : List UInt8) : PR I w (.str x) (encW x) := .mkStr (by simp)


end Go.Proofs.YtpljmccnfmkmfaaGreat
end

