/-
  Texts of this claim, joined.
-/
import Derived.Shelf.Spec.TrailingZeros
import Derived.Ground.Names7Prog
import Derived.Test.YtnilegembmcelaaDoorProg

namespace Go.Proofs
open Go.Shelf
def Tryd.tzS_ren : Go.Shelf.Ren := ⟨fun | 27 => 52 | 28 => 74 | 29 => 75 | n => n, fun | 25 => 73 | 3 => 3 | 27 => 97 | 22 => 99 | 4 => 4 | 53 => 115 | 0 => 0 | 5 => 5 | 54 => 116 | n => n, fun | 0 => 0 | 1 => 1 | n => n⟩
theorem Tryd.tzS : Go.Proofs.Lays7.n27 Tryd.prog Tryd.tzS_ren := {
  mixed := by kernel_rfl
  f27 := Tryd.func52.trans (congrArg some (by kernel_rfl))
  f28 := Tryd.func74.trans (congrArg some (by kernel_rfl))
  f29 := Tryd.func75.trans (congrArg some (by kernel_rfl))
  t0 := Tryd.underlying0
  a0 := Tryd.isAgg0
  z0 := Tryd.sizeOf0
  v0 := Tryd.zeroValue0
  i0 := by kernel_rfl
  t3 := Tryd.underlying3
  a3 := Tryd.isAgg3
  z3 := Tryd.sizeOf3
  v3 := Tryd.zeroValue3
  i3 := by kernel_rfl
  t4 := Tryd.underlying4
  a4 := Tryd.isAgg4
  z4 := Tryd.sizeOf4
  v4 := Tryd.zeroValue4
  i4 := by kernel_rfl
  t5 := Tryd.underlying5
  a5 := Tryd.isAgg5
  z5 := Tryd.sizeOf5
  v5 := Tryd.zeroValue5
  i5 := by kernel_rfl
  t22 := Tryd.underlying99
  a22 := Tryd.isAgg99
  z22 := Tryd.sizeOf99
  v22 := Tryd.zeroValue99
  i22 := by kernel_rfl
  t25 := Tryd.underlying73
  a25 := Tryd.isAgg73
  z25 := Tryd.sizeOf73
  v25 := Tryd.zeroValue73
  i25 := by kernel_rfl
  t27 := Tryd.underlying97
  a27 := Tryd.isAgg97
  z27 := Tryd.sizeOf97
  v27 := Tryd.zeroValue97
  i27 := by kernel_rfl
  t53 := Tryd.underlying115
  a53 := Tryd.isAgg115
  z53 := Tryd.sizeOf115
  v53 := Tryd.zeroValue115
  i53 := by kernel_rfl
  t54 := Tryd.underlying116
  a54 := Tryd.isAgg116
  z54 := Tryd.sizeOf116
  g0 := by kernel_rfl
  g1 := by kernel_rfl }
end Go.Proofs
