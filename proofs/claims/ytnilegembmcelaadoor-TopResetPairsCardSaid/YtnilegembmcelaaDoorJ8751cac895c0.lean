/-
  Texts of this claim, joined.
-/
import Derived.Shelf.Sort.Plain
import Derived.Shelf.Slices.In.SortNone
import Derived.Test.YtnilegembmcelaaDoorProg

namespace Go.Proofs
open Go.Shelf
def Tryd.sortO_ren : Go.Shelf.Ren := ⟨fun | 189 => 20 | 125 => 36 | 257 => 35 | 128 => 62 | 129 => 63 | 294 => 53 | 295 => 54 | 296 => 55 | 297 => 56 | 298 => 57 | 299 => 58 | 216 => 59 | 300 => 60 | 301 => 61 | 328 => 76 | 329 => 77 | 330 => 78 | 331 => 79 | 332 => 80 | 215 => 72 | 343 => 92 | n => n, fun | 28 => 53 | 3 => 3 | 46 => 73 | 0 => 0 | 51 => 97 | 53 => 99 | 4 => 4 | 183 => 90 | 182 => 89 | 131 => 82 | 5 => 5 | 9 => 9 | 218 => 104 | 222 => 108 | 228 => 117 | 229 => 118 | n => n, fun | n => n⟩
theorem Tryd.sortO : Go.Proofs.Lays.n189 Tryd.prog Tryd.sortO_ren := {
  mixed := by kernel_rfl
  f125 := Tryd.func36.trans (congrArg some (by kernel_rfl))
  f128 := Tryd.func62.trans (congrArg some (by kernel_rfl))
  f129 := Tryd.func63.trans (congrArg some (by kernel_rfl))
  f189 := Tryd.func20.trans (congrArg some (by kernel_rfl))
  f215 := Tryd.func72.trans (congrArg some (by kernel_rfl))
  f216 := Tryd.func59.trans (congrArg some (by kernel_rfl))
  f257 := Tryd.func35.trans (congrArg some (by kernel_rfl))
  f294 := Tryd.func53.trans (congrArg some (by kernel_rfl))
  f295 := Tryd.func54.trans (congrArg some (by kernel_rfl))
  f296 := Tryd.func55.trans (congrArg some (by kernel_rfl))
  f297 := Tryd.func56.trans (congrArg some (by kernel_rfl))
  f298 := Tryd.func57.trans (congrArg some (by kernel_rfl))
  f299 := Tryd.func58.trans (congrArg some (by kernel_rfl))
  f300 := Tryd.func60.trans (congrArg some (by kernel_rfl))
  f301 := Tryd.func61.trans (congrArg some (by kernel_rfl))
  f328 := Tryd.func76.trans (congrArg some (by kernel_rfl))
  f329 := Tryd.func77.trans (congrArg some (by kernel_rfl))
  f330 := Tryd.func78.trans (congrArg some (by kernel_rfl))
  f331 := Tryd.func79.trans (congrArg some (by kernel_rfl))
  f332 := Tryd.func80.trans (congrArg some (by kernel_rfl))
  f343 := Tryd.func92.trans (congrArg some (by kernel_rfl))
  t0 := Tryd.underlying0
  a0 := Tryd.isAgg0
  z0 := Tryd.sizeOf0
  v0 := Tryd.zeroValue0
  t3 := Tryd.underlying3
  a3 := Tryd.isAgg3
  z3 := Tryd.sizeOf3
  v3 := Tryd.zeroValue3
  t4 := Tryd.underlying4
  a4 := Tryd.isAgg4
  z4 := Tryd.sizeOf4
  v4 := Tryd.zeroValue4
  t5 := Tryd.underlying5
  a5 := Tryd.isAgg5
  z5 := Tryd.sizeOf5
  v5 := Tryd.zeroValue5
  t9 := Tryd.underlying9
  a9 := Tryd.isAgg9
  z9 := Tryd.sizeOf9
  v9 := Tryd.zeroValue9
  t28 := Tryd.underlying53
  a28 := Tryd.isAgg53
  z28 := Tryd.sizeOf53
  v28 := Tryd.zeroValue53
  t46 := Tryd.underlying73
  a46 := Tryd.isAgg73
  z46 := Tryd.sizeOf73
  v46 := Tryd.zeroValue73
  t51 := Tryd.underlying97
  a51 := Tryd.isAgg97
  z51 := Tryd.sizeOf97
  v51 := Tryd.zeroValue97
  t53 := Tryd.underlying99
  a53 := Tryd.isAgg99
  z53 := Tryd.sizeOf99
  v53 := Tryd.zeroValue99
  t131 := Tryd.underlying82
  a131 := Tryd.isAgg82
  z131 := Tryd.sizeOf82
  v131 := Tryd.zeroValue82
  t182 := Tryd.underlying89
  a182 := Tryd.isAgg89
  z182 := Tryd.sizeOf89
  v182 := Tryd.zeroValue89
  t183 := Tryd.underlying90
  a183 := Tryd.isAgg90
  z183 := Tryd.sizeOf90
  v183 := Tryd.zeroValue90
  t218 := Tryd.underlying104
  a218 := Tryd.isAgg104
  z218 := Tryd.sizeOf104
  v218 := Tryd.zeroValue104
  t222 := Tryd.underlying108
  a222 := Tryd.isAgg108
  z222 := Tryd.sizeOf108
  v222 := Tryd.zeroValue108
  t228 := Tryd.underlying117
  a228 := Tryd.isAgg117
  z228 := Tryd.sizeOf117
  v228 := Tryd.zeroValue117
  t229 := Tryd.underlying118
  a229 := Tryd.isAgg118
  z229 := Tryd.sizeOf118
  v229 := Tryd.zeroValue118 }
end Go.Proofs
