/-
  Texts of this claim, joined.
-/
import Derived.Shelf.Sort.Plain
import Derived.Test.YtpljmccnfmkmfaaGreatProg

namespace Go.Proofs
open Go.Shelf
def Tryz.sortO_ren : Go.Shelf.Ren := ⟨fun | 190 => 197 | 125 => 186 | 258 => 240 | 128 => 202 | 129 => 235 | 302 => 266 | 303 => 267 | 304 => 268 | 305 => 269 | 306 => 270 | 307 => 271 | 308 => 272 | 309 => 273 | 310 => 274 | 333 => 278 | 329 => 256 | 330 => 257 | 334 => 279 | 335 => 280 | 336 => 281 | 344 => 282 | n => n, fun | 31 => 22 | 9 => 9 | 3 => 3 | 46 => 137 | 0 => 0 | 51 => 136 | 53 => 134 | 4 => 4 | 183 => 196 | 182 => 195 | 131 => 200 | 5 => 5 | 218 => 217 | 222 => 221 | 228 => 232 | 229 => 233 | n => n, fun | n => n⟩
theorem Tryz.sortO : Go.Proofs.Lays.n190 Tryz.prog Tryz.sortO_ren := {
  mixed := by kernel_rfl
  f125 := Tryz.func186.trans (congrArg some (by kernel_rfl))
  f128 := Tryz.func202.trans (congrArg some (by kernel_rfl))
  f129 := Tryz.func235.trans (congrArg some (by kernel_rfl))
  f190 := Tryz.func197.trans (congrArg some (by kernel_rfl))
  f258 := Tryz.func240.trans (congrArg some (by kernel_rfl))
  f302 := Tryz.func266.trans (congrArg some (by kernel_rfl))
  f303 := Tryz.func267.trans (congrArg some (by kernel_rfl))
  f304 := Tryz.func268.trans (congrArg some (by kernel_rfl))
  f305 := Tryz.func269.trans (congrArg some (by kernel_rfl))
  f306 := Tryz.func270.trans (congrArg some (by kernel_rfl))
  f307 := Tryz.func271.trans (congrArg some (by kernel_rfl))
  f308 := Tryz.func272.trans (congrArg some (by kernel_rfl))
  f309 := Tryz.func273.trans (congrArg some (by kernel_rfl))
  f310 := Tryz.func274.trans (congrArg some (by kernel_rfl))
  f329 := Tryz.func256.trans (congrArg some (by kernel_rfl))
  f330 := Tryz.func257.trans (congrArg some (by kernel_rfl))
  f333 := Tryz.func278.trans (congrArg some (by kernel_rfl))
  f334 := Tryz.func279.trans (congrArg some (by kernel_rfl))
  f335 := Tryz.func280.trans (congrArg some (by kernel_rfl))
  f336 := Tryz.func281.trans (congrArg some (by kernel_rfl))
  f344 := Tryz.func282.trans (congrArg some (by kernel_rfl))
  t0 := Tryz.underlying0
  a0 := Tryz.isAgg0
  z0 := Tryz.sizeOf0
  v0 := Tryz.zeroValue0
  t3 := Tryz.underlying3
  a3 := Tryz.isAgg3
  z3 := Tryz.sizeOf3
  v3 := Tryz.zeroValue3
  t4 := Tryz.underlying4
  a4 := Tryz.isAgg4
  z4 := Tryz.sizeOf4
  v4 := Tryz.zeroValue4
  t5 := Tryz.underlying5
  a5 := Tryz.isAgg5
  z5 := Tryz.sizeOf5
  v5 := Tryz.zeroValue5
  t9 := Tryz.underlying9
  a9 := Tryz.isAgg9
  z9 := Tryz.sizeOf9
  v9 := Tryz.zeroValue9
  t31 := Tryz.underlying22
  a31 := Tryz.isAgg22
  z31 := Tryz.sizeOf22
  v31 := Tryz.zeroValue22
  t46 := Tryz.underlying137
  a46 := Tryz.isAgg137
  z46 := Tryz.sizeOf137
  v46 := Tryz.zeroValue137
  t51 := Tryz.underlying136
  a51 := Tryz.isAgg136
  z51 := Tryz.sizeOf136
  v51 := Tryz.zeroValue136
  t53 := Tryz.underlying134
  a53 := Tryz.isAgg134
  z53 := Tryz.sizeOf134
  v53 := Tryz.zeroValue134
  t131 := Tryz.underlying200
  a131 := Tryz.isAgg200
  z131 := Tryz.sizeOf200
  v131 := Tryz.zeroValue200
  t182 := Tryz.underlying195
  a182 := Tryz.isAgg195
  z182 := Tryz.sizeOf195
  v182 := Tryz.zeroValue195
  t183 := Tryz.underlying196
  a183 := Tryz.isAgg196
  z183 := Tryz.sizeOf196
  v183 := Tryz.zeroValue196
  t218 := Tryz.underlying217
  a218 := Tryz.isAgg217
  z218 := Tryz.sizeOf217
  v218 := Tryz.zeroValue217
  t222 := Tryz.underlying221
  a222 := Tryz.isAgg221
  z222 := Tryz.sizeOf221
  v222 := Tryz.zeroValue221
  t228 := Tryz.underlying232
  a228 := Tryz.isAgg232
  z228 := Tryz.sizeOf232
  v228 := Tryz.zeroValue232
  t229 := Tryz.underlying233
  a229 := Tryz.isAgg233
  z229 := Tryz.sizeOf233
  v229 := Tryz.zeroValue233 }
end Go.Proofs
