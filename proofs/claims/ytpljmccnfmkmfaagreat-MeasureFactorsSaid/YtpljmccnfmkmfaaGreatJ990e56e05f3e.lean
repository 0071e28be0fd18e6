/-
  Texts of this claim, joined.
-/
import Derived.Test.YtpljmccnfmkmfaaGreatJ66a54fb3627c
import Derived.Test.YtpljmccnfmkmfaaGreatProg
import Derived.KernelRfl
import Derived.Test.YtpljmccnfmkmfaaGreatJa7f33dd5fec4
import Derived.Test.YtpljmccnfmkmfaaGreatJ3c65ed3673ee
import Derived.Test.YtpljmccnfmkmfaaGreatJ5eec9807ac87

set_option linter.unusedSimpArgs false
set_option maxRecDepth 1000000
set_option maxHeartbeats 4000000
section
namespace Go.Proofs.YtpljmccnfmkmfaaGreat
open Go Go.AM

def Γ : Gam := fun t => match t with
  | 1 => some ⟨.other, 1, 8, some (.cell), false, false⟩
  | 2 => some ⟨.int .i64, 1, 8, some (.p (.int .i64 0)), false, false⟩
  | 3 => some ⟨.int .i64, 1, 8, some (.p (.int .i64 0)), false, false⟩
  | 4 => some ⟨.bool, 1, 1, some (.p (.bool false)), false, false⟩
  | 5 => some ⟨.int .u8, 1, 1, some (.p (.int .u8 0)), false, false⟩
  | 6 => some ⟨.int .u8, 1, 1, some (.p (.int .u8 0)), false, false⟩
  | 7 => some ⟨.struct [(0, 2), (1, 3), (2, 4), (3, 6)], 4, 24, some (.agg [.p (.int .i64 0), .p (.int .i64 0), .p (.bool false), .p (.int .u8 0)]), true, false⟩
  | 8 => some ⟨.struct [(0, 2), (1, 3), (2, 4), (3, 6)], 4, 24, some (.agg [.p (.int .i64 0), .p (.int .i64 0), .p (.bool false), .p (.int .u8 0)]), true, false⟩
  | 9 => some ⟨.str, 1, 16, some (.p (.str [])), false, false⟩
  | 10 => some ⟨.str, 1, 16, some (.p (.str [])), false, false⟩
  | 11 => some ⟨.str, 1, 16, some (.p (.str [])), false, false⟩
  | 12 => some ⟨.int .u64, 1, 8, some (.p (.int .u64 0)), false, false⟩
  | 13 => some ⟨.struct [(0, 9), (1, 12)], 2, 24, some (.agg [.p (.str []), .p (.int .u64 0)]), true, false⟩
  | 14 => some ⟨.struct [(0, 9), (1, 12)], 2, 24, some (.agg [.p (.str []), .p (.int .u64 0)]), true, false⟩
  | 15 => some ⟨.other, 1, 8, some (.cell), false, false⟩
  | 16 => some ⟨.other, 1, 8, some (.cell), false, false⟩
  | 17 => some ⟨.other, 1, 8, some (.cell), false, false⟩
  | 18 => some ⟨.struct [(0, 17)], 1, 8, some (.agg [.cell]), true, false⟩
  | 19 => some ⟨.struct [(0, 17)], 1, 8, some (.agg [.cell]), true, false⟩
  | 21 => some ⟨.int .i32, 1, 4, some (.p (.int .i32 0)), false, false⟩
  | 22 => some ⟨.slice 9, 1, 24, some (.full []), false, false⟩
  | 23 => some ⟨.struct [(0, 3), (1, 22)], 2, 32, some (.agg [.p (.int .i64 0), .full []]), true, false⟩
  | 24 => some ⟨.struct [(0, 3), (1, 22)], 2, 32, some (.agg [.p (.int .i64 0), .full []]), true, false⟩
  | 25 => some ⟨.other, 1, 8, some (.cell), false, false⟩
  | 26 => some ⟨.other, 1, 8, some (.cell), false, false⟩
  | 27 => some ⟨.int .i64, 1, 8, some (.p (.int .i64 0)), false, false⟩
  | 29 => some ⟨.other, 1, 8, some (.cell), false, false⟩
  | 31 => some ⟨.other, 1, 8, some (.cell), false, false⟩
  | 32 => some ⟨.other, 1, 8, some (.cell), false, false⟩
  | 33 => some ⟨.other, 1, 8, some (.cell), false, false⟩
  | 34 => some ⟨.other, 1, 8, some (.cell), false, false⟩
  | 35 => some ⟨.other, 1, 8, some (.cell), false, false⟩
  | 36 => some ⟨.slice 3, 1, 24, some (.full []), false, false⟩
  | 37 => some ⟨.other, 1, 8, some (.cell), false, false⟩
  | 40 => some ⟨.other, 1, 8, some (.cell), false, false⟩
  | 41 => some ⟨.other, 1, 8, some (.cell), false, false⟩
  | 43 => some ⟨.other, 1, 8, some (.cell), false, false⟩
  | 44 => some ⟨.other, 1, 8, some (.cell), false, false⟩
  | 47 => some ⟨.other, 1, 8, some (.cell), false, false⟩
  | 48 => some ⟨.other, 1, 8, some (.cell), false, false⟩
  | 49 => some ⟨.other, 1, 8, some (.cell), false, false⟩
  | 50 => some ⟨.other, 1, 8, some (.cell), false, false⟩
  | 53 => some ⟨.struct [(0, 4), (1, 9)], 2, 24, some (.agg [.p (.bool false), .p (.str [])]), true, true⟩
  | 54 => some ⟨.struct [(0, 53), (2, 53)], 4, 48, some (.agg [.p (.bool false), .p (.str []), .p (.bool false), .p (.str [])]), true, false⟩
  | 55 => some ⟨.struct [(0, 53), (2, 53)], 4, 48, some (.agg [.p (.bool false), .p (.str []), .p (.bool false), .p (.str [])]), true, true⟩
  | 57 => some ⟨.other, 1, 8, some (.cell), false, false⟩
  | 59 => some ⟨.other, 1, 8, some (.cell), false, false⟩
  | 60 => some ⟨.other, 1, 8, some (.cell), false, false⟩
  | 61 => some ⟨.other, 1, 8, some (.cell), false, false⟩
  | 63 => some ⟨.other, 1, 8, some (.cell), false, false⟩
  | 64 => some ⟨.other, 1, 8, some (.cell), false, false⟩
  | 65 => some ⟨.slice 5, 1, 24, some (.full []), false, false⟩
  | 67 => some ⟨.other, 1, 8, some (.cell), false, false⟩
  | 68 => some ⟨.other, 1, 8, some (.cell), false, false⟩
  | 70 => some ⟨.other, 1, 8, some (.cell), false, false⟩
  | 75 => some ⟨.other, 1, 8, some (.cell), false, false⟩
  | 76 => some ⟨.other, 1, 8, some (.cell), false, false⟩
  | 77 => some ⟨.other, 1, 8, some (.cell), false, false⟩
  | 78 => some ⟨.other, 1, 8, some (.cell), false, false⟩
  | 79 => some ⟨.other, 1, 8, some (.cell), false, false⟩
  | 80 => some ⟨.other, 1, 8, some (.cell), false, false⟩
  | 81 => some ⟨.other, 1, 8, some (.cell), false, false⟩
  | 82 => some ⟨.other, 1, 8, some (.cell), false, false⟩
  | 83 => some ⟨.other, 1, 8, some (.cell), false, false⟩
  | 84 => some ⟨.other, 1, 8, some (.cell), false, false⟩
  | 86 => some ⟨.struct [(0, 3), (1, 3)], 2, 16, some (.agg [.p (.int .i64 0), .p (.int .i64 0)]), true, false⟩
  | 87 => some ⟨.struct [(0, 3), (1, 3)], 2, 16, some (.agg [.p (.int .i64 0), .p (.int .i64 0)]), true, true⟩
  | 88 => some ⟨.other, 1, 8, some (.cell), false, false⟩
  | 89 => some ⟨.other, 1, 8, some (.cell), false, false⟩
  | 90 => some ⟨.other, 1, 8, some (.cell), false, false⟩
  | 92 => some ⟨.other, 1, 8, some (.cell), false, false⟩
  | 95 => some ⟨.slice 9, 1, 24, some (.full []), false, false⟩
  | 97 => some ⟨.other, 1, 8, some (.cell), false, false⟩
  | 98 => some ⟨.other, 1, 8, some (.cell), false, false⟩
  | 99 => some ⟨.other, 1, 8, some (.cell), false, false⟩
  | 100 => some ⟨.other, 1, 8, some (.cell), false, false⟩
  | 103 => some ⟨.other, 1, 8, some (.cell), false, false⟩
  | 104 => some ⟨.other, 1, 8, some (.cell), false, false⟩
  | 105 => some ⟨.other, 1, 8, some (.cell), false, false⟩
  | 107 => some ⟨.other, 1, 8, some (.cell), false, false⟩
  | 111 => some ⟨.other, 1, 8, some (.cell), false, false⟩
  | 112 => some ⟨.other, 1, 8, some (.cell), false, false⟩
  | 114 => some ⟨.other, 1, 8, some (.cell), false, false⟩
  | 115 => some ⟨.other, 1, 8, some (.cell), false, false⟩
  | 116 => some ⟨.other, 1, 8, some (.cell), false, false⟩
  | 117 => some ⟨.struct [(0, 116), (1, 65)], 2, 32, some (.agg [.cell, .full []]), true, false⟩
  | 118 => some ⟨.struct [(0, 116), (1, 65)], 2, 32, some (.agg [.cell, .full []]), true, false⟩
  | 122 => some ⟨.other, 1, 8, some (.cell), false, false⟩
  | 125 => some ⟨.other, 1, 8, some (.cell), false, false⟩
  | 126 => some ⟨.other, 1, 8, some (.cell), false, false⟩
  | 129 => some ⟨.slice 22, 1, 24, some (.full []), false, false⟩
  | 131 => some ⟨.other, 1, 8, some (.cell), false, false⟩
  | 133 => some ⟨.other, 1, 8, some (.cell), false, false⟩
  | 134 => some ⟨.int .u64, 1, 8, some (.p (.int .u64 0)), false, false⟩
  | 135 => some ⟨.other, 1, 8, some (.cell), false, false⟩
  | 136 => some ⟨.int .u32, 1, 4, some (.p (.int .u32 0)), false, false⟩
  | 137 => some ⟨.int .u64, 1, 8, some (.p (.int .u64 0)), false, false⟩
  | 139 => some ⟨.slice 136, 1, 24, some (.full []), false, false⟩
  | 141 => some ⟨.other, 1, 8, some (.cell), false, false⟩
  | 143 => some ⟨.struct [(0, 95), (1, 9)], 2, 40, some (.agg [.full [], .p (.str [])]), true, false⟩
  | 144 => some ⟨.slice 143, 1, 24, some (.full []), false, false⟩
  | 145 => some ⟨.map 9 4, 1, 8, some (.cell), false, false⟩
  | 148 => some ⟨.other, 1, 8, some (.cell), false, false⟩
  | 150 => some ⟨.other, 1, 8, some (.cell), false, false⟩
  | 154 => some ⟨.other, 1, 8, some (.cell), false, false⟩
  | 160 => some ⟨.other, 1, 8, some (.cell), false, false⟩
  | 168 => some ⟨.other, 1, 8, some (.cell), false, false⟩
  | 169 => some ⟨.other, 1, 8, some (.cell), false, false⟩
  | 171 => some ⟨.other, 1, 8, some (.cell), false, false⟩
  | 173 => some ⟨.other, 1, 8, some (.cell), false, false⟩
  | 175 => some ⟨.other, 1, 8, some (.cell), false, false⟩
  | 178 => some ⟨.other, 1, 8, some (.cell), false, false⟩
  | 184 => some ⟨.other, 1, 8, some (.cell), false, false⟩
  | 185 => some ⟨.other, 1, 8, some (.cell), false, false⟩
  | 186 => some ⟨.other, 1, 8, some (.cell), false, false⟩
  | 188 => some ⟨.other, 1, 8, some (.cell), false, false⟩
  | 189 => some ⟨.other, 1, 8, some (.cell), false, false⟩
  | 190 => some ⟨.other, 1, 8, some (.cell), false, false⟩
  | 192 => some ⟨.other, 1, 8, some (.cell), false, false⟩
  | 194 => some ⟨.other, 1, 8, some (.cell), false, false⟩
  | 195 => some ⟨.int .i64, 1, 8, some (.p (.int .i64 0)), false, false⟩
  | 203 => some ⟨.other, 1, 8, some (.cell), false, false⟩
  | 204 => some ⟨.other, 1, 8, some (.cell), false, false⟩
  | 205 => some ⟨.other, 1, 8, some (.cell), false, false⟩
  | 215 => some ⟨.other, 1, 8, some (.cell), false, false⟩
  | 216 => some ⟨.array 8 5, 8, 8, some (.agg [.p (.int .u8 0), .p (.int .u8 0), .p (.int .u8 0), .p (.int .u8 0), .p (.int .u8 0), .p (.int .u8 0), .p (.int .u8 0), .p (.int .u8 0)]), true, false⟩
  | 217 => some ⟨.int .u64, 1, 8, some (.p (.int .u64 0)), false, false⟩
  | 218 => some ⟨.other, 1, 8, some (.cell), false, false⟩
  | 220 => some ⟨.other, 1, 8, some (.cell), false, false⟩
  | 221 => some ⟨.other, 1, 8, some (.cell), false, false⟩
  | 222 => some ⟨.other, 1, 8, some (.cell), false, false⟩
  | 223 => some ⟨.other, 1, 8, some (.cell), false, false⟩
  | 230 => some ⟨.other, 1, 8, some (.cell), false, false⟩
  | 231 => some ⟨.array 8 9, 8, 128, some (.agg [.p (.str []), .p (.str []), .p (.str []), .p (.str []), .p (.str []), .p (.str []), .p (.str []), .p (.str [])]), true, false⟩
  | 232 => some ⟨.other, 1, 8, some (.cell), false, false⟩
  | 236 => some ⟨.other, 1, 8, some (.cell), false, false⟩
  | 238 => some ⟨.other, 1, 8, some (.cell), false, false⟩
  | 244 => some ⟨.other, 1, 8, some (.cell), false, false⟩
  | 246 => some ⟨.int .u8, 1, 1, some (.p (.int .u8 0)), false, false⟩
  | _ => none

theorem g2 : Γ 2 = some ⟨.int .i64, 1, 8, some (.p (.int .i64 0)), false, false⟩ := rfl
theorem g3 : Γ 3 = some ⟨.int .i64, 1, 8, some (.p (.int .i64 0)), false, false⟩ := rfl
theorem g4 : Γ 4 = some ⟨.bool, 1, 1, some (.p (.bool false)), false, false⟩ := rfl
theorem g5 : Γ 5 = some ⟨.int .u8, 1, 1, some (.p (.int .u8 0)), false, false⟩ := rfl
theorem g9 : Γ 9 = some ⟨.str, 1, 16, some (.p (.str [])), false, false⟩ := rfl
theorem g22 : Γ 22 = some ⟨.slice 9, 1, 24, some (.full []), false, false⟩ := rfl
theorem g24 : Γ 24 = some ⟨.struct [(0, 3), (1, 22)], 2, 32, some (.agg [.p (.int .i64 0), .full []]), true, false⟩ := rfl
theorem g36 : Γ 36 = some ⟨.slice 3, 1, 24, some (.full []), false, false⟩ := rfl
theorem g53 : Γ 53 = some ⟨.struct [(0, 4), (1, 9)], 2, 24, some (.agg [.p (.bool false), .p (.str [])]), true, true⟩ := rfl
theorem g55 : Γ 55 = some ⟨.struct [(0, 53), (2, 53)], 4, 48, some (.agg [.p (.bool false), .p (.str []), .p (.bool false), .p (.str [])]), true, true⟩ := rfl
theorem g65 : Γ 65 = some ⟨.slice 5, 1, 24, some (.full []), false, false⟩ := rfl
theorem g95 : Γ 95 = some ⟨.slice 9, 1, 24, some (.full []), false, false⟩ := rfl
theorem g129 : Γ 129 = some ⟨.slice 22, 1, 24, some (.full []), false, false⟩ := rfl
theorem g134 : Γ 134 = some ⟨.int .u64, 1, 8, some (.p (.int .u64 0)), false, false⟩ := rfl
theorem g136 : Γ 136 = some ⟨.int .u32, 1, 4, some (.p (.int .u32 0)), false, false⟩ := rfl
theorem g137 : Γ 137 = some ⟨.int .u64, 1, 8, some (.p (.int .u64 0)), false, false⟩ := rfl
theorem g139 : Γ 139 = some ⟨.slice 136, 1, 24, some (.full []), false, false⟩ := rfl
theorem g143 : Γ 143 = some ⟨.struct [(0, 95), (1, 9)], 2, 40, some (.agg [.full [], .p (.str [])]), true, false⟩ := rfl
theorem g144 : Γ 144 = some ⟨.slice 143, 1, 24, some (.full []), false, false⟩ := rfl
theorem g145 : Γ 145 = some ⟨.map 9 4, 1, 8, some (.cell), false, false⟩ := rfl
theorem g184 : Γ 184 = some ⟨.other, 1, 8, some (.cell), false, false⟩ := rfl
theorem g231 : Γ 231 = some ⟨.array 8 9, 8, 128, some (.agg [.p (.str []), .p (.str []), .p (.str []), .p (.str []), .p (.str []), .p (.str []), .p (.str []), .p (.str [])]), true, false⟩ := rfl

theorem hΓ : Zz Tryz.prog Γ := by
  intro t te h; unfold Γ at h
  split at h
  · injection h with h; subst h; exact Z3 (zv := .nilFunc) (by kernel_rfl) (by kernel_rfl) rfl
  · injection h with h; subst h; exact Z3 (zv := .int .i64 0) (by kernel_rfl) (by kernel_rfl) rfl
  · injection h with h; subst h; exact Z3 (zv := .int .i64 0) (by kernel_rfl) (by kernel_rfl) rfl
  · injection h with h; subst h; exact Z3 (zv := .bool false) (by kernel_rfl) (by kernel_rfl) rfl
  · injection h with h; subst h; exact Z3 (zv := .int .u8 0) (by kernel_rfl) (by kernel_rfl) rfl
  · injection h with h; subst h; exact Z3 (zv := .int .u8 0) (by kernel_rfl) (by kernel_rfl) rfl
  · injection h with h; subst h; exact Z3 (zv := .agg #[.int .i64 0, .int .i64 0, .bool false, .int .u8 0]) (by kernel_rfl) (by kernel_rfl) rfl
  · injection h with h; subst h; exact Z3 (zv := .agg #[.int .i64 0, .int .i64 0, .bool false, .int .u8 0]) (by kernel_rfl) (by kernel_rfl) rfl
  · injection h with h; subst h; exact Z3 (zv := .string ⟨#[]⟩) (by kernel_rfl) (by kernel_rfl) rfl
  · injection h with h; subst h; exact Z3 (zv := .string ⟨#[]⟩) (by kernel_rfl) (by kernel_rfl) rfl
  · injection h with h; subst h; exact Z3 (zv := .string ⟨#[]⟩) (by kernel_rfl) (by kernel_rfl) rfl
  · injection h with h; subst h; exact Z3 (zv := .int .u64 0) (by kernel_rfl) (by kernel_rfl) rfl
  · injection h with h; subst h; exact Z3 (zv := .agg #[.string ⟨#[]⟩, .int .u64 0]) (by kernel_rfl) (by kernel_rfl) rfl
  · injection h with h; subst h; exact Z3 (zv := .agg #[.string ⟨#[]⟩, .int .u64 0]) (by kernel_rfl) (by kernel_rfl) rfl
  · injection h with h; subst h; exact Z3 (zv := .pointer none) (by kernel_rfl) (by kernel_rfl) rfl
  · injection h with h; subst h; exact Z3 (zv := .pointer none) (by kernel_rfl) (by kernel_rfl) rfl
  · injection h with h; subst h; exact Z3 (zv := .pointer none) (by kernel_rfl) (by kernel_rfl) rfl
  · injection h with h; subst h; exact Z3 (zv := .agg #[.pointer none]) (by kernel_rfl) (by kernel_rfl) rfl
  · injection h with h; subst h; exact Z3 (zv := .agg #[.pointer none]) (by kernel_rfl) (by kernel_rfl) rfl
  · injection h with h; subst h; exact Z3 (zv := .int .i32 0) (by kernel_rfl) (by kernel_rfl) rfl
  · injection h with h; subst h; exact Z3 (zv := .slice none 0 0) (by kernel_rfl) (by kernel_rfl) rfl
  · injection h with h; subst h; exact Z3 (zv := .agg #[.int .i64 0, .slice none 0 0]) (by kernel_rfl) (by kernel_rfl) rfl
  · injection h with h; subst h; exact Z3 (zv := .agg #[.int .i64 0, .slice none 0 0]) (by kernel_rfl) (by kernel_rfl) rfl
  · injection h with h; subst h; exact Z3 (zv := .nilFunc) (by kernel_rfl) (by kernel_rfl) rfl
  · injection h with h; subst h; exact Z3 (zv := .nilFunc) (by kernel_rfl) (by kernel_rfl) rfl
  · injection h with h; subst h; exact Z3 (zv := .int .i64 0) (by kernel_rfl) (by kernel_rfl) rfl
  · injection h with h; subst h; exact Z3 (zv := .nilFunc) (by kernel_rfl) (by kernel_rfl) rfl
  · injection h with h; subst h; exact Z3 (zv := .nilFunc) (by kernel_rfl) (by kernel_rfl) rfl
  · injection h with h; subst h; exact Z3 (zv := .nilFunc) (by kernel_rfl) (by kernel_rfl) rfl
  · injection h with h; subst h; exact Z3 (zv := .nilFunc) (by kernel_rfl) (by kernel_rfl) rfl
  · injection h with h; subst h; exact Z3 (zv := .nilFunc) (by kernel_rfl) (by kernel_rfl) rfl
  · injection h with h; subst h; exact Z3 (zv := .nilFunc) (by kernel_rfl) (by kernel_rfl) rfl
  · injection h with h; subst h; exact Z3 (zv := .slice none 0 0) (by kernel_rfl) (by kernel_rfl) rfl
  · injection h with h; subst h; exact Z3 (zv := .nilFunc) (by kernel_rfl) (by kernel_rfl) rfl
  · injection h with h; subst h; exact Z3 (zv := .nilFunc) (by kernel_rfl) (by kernel_rfl) rfl
  · injection h with h; subst h; exact Z3 (zv := .nilFunc) (by kernel_rfl) (by kernel_rfl) rfl
  · injection h with h; subst h; exact Z3 (zv := .nilFunc) (by kernel_rfl) (by kernel_rfl) rfl
  · injection h with h; subst h; exact Z3 (zv := .nilFunc) (by kernel_rfl) (by kernel_rfl) rfl
  · injection h with h; subst h; exact Z3 (zv := .nilFunc) (by kernel_rfl) (by kernel_rfl) rfl
  · injection h with h; subst h; exact Z3 (zv := .nilFunc) (by kernel_rfl) (by kernel_rfl) rfl
  · injection h with h; subst h; exact Z3 (zv := .nilFunc) (by kernel_rfl) (by kernel_rfl) rfl
  · injection h with h; subst h; exact Z3 (zv := .nilFunc) (by kernel_rfl) (by kernel_rfl) rfl
  · injection h with h; subst h; exact Z75 (zv := .agg #[.bool false, .string ⟨#[]⟩]) (by kernel_rfl) (by kernel_rfl) rfl (fun _ => ⟨by kernel_rfl, by kernel_rfl, by kernel_rfl⟩)
  · injection h with h; subst h; exact Z3 (zv := .agg #[.bool false, .string ⟨#[]⟩, .bool false, .string ⟨#[]⟩]) (by kernel_rfl) (by kernel_rfl) rfl
  · injection h with h; subst h; exact Z75 (zv := .agg #[.bool false, .string ⟨#[]⟩, .bool false, .string ⟨#[]⟩]) (by kernel_rfl) (by kernel_rfl) rfl (fun _ => ⟨by kernel_rfl, by kernel_rfl, by kernel_rfl⟩)
  · injection h with h; subst h; exact Z3 (zv := .nilFunc) (by kernel_rfl) (by kernel_rfl) rfl
  · injection h with h; subst h; exact Z3 (zv := .nilFunc) (by kernel_rfl) (by kernel_rfl) rfl
  · injection h with h; subst h; exact Z3 (zv := .nilFunc) (by kernel_rfl) (by kernel_rfl) rfl
  · injection h with h; subst h; exact Z3 (zv := .nilFunc) (by kernel_rfl) (by kernel_rfl) rfl
  · injection h with h; subst h; exact Z3 (zv := .nilFunc) (by kernel_rfl) (by kernel_rfl) rfl
  · injection h with h; subst h; exact Z3 (zv := .nilFunc) (by kernel_rfl) (by kernel_rfl) rfl
  · injection h with h; subst h; exact Z3 (zv := .slice none 0 0) (by kernel_rfl) (by kernel_rfl) rfl
  · injection h with h; subst h; exact Z3 (zv := .nilFunc) (by kernel_rfl) (by kernel_rfl) rfl
  · injection h with h; subst h; exact Z3 (zv := .nilFunc) (by kernel_rfl) (by kernel_rfl) rfl
  · injection h with h; subst h; exact Z3 (zv := .nilFunc) (by kernel_rfl) (by kernel_rfl) rfl
  · injection h with h; subst h; exact Z3 (zv := .nilFunc) (by kernel_rfl) (by kernel_rfl) rfl
  · injection h with h; subst h; exact Z3 (zv := .nilFunc) (by kernel_rfl) (by kernel_rfl) rfl
  · injection h with h; subst h; exact Z3 (zv := .nilFunc) (by kernel_rfl) (by kernel_rfl) rfl
  · injection h with h; subst h; exact Z3 (zv := .nilFunc) (by kernel_rfl) (by kernel_rfl) rfl
  · injection h with h; subst h; exact Z3 (zv := .nilFunc) (by kernel_rfl) (by kernel_rfl) rfl
  · injection h with h; subst h; exact Z3 (zv := .nilFunc) (by kernel_rfl) (by kernel_rfl) rfl
  · injection h with h; subst h; exact Z3 (zv := .nilFunc) (by kernel_rfl) (by kernel_rfl) rfl
  · injection h with h; subst h; exact Z3 (zv := .nilFunc) (by kernel_rfl) (by kernel_rfl) rfl
  · injection h with h; subst h; exact Z3 (zv := .nilFunc) (by kernel_rfl) (by kernel_rfl) rfl
  · injection h with h; subst h; exact Z3 (zv := .nilFunc) (by kernel_rfl) (by kernel_rfl) rfl
  · injection h with h; subst h; exact Z3 (zv := .agg #[.int .i64 0, .int .i64 0]) (by kernel_rfl) (by kernel_rfl) rfl
  · injection h with h; subst h; exact Z75 (zv := .agg #[.int .i64 0, .int .i64 0]) (by kernel_rfl) (by kernel_rfl) rfl (fun _ => ⟨by kernel_rfl, by kernel_rfl, by kernel_rfl⟩)
  · injection h with h; subst h; exact Z3 (zv := .nilFunc) (by kernel_rfl) (by kernel_rfl) rfl
  · injection h with h; subst h; exact Z3 (zv := .nilFunc) (by kernel_rfl) (by kernel_rfl) rfl
  · injection h with h; subst h; exact Z3 (zv := .nilFunc) (by kernel_rfl) (by kernel_rfl) rfl
  · injection h with h; subst h; exact Z3 (zv := .nilFunc) (by kernel_rfl) (by kernel_rfl) rfl
  · injection h with h; subst h; exact Z3 (zv := .slice none 0 0) (by kernel_rfl) (by kernel_rfl) rfl
  · injection h with h; subst h; exact Z3 (zv := .nilFunc) (by kernel_rfl) (by kernel_rfl) rfl
  · injection h with h; subst h; exact Z3 (zv := .nilFunc) (by kernel_rfl) (by kernel_rfl) rfl
  · injection h with h; subst h; exact Z3 (zv := .nilFunc) (by kernel_rfl) (by kernel_rfl) rfl
  · injection h with h; subst h; exact Z3 (zv := .nilFunc) (by kernel_rfl) (by kernel_rfl) rfl
  · injection h with h; subst h; exact Z3 (zv := .nilFunc) (by kernel_rfl) (by kernel_rfl) rfl
  · injection h with h; subst h; exact Z3 (zv := .nilFunc) (by kernel_rfl) (by kernel_rfl) rfl
  · injection h with h; subst h; exact Z3 (zv := .nilFunc) (by kernel_rfl) (by kernel_rfl) rfl
  · injection h with h; subst h; exact Z3 (zv := .nilFunc) (by kernel_rfl) (by kernel_rfl) rfl
  · injection h with h; subst h; exact Z3 (zv := .nilFunc) (by kernel_rfl) (by kernel_rfl) rfl
  · injection h with h; subst h; exact Z3 (zv := .nilFunc) (by kernel_rfl) (by kernel_rfl) rfl
  · injection h with h; subst h; exact Z3 (zv := .nilFunc) (by kernel_rfl) (by kernel_rfl) rfl
  · injection h with h; subst h; exact Z3 (zv := .nilFunc) (by kernel_rfl) (by kernel_rfl) rfl
  · injection h with h; subst h; exact Z3 (zv := .pointer none) (by kernel_rfl) (by kernel_rfl) rfl
  · injection h with h; subst h; exact Z3 (zv := .agg #[.pointer none, .slice none 0 0]) (by kernel_rfl) (by kernel_rfl) rfl
  · injection h with h; subst h; exact Z3 (zv := .agg #[.pointer none, .slice none 0 0]) (by kernel_rfl) (by kernel_rfl) rfl
  · injection h with h; subst h; exact Z3 (zv := .nilFunc) (by kernel_rfl) (by kernel_rfl) rfl
  · injection h with h; subst h; exact Z3 (zv := .nilFunc) (by kernel_rfl) (by kernel_rfl) rfl
  · injection h with h; subst h; exact Z3 (zv := .nilFunc) (by kernel_rfl) (by kernel_rfl) rfl
  · injection h with h; subst h; exact Z3 (zv := .slice none 0 0) (by kernel_rfl) (by kernel_rfl) rfl
  · injection h with h; subst h; exact Z3 (zv := .nilFunc) (by kernel_rfl) (by kernel_rfl) rfl
  · injection h with h; subst h; exact Z3 (zv := .nilFunc) (by kernel_rfl) (by kernel_rfl) rfl
  · injection h with h; subst h; exact Z3 (zv := .int .u64 0) (by kernel_rfl) (by kernel_rfl) rfl
  · injection h with h; subst h; exact Z3 (zv := .nilFunc) (by kernel_rfl) (by kernel_rfl) rfl
  · injection h with h; subst h; exact Z3 (zv := .int .u32 0) (by kernel_rfl) (by kernel_rfl) rfl
  · injection h with h; subst h; exact Z3 (zv := .int .u64 0) (by kernel_rfl) (by kernel_rfl) rfl
  · injection h with h; subst h; exact Z3 (zv := .slice none 0 0) (by kernel_rfl) (by kernel_rfl) rfl
  · injection h with h; subst h; exact Z3 (zv := .nilFunc) (by kernel_rfl) (by kernel_rfl) rfl
  · injection h with h; subst h; exact Z3 (zv := .agg #[.slice none 0 0, .string ⟨#[]⟩]) (by kernel_rfl) (by kernel_rfl) rfl
  · injection h with h; subst h; exact Z3 (zv := .slice none 0 0) (by kernel_rfl) (by kernel_rfl) rfl
  · injection h with h; subst h; exact Z3 (zv := .map none) (by kernel_rfl) (by kernel_rfl) rfl
  · injection h with h; subst h; exact Z3 (zv := .nilFunc) (by kernel_rfl) (by kernel_rfl) rfl
  · injection h with h; subst h; exact Z3 (zv := .nilFunc) (by kernel_rfl) (by kernel_rfl) rfl
  · injection h with h; subst h; exact Z3 (zv := .nilFunc) (by kernel_rfl) (by kernel_rfl) rfl
  · injection h with h; subst h; exact Z3 (zv := .pointer none) (by kernel_rfl) (by kernel_rfl) rfl
  · injection h with h; subst h; exact Z3 (zv := .nilFunc) (by kernel_rfl) (by kernel_rfl) rfl
  · injection h with h; subst h; exact Z3 (zv := .nilFunc) (by kernel_rfl) (by kernel_rfl) rfl
  · injection h with h; subst h; exact Z3 (zv := .nilFunc) (by kernel_rfl) (by kernel_rfl) rfl
  · injection h with h; subst h; exact Z3 (zv := .nilFunc) (by kernel_rfl) (by kernel_rfl) rfl
  · injection h with h; subst h; exact Z3 (zv := .nilFunc) (by kernel_rfl) (by kernel_rfl) rfl
  · injection h with h; subst h; exact Z3 (zv := .nilFunc) (by kernel_rfl) (by kernel_rfl) rfl
  · injection h with h; subst h; exact Z3 (zv := .nilFunc) (by kernel_rfl) (by kernel_rfl) rfl
  · injection h with h; subst h; exact Z3 (zv := .nilFunc) (by kernel_rfl) (by kernel_rfl) rfl
  · injection h with h; subst h; exact Z3 (zv := .nilFunc) (by kernel_rfl) (by kernel_rfl) rfl
  · injection h with h; subst h; exact Z3 (zv := .nilFunc) (by kernel_rfl) (by kernel_rfl) rfl
  · injection h with h; subst h; exact Z3 (zv := .nilFunc) (by kernel_rfl) (by kernel_rfl) rfl
  · injection h with h; subst h; exact Z3 (zv := .nilFunc) (by kernel_rfl) (by kernel_rfl) rfl
  · injection h with h; subst h; exact Z3 (zv := .nilFunc) (by kernel_rfl) (by kernel_rfl) rfl
  · injection h with h; subst h; exact Z3 (zv := .nilFunc) (by kernel_rfl) (by kernel_rfl) rfl
  · injection h with h; subst h; exact Z3 (zv := .int .i64 0) (by kernel_rfl) (by kernel_rfl) rfl
  · injection h with h; subst h; exact Z3 (zv := .nilFunc) (by kernel_rfl) (by kernel_rfl) rfl
  · injection h with h; subst h; exact Z3 (zv := .nilFunc) (by kernel_rfl) (by kernel_rfl) rfl
  · injection h with h; subst h; exact Z3 (zv := .nilFunc) (by kernel_rfl) (by kernel_rfl) rfl
  · injection h with h; subst h; exact Z3 (zv := .nilFunc) (by kernel_rfl) (by kernel_rfl) rfl
  · injection h with h; subst h; exact Z3 (zv := .agg #[.int .u8 0, .int .u8 0, .int .u8 0, .int .u8 0, .int .u8 0, .int .u8 0, .int .u8 0, .int .u8 0]) (by kernel_rfl) (by kernel_rfl) rfl
  · injection h with h; subst h; exact Z3 (zv := .int .u64 0) (by kernel_rfl) (by kernel_rfl) rfl
  · injection h with h; subst h; exact Z3 (zv := .nilFunc) (by kernel_rfl) (by kernel_rfl) rfl
  · injection h with h; subst h; exact Z3 (zv := .nilFunc) (by kernel_rfl) (by kernel_rfl) rfl
  · injection h with h; subst h; exact Z3 (zv := .pointer none) (by kernel_rfl) (by kernel_rfl) rfl
  · injection h with h; subst h; exact Z3 (zv := .nilFunc) (by kernel_rfl) (by kernel_rfl) rfl
  · injection h with h; subst h; exact Z3 (zv := .nilFunc) (by kernel_rfl) (by kernel_rfl) rfl
  · injection h with h; subst h; exact Z3 (zv := .nilFunc) (by kernel_rfl) (by kernel_rfl) rfl
  · injection h with h; subst h; exact Z3 (zv := .agg #[.string ⟨#[]⟩, .string ⟨#[]⟩, .string ⟨#[]⟩, .string ⟨#[]⟩, .string ⟨#[]⟩, .string ⟨#[]⟩, .string ⟨#[]⟩, .string ⟨#[]⟩]) (by kernel_rfl) (by kernel_rfl) rfl
  · injection h with h; subst h; exact Z3 (zv := .pointer none) (by kernel_rfl) (by kernel_rfl) rfl
  · injection h with h; subst h; exact Z3 (zv := .nilFunc) (by kernel_rfl) (by kernel_rfl) rfl
  · injection h with h; subst h; exact Z3 (zv := .nilFunc) (by kernel_rfl) (by kernel_rfl) rfl
  · injection h with h; subst h; exact Z3 (zv := .nilFunc) (by kernel_rfl) (by kernel_rfl) rfl
  · injection h with h; subst h; exact Z3 (zv := .int .u8 0) (by kernel_rfl) (by kernel_rfl) rfl
  · cases h
theorem y2 (f : TE → Prop) : tyAt Γ 2 f = f ⟨.int .i64, 1, 8, some (.p (.int .i64 0)), false, false⟩ := Zu g2 f
theorem y3 (f : TE → Prop) : tyAt Γ 3 f = f ⟨.int .i64, 1, 8, some (.p (.int .i64 0)), false, false⟩ := Zu g3 f
theorem y4 (f : TE → Prop) : tyAt Γ 4 f = f ⟨.bool, 1, 1, some (.p (.bool false)), false, false⟩ := Zu g4 f
theorem y5 (f : TE → Prop) : tyAt Γ 5 f = f ⟨.int .u8, 1, 1, some (.p (.int .u8 0)), false, false⟩ := Zu g5 f
theorem y9 (f : TE → Prop) : tyAt Γ 9 f = f ⟨.str, 1, 16, some (.p (.str [])), false, false⟩ := Zu g9 f
theorem y22 (f : TE → Prop) : tyAt Γ 22 f = f ⟨.slice 9, 1, 24, some (.full []), false, false⟩ := Zu g22 f
theorem y24 (f : TE → Prop) : tyAt Γ 24 f = f ⟨.struct [(0, 3), (1, 22)], 2, 32, some (.agg [.p (.int .i64 0), .full []]), true, false⟩ := Zu g24 f
theorem y36 (f : TE → Prop) : tyAt Γ 36 f = f ⟨.slice 3, 1, 24, some (.full []), false, false⟩ := Zu g36 f
theorem y53 (f : TE → Prop) : tyAt Γ 53 f = f ⟨.struct [(0, 4), (1, 9)], 2, 24, some (.agg [.p (.bool false), .p (.str [])]), true, true⟩ := Zu g53 f
theorem y55 (f : TE → Prop) : tyAt Γ 55 f = f ⟨.struct [(0, 53), (2, 53)], 4, 48, some (.agg [.p (.bool false), .p (.str []), .p (.bool false), .p (.str [])]), true, true⟩ := Zu g55 f
theorem y65 (f : TE → Prop) : tyAt Γ 65 f = f ⟨.slice 5, 1, 24, some (.full []), false, false⟩ := Zu g65 f
theorem y95 (f : TE → Prop) : tyAt Γ 95 f = f ⟨.slice 9, 1, 24, some (.full []), false, false⟩ := Zu g95 f
theorem y129 (f : TE → Prop) : tyAt Γ 129 f = f ⟨.slice 22, 1, 24, some (.full []), false, false⟩ := Zu g129 f
theorem y134 (f : TE → Prop) : tyAt Γ 134 f = f ⟨.int .u64, 1, 8, some (.p (.int .u64 0)), false, false⟩ := Zu g134 f
theorem y136 (f : TE → Prop) : tyAt Γ 136 f = f ⟨.int .u32, 1, 4, some (.p (.int .u32 0)), false, false⟩ := Zu g136 f
theorem y137 (f : TE → Prop) : tyAt Γ 137 f = f ⟨.int .u64, 1, 8, some (.p (.int .u64 0)), false, false⟩ := Zu g137 f
theorem y139 (f : TE → Prop) : tyAt Γ 139 f = f ⟨.slice 136, 1, 24, some (.full []), false, false⟩ := Zu g139 f
theorem y143 (f : TE → Prop) : tyAt Γ 143 f = f ⟨.struct [(0, 95), (1, 9)], 2, 40, some (.agg [.full [], .p (.str [])]), true, false⟩ := Zu g143 f
theorem y144 (f : TE → Prop) : tyAt Γ 144 f = f ⟨.slice 143, 1, 24, some (.full []), false, false⟩ := Zu g144 f
theorem y145 (f : TE → Prop) : tyAt Γ 145 f = f ⟨.map 9 4, 1, 8, some (.cell), false, false⟩ := Zu g145 f
theorem y184 (f : TE → Prop) : tyAt Γ 184 f = f ⟨.other, 1, 8, some (.cell), false, false⟩ := Zu g184 f
theorem y231 (f : TE → Prop) : tyAt Γ 231 f = f ⟨.array 8 9, 8, 128, some (.agg [.p (.str []), .p (.str []), .p (.str []), .p (.str []), .p (.str []), .p (.str []), .p (.str []), .p (.str [])]), true, false⟩ := Zu g231 f
attribute [go_sem] g2 y2 g3 y3 g4 y4 g5 y5 g9 y9 g22 y22 g24 y24 g36 y36 g53 y53 g55 y55 g65 y65 g95 y95 g129 y129 g134 y134 g136 y136 g137 y137 g139 y139 g143 y143 g144 y144 g145 y145 g184 y184 g231 y231
theorem hmix : Tryz.prog.follows .mixedOrders = true := by kernel_rfl
theorem Wd {n0 : Nat} {ks : List Nat} {r : Option Nat} {c : Code} {Q : Exit → St → Prop} {st : St} (l : List (Nat × Nat)) (h : awpD ⟨Tryz.prog, Γ, n0, ks⟩ r l c Q st) (hd : Z2r l c = true := by kernel_rfl) : AWp ⟨Tryz.prog, Γ, n0, ks⟩ r c Q st := AWp.of_awpD l hΓ hmix hd h

def Z7 (q : Int) (ws : List (List UInt8)) : PV := .agg [.int .i64 q, .sl (ws.map .str)]
def Zn (q : Int) (ws : List (List UInt8)) : AObj := .box [.p (.int .i64 q), .p (.sl (ws.map .str))]

def axT : FuncId → List AV → Option AV := fun f args => match f, args with
  | 218, [.p (.str s), .p (.int .u8 c)] => some (.p (.int .i64 (ixB c.toNat.toUInt8 s 0)))
  | 242, [.p (.str a), .p (.str b)] => some (.p (.int .i64 (cmpB a b)))
  | _, _ => none

theorem Zjw : ∀ f args v, axT f args = some v → AX Tryz.prog f args v := by
  intro f args v h; unfold axT at h
  split at h
  · injection h with h; subst h
    exact Zmh Tryz.func218 (by kernel_rfl) (by kernel_rfl) (by kernel_rfl) (by kernel_rfl) _ _
  · injection h with h; subst h
    exact Zg4 Tryz.func242 (by kernel_rfl) (by kernel_rfl) (by kernel_rfl) (by kernel_rfl) _ _
  · cases h


theorem x126 (s : List UInt8) (c : Int) : AX Tryz.prog 218 [.p (.str s), .p (.int .u8 c)] (.p (.int .i64 (ixB c.toNat.toUInt8 s 0))) := Zjw _ _ _ rfl
theorem x127 (s t : List UInt8) : AX Tryz.prog 242 [.p (.str s), .p (.str t)] (.p (.int .i64 (cmpB s t))) := Zjw _ _ _ rfl

theorem t113 (s : List UInt8) (c : Int) : PFn Tryz.prog 175 [.str s, .int .u8 c] [.int .i64 (ixB c.toNat.toUInt8 s 0)] := by
  refine PFn.of_body hΓ Tryz.func175 (by kernel_rfl) rfl (Wd [] ?_); simp +contextual -implicitDefEqProofs only [Tryz.ntmps175, Tryz.results175, Nat.reduceAdd, Nat.reduceSub, go_sem]; refine Zf3 (x126 s c) ?_; simp +contextual -implicitDefEqProofs only [go_sem]

theorem t101 (s : List UInt8) (c : Int) : PFn Tryz.prog 114 [.str s, .int .u8 c] [.int .i64 (ixB c.toNat.toUInt8 s 0)] := by
  refine PFn.of_body hΓ Tryz.func114 (by kernel_rfl) rfl (Wd [] ?_); simp +contextual -implicitDefEqProofs only [Tryz.ntmps114, Tryz.results114, Nat.reduceAdd, Nat.reduceSub, go_sem]; refine Z0 (t113 s c) (.pures rfl) ?_; simp +contextual -implicitDefEqProofs only [go_sem]

theorem t115 (s t : List UInt8) : PFn Tryz.prog 203 [.str s, .str t] [.int .i64 (cmpB s t)] := by
  refine PFn.of_body hΓ Tryz.func203 (by kernel_rfl) rfl (Wd [] ?_); simp +contextual -implicitDefEqProofs only [Tryz.ntmps203, Tryz.results203, Nat.reduceAdd, Nat.reduceSub, go_sem]; refine Zf3 (x127 s t) ?_; simp +contextual -implicitDefEqProofs only [go_sem]

theorem t104 (s t : List UInt8) : PFn Tryz.prog 163 [.str s, .str t] [.int .i64 (cmpB s t)] := by
  refine PFn.of_body hΓ Tryz.func163 (by kernel_rfl) rfl (Wd [] ?_); simp +contextual -implicitDefEqProofs only [Tryz.ntmps163, Tryz.results163, Nat.reduceAdd, Nat.reduceSub, go_sem]; refine Z0 (t115 s t) (.pures rfl) ?_; simp +contextual -implicitDefEqProofs only [go_sem]

theorem t114 (x : Int) : PFn Tryz.prog 141 [.int .i64 x] [.bool false] := by
  refine PFn.of_body hΓ Tryz.func141 (by kernel_rfl) rfl (Wd [] ?_); simp +contextual -implicitDefEqProofs only [Tryz.ntmps141, Tryz.results141, Nat.reduceAdd, Nat.reduceSub, go_sem]

def cmpI (x y : Int) : Int := if x < y then -1 else if y < x then 1 else 0
theorem t103 (x y : Int) : PFn Tryz.prog 76 [.int .i64 x, .int .i64 y] [.int .i64 (cmpI x y)] := by
  refine PFn.of_body hΓ Tryz.func76 (by kernel_rfl) rfl (Wd [] ?_); simp +contextual -implicitDefEqProofs only [Tryz.ntmps76, Tryz.results76, Nat.reduceAdd, Nat.reduceSub, go_sem]; refine Z0 (t114 x) (.pures rfl) ?_; simp +contextual -implicitDefEqProofs only [go_sem]; refine Z0 (t114 y) (.pures rfl) ?_; simp +contextual -implicitDefEqProofs only [go_sem]; unfold cmpI; exact ⟨fun h => by rw [if_pos h], fun h => ⟨fun h' => by rw [if_neg h, if_pos h'], fun h' => by rw [if_neg h, if_neg h']⟩⟩

theorem t100 (x : Int) : PFn Tryz.prog 146 [.int .i64 x] [.bool (decide (1 ≤ x) && decide (x ≤ 16))] := by
  refine PFn.of_body hΓ Tryz.func146 (by kernel_rfl) rfl (Wd [] ?_); simp +contextual -implicitDefEqProofs only [Tryz.ntmps146, Tryz.results146, Nat.reduceAdd, Nat.reduceSub, go_sem]; intro _; rfl

def Z26 (l : List Int) : Int := (l.find? fun x => decide (x ≠ 0)).getD 0
theorem Z9s {l : List Int} {k : Nat} (hk : k < l.length) (h0 : ∀ x ∈ l.take k, x = 0) (h1 : l[k] ≠ 0) : Z26 l = l[k] := by
  have e : l = l.take k ++ l[k] :: l.drop (k + 1) := by rw [← List.drop_eq_getElem_cons hk, List.take_append_drop]
  unfold Z26; have e2 : l.find? (fun x => decide (x ≠ 0)) = some l[k] := by
    conv => lhs; rw [e]
    rw [List.find?_append, List.find?_eq_none.2 (fun x hx => by simpa using h0 x hx), List.find?_cons, decide_eq_true h1]; rfl
  rw [e2]; rfl
theorem Z6s {l : List Int} (h0 : ∀ x ∈ l, x = 0) : Z26 l = 0 := by
  unfold Z26; rw [List.find?_eq_none.2 (fun x hx => by simpa using h0 x hx)]; rfl

theorem t102 (l : List Int) (hl : l.length ≤ 9223372036854775807) : PFn Tryz.prog 162 [.sl (l.map (.int .i64))] [.int .i64 (Z26 l)] := by
  refine PFn.of_body hΓ Tryz.func162 (by kernel_rfl) rfl (Wd [] ?_); simp +contextual -implicitDefEqProofs only [Tryz.ntmps162, Tryz.results162, Nat.reduceAdd, Nat.reduceSub, go_sem]
  refine AWp.loopI (fun k : Nat => ⟨mkF 18 [(0, .p (.sl (l.map (.int .i64)))), (2, .p (.int .i64 0)), (3, .p (.int .i64 0)), (6, .p (.sl (l.map (.int .i64)))), (7, .p (.int .i64 l.length)), (8, .p (.int .i64 k))], []⟩)
    (fun k => k ≤ l.length ∧ ∀ x ∈ l.take k, x = 0) (fun k => l.length - k) 0 (by simp [go_sem]) (by simp) ?_
  rintro k ⟨hk, h0⟩; refine Wd [] ?_; simp +contextual -implicitDefEqProofs only [Z2, ↓reduceIte, go_sem]; refine ⟨fun hlt => ⟨fun he => ⟨by simp only [InR]; omega, k + 1, by simp, ⟨hlt, ?_⟩, by omega⟩, fun hne => (Z9s hlt h0 hne).symm⟩, fun hge => ?_⟩
  · rw [List.take_succ_eq_append_getElem hlt]
    intro x hx; rcases List.mem_append.1 hx with h | h
    · exact h0 x h
    · simp only [List.mem_singleton] at h; rw [h, he]
  · rw [List.take_of_length_le (by omega)] at h0
    exact (Z6s h0).symm

def cmpW (a b : List UInt8) : Int := if a.length < b.length then -1 else if b.length < a.length then 1 else cmpB a b
theorem t81 (a b : List UInt8) : PFn Tryz.prog 102 [.str a, .str b] [.int .i64 (cmpW a b)] := by
  refine PFn.of_body hΓ Tryz.func102 (by kernel_rfl) rfl (Wd [] ?_); simp +contextual -implicitDefEqProofs only [Tryz.ntmps102, Tryz.results102, Nat.reduceAdd, Nat.reduceSub, go_sem]; refine Z0 (t103 a.length b.length) (.pures rfl) ?_; simp +contextual -implicitDefEqProofs only [go_sem]; refine Z0 (t104 a b) (.pures rfl) ?_; simp +contextual -implicitDefEqProofs only [go_sem]; refine ⟨⟨by simp [Zc, PV.cells], by omega⟩, Z0 (t102 [cmpI a.length b.length, cmpB a b] (by simp)) (.still rfl) ?_⟩; simp +contextual -implicitDefEqProofs only [go_sem]
  congr 2
  unfold Z26 cmpI cmpW; by_cases h1 : a.length < b.length
  · simp [h1]
  · by_cases h2 : b.length < a.length
    · simp [h1, h2]
    · simp [h1, h2]
      by_cases h3 : cmpB a b = 0 <;> simp [h3]

def L16 : List UInt8 := [48, 49, 50, 51, 52, 53, 54, 55, 56, 57, 97, 98, 99, 100, 101, 102]

theorem Znh (c : UInt8) : ∀ (l : List UInt8) (n k : Nat) (hk : k < l.length), (∀ j (hj : j < k), l[j] ≠ c) → l[k] = c → ixB c l n = ((n + k : Nat) : Int)
  | [], n, k, hk, _, _ => absurd hk (Nat.not_lt_zero k)
  | a :: l, n, 0, _, _, h => by
    have : a = c := h; subst this; unfold ixB; simp
  | a :: l, n, k + 1, hk, h0, h => by
    have h1 : a ≠ c := h0 0 (by omega); have h2 : Nat.beq a.toNat c.toNat = false := Bool.eq_false_iff.2 fun e => h1 (UInt8.toNat_inj.1 (Nat.eq_of_beq_eq_true e))
    unfold ixB; rw [h2]; refine (Znh c l (n + 1) k (by simpa using hk) (fun j hj => h0 (j + 1) (by omega)) h).trans ?_
    congr 1; omega
theorem Zeu (c : UInt8) : ∀ (l : List UInt8) (n : Nat), (∀ j (hj : j < l.length), l[j] ≠ c) → ixB c l n = -1
  | [], _, _ => rfl
  | a :: l, n, h0 => by
    have h1 : a ≠ c := h0 0 (by simp); have h2 : Nat.beq a.toNat c.toNat = false := Bool.eq_false_iff.2 fun e => h1 (UInt8.toNat_inj.1 (Nat.eq_of_beq_eq_true e))
    unfold ixB; rw [h2]; exact Zeu c l (n + 1) (fun j hj => h0 (j + 1) (by simpa using hj))

theorem t99 (b : UInt8) : PFn Tryz.prog 94 [.int .u8 b.toNat] [.int .i64 (ixB b L16 0)] := by
  refine PFn.of_body hΓ Tryz.func94 (by kernel_rfl) rfl (Wd [] ?_); simp +contextual -implicitDefEqProofs only [Tryz.ntmps94, Tryz.results94, Nat.reduceAdd, Nat.reduceSub, go_sem]
  refine AWp.loopI (fun k : Nat => ⟨mkF 13 [(0, .p (.int .u8 b.toNat)), (2, .p (.int .i64 0)), (3, .p (.int .i64 k))], []⟩)
    (fun k => k ≤ 16 ∧ ∀ j (hj : j < 16), j < k → L16[j]'hj ≠ b) (fun k => 16 - k) 0 (by simp [go_sem]) (by simp) ?_
  rintro k ⟨hk, h0⟩; refine Wd [] ?_; simp +contextual -implicitDefEqProofs only [Z2, ↓reduceIte, go_sem]; refine ⟨fun hlt => ⟨by omega, fun he => ?_, fun hne => ⟨by simp only [InR]; omega, k + 1, by simp, ⟨by omega, ?_⟩, by omega⟩⟩, fun hge => ?_⟩
  · have hk' : k < L16.length := by simp [L16]; omega
    have e : L16[k] = b := by
      rw [← UInt8.toNat_inj, ← he]; show _ = (L16.getD k 0).toNat; rw [List.getD_eq_getElem?_getD, List.getElem?_eq_getElem hk', Option.getD_some]
    rw [Znh b L16 0 k hk' (fun j hj => h0 j (by omega) hj) e]; simp
  · intro j hj hjk e
    by_cases hjk' : j < k
    · exact h0 j hj hjk' e
    · have : j = k := by omega
      subst this
      apply hne
      rw [← e]; show (L16.getD j 0).toNat = _; rw [List.getD_eq_getElem?_getD, List.getElem?_eq_getElem (by simpa [L16] using hj), Option.getD_some]; rfl
  · exact (Zeu b L16 0 (fun j hj => h0 j (by simpa [L16] using hj) (by simp [L16] at hj; omega))).symm

theorem t79 (a b : List UInt8) : PFn Tryz.prog 42 [.str a, .str b] [.bool (if a.length ≠ b.length then decide (a.length < b.length) else Op.bytesLess a b)] := by
  refine PFn.of_body hΓ Tryz.func42 (by kernel_rfl) rfl (Wd [] ?_); simp +contextual -implicitDefEqProofs only [Tryz.ntmps42, Tryz.results42, Nat.reduceAdd, Nat.reduceSub, go_sem]

def okB (q : Int) (b : UInt8) : Bool := decide (0 ≤ ixB b L16 0) && decide (ixB b L16 0 < q)
def okW (q : Int) (w : List UInt8) : Bool := w.all (okB q)
def Ze (q : Int) (w : List UInt8) : Int := if q < 1 ∨ 16 < q then 12 else if 65536 < w.length then 4 else if okW q w then 0 else 13

theorem Zei {q : Int} {w : List UInt8} {k : Nat} (hk : k < w.length) (h0 : okW q (w.take k) = true) (h1 : okB q (w.getD k 0) = true) : okW q (w.take (k + 1)) = true := by
  rw [List.getD_eq_getElem?_getD, List.getElem?_eq_getElem hk, Option.getD_some] at h1; rw [List.take_succ_eq_append_getElem hk]; unfold okW at h0 ⊢; rw [List.all_append, h0]; simp [h1]
theorem Z58 {q : Int} {w : List UInt8} {k : Nat} (hq : ¬ q < 1) (hq2 : ¬ 16 < q) (hl : ¬ 65536 < w.length) (hk : k < w.length) (h1 : okB q (w.getD k 0) = false) : Ze q w = 13 := by
  rw [List.getD_eq_getElem?_getD, List.getElem?_eq_getElem hk, Option.getD_some] at h1; unfold Ze; rw [if_neg (by omega), if_neg hl, if_neg]; intro h; have := List.all_eq_true.1 h _ (List.getElem_mem hk); rw [h1] at this; cases this
theorem Z4o {q : Int} {w : List UInt8} (hq : ¬ q < 1) (hq2 : ¬ 16 < q) (hl : ¬ 65536 < w.length) (h1 : okW q w = true) : Ze q w = 0 := by
  unfold Ze; rw [if_neg (by omega), if_neg hl, if_pos h1]
theorem Z3l {q : Int} {w : List UInt8} (hq : q < 1 ∨ 16 < q) : Ze q w = 12 := by unfold Ze; rw [if_pos hq]
theorem Z7n {q : Int} {w : List UInt8} (hq : ¬ q < 1) (hq2 : ¬ 16 < q) (hl : 65536 < w.length) : Ze q w = 4 := by unfold Ze; rw [if_neg (by omega), if_pos hl]

theorem t78 (q : Int) (w : List UInt8) : PFn Tryz.prog 41 [.int .i64 q, .str w] [.int .i64 (Ze q w)] := by
  refine PFn.of_body hΓ Tryz.func41 (by kernel_rfl) rfl (Wd [] ?_); simp +contextual -implicitDefEqProofs only [Tryz.ntmps41, Tryz.results41, Nat.reduceAdd, Nat.reduceSub, go_sem]; refine ⟨fun h => (Z3l (.inl h)).symm, fun h1 => ⟨fun h => (Z3l (.inr h)).symm, fun h2 => ⟨fun h => (Z7n h1 h2 (by omega)).symm, fun h3 => ?_⟩⟩⟩; have h3' : ¬ 65536 < w.length := by omega
  refine AWp.loopI (fun k : Nat => ⟨mkF 33 [(0, .p (.int .i64 q)), (1, .p (.str w)), (4, .p (.int .i64 0)), (5, .p (.int .i64 k))], []⟩)
    (fun k => k ≤ w.length ∧ okW q (w.take k) = true) (fun k => w.length - k) 0 (by simp [go_sem]) (by simp [okW]) ?_
  rintro k ⟨hk, h0⟩; refine Wd [] ?_; simp +contextual -implicitDefEqProofs only [Z2, ↓reduceIte, go_sem]; refine ⟨fun hlt => Z0 (t99 (w.getD k 0)) (.pures rfl) ?_, fun hge => ?_⟩
  · simp +contextual -implicitDefEqProofs only [hlt, ↓reduceIte, go_sem]
    have good : okB q (w.getD k 0) = true → InR .i64 ((k : Int) + 1) ∧ ∃ y : Nat, (y : Int) = (k : Int) + 1 ∧ (y ≤ w.length ∧ okW q (w.take y) = true) ∧ w.length - y < w.length - k := fun h => ⟨by simp only [InR]; omega, k + 1, by simp, ⟨hlt, Zei hlt h0 h⟩, by omega⟩
    have bad : okB q (w.getD k 0) = false → (13 : Int) = Ze q w := fun h => (Z58 h1 h2 h3' hlt h).symm
    refine ⟨fun e1 => bad ?_, fun e1 => ⟨fun e2 => bad ?_, fun e2 => good ?_⟩⟩
    · unfold okB; rw [decide_eq_false (by omega)]; rfl
    · unfold okB; rw [decide_eq_false (p := ixB (w.getD k 0) L16 0 < q) (by omega), Bool.and_false]
    · unfold okB; rw [decide_eq_true (by omega), decide_eq_true (by omega)]; rfl
  · rw [List.take_of_length_le (by omega)] at h0
    exact (Z4o h1 h2 h3' h0).symm

theorem Zet (c : UInt8) : ∀ (l : List UInt8) (k m : Nat), decide (ixB c (l.take m) k < 0) = !(decide (0 ≤ ixB c l k) && decide (ixB c l k < k + m))
  | [], k, m => by simp [ixB]
  | a :: l, k, 0 => by
    have := Zie c (a :: l) k; have hge := Lib.indexByte_ge (a :: l) c; rw [List.take_zero, this]; simp only [ixB]
    split <;> simp <;> omega
  | a :: l, k, m + 1 => by
    have ih := Zet c l (k + 1) m; rw [List.take_succ_cons]; unfold ixB
    cases h : Nat.beq a.toNat c.toNat
    · simp only [h]
      rw [ih]
      congr 3
      push_cast; exact propext ⟨fun h => by omega, fun h => by omega⟩
    · simp only [h]
      rw [decide_eq_false (by omega), decide_eq_true (by omega), decide_eq_true (by omega)]; rfl

theorem t80 (q : Int) (w : List UInt8) : PFn Tryz.prog 86 [.int .i64 q, .str w] [.int .i64 (Ze q w)] := by
  refine PFn.of_body hΓ Tryz.func86 (by kernel_rfl) rfl (Wd [(8, 7)] ?_); simp +contextual -implicitDefEqProofs only [Tryz.ntmps86, Tryz.results86, Nat.reduceAdd, Nat.reduceSub, go_sem]; refine Z0 (t100 q) (.pures rfl) ?_
  cases hq : (decide (1 ≤ q) && decide (q ≤ 16))
  · simp -implicitDefEqProofs only [go_sem]
    simp only [Bool.and_eq_false_iff, decide_eq_false_iff_not] at hq; exact (Z3l (by omega)).symm
  simp -implicitDefEqProofs only [go_sem]; simp only [Bool.and_eq_true, decide_eq_true_eq] at hq; refine ⟨fun h3 => (Z7n (by omega) (by omega) (by omega)).symm, fun h3 => ?_⟩; have h1 : ¬ q < 1 := by omega
  have h2 : ¬ 16 < q := by omega
  have h3' : ¬ 65536 < w.length := by omega
  refine AWp.loopI (fun k : Nat => ⟨mkF 27 [(0, .p (.int .i64 q)), (1, .p (.str w)), (4, .p (.int .i64 0)), (15, .p (.int .i64 w.length)), (16, .p (.int .i64 k))], []⟩)
    (fun k => k ≤ w.length ∧ okW q (w.take k) = true) (fun k => w.length - k) 0 (by simp [go_sem]) (by simp [okW]) ?_
  rintro k ⟨hk, h0⟩; refine Wd [(8, 7)] ?_; simp +contextual -implicitDefEqProofs only [Z2, ↓reduceIte, go_sem]; refine ⟨fun hlt => ⟨by omega, Z1 (t101 _ (w.getD k 0).toNat) (.pures rfl) ?_⟩, fun hge => ?_⟩
  · simp +contextual -implicitDefEqProofs only [hlt, ↓reduceIte, go_sem]
    have good : okB q (w.getD k 0) = true → InR .i64 ((k : Int) + 1) ∧ ∃ y : Nat, (y : Int) = (k : Int) + 1 ∧ (y ≤ w.length ∧ okW q (w.take y) = true) ∧ w.length - y < w.length - k := fun h => ⟨by simp only [InR]; omega, k + 1, by simp, ⟨hlt, Zei hlt h0 h⟩, by omega⟩
    have bad : okB q (w.getD k 0) = false → (13 : Int) = Ze q w := fun h => (Z58 h1 h2 h3' hlt h).symm
    have key : decide (ixB (w.getD k 0) (L16.take q.toNat) 0 < 0) = !okB q (w.getD k 0) := by
      rw [Zet, okB, show ((0 : Nat) : Int) + (q.toNat : Nat) = q by omega]
    have e : (w.getD k 0).toNat.toUInt8 = w.getD k 0 := by simp
    rw [e]; refine ⟨fun e1 => bad ?_, fun e1 => good ?_⟩
    · have := decide_eq_true e1
      rw [show ixB (w.getD k 0) (List.take q.toNat [48, 49, 50, 51, 52, 53, 54, 55, 56, 57, 97, 98, 99, 100, 101, 102]) 0 = ixB (w.getD k 0) (L16.take q.toNat) 0 from rfl, key] at this
      simpa using this
    · have := decide_eq_false e1
      rw [show ixB (w.getD k 0) (List.take q.toNat [48, 49, 50, 51, 52, 53, 54, 55, 56, 57, 97, 98, 99, 100, 101, 102]) 0 = ixB (w.getD k 0) (L16.take q.toNat) 0 from rfl, key] at this
      simpa using this
  · rw [List.take_of_length_le (by omega)] at h0
    exact (Z4o h1 h2 h3' h0).symm

def Zl (q : Int) (ws : List (List UInt8)) (i : Nat) : Int :=
  let w := ws.getD i []
  if w = [] then 5 else if 32 < w.length then 4 else if Ze q w ≠ 0 then 13 else if 0 < i ∧ 0 ≤ cmpW (ws.getD (i - 1) []) w then 10 else 0
def Z6 (q : Int) (ws : List (List UInt8)) : Int :=
  if q < 2 ∨ 16 < q then 12 else if ws.length = 0 then 5 else if 64 < ws.length then 4 else Z26 ((List.range ws.length).map (Zl q ws))

theorem Z2h {q : Int} {ws : List (List UInt8)} (h : q < 2 ∨ 16 < q) : Z6 q ws = 12 := by unfold Z6; rw [if_pos h]
theorem Z8j {q : Int} {ws : List (List UInt8)} (h : ¬ (q < 2 ∨ 16 < q)) (h1 : ws.length = 0) : Z6 q ws = 5 := by unfold Z6; rw [if_neg h, if_pos h1]
theorem Z8k {q : Int} {ws : List (List UInt8)} (h : ¬ (q < 2 ∨ 16 < q)) (h1 : ¬ ws.length = 0) (h2 : 64 < ws.length) : Z6 q ws = 4 := by unfold Z6; rw [if_neg h, if_neg h1, if_pos h2]
theorem Z6v {q : Int} {ws : List (List UInt8)} (h : ¬ (q < 2 ∨ 16 < q)) (h2 : ¬ 64 < ws.length) {k : Nat} (hk : k < ws.length) (h0 : ∀ j, j < k → Zl q ws j = 0) (h1 : Zl q ws k ≠ 0) :
    Z6 q ws = Zl q ws k := by
  unfold Z6; rw [if_neg h, if_neg (by omega), if_neg h2, Z9s (k := k) (by simpa using hk) (fun x hx => ?_) (by simpa using h1)]
  · simp
  · rw [← List.map_take, List.take_range] at hx
    obtain ⟨j, hj, rfl⟩ := List.mem_map.1 hx; exact h0 j (by have := List.mem_range.1 hj; omega)
theorem Z8l {q : Int} {ws : List (List UInt8)} (h : ¬ (q < 2 ∨ 16 < q)) (h1 : ¬ ws.length = 0) (h2 : ¬ 64 < ws.length) (h0 : ∀ j, j < ws.length → Zl q ws j = 0) : Z6 q ws = 0 := by
  unfold Z6; rw [if_neg h, if_neg h1, if_neg h2, Z6s]; intro x hx; obtain ⟨j, hj, rfl⟩ := List.mem_map.1 hx; exact h0 j (List.mem_range.1 hj)

theorem t45 (q : Int) (ws : List (List UInt8)) : PFn Tryz.prog 80 [Z7 q ws] [.int .i64 (Z6 q ws)] := by
  refine PFn.of_body hΓ Tryz.func80 (by kernel_rfl) rfl (Wd [] ?_); simp +contextual -implicitDefEqProofs only [Z7, Tryz.ntmps80, Tryz.results80, Nat.reduceAdd, Nat.reduceSub, go_sem]; refine ⟨fun h => (Z2h (.inl h)).symm, fun h1 => ⟨fun h => (Z2h (.inr h)).symm, fun h2 => ⟨fun h => (Z8j (by omega) (by omega)).symm, fun h3 => ⟨fun h => (Z8k (by omega) (by omega) (by omega)).symm, fun h4 => ?_⟩⟩⟩⟩; have hq : ¬ (q < 2 ∨ 16 < q) := by omega
  have hn : ¬ ws.length = 0 := by omega
  have hl : ¬ 64 < ws.length := by omega
  refine AWp.loopI (fun k : Nat => ⟨mkF 60 [(1, .ptr 0 0), (2, .p (.int .i64 0)), (25, .p (.sl (ws.map .str))), (26, .p (.int .i64 ws.length)), (27, .p (.int .i64 k))], [Zn q ws]⟩)
    (fun k => k ≤ ws.length ∧ ∀ j, j < k → Zl q ws j = 0) (fun k => ws.length - k) 0 (by simp [go_sem, Zn]) (by simp) ?_
  rintro k ⟨hk, h0⟩; refine Wd [] ?_; simp +contextual -implicitDefEqProofs only [Z2, ↓reduceIte, Zn, go_sem]; refine ⟨fun hlt => ?_, fun hge => (Z8l hq hn hl (fun j hj => h0 j (by omega))).symm⟩; have bad : Zl q ws k ≠ 0 → Zl q ws k = Z6 q ws := fun h => (Z6v hq hl hlt h0 h).symm
  have hw : ws.getD k [] = ws[k] := by rw [List.getD_eq_getElem?_getD, List.getElem?_eq_getElem hlt, Option.getD_some]
  have good : Zl q ws k = 0 → InR .i64 ((k : Int) + 1) ∧ ∃ y : Nat, (y : Int) = (k : Int) + 1 ∧ (y ≤ ws.length ∧ ∀ j, j < y → Zl q ws j = 0) ∧ ws.length - y < ws.length - k :=
    fun h => ⟨by simp only [InR]; omega, k + 1, by simp, ⟨hlt, fun j hj => by by_cases h' : j = k; · subst h'; exact h
                                                                              · exact h0 j (by omega)⟩, by omega⟩
  have e5 : ws[k] = [] → Zl q ws k = 5 := fun h => by unfold Zl; rw [hw, if_pos h]
  have e4 : ¬ ws[k] = [] → 32 < ws[k].length → Zl q ws k = 4 := fun h h' => by unfold Zl; rw [hw, if_neg h, if_pos h']
  have e13 : ¬ ws[k] = [] → ¬ 32 < ws[k].length → Ze q ws[k] ≠ 0 → Zl q ws k = 13 := fun h h' h'' => by unfold Zl; rw [hw, if_neg h, if_neg h', if_pos h'']
  have eL : ¬ ws[k] = [] → ¬ 32 < ws[k].length → Ze q ws[k] = 0 → Zl q ws k = if 0 < k ∧ 0 ≤ cmpW (ws.getD (k - 1) []) ws[k] then 10 else 0 := fun h h' h'' => by unfold Zl; rw [hw, if_neg h, if_neg h', if_neg (by omega)]
  refine ⟨fun h => by have := e5 h; rw [← bad (by omega)]; omega, fun n5 => ⟨fun h => by have := e4 n5 (by omega); rw [← bad (by omega)]; omega, fun n4 => Z0 (t80 q ws[k]) (.pures rfl) ?_⟩⟩; simp +contextual -implicitDefEqProofs only [Z2, ↓reduceIte, Zn, hlt, go_sem]; refine ⟨fun h => ⟨fun hp => ?_, fun hp => good (by rw [eL n5 (by omega) h, if_neg (by omega)])⟩, fun n13 => by have := e13 n5 (by omega) n13; rw [← bad (by omega)]; omega⟩; have hk1 : ((k : Int) - 1).toNat = k - 1 := by omega
  have hlt1 : k - 1 < ws.length := by omega
  have hw1 : ws.getD (k - 1) [] = ws[k - 1] := by rw [List.getD_eq_getElem?_getD, List.getElem?_eq_getElem hlt1, Option.getD_some]
  rw [hw1] at eL; simp +contextual -implicitDefEqProofs only [hk1, Z2, hlt1, ↓reduceIte, Zn, go_sem]; refine ⟨by simp only [InR]; omega, by omega, ?_⟩; refine Z0 (t81 ws[k - 1] ws[k]) (.pures rfl) ?_; simp +contextual -implicitDefEqProofs only [Z2, ↓reduceIte, Zn, hlt, go_sem]; refine ⟨fun hc => ?_, fun hc => good (by rw [eL n5 (by omega) h, if_neg (fun e => hc e.2)])⟩; have := eL n5 (by omega) h; rw [if_pos ⟨by omega, hc⟩] at this; rw [← bad (by omega)]; omega

theorem Zpj (a b : List UInt8) : (if a.length ≠ b.length then decide (a.length < b.length) else Op.bytesLess a b) = decide (cmpW a b < 0) := by
  unfold cmpW; by_cases h1 : a.length < b.length
  · rw [if_pos (by omega), if_pos h1]; simp [h1]
  · by_cases h2 : b.length < a.length
    · rw [if_pos (by omega), if_neg h1, if_pos h2]; simp [h1]
    · rw [if_neg (by omega), if_neg h1, if_neg h2, ← Zf9]
      unfold cmpB
      cases bLt a b
      · cases bEq a b <;> rfl
      · rfl
theorem t79' (a b : List UInt8) : PFn Tryz.prog 42 [.str a, .str b] [.bool (decide (cmpW a b < 0))] := by rw [← Zpj]; exact t79 a b

theorem t44 (q : Int) (ws : List (List UInt8)) : PFn Tryz.prog 40 [Z7 q ws] [.int .i64 (Z6 q ws)] := by
  refine PFn.of_body hΓ Tryz.func40 (by kernel_rfl) rfl (Wd [] ?_); simp +contextual -implicitDefEqProofs only [Z7, Tryz.ntmps40, Tryz.results40, Nat.reduceAdd, Nat.reduceSub, go_sem]; refine ⟨fun h => (Z2h (.inl h)).symm, fun h1 => ⟨fun h => (Z2h (.inr h)).symm, fun h2 => ⟨fun h => (Z8j (by omega) (by omega)).symm, fun h3 => ⟨fun h => (Z8k (by omega) (by omega) (by omega)).symm, fun h4 => ?_⟩⟩⟩⟩; have hq : ¬ (q < 2 ∨ 16 < q) := by omega
  have hn : ¬ ws.length = 0 := by omega
  have hl : ¬ 64 < ws.length := by omega
  refine AWp.loopI (fun k : Nat => ⟨mkF 56 [(1, .ptr 0 0), (2, .p (.int .i64 0)), (3, .p (.int .i64 k))], [Zn q ws]⟩)
    (fun k => k ≤ ws.length ∧ ∀ j, j < k → Zl q ws j = 0) (fun k => ws.length - k) 0 (by simp [go_sem, Zn]) (by simp) ?_
  rintro k ⟨hk, h0⟩; refine Wd [] ?_; simp +contextual -implicitDefEqProofs only [Z2, ↓reduceIte, Zn, go_sem]; refine ⟨fun hlt => ?_, fun hge => (Z8l hq hn hl (fun j hj => h0 j (by omega))).symm⟩; have bad : Zl q ws k ≠ 0 → Zl q ws k = Z6 q ws := fun h => (Z6v hq hl hlt h0 h).symm
  have hw : ws.getD k [] = ws[k] := by rw [List.getD_eq_getElem?_getD, List.getElem?_eq_getElem hlt, Option.getD_some]
  have good : Zl q ws k = 0 → InR .i64 ((k : Int) + 1) ∧ ∃ y : Nat, (y : Int) = (k : Int) + 1 ∧ (y ≤ ws.length ∧ ∀ j, j < y → Zl q ws j = 0) ∧ ws.length - y < ws.length - k :=
    fun h => ⟨by simp only [InR]; omega, k + 1, by simp, ⟨hlt, fun j hj => by by_cases h' : j = k; · subst h'; exact h
                                                                              · exact h0 j (by omega)⟩, by omega⟩
  have e5 : ws[k] = [] → Zl q ws k = 5 := fun h => by unfold Zl; rw [hw, if_pos h]
  have e4 : ¬ ws[k] = [] → 32 < ws[k].length → Zl q ws k = 4 := fun h h' => by unfold Zl; rw [hw, if_neg h, if_pos h']
  have e13 : ¬ ws[k] = [] → ¬ 32 < ws[k].length → Ze q ws[k] ≠ 0 → Zl q ws k = 13 := fun h h' h'' => by unfold Zl; rw [hw, if_neg h, if_neg h', if_pos h'']
  have eL : ¬ ws[k] = [] → ¬ 32 < ws[k].length → Ze q ws[k] = 0 → Zl q ws k = if 0 < k ∧ 0 ≤ cmpW (ws.getD (k - 1) []) ws[k] then 10 else 0 := fun h h' h'' => by unfold Zl; rw [hw, if_neg h, if_neg h', if_neg (by omega)]
  refine ⟨fun h => by have := e5 h; rw [← bad (by omega)]; omega, fun n5 => ⟨fun h => by have := e4 n5 (by omega); rw [← bad (by omega)]; omega, fun n4 => Z0 (t78 q ws[k]) (.pures rfl) ?_⟩⟩; simp +contextual -implicitDefEqProofs only [Z2, ↓reduceIte, Zn, hlt, go_sem]; refine ⟨fun h => ⟨fun hp => ?_, fun hp => good (by rw [eL n5 (by omega) h, if_neg (by omega)])⟩, fun n13 => by have := e13 n5 (by omega) n13; rw [← bad (by omega)]; omega⟩; have hk1 : ((k : Int) - 1).toNat = k - 1 := by omega
  have hlt1 : k - 1 < ws.length := by omega
  have hw1 : ws.getD (k - 1) [] = ws[k - 1] := by rw [List.getD_eq_getElem?_getD, List.getElem?_eq_getElem hlt1, Option.getD_some]
  rw [hw1] at eL; simp +contextual -implicitDefEqProofs only [hk1, Z2, hlt1, ↓reduceIte, Zn, go_sem]; refine ⟨by simp only [InR]; omega, by omega, ?_⟩; refine Z0 (t79' ws[k - 1] ws[k]) (.pures rfl) ?_; simp +contextual -implicitDefEqProofs only [Z2, ↓reduceIte, Zn, hlt, go_sem]; refine ⟨fun hc => good (by rw [eL n5 (by omega) h, if_neg (fun e => by omega)]), fun hc => ?_⟩; have := eL n5 (by omega) h; rw [if_pos ⟨by omega, by omega⟩] at this; rw [← bad (by omega)]; omega

theorem t85 (w x : List UInt8) : PFn Tryz.prog 155 [.str w, .str x] [.bool (x.isPrefixOf w)] := by
  refine PFn.of_body hΓ Tryz.func155 (by kernel_rfl) rfl (Wd [] ?_); simp +contextual -implicitDefEqProofs only [Tryz.ntmps155, Tryz.results155, Nat.reduceAdd, Nat.reduceSub, go_sem]; refine ⟨fun h => ?_, fun h => ?_⟩
  · rw [Bool.eq_iff_iff, List.isPrefixOf_iff_prefix, List.prefix_iff_eq_take, decide_eq_true_eq]; exact eq_comm
  · rw [Bool.eq_iff_iff, List.isPrefixOf_iff_prefix]
    exact ⟨fun h => by simp at h, fun h' => absurd h'.length_le (by omega)⟩

end Go.Proofs.YtpljmccnfmkmfaaGreat
end

section
namespace Go.Proofs.YtpljmccnfmkmfaaGreat
open Go Go.AM Go.RowKit Go.ChangeShapes

theorem own : ownKnob Tryz.prog.godebug = none := by kernel_rfl
theorem Zpl : laidOutB Tryz.prog = true := by kernel_rfl

def Znq : Sh := .agg [.int .i64, .sl .str]

theorem Zo4 {l : List PV} (h : ∀ i, i < l.length → Fit .str (l.getD i default)) : ∃ ws : List (List UInt8), l = ws.map .str ∧ ∀ w ∈ ws, w.length ≤ maxLen := by
  induction l with
  | nil => exact ⟨[], rfl, by simp⟩
  | cons x l ih =>
    obtain ⟨ws, h1, h2⟩ := ih (fun i hi => h (i + 1) (by simpa using hi)); have h0 := h 0 (by simp); simp only [List.getD_cons_zero] at h0
    cases h0 with
    | str s hs => exact ⟨s :: ws, by rw [h1]; rfl, fun w hw => by
        rcases List.mem_cons.1 hw with rfl | hw
        · exact hs
        · exact h2 w hw⟩
theorem Zka {p : PV} (h : Fit (.sl .str) p) : ∃ ws : List (List UInt8), p = .sl (ws.map .str) ∧ ws.length ≤ maxLen ∧ ∀ w ∈ ws, w.length ≤ maxLen := by
  cases h with
  | sl _ l h1 h2 =>
    obtain ⟨ws, rfl, h3⟩ := Zo4 h2; exact ⟨ws, rfl, by simpa using h1, h3⟩
theorem Zq9 {p : PV} (h : Fit Znq p) : ∃ (q : Int) (ws : List (List UInt8)), p = Z7 q ws ∧ InR .i64 q ∧ ws.length ≤ maxLen ∧ ∀ w ∈ ws, w.length ≤ maxLen := by
  cases h with
  | agg _ l h1 h2 =>
    match l, h1 with
    | [x, y], _ =>
      have h3 := h2 0 (by simp); have h4 := h2 1 (by simp); simp only [List.getD_cons_zero, List.getD_cons_succ] at h3 h4; obtain ⟨ws, rfl, h5⟩ := Zka h4
      cases h3 with
      | int _ n hn => exact ⟨n, ws, rfl, hn, h5⟩
end Go.Proofs.YtpljmccnfmkmfaaGreat
end

