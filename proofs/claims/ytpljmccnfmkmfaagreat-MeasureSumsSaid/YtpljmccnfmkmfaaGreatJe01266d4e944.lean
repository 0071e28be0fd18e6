/-
  Texts of this claim, joined.
-/
import Derived.Test.YtpljmccnfmkmfaaGreatJea0a703955d9
import Derived.Test.YtpljmccnfmkmfaaGreatProg
import Derived.KernelRfl
import Derived.Test.YtpljmccnfmkmfaaGreatJfb534ab956df
import Derived.Test.YtpljmccnfmkmfaaGreatJ1f8845d06104
import Derived.Test.YtpljmccnfmkmfaaGreatJd16cf1e4a705

set_option linter.unusedSimpArgs false
set_option maxRecDepth 1000000
set_option maxHeartbeats 4000000
section
namespace Go.Proofs.YtpljmccnfmkmfaaGreat
open Go Go.AM

def Γ : Gam := fun t => match t with
  | 1 => some ⟨.other, 1, 8, some (.cell), false, false⟩
  | 2 => some ⟨.int .i64, 1, 8, some (.p (.int .i64 0)), false, false⟩
  | 3 => some ⟨.int .i64, 1, 8, some (.p (.int .i64 0)), false, false⟩
  | 4 => some ⟨.bool, 1, 1, some (.p (.bool false)), false, false⟩
  | 5 => some ⟨.int .u8, 1, 1, some (.p (.int .u8 0)), false, false⟩
  | 6 => some ⟨.int .u8, 1, 1, some (.p (.int .u8 0)), false, false⟩
  | 7 => some ⟨.struct [(0, 2), (1, 3), (2, 4), (3, 6)], 4, 24, some (.agg [.p (.int .i64 0), .p (.int .i64 0), .p (.bool false), .p (.int .u8 0)]), true, false⟩
  | 8 => some ⟨.struct [(0, 2), (1, 3), (2, 4), (3, 6)], 4, 24, some (.agg [.p (.int .i64 0), .p (.int .i64 0), .p (.bool false), .p (.int .u8 0)]), true, false⟩
  | 9 => some ⟨.str, 1, 16, some (.p (.str [])), false, false⟩
  | 10 => some ⟨.str, 1, 16, some (.p (.str [])), false, false⟩
  | 11 => some ⟨.str, 1, 16, some (.p (.str [])), false, false⟩
  | 12 => some ⟨.int .u64, 1, 8, some (.p (.int .u64 0)), false, false⟩
  | 13 => some ⟨.struct [(0, 9), (1, 12)], 2, 24, some (.agg [.p (.str []), .p (.int .u64 0)]), true, false⟩
  | 14 => some ⟨.struct [(0, 9), (1, 12)], 2, 24, some (.agg [.p (.str []), .p (.int .u64 0)]), true, false⟩
  | 15 => some ⟨.other, 1, 8, some (.cell), false, false⟩
  | 16 => some ⟨.other, 1, 8, some (.cell), false, false⟩
  | 17 => some ⟨.other, 1, 8, some (.cell), false, false⟩
  | 18 => some ⟨.struct [(0, 17)], 1, 8, some (.agg [.cell]), true, false⟩
  | 19 => some ⟨.struct [(0, 17)], 1, 8, some (.agg [.cell]), true, false⟩
  | 21 => some ⟨.int .i32, 1, 4, some (.p (.int .i32 0)), false, false⟩
  | 22 => some ⟨.slice 9, 1, 24, some (.full []), false, false⟩
  | 23 => some ⟨.struct [(0, 3), (1, 22)], 2, 32, some (.agg [.p (.int .i64 0), .full []]), true, false⟩
  | 24 => some ⟨.struct [(0, 3), (1, 22)], 2, 32, some (.agg [.p (.int .i64 0), .full []]), true, false⟩
  | 25 => some ⟨.other, 1, 8, some (.cell), false, false⟩
  | 26 => some ⟨.other, 1, 8, some (.cell), false, false⟩
  | 27 => some ⟨.int .i64, 1, 8, some (.p (.int .i64 0)), false, false⟩
  | 29 => some ⟨.other, 1, 8, some (.cell), false, false⟩
  | 31 => some ⟨.other, 1, 8, some (.cell), false, false⟩
  | 32 => some ⟨.other, 1, 8, some (.cell), false, false⟩
  | 33 => some ⟨.other, 1, 8, some (.cell), false, false⟩
  | 34 => some ⟨.other, 1, 8, some (.cell), false, false⟩
  | 35 => some ⟨.other, 1, 8, some (.cell), false, false⟩
  | 36 => some ⟨.slice 3, 1, 24, some (.full []), false, false⟩
  | 37 => some ⟨.other, 1, 8, some (.cell), false, false⟩
  | 40 => some ⟨.other, 1, 8, some (.cell), false, false⟩
  | 41 => some ⟨.other, 1, 8, some (.cell), false, false⟩
  | 43 => some ⟨.other, 1, 8, some (.cell), false, false⟩
  | 44 => some ⟨.other, 1, 8, some (.cell), false, false⟩
  | 47 => some ⟨.other, 1, 8, some (.cell), false, false⟩
  | 48 => some ⟨.other, 1, 8, some (.cell), false, false⟩
  | 49 => some ⟨.other, 1, 8, some (.cell), false, false⟩
  | 50 => some ⟨.other, 1, 8, some (.cell), false, false⟩
  | 51 => some ⟨.other, 1, 8, some (.cell), false, false⟩
  | 52 => some ⟨.struct [(0, 4), (1, 9)], 2, 24, some (.agg [.p (.bool false), .p (.str [])]), true, false⟩
  | 53 => some ⟨.struct [(0, 4), (1, 9)], 2, 24, some (.agg [.p (.bool false), .p (.str [])]), true, true⟩
  | 54 => some ⟨.struct [(0, 53), (2, 53)], 4, 48, some (.agg [.p (.bool false), .p (.str []), .p (.bool false), .p (.str [])]), true, false⟩
  | 55 => some ⟨.struct [(0, 53), (2, 53)], 4, 48, some (.agg [.p (.bool false), .p (.str []), .p (.bool false), .p (.str [])]), true, true⟩
  | 57 => some ⟨.other, 1, 8, some (.cell), false, false⟩
  | 59 => some ⟨.other, 1, 8, some (.cell), false, false⟩
  | 60 => some ⟨.other, 1, 8, some (.cell), false, false⟩
  | 61 => some ⟨.other, 1, 8, some (.cell), false, false⟩
  | 62 => some ⟨.slice 55, 1, 24, some (.full []), false, false⟩
  | 63 => some ⟨.other, 1, 8, some (.cell), false, false⟩
  | 64 => some ⟨.other, 1, 8, some (.cell), false, false⟩
  | 65 => some ⟨.slice 5, 1, 24, some (.full []), false, false⟩
  | 67 => some ⟨.other, 1, 8, some (.cell), false, false⟩
  | 68 => some ⟨.other, 1, 8, some (.cell), false, false⟩
  | 70 => some ⟨.other, 1, 8, some (.cell), false, false⟩
  | 72 => some ⟨.other, 1, 8, some (.cell), false, false⟩
  | 74 => some ⟨.other, 1, 8, some (.cell), false, false⟩
  | 75 => some ⟨.other, 1, 8, some (.cell), false, false⟩
  | 76 => some ⟨.other, 1, 8, some (.cell), false, false⟩
  | 77 => some ⟨.other, 1, 8, some (.cell), false, false⟩
  | 78 => some ⟨.other, 1, 8, some (.cell), false, false⟩
  | 79 => some ⟨.other, 1, 8, some (.cell), false, false⟩
  | 80 => some ⟨.other, 1, 8, some (.cell), false, false⟩
  | 81 => some ⟨.other, 1, 8, some (.cell), false, false⟩
  | 82 => some ⟨.other, 1, 8, some (.cell), false, false⟩
  | 83 => some ⟨.other, 1, 8, some (.cell), false, false⟩
  | 84 => some ⟨.other, 1, 8, some (.cell), false, false⟩
  | 86 => some ⟨.struct [(0, 3), (1, 3)], 2, 16, some (.agg [.p (.int .i64 0), .p (.int .i64 0)]), true, false⟩
  | 87 => some ⟨.struct [(0, 3), (1, 3)], 2, 16, some (.agg [.p (.int .i64 0), .p (.int .i64 0)]), true, true⟩
  | 88 => some ⟨.other, 1, 8, some (.cell), false, false⟩
  | 89 => some ⟨.other, 1, 8, some (.cell), false, false⟩
  | 90 => some ⟨.other, 1, 8, some (.cell), false, false⟩
  | 92 => some ⟨.other, 1, 8, some (.cell), false, false⟩
  | 95 => some ⟨.slice 9, 1, 24, some (.full []), false, false⟩
  | 97 => some ⟨.other, 1, 8, some (.cell), false, false⟩
  | 98 => some ⟨.other, 1, 8, some (.cell), false, false⟩
  | 99 => some ⟨.other, 1, 8, some (.cell), false, false⟩
  | 100 => some ⟨.other, 1, 8, some (.cell), false, false⟩
  | 103 => some ⟨.other, 1, 8, some (.cell), false, false⟩
  | 104 => some ⟨.other, 1, 8, some (.cell), false, false⟩
  | 105 => some ⟨.other, 1, 8, some (.cell), false, false⟩
  | 107 => some ⟨.other, 1, 8, some (.cell), false, false⟩
  | 108 => some ⟨.other, 1, 8, some (.cell), false, false⟩
  | 111 => some ⟨.other, 1, 8, some (.cell), false, false⟩
  | 112 => some ⟨.other, 1, 8, some (.cell), false, false⟩
  | 113 => some ⟨.other, 1, 8, some (.cell), false, false⟩
  | 114 => some ⟨.other, 1, 8, some (.cell), false, false⟩
  | 115 => some ⟨.other, 1, 8, some (.cell), false, false⟩
  | 116 => some ⟨.other, 1, 8, some (.cell), false, false⟩
  | 117 => some ⟨.struct [(0, 116), (1, 65)], 2, 32, some (.agg [.cell, .full []]), true, false⟩
  | 118 => some ⟨.struct [(0, 116), (1, 65)], 2, 32, some (.agg [.cell, .full []]), true, false⟩
  | 122 => some ⟨.other, 1, 8, some (.cell), false, false⟩
  | 126 => some ⟨.other, 1, 8, some (.cell), false, false⟩
  | 129 => some ⟨.slice 22, 1, 24, some (.full []), false, false⟩
  | 131 => some ⟨.other, 1, 8, some (.cell), false, false⟩
  | 133 => some ⟨.other, 1, 8, some (.cell), false, false⟩
  | 134 => some ⟨.int .u64, 1, 8, some (.p (.int .u64 0)), false, false⟩
  | 135 => some ⟨.other, 1, 8, some (.cell), false, false⟩
  | 136 => some ⟨.int .u32, 1, 4, some (.p (.int .u32 0)), false, false⟩
  | 137 => some ⟨.int .u64, 1, 8, some (.p (.int .u64 0)), false, false⟩
  | 139 => some ⟨.slice 136, 1, 24, some (.full []), false, false⟩
  | 141 => some ⟨.other, 1, 8, some (.cell), false, false⟩
  | 143 => some ⟨.struct [(0, 95), (1, 9)], 2, 40, some (.agg [.full [], .p (.str [])]), true, false⟩
  | 144 => some ⟨.slice 143, 1, 24, some (.full []), false, false⟩
  | 145 => some ⟨.map 9 4, 1, 8, some (.cell), false, false⟩
  | 148 => some ⟨.other, 1, 8, some (.cell), false, false⟩
  | 150 => some ⟨.other, 1, 8, some (.cell), false, false⟩
  | 152 => some ⟨.other, 1, 8, some (.cell), false, false⟩
  | 154 => some ⟨.other, 1, 8, some (.cell), false, false⟩
  | 160 => some ⟨.other, 1, 8, some (.cell), false, false⟩
  | 168 => some ⟨.other, 1, 8, some (.cell), false, false⟩
  | 169 => some ⟨.other, 1, 8, some (.cell), false, false⟩
  | 171 => some ⟨.other, 1, 8, some (.cell), false, false⟩
  | 173 => some ⟨.other, 1, 8, some (.cell), false, false⟩
  | 178 => some ⟨.other, 1, 8, some (.cell), false, false⟩
  | 180 => some ⟨.struct [(0, 178)], 1, 8, some (.agg [.cell]), true, false⟩
  | 181 => some ⟨.array 4 180, 4, 32, some (.agg [.cell, .cell, .cell, .cell]), true, false⟩
  | 184 => some ⟨.other, 1, 8, some (.cell), false, false⟩
  | 185 => some ⟨.other, 1, 8, some (.cell), false, false⟩
  | 186 => some ⟨.other, 1, 8, some (.cell), false, false⟩
  | 188 => some ⟨.other, 1, 8, some (.cell), false, false⟩
  | 189 => some ⟨.other, 1, 8, some (.cell), false, false⟩
  | 190 => some ⟨.other, 1, 8, some (.cell), false, false⟩
  | 192 => some ⟨.other, 1, 8, some (.cell), false, false⟩
  | 194 => some ⟨.other, 1, 8, some (.cell), false, false⟩
  | 195 => some ⟨.int .i64, 1, 8, some (.p (.int .i64 0)), false, false⟩
  | 203 => some ⟨.other, 1, 8, some (.cell), false, false⟩
  | 204 => some ⟨.other, 1, 8, some (.cell), false, false⟩
  | 205 => some ⟨.other, 1, 8, some (.cell), false, false⟩
  | 215 => some ⟨.other, 1, 8, some (.cell), false, false⟩
  | 216 => some ⟨.array 8 5, 8, 8, some (.agg [.p (.int .u8 0), .p (.int .u8 0), .p (.int .u8 0), .p (.int .u8 0), .p (.int .u8 0), .p (.int .u8 0), .p (.int .u8 0), .p (.int .u8 0)]), true, false⟩
  | 217 => some ⟨.int .u64, 1, 8, some (.p (.int .u64 0)), false, false⟩
  | 218 => some ⟨.other, 1, 8, some (.cell), false, false⟩
  | 220 => some ⟨.other, 1, 8, some (.cell), false, false⟩
  | 221 => some ⟨.other, 1, 8, some (.cell), false, false⟩
  | 222 => some ⟨.other, 1, 8, some (.cell), false, false⟩
  | 223 => some ⟨.other, 1, 8, some (.cell), false, false⟩
  | 230 => some ⟨.other, 1, 8, some (.cell), false, false⟩
  | 231 => some ⟨.array 8 9, 8, 128, some (.agg [.p (.str []), .p (.str []), .p (.str []), .p (.str []), .p (.str []), .p (.str []), .p (.str []), .p (.str [])]), true, false⟩
  | 232 => some ⟨.other, 1, 8, some (.cell), false, false⟩
  | 236 => some ⟨.other, 1, 8, some (.cell), false, false⟩
  | 238 => some ⟨.other, 1, 8, some (.cell), false, false⟩
  | 244 => some ⟨.other, 1, 8, some (.cell), false, false⟩
  | 246 => some ⟨.int .u8, 1, 1, some (.p (.int .u8 0)), false, false⟩
  | _ => none

theorem g2 : Γ 2 = some ⟨.int .i64, 1, 8, some (.p (.int .i64 0)), false, false⟩ := rfl
theorem g3 : Γ 3 = some ⟨.int .i64, 1, 8, some (.p (.int .i64 0)), false, false⟩ := rfl
theorem g4 : Γ 4 = some ⟨.bool, 1, 1, some (.p (.bool false)), false, false⟩ := rfl
theorem g5 : Γ 5 = some ⟨.int .u8, 1, 1, some (.p (.int .u8 0)), false, false⟩ := rfl
theorem g9 : Γ 9 = some ⟨.str, 1, 16, some (.p (.str [])), false, false⟩ := rfl
theorem g22 : Γ 22 = some ⟨.slice 9, 1, 24, some (.full []), false, false⟩ := rfl
theorem g24 : Γ 24 = some ⟨.struct [(0, 3), (1, 22)], 2, 32, some (.agg [.p (.int .i64 0), .full []]), true, false⟩ := rfl
theorem g36 : Γ 36 = some ⟨.slice 3, 1, 24, some (.full []), false, false⟩ := rfl
theorem g53 : Γ 53 = some ⟨.struct [(0, 4), (1, 9)], 2, 24, some (.agg [.p (.bool false), .p (.str [])]), true, true⟩ := rfl
theorem g55 : Γ 55 = some ⟨.struct [(0, 53), (2, 53)], 4, 48, some (.agg [.p (.bool false), .p (.str []), .p (.bool false), .p (.str [])]), true, true⟩ := rfl
theorem g62 : Γ 62 = some ⟨.slice 55, 1, 24, some (.full []), false, false⟩ := rfl
theorem g65 : Γ 65 = some ⟨.slice 5, 1, 24, some (.full []), false, false⟩ := rfl
theorem g95 : Γ 95 = some ⟨.slice 9, 1, 24, some (.full []), false, false⟩ := rfl
theorem g134 : Γ 134 = some ⟨.int .u64, 1, 8, some (.p (.int .u64 0)), false, false⟩ := rfl
theorem g136 : Γ 136 = some ⟨.int .u32, 1, 4, some (.p (.int .u32 0)), false, false⟩ := rfl
theorem g137 : Γ 137 = some ⟨.int .u64, 1, 8, some (.p (.int .u64 0)), false, false⟩ := rfl
theorem g139 : Γ 139 = some ⟨.slice 136, 1, 24, some (.full []), false, false⟩ := rfl
theorem g178 : Γ 178 = some ⟨.other, 1, 8, some (.cell), false, false⟩ := rfl
theorem g180 : Γ 180 = some ⟨.struct [(0, 178)], 1, 8, some (.agg [.cell]), true, false⟩ := rfl
theorem g181 : Γ 181 = some ⟨.array 4 180, 4, 32, some (.agg [.cell, .cell, .cell, .cell]), true, false⟩ := rfl
theorem g231 : Γ 231 = some ⟨.array 8 9, 8, 128, some (.agg [.p (.str []), .p (.str []), .p (.str []), .p (.str []), .p (.str []), .p (.str []), .p (.str []), .p (.str [])]), true, false⟩ := rfl

theorem hΓ : Zw Tryz.prog Γ := by
  intro t te h; unfold Γ at h
  split at h
  · injection h with h; subst h; exact Z2 (zv := .nilFunc) (by kernel_rfl) (by kernel_rfl) rfl
  · injection h with h; subst h; exact Z2 (zv := .int .i64 0) (by kernel_rfl) (by kernel_rfl) rfl
  · injection h with h; subst h; exact Z2 (zv := .int .i64 0) (by kernel_rfl) (by kernel_rfl) rfl
  · injection h with h; subst h; exact Z2 (zv := .bool false) (by kernel_rfl) (by kernel_rfl) rfl
  · injection h with h; subst h; exact Z2 (zv := .int .u8 0) (by kernel_rfl) (by kernel_rfl) rfl
  · injection h with h; subst h; exact Z2 (zv := .int .u8 0) (by kernel_rfl) (by kernel_rfl) rfl
  · injection h with h; subst h; exact Z2 (zv := .agg #[.int .i64 0, .int .i64 0, .bool false, .int .u8 0]) (by kernel_rfl) (by kernel_rfl) rfl
  · injection h with h; subst h; exact Z2 (zv := .agg #[.int .i64 0, .int .i64 0, .bool false, .int .u8 0]) (by kernel_rfl) (by kernel_rfl) rfl
  · injection h with h; subst h; exact Z2 (zv := .string ⟨#[]⟩) (by kernel_rfl) (by kernel_rfl) rfl
  · injection h with h; subst h; exact Z2 (zv := .string ⟨#[]⟩) (by kernel_rfl) (by kernel_rfl) rfl
  · injection h with h; subst h; exact Z2 (zv := .string ⟨#[]⟩) (by kernel_rfl) (by kernel_rfl) rfl
  · injection h with h; subst h; exact Z2 (zv := .int .u64 0) (by kernel_rfl) (by kernel_rfl) rfl
  · injection h with h; subst h; exact Z2 (zv := .agg #[.string ⟨#[]⟩, .int .u64 0]) (by kernel_rfl) (by kernel_rfl) rfl
  · injection h with h; subst h; exact Z2 (zv := .agg #[.string ⟨#[]⟩, .int .u64 0]) (by kernel_rfl) (by kernel_rfl) rfl
  · injection h with h; subst h; exact Z2 (zv := .pointer none) (by kernel_rfl) (by kernel_rfl) rfl
  · injection h with h; subst h; exact Z2 (zv := .pointer none) (by kernel_rfl) (by kernel_rfl) rfl
  · injection h with h; subst h; exact Z2 (zv := .pointer none) (by kernel_rfl) (by kernel_rfl) rfl
  · injection h with h; subst h; exact Z2 (zv := .agg #[.pointer none]) (by kernel_rfl) (by kernel_rfl) rfl
  · injection h with h; subst h; exact Z2 (zv := .agg #[.pointer none]) (by kernel_rfl) (by kernel_rfl) rfl
  · injection h with h; subst h; exact Z2 (zv := .int .i32 0) (by kernel_rfl) (by kernel_rfl) rfl
  · injection h with h; subst h; exact Z2 (zv := .slice none 0 0) (by kernel_rfl) (by kernel_rfl) rfl
  · injection h with h; subst h; exact Z2 (zv := .agg #[.int .i64 0, .slice none 0 0]) (by kernel_rfl) (by kernel_rfl) rfl
  · injection h with h; subst h; exact Z2 (zv := .agg #[.int .i64 0, .slice none 0 0]) (by kernel_rfl) (by kernel_rfl) rfl
  · injection h with h; subst h; exact Z2 (zv := .nilFunc) (by kernel_rfl) (by kernel_rfl) rfl
  · injection h with h; subst h; exact Z2 (zv := .nilFunc) (by kernel_rfl) (by kernel_rfl) rfl
  · injection h with h; subst h; exact Z2 (zv := .int .i64 0) (by kernel_rfl) (by kernel_rfl) rfl
  · injection h with h; subst h; exact Z2 (zv := .nilFunc) (by kernel_rfl) (by kernel_rfl) rfl
  · injection h with h; subst h; exact Z2 (zv := .nilFunc) (by kernel_rfl) (by kernel_rfl) rfl
  · injection h with h; subst h; exact Z2 (zv := .nilFunc) (by kernel_rfl) (by kernel_rfl) rfl
  · injection h with h; subst h; exact Z2 (zv := .nilFunc) (by kernel_rfl) (by kernel_rfl) rfl
  · injection h with h; subst h; exact Z2 (zv := .nilFunc) (by kernel_rfl) (by kernel_rfl) rfl
  · injection h with h; subst h; exact Z2 (zv := .nilFunc) (by kernel_rfl) (by kernel_rfl) rfl
  · injection h with h; subst h; exact Z2 (zv := .slice none 0 0) (by kernel_rfl) (by kernel_rfl) rfl
  · injection h with h; subst h; exact Z2 (zv := .nilFunc) (by kernel_rfl) (by kernel_rfl) rfl
  · injection h with h; subst h; exact Z2 (zv := .nilFunc) (by kernel_rfl) (by kernel_rfl) rfl
  · injection h with h; subst h; exact Z2 (zv := .nilFunc) (by kernel_rfl) (by kernel_rfl) rfl
  · injection h with h; subst h; exact Z2 (zv := .nilFunc) (by kernel_rfl) (by kernel_rfl) rfl
  · injection h with h; subst h; exact Z2 (zv := .nilFunc) (by kernel_rfl) (by kernel_rfl) rfl
  · injection h with h; subst h; exact Z2 (zv := .nilFunc) (by kernel_rfl) (by kernel_rfl) rfl
  · injection h with h; subst h; exact Z2 (zv := .nilFunc) (by kernel_rfl) (by kernel_rfl) rfl
  · injection h with h; subst h; exact Z2 (zv := .nilFunc) (by kernel_rfl) (by kernel_rfl) rfl
  · injection h with h; subst h; exact Z2 (zv := .nilFunc) (by kernel_rfl) (by kernel_rfl) rfl
  · injection h with h; subst h; exact Z2 (zv := .nilFunc) (by kernel_rfl) (by kernel_rfl) rfl
  · injection h with h; subst h; exact Z2 (zv := .agg #[.bool false, .string ⟨#[]⟩]) (by kernel_rfl) (by kernel_rfl) rfl
  · injection h with h; subst h; exact Z5n (zv := .agg #[.bool false, .string ⟨#[]⟩]) (by kernel_rfl) (by kernel_rfl) rfl (fun _ => ⟨by kernel_rfl, by kernel_rfl, by kernel_rfl⟩)
  · injection h with h; subst h; exact Z2 (zv := .agg #[.bool false, .string ⟨#[]⟩, .bool false, .string ⟨#[]⟩]) (by kernel_rfl) (by kernel_rfl) rfl
  · injection h with h; subst h; exact Z5n (zv := .agg #[.bool false, .string ⟨#[]⟩, .bool false, .string ⟨#[]⟩]) (by kernel_rfl) (by kernel_rfl) rfl (fun _ => ⟨by kernel_rfl, by kernel_rfl, by kernel_rfl⟩)
  · injection h with h; subst h; exact Z2 (zv := .nilFunc) (by kernel_rfl) (by kernel_rfl) rfl
  · injection h with h; subst h; exact Z2 (zv := .nilFunc) (by kernel_rfl) (by kernel_rfl) rfl
  · injection h with h; subst h; exact Z2 (zv := .nilFunc) (by kernel_rfl) (by kernel_rfl) rfl
  · injection h with h; subst h; exact Z2 (zv := .nilFunc) (by kernel_rfl) (by kernel_rfl) rfl
  · injection h with h; subst h; exact Z2 (zv := .slice none 0 0) (by kernel_rfl) (by kernel_rfl) rfl
  · injection h with h; subst h; exact Z2 (zv := .nilFunc) (by kernel_rfl) (by kernel_rfl) rfl
  · injection h with h; subst h; exact Z2 (zv := .nilFunc) (by kernel_rfl) (by kernel_rfl) rfl
  · injection h with h; subst h; exact Z2 (zv := .slice none 0 0) (by kernel_rfl) (by kernel_rfl) rfl
  · injection h with h; subst h; exact Z2 (zv := .nilFunc) (by kernel_rfl) (by kernel_rfl) rfl
  · injection h with h; subst h; exact Z2 (zv := .nilFunc) (by kernel_rfl) (by kernel_rfl) rfl
  · injection h with h; subst h; exact Z2 (zv := .nilFunc) (by kernel_rfl) (by kernel_rfl) rfl
  · injection h with h; subst h; exact Z2 (zv := .nilFunc) (by kernel_rfl) (by kernel_rfl) rfl
  · injection h with h; subst h; exact Z2 (zv := .nilFunc) (by kernel_rfl) (by kernel_rfl) rfl
  · injection h with h; subst h; exact Z2 (zv := .nilFunc) (by kernel_rfl) (by kernel_rfl) rfl
  · injection h with h; subst h; exact Z2 (zv := .nilFunc) (by kernel_rfl) (by kernel_rfl) rfl
  · injection h with h; subst h; exact Z2 (zv := .nilFunc) (by kernel_rfl) (by kernel_rfl) rfl
  · injection h with h; subst h; exact Z2 (zv := .nilFunc) (by kernel_rfl) (by kernel_rfl) rfl
  · injection h with h; subst h; exact Z2 (zv := .nilFunc) (by kernel_rfl) (by kernel_rfl) rfl
  · injection h with h; subst h; exact Z2 (zv := .nilFunc) (by kernel_rfl) (by kernel_rfl) rfl
  · injection h with h; subst h; exact Z2 (zv := .nilFunc) (by kernel_rfl) (by kernel_rfl) rfl
  · injection h with h; subst h; exact Z2 (zv := .nilFunc) (by kernel_rfl) (by kernel_rfl) rfl
  · injection h with h; subst h; exact Z2 (zv := .nilFunc) (by kernel_rfl) (by kernel_rfl) rfl
  · injection h with h; subst h; exact Z2 (zv := .nilFunc) (by kernel_rfl) (by kernel_rfl) rfl
  · injection h with h; subst h; exact Z2 (zv := .agg #[.int .i64 0, .int .i64 0]) (by kernel_rfl) (by kernel_rfl) rfl
  · injection h with h; subst h; exact Z5n (zv := .agg #[.int .i64 0, .int .i64 0]) (by kernel_rfl) (by kernel_rfl) rfl (fun _ => ⟨by kernel_rfl, by kernel_rfl, by kernel_rfl⟩)
  · injection h with h; subst h; exact Z2 (zv := .nilFunc) (by kernel_rfl) (by kernel_rfl) rfl
  · injection h with h; subst h; exact Z2 (zv := .nilFunc) (by kernel_rfl) (by kernel_rfl) rfl
  · injection h with h; subst h; exact Z2 (zv := .nilFunc) (by kernel_rfl) (by kernel_rfl) rfl
  · injection h with h; subst h; exact Z2 (zv := .nilFunc) (by kernel_rfl) (by kernel_rfl) rfl
  · injection h with h; subst h; exact Z2 (zv := .slice none 0 0) (by kernel_rfl) (by kernel_rfl) rfl
  · injection h with h; subst h; exact Z2 (zv := .nilFunc) (by kernel_rfl) (by kernel_rfl) rfl
  · injection h with h; subst h; exact Z2 (zv := .nilFunc) (by kernel_rfl) (by kernel_rfl) rfl
  · injection h with h; subst h; exact Z2 (zv := .nilFunc) (by kernel_rfl) (by kernel_rfl) rfl
  · injection h with h; subst h; exact Z2 (zv := .nilFunc) (by kernel_rfl) (by kernel_rfl) rfl
  · injection h with h; subst h; exact Z2 (zv := .nilFunc) (by kernel_rfl) (by kernel_rfl) rfl
  · injection h with h; subst h; exact Z2 (zv := .nilFunc) (by kernel_rfl) (by kernel_rfl) rfl
  · injection h with h; subst h; exact Z2 (zv := .nilFunc) (by kernel_rfl) (by kernel_rfl) rfl
  · injection h with h; subst h; exact Z2 (zv := .nilFunc) (by kernel_rfl) (by kernel_rfl) rfl
  · injection h with h; subst h; exact Z2 (zv := .nilFunc) (by kernel_rfl) (by kernel_rfl) rfl
  · injection h with h; subst h; exact Z2 (zv := .nilFunc) (by kernel_rfl) (by kernel_rfl) rfl
  · injection h with h; subst h; exact Z2 (zv := .nilFunc) (by kernel_rfl) (by kernel_rfl) rfl
  · injection h with h; subst h; exact Z2 (zv := .nilFunc) (by kernel_rfl) (by kernel_rfl) rfl
  · injection h with h; subst h; exact Z2 (zv := .nilFunc) (by kernel_rfl) (by kernel_rfl) rfl
  · injection h with h; subst h; exact Z2 (zv := .nilFunc) (by kernel_rfl) (by kernel_rfl) rfl
  · injection h with h; subst h; exact Z2 (zv := .pointer none) (by kernel_rfl) (by kernel_rfl) rfl
  · injection h with h; subst h; exact Z2 (zv := .agg #[.pointer none, .slice none 0 0]) (by kernel_rfl) (by kernel_rfl) rfl
  · injection h with h; subst h; exact Z2 (zv := .agg #[.pointer none, .slice none 0 0]) (by kernel_rfl) (by kernel_rfl) rfl
  · injection h with h; subst h; exact Z2 (zv := .nilFunc) (by kernel_rfl) (by kernel_rfl) rfl
  · injection h with h; subst h; exact Z2 (zv := .nilFunc) (by kernel_rfl) (by kernel_rfl) rfl
  · injection h with h; subst h; exact Z2 (zv := .slice none 0 0) (by kernel_rfl) (by kernel_rfl) rfl
  · injection h with h; subst h; exact Z2 (zv := .nilFunc) (by kernel_rfl) (by kernel_rfl) rfl
  · injection h with h; subst h; exact Z2 (zv := .nilFunc) (by kernel_rfl) (by kernel_rfl) rfl
  · injection h with h; subst h; exact Z2 (zv := .int .u64 0) (by kernel_rfl) (by kernel_rfl) rfl
  · injection h with h; subst h; exact Z2 (zv := .nilFunc) (by kernel_rfl) (by kernel_rfl) rfl
  · injection h with h; subst h; exact Z2 (zv := .int .u32 0) (by kernel_rfl) (by kernel_rfl) rfl
  · injection h with h; subst h; exact Z2 (zv := .int .u64 0) (by kernel_rfl) (by kernel_rfl) rfl
  · injection h with h; subst h; exact Z2 (zv := .slice none 0 0) (by kernel_rfl) (by kernel_rfl) rfl
  · injection h with h; subst h; exact Z2 (zv := .nilFunc) (by kernel_rfl) (by kernel_rfl) rfl
  · injection h with h; subst h; exact Z2 (zv := .agg #[.slice none 0 0, .string ⟨#[]⟩]) (by kernel_rfl) (by kernel_rfl) rfl
  · injection h with h; subst h; exact Z2 (zv := .slice none 0 0) (by kernel_rfl) (by kernel_rfl) rfl
  · injection h with h; subst h; exact Z2 (zv := .map none) (by kernel_rfl) (by kernel_rfl) rfl
  · injection h with h; subst h; exact Z2 (zv := .nilFunc) (by kernel_rfl) (by kernel_rfl) rfl
  · injection h with h; subst h; exact Z2 (zv := .nilFunc) (by kernel_rfl) (by kernel_rfl) rfl
  · injection h with h; subst h; exact Z2 (zv := .nilFunc) (by kernel_rfl) (by kernel_rfl) rfl
  · injection h with h; subst h; exact Z2 (zv := .nilFunc) (by kernel_rfl) (by kernel_rfl) rfl
  · injection h with h; subst h; exact Z2 (zv := .pointer none) (by kernel_rfl) (by kernel_rfl) rfl
  · injection h with h; subst h; exact Z2 (zv := .nilFunc) (by kernel_rfl) (by kernel_rfl) rfl
  · injection h with h; subst h; exact Z2 (zv := .nilFunc) (by kernel_rfl) (by kernel_rfl) rfl
  · injection h with h; subst h; exact Z2 (zv := .nilFunc) (by kernel_rfl) (by kernel_rfl) rfl
  · injection h with h; subst h; exact Z2 (zv := .nilFunc) (by kernel_rfl) (by kernel_rfl) rfl
  · injection h with h; subst h; exact Z2 (zv := .nilFunc) (by kernel_rfl) (by kernel_rfl) rfl
  · injection h with h; subst h; exact Z2 (zv := .agg #[.nilFunc]) (by kernel_rfl) (by kernel_rfl) rfl
  · injection h with h; subst h; exact Z2 (zv := .agg #[.nilFunc, .nilFunc, .nilFunc, .nilFunc]) (by kernel_rfl) (by kernel_rfl) rfl
  · injection h with h; subst h; exact Z2 (zv := .nilFunc) (by kernel_rfl) (by kernel_rfl) rfl
  · injection h with h; subst h; exact Z2 (zv := .nilFunc) (by kernel_rfl) (by kernel_rfl) rfl
  · injection h with h; subst h; exact Z2 (zv := .nilFunc) (by kernel_rfl) (by kernel_rfl) rfl
  · injection h with h; subst h; exact Z2 (zv := .nilFunc) (by kernel_rfl) (by kernel_rfl) rfl
  · injection h with h; subst h; exact Z2 (zv := .nilFunc) (by kernel_rfl) (by kernel_rfl) rfl
  · injection h with h; subst h; exact Z2 (zv := .nilFunc) (by kernel_rfl) (by kernel_rfl) rfl
  · injection h with h; subst h; exact Z2 (zv := .nilFunc) (by kernel_rfl) (by kernel_rfl) rfl
  · injection h with h; subst h; exact Z2 (zv := .nilFunc) (by kernel_rfl) (by kernel_rfl) rfl
  · injection h with h; subst h; exact Z2 (zv := .int .i64 0) (by kernel_rfl) (by kernel_rfl) rfl
  · injection h with h; subst h; exact Z2 (zv := .nilFunc) (by kernel_rfl) (by kernel_rfl) rfl
  · injection h with h; subst h; exact Z2 (zv := .nilFunc) (by kernel_rfl) (by kernel_rfl) rfl
  · injection h with h; subst h; exact Z2 (zv := .nilFunc) (by kernel_rfl) (by kernel_rfl) rfl
  · injection h with h; subst h; exact Z2 (zv := .nilFunc) (by kernel_rfl) (by kernel_rfl) rfl
  · injection h with h; subst h; exact Z2 (zv := .agg #[.int .u8 0, .int .u8 0, .int .u8 0, .int .u8 0, .int .u8 0, .int .u8 0, .int .u8 0, .int .u8 0]) (by kernel_rfl) (by kernel_rfl) rfl
  · injection h with h; subst h; exact Z2 (zv := .int .u64 0) (by kernel_rfl) (by kernel_rfl) rfl
  · injection h with h; subst h; exact Z2 (zv := .nilFunc) (by kernel_rfl) (by kernel_rfl) rfl
  · injection h with h; subst h; exact Z2 (zv := .nilFunc) (by kernel_rfl) (by kernel_rfl) rfl
  · injection h with h; subst h; exact Z2 (zv := .pointer none) (by kernel_rfl) (by kernel_rfl) rfl
  · injection h with h; subst h; exact Z2 (zv := .nilFunc) (by kernel_rfl) (by kernel_rfl) rfl
  · injection h with h; subst h; exact Z2 (zv := .nilFunc) (by kernel_rfl) (by kernel_rfl) rfl
  · injection h with h; subst h; exact Z2 (zv := .nilFunc) (by kernel_rfl) (by kernel_rfl) rfl
  · injection h with h; subst h; exact Z2 (zv := .agg #[.string ⟨#[]⟩, .string ⟨#[]⟩, .string ⟨#[]⟩, .string ⟨#[]⟩, .string ⟨#[]⟩, .string ⟨#[]⟩, .string ⟨#[]⟩, .string ⟨#[]⟩]) (by kernel_rfl) (by kernel_rfl) rfl
  · injection h with h; subst h; exact Z2 (zv := .pointer none) (by kernel_rfl) (by kernel_rfl) rfl
  · injection h with h; subst h; exact Z2 (zv := .nilFunc) (by kernel_rfl) (by kernel_rfl) rfl
  · injection h with h; subst h; exact Z2 (zv := .nilFunc) (by kernel_rfl) (by kernel_rfl) rfl
  · injection h with h; subst h; exact Z2 (zv := .nilFunc) (by kernel_rfl) (by kernel_rfl) rfl
  · injection h with h; subst h; exact Z2 (zv := .int .u8 0) (by kernel_rfl) (by kernel_rfl) rfl
  · cases h
theorem y2 (f : TE → Prop) : tyAt Γ 2 f = f ⟨.int .i64, 1, 8, some (.p (.int .i64 0)), false, false⟩ := Zp g2 f
theorem y3 (f : TE → Prop) : tyAt Γ 3 f = f ⟨.int .i64, 1, 8, some (.p (.int .i64 0)), false, false⟩ := Zp g3 f
theorem y4 (f : TE → Prop) : tyAt Γ 4 f = f ⟨.bool, 1, 1, some (.p (.bool false)), false, false⟩ := Zp g4 f
theorem y5 (f : TE → Prop) : tyAt Γ 5 f = f ⟨.int .u8, 1, 1, some (.p (.int .u8 0)), false, false⟩ := Zp g5 f
theorem y9 (f : TE → Prop) : tyAt Γ 9 f = f ⟨.str, 1, 16, some (.p (.str [])), false, false⟩ := Zp g9 f
theorem y22 (f : TE → Prop) : tyAt Γ 22 f = f ⟨.slice 9, 1, 24, some (.full []), false, false⟩ := Zp g22 f
theorem y24 (f : TE → Prop) : tyAt Γ 24 f = f ⟨.struct [(0, 3), (1, 22)], 2, 32, some (.agg [.p (.int .i64 0), .full []]), true, false⟩ := Zp g24 f
theorem y36 (f : TE → Prop) : tyAt Γ 36 f = f ⟨.slice 3, 1, 24, some (.full []), false, false⟩ := Zp g36 f
theorem y53 (f : TE → Prop) : tyAt Γ 53 f = f ⟨.struct [(0, 4), (1, 9)], 2, 24, some (.agg [.p (.bool false), .p (.str [])]), true, true⟩ := Zp g53 f
theorem y55 (f : TE → Prop) : tyAt Γ 55 f = f ⟨.struct [(0, 53), (2, 53)], 4, 48, some (.agg [.p (.bool false), .p (.str []), .p (.bool false), .p (.str [])]), true, true⟩ := Zp g55 f
theorem y62 (f : TE → Prop) : tyAt Γ 62 f = f ⟨.slice 55, 1, 24, some (.full []), false, false⟩ := Zp g62 f
theorem y65 (f : TE → Prop) : tyAt Γ 65 f = f ⟨.slice 5, 1, 24, some (.full []), false, false⟩ := Zp g65 f
theorem y95 (f : TE → Prop) : tyAt Γ 95 f = f ⟨.slice 9, 1, 24, some (.full []), false, false⟩ := Zp g95 f
theorem y134 (f : TE → Prop) : tyAt Γ 134 f = f ⟨.int .u64, 1, 8, some (.p (.int .u64 0)), false, false⟩ := Zp g134 f
theorem y136 (f : TE → Prop) : tyAt Γ 136 f = f ⟨.int .u32, 1, 4, some (.p (.int .u32 0)), false, false⟩ := Zp g136 f
theorem y137 (f : TE → Prop) : tyAt Γ 137 f = f ⟨.int .u64, 1, 8, some (.p (.int .u64 0)), false, false⟩ := Zp g137 f
theorem y139 (f : TE → Prop) : tyAt Γ 139 f = f ⟨.slice 136, 1, 24, some (.full []), false, false⟩ := Zp g139 f
theorem y178 (f : TE → Prop) : tyAt Γ 178 f = f ⟨.other, 1, 8, some (.cell), false, false⟩ := Zp g178 f
theorem y180 (f : TE → Prop) : tyAt Γ 180 f = f ⟨.struct [(0, 178)], 1, 8, some (.agg [.cell]), true, false⟩ := Zp g180 f
theorem y181 (f : TE → Prop) : tyAt Γ 181 f = f ⟨.array 4 180, 4, 32, some (.agg [.cell, .cell, .cell, .cell]), true, false⟩ := Zp g181 f
theorem y231 (f : TE → Prop) : tyAt Γ 231 f = f ⟨.array 8 9, 8, 128, some (.agg [.p (.str []), .p (.str []), .p (.str []), .p (.str []), .p (.str []), .p (.str []), .p (.str []), .p (.str [])]), true, false⟩ := Zp g231 f
attribute [go_sem] g2 y2 g3 y3 g4 y4 g5 y5 g9 y9 g22 y22 g24 y24 g36 y36 g53 y53 g55 y55 g62 y62 g65 y65 g95 y95 g134 y134 g136 y136 g137 y137 g139 y139 g178 y178 g180 y180 g181 y181 g231 y231
theorem hmix : Tryz.prog.follows .mixedOrders = true := by kernel_rfl
theorem Wd {n0 : Nat} {ks : List Nat} {r : Option Nat} {c : Code} {Q : Exit → St → Prop} {st : St} (l : List (Nat × Nat)) (h : awpD ⟨Tryz.prog, Γ, n0, ks⟩ r l c Q st) (hd : Z23 l c = true := by kernel_rfl) : AWp ⟨Tryz.prog, Γ, n0, ks⟩ r c Q st := AWp.of_awpD l hΓ hmix hd h

def Zz (q : Int) (ws : List (List UInt8)) : PV := .agg [.int .i64 q, .sl (ws.map .str)]
def Z1b (q : Int) (ws : List (List UInt8)) : AObj := .box [.p (.int .i64 q), .p (.sl (ws.map .str))]

def axT : FuncId → List AV → Option AV := fun f args => match f, args with
  | 218, [.p (.str s), .p (.int .u8 c)] => some (.p (.int .i64 (ixB c.toNat.toUInt8 s 0)))
  | 242, [.p (.str a), .p (.str b)] => some (.p (.int .i64 (cmpB a b)))
  | _, _ => none

theorem Zh1 : ∀ f args v, axT f args = some v → AX Tryz.prog f args v := by
  intro f args v h; unfold axT at h
  split at h
  · injection h with h; subst h
    exact Zjf Tryz.func218 (by kernel_rfl) (by kernel_rfl) (by kernel_rfl) (by kernel_rfl) _ _
  · injection h with h; subst h
    exact Zdm Tryz.func242 (by kernel_rfl) (by kernel_rfl) (by kernel_rfl) (by kernel_rfl) _ _
  · cases h


theorem x126 (s : List UInt8) (c : Int) : AX Tryz.prog 218 [.p (.str s), .p (.int .u8 c)] (.p (.int .i64 (ixB c.toNat.toUInt8 s 0))) := Zh1 _ _ _ rfl
theorem x127 (s t : List UInt8) : AX Tryz.prog 242 [.p (.str s), .p (.str t)] (.p (.int .i64 (cmpB s t))) := Zh1 _ _ _ rfl

theorem t113 (s : List UInt8) (c : Int) : PFn Tryz.prog 175 [.str s, .int .u8 c] [.int .i64 (ixB c.toNat.toUInt8 s 0)] := by
  refine PFn.of_body hΓ Tryz.func175 (by kernel_rfl) rfl (Wd [] ?_); simp +contextual -implicitDefEqProofs only [Tryz.ntmps175, Tryz.results175, Nat.reduceAdd, Nat.reduceSub, go_sem]; refine Zcr (x126 s c) ?_; simp +contextual -implicitDefEqProofs only [go_sem]

theorem t101 (s : List UInt8) (c : Int) : PFn Tryz.prog 114 [.str s, .int .u8 c] [.int .i64 (ixB c.toNat.toUInt8 s 0)] := by
  refine PFn.of_body hΓ Tryz.func114 (by kernel_rfl) rfl (Wd [] ?_); simp +contextual -implicitDefEqProofs only [Tryz.ntmps114, Tryz.results114, Nat.reduceAdd, Nat.reduceSub, go_sem]; refine Z0 (t113 s c) (.pures rfl) ?_; simp +contextual -implicitDefEqProofs only [go_sem]

theorem t115 (s t : List UInt8) : PFn Tryz.prog 203 [.str s, .str t] [.int .i64 (cmpB s t)] := by
  refine PFn.of_body hΓ Tryz.func203 (by kernel_rfl) rfl (Wd [] ?_); simp +contextual -implicitDefEqProofs only [Tryz.ntmps203, Tryz.results203, Nat.reduceAdd, Nat.reduceSub, go_sem]; refine Zcr (x127 s t) ?_; simp +contextual -implicitDefEqProofs only [go_sem]

theorem t104 (s t : List UInt8) : PFn Tryz.prog 163 [.str s, .str t] [.int .i64 (cmpB s t)] := by
  refine PFn.of_body hΓ Tryz.func163 (by kernel_rfl) rfl (Wd [] ?_); simp +contextual -implicitDefEqProofs only [Tryz.ntmps163, Tryz.results163, Nat.reduceAdd, Nat.reduceSub, go_sem]; refine Z0 (t115 s t) (.pures rfl) ?_; simp +contextual -implicitDefEqProofs only [go_sem]

theorem t114 (x : Int) : PFn Tryz.prog 141 [.int .i64 x] [.bool false] := by
  refine PFn.of_body hΓ Tryz.func141 (by kernel_rfl) rfl (Wd [] ?_); simp +contextual -implicitDefEqProofs only [Tryz.ntmps141, Tryz.results141, Nat.reduceAdd, Nat.reduceSub, go_sem]

def cmpI (x y : Int) : Int := if x < y then -1 else if y < x then 1 else 0
theorem t103 (x y : Int) : PFn Tryz.prog 76 [.int .i64 x, .int .i64 y] [.int .i64 (cmpI x y)] := by
  refine PFn.of_body hΓ Tryz.func76 (by kernel_rfl) rfl (Wd [] ?_); simp +contextual -implicitDefEqProofs only [Tryz.ntmps76, Tryz.results76, Nat.reduceAdd, Nat.reduceSub, go_sem]; refine Z0 (t114 x) (.pures rfl) ?_; simp +contextual -implicitDefEqProofs only [go_sem]; refine Z0 (t114 y) (.pures rfl) ?_; simp +contextual -implicitDefEqProofs only [go_sem]; unfold cmpI; exact ⟨fun h => by rw [if_pos h], fun h => ⟨fun h' => by rw [if_neg h, if_pos h'], fun h' => by rw [if_neg h, if_neg h']⟩⟩

theorem t100 (x : Int) : PFn Tryz.prog 146 [.int .i64 x] [.bool (decide (1 ≤ x) && decide (x ≤ 16))] := by
  refine PFn.of_body hΓ Tryz.func146 (by kernel_rfl) rfl (Wd [] ?_); simp +contextual -implicitDefEqProofs only [Tryz.ntmps146, Tryz.results146, Nat.reduceAdd, Nat.reduceSub, go_sem]; intro _; rfl

def Z2j (l : List Int) : Int := (l.find? fun x => decide (x ≠ 0)).getD 0
theorem Z7w {l : List Int} {k : Nat} (hk : k < l.length) (h0 : ∀ x ∈ l.take k, x = 0) (h1 : l[k] ≠ 0) : Z2j l = l[k] := by
  have e : l = l.take k ++ l[k] :: l.drop (k + 1) := by rw [← List.drop_eq_getElem_cons hk, List.take_append_drop]
  unfold Z2j; have e2 : l.find? (fun x => decide (x ≠ 0)) = some l[k] := by
    conv => lhs; rw [e]
    rw [List.find?_append, List.find?_eq_none.2 (fun x hx => by simpa using h0 x hx), List.find?_cons, decide_eq_true h1]; rfl
  rw [e2]; rfl
theorem Z5c {l : List Int} (h0 : ∀ x ∈ l, x = 0) : Z2j l = 0 := by
  unfold Z2j; rw [List.find?_eq_none.2 (fun x hx => by simpa using h0 x hx)]; rfl

theorem t102 (l : List Int) (hl : l.length ≤ 9223372036854775807) : PFn Tryz.prog 162 [.sl (l.map (.int .i64))] [.int .i64 (Z2j l)] := by
  refine PFn.of_body hΓ Tryz.func162 (by kernel_rfl) rfl (Wd [] ?_); simp +contextual -implicitDefEqProofs only [Tryz.ntmps162, Tryz.results162, Nat.reduceAdd, Nat.reduceSub, go_sem]
  refine AWp.loopI (fun k : Nat => ⟨mkF 18 [(0, .p (.sl (l.map (.int .i64)))), (2, .p (.int .i64 0)), (3, .p (.int .i64 0)), (6, .p (.sl (l.map (.int .i64)))), (7, .p (.int .i64 l.length)), (8, .p (.int .i64 k))], []⟩)
    (fun k => k ≤ l.length ∧ ∀ x ∈ l.take k, x = 0) (fun k => l.length - k) 0 (by simp [go_sem]) (by simp) ?_
  rintro k ⟨hk, h0⟩; refine Wd [] ?_; simp +contextual -implicitDefEqProofs only [Z5, ↓reduceIte, go_sem]; refine ⟨fun hlt => ⟨fun he => ⟨by simp only [InR]; omega, k + 1, by simp, ⟨hlt, ?_⟩, by omega⟩, fun hne => (Z7w hlt h0 hne).symm⟩, fun hge => ?_⟩
  · rw [List.take_succ_eq_append_getElem hlt]
    intro x hx; rcases List.mem_append.1 hx with h | h
    · exact h0 x h
    · simp only [List.mem_singleton] at h; rw [h, he]
  · rw [List.take_of_length_le (by omega)] at h0
    exact (Z5c h0).symm

def cmpW (a b : List UInt8) : Int := if a.length < b.length then -1 else if b.length < a.length then 1 else cmpB a b
theorem t81 (a b : List UInt8) : PFn Tryz.prog 102 [.str a, .str b] [.int .i64 (cmpW a b)] := by
  refine PFn.of_body hΓ Tryz.func102 (by kernel_rfl) rfl (Wd [] ?_); simp +contextual -implicitDefEqProofs only [Tryz.ntmps102, Tryz.results102, Nat.reduceAdd, Nat.reduceSub, go_sem]; refine Z0 (t103 a.length b.length) (.pures rfl) ?_; simp +contextual -implicitDefEqProofs only [go_sem]; refine Z0 (t104 a b) (.pures rfl) ?_; simp +contextual -implicitDefEqProofs only [go_sem]; refine ⟨⟨by simp [Zu, PV.cells], by omega⟩, Z0 (t102 [cmpI a.length b.length, cmpB a b] (by simp)) (.still rfl) ?_⟩; simp +contextual -implicitDefEqProofs only [go_sem]
  congr 2
  unfold Z2j cmpI cmpW; by_cases h1 : a.length < b.length
  · simp [h1]
  · by_cases h2 : b.length < a.length
    · simp [h1, h2]
    · simp [h1, h2]
      by_cases h3 : cmpB a b = 0 <;> simp [h3]

def L16 : List UInt8 := [48, 49, 50, 51, 52, 53, 54, 55, 56, 57, 97, 98, 99, 100, 101, 102]

theorem Zk9 (c : UInt8) : ∀ (l : List UInt8) (n k : Nat) (hk : k < l.length), (∀ j (hj : j < k), l[j] ≠ c) → l[k] = c → ixB c l n = ((n + k : Nat) : Int)
  | [], n, k, hk, _, _ => absurd hk (Nat.not_lt_zero k)
  | a :: l, n, 0, _, _, h => by
    have : a = c := h; subst this; unfold ixB; simp
  | a :: l, n, k + 1, hk, h0, h => by
    have h1 : a ≠ c := h0 0 (by omega); have h2 : Nat.beq a.toNat c.toNat = false := Bool.eq_false_iff.2 fun e => h1 (UInt8.toNat_inj.1 (Nat.eq_of_beq_eq_true e))
    unfold ixB; rw [h2]; refine (Zk9 c l (n + 1) k (by simpa using hk) (fun j hj => h0 (j + 1) (by omega)) h).trans ?_
    congr 1; omega
theorem Zcg (c : UInt8) : ∀ (l : List UInt8) (n : Nat), (∀ j (hj : j < l.length), l[j] ≠ c) → ixB c l n = -1
  | [], _, _ => rfl
  | a :: l, n, h0 => by
    have h1 : a ≠ c := h0 0 (by simp); have h2 : Nat.beq a.toNat c.toNat = false := Bool.eq_false_iff.2 fun e => h1 (UInt8.toNat_inj.1 (Nat.eq_of_beq_eq_true e))
    unfold ixB; rw [h2]; exact Zcg c l (n + 1) (fun j hj => h0 (j + 1) (by simpa using hj))

theorem t99 (b : UInt8) : PFn Tryz.prog 94 [.int .u8 b.toNat] [.int .i64 (ixB b L16 0)] := by
  refine PFn.of_body hΓ Tryz.func94 (by kernel_rfl) rfl (Wd [] ?_); simp +contextual -implicitDefEqProofs only [Tryz.ntmps94, Tryz.results94, Nat.reduceAdd, Nat.reduceSub, go_sem]
  refine AWp.loopI (fun k : Nat => ⟨mkF 13 [(0, .p (.int .u8 b.toNat)), (2, .p (.int .i64 0)), (3, .p (.int .i64 k))], []⟩)
    (fun k => k ≤ 16 ∧ ∀ j (hj : j < 16), j < k → L16[j]'hj ≠ b) (fun k => 16 - k) 0 (by simp [go_sem]) (by simp) ?_
  rintro k ⟨hk, h0⟩; refine Wd [] ?_; simp +contextual -implicitDefEqProofs only [Z5, ↓reduceIte, go_sem]; refine ⟨fun hlt => ⟨by omega, fun he => ?_, fun hne => ⟨by simp only [InR]; omega, k + 1, by simp, ⟨by omega, ?_⟩, by omega⟩⟩, fun hge => ?_⟩
  · have hk' : k < L16.length := by simp [L16]; omega
    have e : L16[k] = b := by
      rw [← UInt8.toNat_inj, ← he]; show _ = (L16.getD k 0).toNat; rw [List.getD_eq_getElem?_getD, List.getElem?_eq_getElem hk', Option.getD_some]
    rw [Zk9 b L16 0 k hk' (fun j hj => h0 j (by omega) hj) e]; simp
  · intro j hj hjk e
    by_cases hjk' : j < k
    · exact h0 j hj hjk' e
    · have : j = k := by omega
      subst this
      apply hne
      rw [← e]; show (L16.getD j 0).toNat = _; rw [List.getD_eq_getElem?_getD, List.getElem?_eq_getElem (by simpa [L16] using hj), Option.getD_some]; rfl
  · exact (Zcg b L16 0 (fun j hj => h0 j (by simpa [L16] using hj) (by simp [L16] at hj; omega))).symm

theorem t79 (a b : List UInt8) : PFn Tryz.prog 42 [.str a, .str b] [.bool (if a.length ≠ b.length then decide (a.length < b.length) else Op.bytesLess a b)] := by
  refine PFn.of_body hΓ Tryz.func42 (by kernel_rfl) rfl (Wd [] ?_); simp +contextual -implicitDefEqProofs only [Tryz.ntmps42, Tryz.results42, Nat.reduceAdd, Nat.reduceSub, go_sem]

def okB (q : Int) (b : UInt8) : Bool := decide (0 ≤ ixB b L16 0) && decide (ixB b L16 0 < q)
def okW (q : Int) (w : List UInt8) : Bool := w.all (okB q)
def Zj (q : Int) (w : List UInt8) : Int := if q < 1 ∨ 16 < q then 12 else if 65536 < w.length then 4 else if okW q w then 0 else 13

theorem Zc8 {q : Int} {w : List UInt8} {k : Nat} (hk : k < w.length) (h0 : okW q (w.take k) = true) (h1 : okB q (w.getD k 0) = true) : okW q (w.take (k + 1)) = true := by
  rw [List.getD_eq_getElem?_getD, List.getElem?_eq_getElem hk, Option.getD_some] at h1; rw [List.take_succ_eq_append_getElem hk]; unfold okW at h0 ⊢; rw [List.all_append, h0]; simp [h1]
theorem Z43 {q : Int} {w : List UInt8} {k : Nat} (hq : ¬ q < 1) (hq2 : ¬ 16 < q) (hl : ¬ 65536 < w.length) (hk : k < w.length) (h1 : okB q (w.getD k 0) = false) : Zj q w = 13 := by
  rw [List.getD_eq_getElem?_getD, List.getElem?_eq_getElem hk, Option.getD_some] at h1; unfold Zj; rw [if_neg (by omega), if_neg hl, if_neg]; intro h; have := List.all_eq_true.1 h _ (List.getElem_mem hk); rw [h1] at this; cases this
theorem Z3m {q : Int} {w : List UInt8} (hq : ¬ q < 1) (hq2 : ¬ 16 < q) (hl : ¬ 65536 < w.length) (h1 : okW q w = true) : Zj q w = 0 := by
  unfold Zj; rw [if_neg (by omega), if_neg hl, if_pos h1]
theorem Z2r {q : Int} {w : List UInt8} (hq : q < 1 ∨ 16 < q) : Zj q w = 12 := by unfold Zj; rw [if_pos hq]
theorem Z64 {q : Int} {w : List UInt8} (hq : ¬ q < 1) (hq2 : ¬ 16 < q) (hl : 65536 < w.length) : Zj q w = 4 := by unfold Zj; rw [if_neg (by omega), if_pos hl]

theorem t78 (q : Int) (w : List UInt8) : PFn Tryz.prog 41 [.int .i64 q, .str w] [.int .i64 (Zj q w)] := by
  refine PFn.of_body hΓ Tryz.func41 (by kernel_rfl) rfl (Wd [] ?_); simp +contextual -implicitDefEqProofs only [Tryz.ntmps41, Tryz.results41, Nat.reduceAdd, Nat.reduceSub, go_sem]; refine ⟨fun h => (Z2r (.inl h)).symm, fun h1 => ⟨fun h => (Z2r (.inr h)).symm, fun h2 => ⟨fun h => (Z64 h1 h2 (by omega)).symm, fun h3 => ?_⟩⟩⟩; have h3' : ¬ 65536 < w.length := by omega
  refine AWp.loopI (fun k : Nat => ⟨mkF 33 [(0, .p (.int .i64 q)), (1, .p (.str w)), (4, .p (.int .i64 0)), (5, .p (.int .i64 k))], []⟩)
    (fun k => k ≤ w.length ∧ okW q (w.take k) = true) (fun k => w.length - k) 0 (by simp [go_sem]) (by simp [okW]) ?_
  rintro k ⟨hk, h0⟩; refine Wd [] ?_; simp +contextual -implicitDefEqProofs only [Z5, ↓reduceIte, go_sem]; refine ⟨fun hlt => Z0 (t99 (w.getD k 0)) (.pures rfl) ?_, fun hge => ?_⟩
  · simp +contextual -implicitDefEqProofs only [hlt, ↓reduceIte, go_sem]
    have good : okB q (w.getD k 0) = true → InR .i64 ((k : Int) + 1) ∧ ∃ y : Nat, (y : Int) = (k : Int) + 1 ∧ (y ≤ w.length ∧ okW q (w.take y) = true) ∧ w.length - y < w.length - k := fun h => ⟨by simp only [InR]; omega, k + 1, by simp, ⟨hlt, Zc8 hlt h0 h⟩, by omega⟩
    have bad : okB q (w.getD k 0) = false → (13 : Int) = Zj q w := fun h => (Z43 h1 h2 h3' hlt h).symm
    refine ⟨fun e1 => bad ?_, fun e1 => ⟨fun e2 => bad ?_, fun e2 => good ?_⟩⟩
    · unfold okB; rw [decide_eq_false (by omega)]; rfl
    · unfold okB; rw [decide_eq_false (p := ixB (w.getD k 0) L16 0 < q) (by omega), Bool.and_false]
    · unfold okB; rw [decide_eq_true (by omega), decide_eq_true (by omega)]; rfl
  · rw [List.take_of_length_le (by omega)] at h0
    exact (Z3m h1 h2 h3' h0).symm

theorem Zcf (c : UInt8) : ∀ (l : List UInt8) (k m : Nat), decide (ixB c (l.take m) k < 0) = !(decide (0 ≤ ixB c l k) && decide (ixB c l k < k + m))
  | [], k, m => by simp [ixB]
  | a :: l, k, 0 => by
    have := Zfi c (a :: l) k; have hge := Lib.indexByte_ge (a :: l) c; rw [List.take_zero, this]; simp only [ixB]
    split <;> simp <;> omega
  | a :: l, k, m + 1 => by
    have ih := Zcf c l (k + 1) m; rw [List.take_succ_cons]; unfold ixB
    cases h : Nat.beq a.toNat c.toNat
    · simp only [h]
      rw [ih]
      congr 3
      push_cast; exact propext ⟨fun h => by omega, fun h => by omega⟩
    · simp only [h]
      rw [decide_eq_false (by omega), decide_eq_true (by omega), decide_eq_true (by omega)]; rfl

theorem t80 (q : Int) (w : List UInt8) : PFn Tryz.prog 86 [.int .i64 q, .str w] [.int .i64 (Zj q w)] := by
  refine PFn.of_body hΓ Tryz.func86 (by kernel_rfl) rfl (Wd [(8, 7)] ?_); simp +contextual -implicitDefEqProofs only [Tryz.ntmps86, Tryz.results86, Nat.reduceAdd, Nat.reduceSub, go_sem]; refine Z0 (t100 q) (.pures rfl) ?_
  cases hq : (decide (1 ≤ q) && decide (q ≤ 16))
  · simp -implicitDefEqProofs only [go_sem]
    simp only [Bool.and_eq_false_iff, decide_eq_false_iff_not] at hq; exact (Z2r (by omega)).symm
  simp -implicitDefEqProofs only [go_sem]; simp only [Bool.and_eq_true, decide_eq_true_eq] at hq; refine ⟨fun h3 => (Z64 (by omega) (by omega) (by omega)).symm, fun h3 => ?_⟩; have h1 : ¬ q < 1 := by omega
  have h2 : ¬ 16 < q := by omega
  have h3' : ¬ 65536 < w.length := by omega
  refine AWp.loopI (fun k : Nat => ⟨mkF 27 [(0, .p (.int .i64 q)), (1, .p (.str w)), (4, .p (.int .i64 0)), (15, .p (.int .i64 w.length)), (16, .p (.int .i64 k))], []⟩)
    (fun k => k ≤ w.length ∧ okW q (w.take k) = true) (fun k => w.length - k) 0 (by simp [go_sem]) (by simp [okW]) ?_
  rintro k ⟨hk, h0⟩; refine Wd [(8, 7)] ?_; simp +contextual -implicitDefEqProofs only [Z5, ↓reduceIte, go_sem]; refine ⟨fun hlt => ⟨by omega, Z1 (t101 _ (w.getD k 0).toNat) (.pures rfl) ?_⟩, fun hge => ?_⟩
  · simp +contextual -implicitDefEqProofs only [hlt, ↓reduceIte, go_sem]
    have good : okB q (w.getD k 0) = true → InR .i64 ((k : Int) + 1) ∧ ∃ y : Nat, (y : Int) = (k : Int) + 1 ∧ (y ≤ w.length ∧ okW q (w.take y) = true) ∧ w.length - y < w.length - k := fun h => ⟨by simp only [InR]; omega, k + 1, by simp, ⟨hlt, Zc8 hlt h0 h⟩, by omega⟩
    have bad : okB q (w.getD k 0) = false → (13 : Int) = Zj q w := fun h => (Z43 h1 h2 h3' hlt h).symm
    have key : decide (ixB (w.getD k 0) (L16.take q.toNat) 0 < 0) = !okB q (w.getD k 0) := by
      rw [Zcf, okB, show ((0 : Nat) : Int) + (q.toNat : Nat) = q by omega]
    have e : (w.getD k 0).toNat.toUInt8 = w.getD k 0 := by simp
    rw [e]; refine ⟨fun e1 => bad ?_, fun e1 => good ?_⟩
    · have := decide_eq_true e1
      rw [show ixB (w.getD k 0) (List.take q.toNat [48, 49, 50, 51, 52, 53, 54, 55, 56, 57, 97, 98, 99, 100, 101, 102]) 0 = ixB (w.getD k 0) (L16.take q.toNat) 0 from rfl, key] at this
      simpa using this
    · have := decide_eq_false e1
      rw [show ixB (w.getD k 0) (List.take q.toNat [48, 49, 50, 51, 52, 53, 54, 55, 56, 57, 97, 98, 99, 100, 101, 102]) 0 = ixB (w.getD k 0) (L16.take q.toNat) 0 from rfl, key] at this
      simpa using this
  · rw [List.take_of_length_le (by omega)] at h0
    exact (Z3m h1 h2 h3' h0).symm

def Zk (q : Int) (ws : List (List UInt8)) (i : Nat) : Int :=
  let w := ws.getD i []
  if w = [] then 5 else if 32 < w.length then 4 else if Zj q w ≠ 0 then 13 else if 0 < i ∧ 0 ≤ cmpW (ws.getD (i - 1) []) w then 10 else 0
def Zb (q : Int) (ws : List (List UInt8)) : Int :=
  if q < 2 ∨ 16 < q then 12 else if ws.length = 0 then 5 else if 64 < ws.length then 4 else Z2j ((List.range ws.length).map (Zk q ws))

theorem Z1t {q : Int} {ws : List (List UInt8)} (h : q < 2 ∨ 16 < q) : Zb q ws = 12 := by unfold Zb; rw [if_pos h]
theorem Z6y {q : Int} {ws : List (List UInt8)} (h : ¬ (q < 2 ∨ 16 < q)) (h1 : ws.length = 0) : Zb q ws = 5 := by unfold Zb; rw [if_neg h, if_pos h1]
theorem Z6z {q : Int} {ws : List (List UInt8)} (h : ¬ (q < 2 ∨ 16 < q)) (h1 : ¬ ws.length = 0) (h2 : 64 < ws.length) : Zb q ws = 4 := by unfold Zb; rw [if_neg h, if_neg h1, if_pos h2]
theorem Z5f {q : Int} {ws : List (List UInt8)} (h : ¬ (q < 2 ∨ 16 < q)) (h2 : ¬ 64 < ws.length) {k : Nat} (hk : k < ws.length) (h0 : ∀ j, j < k → Zk q ws j = 0) (h1 : Zk q ws k ≠ 0) :
    Zb q ws = Zk q ws k := by
  unfold Zb; rw [if_neg h, if_neg (by omega), if_neg h2, Z7w (k := k) (by simpa using hk) (fun x hx => ?_) (by simpa using h1)]
  · simp
  · rw [← List.map_take, List.take_range] at hx
    obtain ⟨j, hj, rfl⟩ := List.mem_map.1 hx; exact h0 j (by have := List.mem_range.1 hj; omega)
theorem Z70 {q : Int} {ws : List (List UInt8)} (h : ¬ (q < 2 ∨ 16 < q)) (h1 : ¬ ws.length = 0) (h2 : ¬ 64 < ws.length) (h0 : ∀ j, j < ws.length → Zk q ws j = 0) : Zb q ws = 0 := by
  unfold Zb; rw [if_neg h, if_neg h1, if_neg h2, Z5c]; intro x hx; obtain ⟨j, hj, rfl⟩ := List.mem_map.1 hx; exact h0 j (List.mem_range.1 hj)

theorem t45 (q : Int) (ws : List (List UInt8)) : PFn Tryz.prog 80 [Zz q ws] [.int .i64 (Zb q ws)] := by
  refine PFn.of_body hΓ Tryz.func80 (by kernel_rfl) rfl (Wd [] ?_); simp +contextual -implicitDefEqProofs only [Zz, Tryz.ntmps80, Tryz.results80, Nat.reduceAdd, Nat.reduceSub, go_sem]; refine ⟨fun h => (Z1t (.inl h)).symm, fun h1 => ⟨fun h => (Z1t (.inr h)).symm, fun h2 => ⟨fun h => (Z6y (by omega) (by omega)).symm, fun h3 => ⟨fun h => (Z6z (by omega) (by omega) (by omega)).symm, fun h4 => ?_⟩⟩⟩⟩; have hq : ¬ (q < 2 ∨ 16 < q) := by omega
  have hn : ¬ ws.length = 0 := by omega
  have hl : ¬ 64 < ws.length := by omega
  refine AWp.loopI (fun k : Nat => ⟨mkF 60 [(1, .ptr 0 0), (2, .p (.int .i64 0)), (25, .p (.sl (ws.map .str))), (26, .p (.int .i64 ws.length)), (27, .p (.int .i64 k))], [Z1b q ws]⟩)
    (fun k => k ≤ ws.length ∧ ∀ j, j < k → Zk q ws j = 0) (fun k => ws.length - k) 0 (by simp [go_sem, Z1b]) (by simp) ?_
  rintro k ⟨hk, h0⟩; refine Wd [] ?_; simp +contextual -implicitDefEqProofs only [Z5, ↓reduceIte, Z1b, go_sem]; refine ⟨fun hlt => ?_, fun hge => (Z70 hq hn hl (fun j hj => h0 j (by omega))).symm⟩; have bad : Zk q ws k ≠ 0 → Zk q ws k = Zb q ws := fun h => (Z5f hq hl hlt h0 h).symm
  have hw : ws.getD k [] = ws[k] := by rw [List.getD_eq_getElem?_getD, List.getElem?_eq_getElem hlt, Option.getD_some]
  have good : Zk q ws k = 0 → InR .i64 ((k : Int) + 1) ∧ ∃ y : Nat, (y : Int) = (k : Int) + 1 ∧ (y ≤ ws.length ∧ ∀ j, j < y → Zk q ws j = 0) ∧ ws.length - y < ws.length - k :=
    fun h => ⟨by simp only [InR]; omega, k + 1, by simp, ⟨hlt, fun j hj => by by_cases h' : j = k; · subst h'; exact h
                                                                              · exact h0 j (by omega)⟩, by omega⟩
  have e5 : ws[k] = [] → Zk q ws k = 5 := fun h => by unfold Zk; rw [hw, if_pos h]
  have e4 : ¬ ws[k] = [] → 32 < ws[k].length → Zk q ws k = 4 := fun h h' => by unfold Zk; rw [hw, if_neg h, if_pos h']
  have e13 : ¬ ws[k] = [] → ¬ 32 < ws[k].length → Zj q ws[k] ≠ 0 → Zk q ws k = 13 := fun h h' h'' => by unfold Zk; rw [hw, if_neg h, if_neg h', if_pos h'']
  have eL : ¬ ws[k] = [] → ¬ 32 < ws[k].length → Zj q ws[k] = 0 → Zk q ws k = if 0 < k ∧ 0 ≤ cmpW (ws.getD (k - 1) []) ws[k] then 10 else 0 := fun h h' h'' => by unfold Zk; rw [hw, if_neg h, if_neg h', if_neg (by omega)]
  refine ⟨fun h => by have := e5 h; rw [← bad (by omega)]; omega, fun n5 => ⟨fun h => by have := e4 n5 (by omega); rw [← bad (by omega)]; omega, fun n4 => Z0 (t80 q ws[k]) (.pures rfl) ?_⟩⟩; simp +contextual -implicitDefEqProofs only [Z5, ↓reduceIte, Z1b, hlt, go_sem]; refine ⟨fun h => ⟨fun hp => ?_, fun hp => good (by rw [eL n5 (by omega) h, if_neg (by omega)])⟩, fun n13 => by have := e13 n5 (by omega) n13; rw [← bad (by omega)]; omega⟩; have hk1 : ((k : Int) - 1).toNat = k - 1 := by omega
  have hlt1 : k - 1 < ws.length := by omega
  have hw1 : ws.getD (k - 1) [] = ws[k - 1] := by rw [List.getD_eq_getElem?_getD, List.getElem?_eq_getElem hlt1, Option.getD_some]
  rw [hw1] at eL; simp +contextual -implicitDefEqProofs only [hk1, Z5, hlt1, ↓reduceIte, Z1b, go_sem]; refine ⟨by simp only [InR]; omega, by omega, ?_⟩; refine Z0 (t81 ws[k - 1] ws[k]) (.pures rfl) ?_; simp +contextual -implicitDefEqProofs only [Z5, ↓reduceIte, Z1b, hlt, go_sem]; refine ⟨fun hc => ?_, fun hc => good (by rw [eL n5 (by omega) h, if_neg (fun e => hc e.2)])⟩; have := eL n5 (by omega) h; rw [if_pos ⟨by omega, hc⟩] at this; rw [← bad (by omega)]; omega

theorem Zmb (a b : List UInt8) : (if a.length ≠ b.length then decide (a.length < b.length) else Op.bytesLess a b) = decide (cmpW a b < 0) := by
  unfold cmpW; by_cases h1 : a.length < b.length
  · rw [if_pos (by omega), if_pos h1]; simp [h1]
  · by_cases h2 : b.length < a.length
    · rw [if_pos (by omega), if_neg h1, if_pos h2]; simp [h1]
    · rw [if_neg (by omega), if_neg h1, if_neg h2, ← Zgz]
      unfold cmpB
      cases bLt a b
      · cases bEq a b <;> rfl
      · rfl
theorem t79' (a b : List UInt8) : PFn Tryz.prog 42 [.str a, .str b] [.bool (decide (cmpW a b < 0))] := by rw [← Zmb]; exact t79 a b

theorem t44 (q : Int) (ws : List (List UInt8)) : PFn Tryz.prog 40 [Zz q ws] [.int .i64 (Zb q ws)] := by
  refine PFn.of_body hΓ Tryz.func40 (by kernel_rfl) rfl (Wd [] ?_); simp +contextual -implicitDefEqProofs only [Zz, Tryz.ntmps40, Tryz.results40, Nat.reduceAdd, Nat.reduceSub, go_sem]; refine ⟨fun h => (Z1t (.inl h)).symm, fun h1 => ⟨fun h => (Z1t (.inr h)).symm, fun h2 => ⟨fun h => (Z6y (by omega) (by omega)).symm, fun h3 => ⟨fun h => (Z6z (by omega) (by omega) (by omega)).symm, fun h4 => ?_⟩⟩⟩⟩; have hq : ¬ (q < 2 ∨ 16 < q) := by omega
  have hn : ¬ ws.length = 0 := by omega
  have hl : ¬ 64 < ws.length := by omega
  refine AWp.loopI (fun k : Nat => ⟨mkF 56 [(1, .ptr 0 0), (2, .p (.int .i64 0)), (3, .p (.int .i64 k))], [Z1b q ws]⟩)
    (fun k => k ≤ ws.length ∧ ∀ j, j < k → Zk q ws j = 0) (fun k => ws.length - k) 0 (by simp [go_sem, Z1b]) (by simp) ?_
  rintro k ⟨hk, h0⟩; refine Wd [] ?_; simp +contextual -implicitDefEqProofs only [Z5, ↓reduceIte, Z1b, go_sem]; refine ⟨fun hlt => ?_, fun hge => (Z70 hq hn hl (fun j hj => h0 j (by omega))).symm⟩; have bad : Zk q ws k ≠ 0 → Zk q ws k = Zb q ws := fun h => (Z5f hq hl hlt h0 h).symm
  have hw : ws.getD k [] = ws[k] := by rw [List.getD_eq_getElem?_getD, List.getElem?_eq_getElem hlt, Option.getD_some]
  have good : Zk q ws k = 0 → InR .i64 ((k : Int) + 1) ∧ ∃ y : Nat, (y : Int) = (k : Int) + 1 ∧ (y ≤ ws.length ∧ ∀ j, j < y → Zk q ws j = 0) ∧ ws.length - y < ws.length - k :=
    fun h => ⟨by simp only [InR]; omega, k + 1, by simp, ⟨hlt, fun j hj => by by_cases h' : j = k; · subst h'; exact h
                                                                              · exact h0 j (by omega)⟩, by omega⟩
  have e5 : ws[k] = [] → Zk q ws k = 5 := fun h => by unfold Zk; rw [hw, if_pos h]
  have e4 : ¬ ws[k] = [] → 32 < ws[k].length → Zk q ws k = 4 := fun h h' => by unfold Zk; rw [hw, if_neg h, if_pos h']
  have e13 : ¬ ws[k] = [] → ¬ 32 < ws[k].length → Zj q ws[k] ≠ 0 → Zk q ws k = 13 := fun h h' h'' => by unfold Zk; rw [hw, if_neg h, if_neg h', if_pos h'']
  have eL : ¬ ws[k] = [] → ¬ 32 < ws[k].length → Zj q ws[k] = 0 → Zk q ws k = if 0 < k ∧ 0 ≤ cmpW (ws.getD (k - 1) []) ws[k] then 10 else 0 := fun h h' h'' => by unfold Zk; rw [hw, if_neg h, if_neg h', if_neg (by omega)]
  refine ⟨fun h => by have := e5 h; rw [← bad (by omega)]; omega, fun n5 => ⟨fun h => by have := e4 n5 (by omega); rw [← bad (by omega)]; omega, fun n4 => Z0 (t78 q ws[k]) (.pures rfl) ?_⟩⟩; simp +contextual -implicitDefEqProofs only [Z5, ↓reduceIte, Z1b, hlt, go_sem]; refine ⟨fun h => ⟨fun hp => ?_, fun hp => good (by rw [eL n5 (by omega) h, if_neg (by omega)])⟩, fun n13 => by have := e13 n5 (by omega) n13; rw [← bad (by omega)]; omega⟩; have hk1 : ((k : Int) - 1).toNat = k - 1 := by omega
  have hlt1 : k - 1 < ws.length := by omega
  have hw1 : ws.getD (k - 1) [] = ws[k - 1] := by rw [List.getD_eq_getElem?_getD, List.getElem?_eq_getElem hlt1, Option.getD_some]
  rw [hw1] at eL; simp +contextual -implicitDefEqProofs only [hk1, Z5, hlt1, ↓reduceIte, Z1b, go_sem]; refine ⟨by simp only [InR]; omega, by omega, ?_⟩; refine Z0 (t79' ws[k - 1] ws[k]) (.pures rfl) ?_; simp +contextual -implicitDefEqProofs only [Z5, ↓reduceIte, Z1b, hlt, go_sem]; refine ⟨fun hc => good (by rw [eL n5 (by omega) h, if_neg (fun e => by omega)]), fun hc => ?_⟩; have := eL n5 (by omega) h; rw [if_pos ⟨by omega, by omega⟩] at this; rw [← bad (by omega)]; omega

end Go.Proofs.YtpljmccnfmkmfaaGreat
end

section
namespace Go.Proofs.YtpljmccnfmkmfaaGreat
open Go Go.AM Go.RowKit Go.ChangeShapes

theorem own : ownKnob Tryz.prog.godebug = none := by kernel_rfl
theorem Zmd : laidOutB Tryz.prog = true := by kernel_rfl

def Zkh : Sh := .agg [.int .i64, .sl .str]

theorem Zkx {l : List PV} (h : ∀ i, i < l.length → Fit .str (l.getD i default)) : ∃ ws : List (List UInt8), l = ws.map .str ∧ ∀ w ∈ ws, w.length ≤ maxLen := by
  induction l with
  | nil => exact ⟨[], rfl, by simp⟩
  | cons x l ih =>
    obtain ⟨ws, h1, h2⟩ := ih (fun i hi => h (i + 1) (by simpa using hi)); have h0 := h 0 (by simp); simp only [List.getD_cons_zero] at h0
    cases h0 with
    | str s hs => exact ⟨s :: ws, by rw [h1]; rfl, fun w hw => by
        rcases List.mem_cons.1 hw with rfl | hw
        · exact hs
        · exact h2 w hw⟩
theorem Zmj {l : List PV} (h : ∀ i, i < l.length → Fit (.int .i64) (l.getD i default)) : ∃ a : List Int, l = a.map (.int .i64) ∧ ∀ x ∈ a, InR .i64 x := by
  induction l with
  | nil => exact ⟨[], rfl, by simp⟩
  | cons x l ih =>
    obtain ⟨a, h1, h2⟩ := ih (fun i hi => h (i + 1) (by simpa using hi)); have h0 := h 0 (by simp); simp only [List.getD_cons_zero] at h0
    cases h0 with
    | int _ n hn => exact ⟨n :: a, by rw [h1]; rfl, fun w hw => by
        rcases List.mem_cons.1 hw with rfl | hw
        · exact hn
        · exact h2 w hw⟩
theorem Zhh {p : PV} (h : Fit (.sl .str) p) : ∃ ws : List (List UInt8), p = .sl (ws.map .str) ∧ ws.length ≤ maxLen ∧ ∀ w ∈ ws, w.length ≤ maxLen := by
  cases h with
  | sl _ l h1 h2 =>
    obtain ⟨ws, rfl, h3⟩ := Zkx h2; exact ⟨ws, rfl, by simpa using h1, h3⟩
theorem Zlv {p : PV} (h : Fit (.sl (.int .i64)) p) : ∃ a : List Int, p = .sl (a.map (.int .i64)) ∧ a.length ≤ maxLen ∧ ∀ x ∈ a, InR .i64 x := by
  cases h with
  | sl _ l h1 h2 =>
    obtain ⟨a, rfl, h3⟩ := Zmj h2; exact ⟨a, rfl, by simpa using h1, h3⟩
theorem Zn1 {p : PV} (h : Fit Zkh p) : ∃ (q : Int) (ws : List (List UInt8)), p = Zz q ws ∧ InR .i64 q ∧ ws.length ≤ maxLen ∧ ∀ w ∈ ws, w.length ≤ maxLen := by
  cases h with
  | agg _ l h1 h2 =>
    match l, h1 with
    | [x, y], _ =>
      have h3 := h2 0 (by simp); have h4 := h2 1 (by simp); simp only [List.getD_cons_zero, List.getD_cons_succ] at h3 h4; obtain ⟨ws, rfl, h5⟩ := Zhh h4
      cases h3 with
      | int _ n hn => exact ⟨n, ws, rfl, hn, h5⟩
end Go.Proofs.YtpljmccnfmkmfaaGreat
end

section
namespace Go.Proofs.YtpljmccnfmkmfaaGreat
open Go Go.AM

def sumN (F : Nat → Nat) : Nat → Nat
  | 0 => 0
  | n + 1 => sumN F n + F n
theorem Z3a {F G : Nat → Nat} : ∀ {n : Nat}, (∀ j, j < n → F j = G j) → sumN F n = sumN G n
  | 0, _ => rfl
  | n + 1, h => by unfold sumN; rw [Z3a (fun j hj => h j (by omega)), h n (by omega)]
theorem Z9i (F : Nat → Nat) : ∀ n, sumN F (n + 1) = F 0 + sumN (fun j => F (j + 1)) n
  | 0 => by simp [sumN]
  | n + 1 => by
    have ih := Z9i F n; have e1 : sumN F (n + 1 + 1) = sumN F (n + 1) + F (n + 1) := rfl; have e2 : sumN (fun j => F (j + 1)) (n + 1) = sumN (fun j => F (j + 1)) n + F (n + 1) := rfl; omega
theorem Zbs (F : Nat → Nat) (c : Nat) : ∀ n, sumN (fun j => c * F j) n = c * sumN F n
  | 0 => by simp [sumN]
  | n + 1 => by
    have ih := Zbs F c n; have e1 : sumN (fun j => c * F j) (n + 1) = sumN (fun j => c * F j) n + c * F n := rfl; have e2 : sumN F (n + 1) = sumN F n + F n := rfl; rw [e1, e2, ih, Nat.mul_add]
theorem Z9h {F : Nat → Nat} : ∀ {n : Nat}, (∀ j, j < n → F j = 0) → sumN F n = 0
  | 0, _ => rfl
  | n + 1, h => by unfold sumN; rw [Z9h (fun j hj => h j (by omega)), h n (by omega)]
theorem Z7i (F : Nat → Nat) (m : Nat) : ∀ n, sumN F (m + n) = sumN F m + sumN (fun j => F (m + j)) n
  | 0 => by simp [sumN]
  | n + 1 => by
    have ih := Z7i F m n; have e1 : sumN F (m + (n + 1)) = sumN F (m + n) + F (m + n) := rfl; have e2 : sumN (fun j => F (m + j)) (n + 1) = sumN (fun j => F (m + j)) n + F (m + n) := rfl; omega

def valD (B : Nat) : List Nat → Nat
  | [] => 0
  | d :: l => d + B * valD B l
theorem Z8a (B : Nat) : ∀ l : List Nat, valD B l = sumN (fun j => l.getD j 0 * B ^ j) l.length
  | [] => rfl
  | d :: l => by
    have ih := Z8a B l; rw [List.length_cons, Z9i]; have e : sumN (fun j => (d :: l).getD (j + 1) 0 * B ^ (j + 1)) l.length = B * sumN (fun j => l.getD j 0 * B ^ j) l.length := by
      rw [← Zbs]; refine Z3a fun j _ => ?_
      simp only [List.getD_cons_succ, Nat.pow_succ]; rw [← Nat.mul_assoc, Nat.mul_comm]
    rw [e, ← ih]; simp [valD]
theorem Zg (B : Nat) : ∀ l m : List Nat, valD B (l ++ m) = valD B l + B ^ l.length * valD B m
  | [], m => by simp [valD]
  | d :: l, m => by
    have ih := Zg B l m; have e : ∀ x, valD B (d :: x) = d + B * valD B x := fun _ => rfl
    rw [List.cons_append, e, e, ih, List.length_cons, Nat.pow_succ, Nat.mul_add, ← Nat.mul_assoc, Nat.mul_comm (B ^ l.length) B, Nat.add_assoc]
theorem Z7g (B n : Nat) : valD B (List.replicate n 0) = 0 := by
  induction n with
  | zero => rfl
  | succ n ih => rw [List.replicate_succ]; unfold valD; rw [ih]; simp

def Z1o (B : Nat) (l : List Nat) : Prop := (∀ d ∈ l, d < B) ∧ l.getLast? ≠ some 0
theorem Z3i {B d : Nat} {l : List Nat} (h : Z1o B (d :: l)) : Z1o B l := by
  refine ⟨fun x hx => h.1 x (by simp [hx]), ?_⟩
  cases l with
  | nil => simp
  | cons e m => have := h.2; simpa using this
theorem Z3h {B : Nat} (hB : 0 < B) : ∀ {l : List Nat}, Z1o B l → valD B l = 0 → l = []
  | [], _, _ => rfl
  | d :: l, h, hv => by
    unfold valD at hv; have h1 : d = 0 := by omega
    have h2 : B * valD B l = 0 := by omega
    have h3 : valD B l = 0 := (Nat.mul_eq_zero.1 h2).elim (fun h => by omega) id; have := Z3h hB (Z3i h) h3; subst this; exact absurd (by simp [h1]) h.2
theorem Z5g {B : Nat} (hB : 0 < B) : ∀ {l m : List Nat}, Z1o B l → Z1o B m → valD B l = valD B m → l = m
  | [], m, _, hm, hv => (Z3h hB hm hv.symm).symm
  | d :: l, [], hl, _, hv => absurd (Z3h hB hl hv) (by simp)
  | d :: l, e :: m, hl, hm, hv => by
    unfold valD at hv; have h1 := hl.1 d (by simp); have h2 := hm.1 e (by simp); have hd : d = e := by
      have := congrArg (· % B) hv; simp only [Nat.add_mul_mod_self_left] at this
      rwa [Nat.mod_eq_of_lt h1, Nat.mod_eq_of_lt h2] at this
    subst hd; have h3 : B * valD B l = B * valD B m := by omega
    rw [Z5g hB (Z3i hl) (Z3i hm) (Nat.eq_of_mul_eq_mul_left hB h3)]

def digF (B : Nat) : Nat → Nat → List Nat
  | 0, _ => []
  | f + 1, n => if n = 0 then [] else n % B :: digF B f (n / B)
def digD (B n : Nat) : List Nat := digF B n n
theorem Z8w {B : Nat} (hB : 2 ≤ B) : ∀ f n, n ≤ f → valD B (digF B f n) = n ∧ Z1o B (digF B f n)
  | 0, n, h => by
    have : n = 0 := by omega
    subst this; exact ⟨rfl, by simp [Z1o, digF]⟩
  | f + 1, n, h => by
    unfold digF; by_cases h0 : n = 0
    · subst h0; rw [if_pos rfl]; exact ⟨rfl, by simp [Z1o]⟩
    · rw [if_neg h0]
      have hd : n / B < n := Nat.div_lt_self (by omega) (by omega); obtain ⟨h1, h2⟩ := Z8w hB f (n / B) (by omega); refine ⟨?_, fun x hx => ?_, ?_⟩
      · unfold valD; rw [h1]; exact Nat.mod_add_div n B
      · rcases List.mem_cons.1 hx with rfl | hx
        · exact Nat.mod_lt _ (by omega)
        · exact h2.1 x hx
      · cases hl : digF B f (n / B) with
        | nil =>
          rw [hl] at h1; have h3 : n / B = 0 := h1.symm
          have : n % B = n := Nat.mod_eq_of_lt (by
            rcases Nat.lt_or_ge n B with h | h
            · exact h
            · have := Nat.div_pos h (by omega); omega)
          simp [this, h0]
        | cons e m =>
          have := h2.2; rw [hl] at this
          simpa using this
theorem Z8 {B : Nat} (hB : 2 ≤ B) (n : Nat) : valD B (digD B n) = n := (Z8w hB n n (Nat.le_refl _)).1
theorem Zv {B : Nat} (hB : 2 ≤ B) (n : Nat) : Z1o B (digD B n) := (Z8w hB n n (Nat.le_refl _)).2
theorem Z8x {B : Nat} (hB : 2 ≤ B) {l : List Nat} (h : Z1o B l) : digD B (valD B l) = l := Z5g (by omega) (Zv hB _) h (Z8 hB _)

def Z45 (l : List Nat) : Nat → List Nat
  | 0 => []
  | k + 1 => if l.getD k 0 = 0 then Z45 l k else l.take (k + 1)
def Z7c (l : List Nat) : List Nat := Z45 l l.length
theorem Z9d (B : Nat) (l : List Nat) : ∀ k, k ≤ l.length → valD B (Z45 l k) = valD B (l.take k)
  | 0, _ => by simp [Z45]
  | k + 1, h => by
    unfold Z45
    split
    · rename_i h0
      rw [Z9d B l k (by omega), List.take_succ_eq_append_getElem (by omega), Zg]; rw [List.getD_eq_getElem?_getD, List.getElem?_eq_getElem (by omega), Option.getD_some] at h0; simp [valD, h0]
    · rfl
theorem Z9e (B : Nat) (l : List Nat) : valD B (Z7c l) = valD B l := by
  unfold Z7c; rw [Z9d B l _ (Nat.le_refl _), List.take_length]
theorem Z67 {B : Nat} {l : List Nat} (hl : ∀ d ∈ l, d < B) : ∀ k, k ≤ l.length → Z1o B (Z45 l k)
  | 0, _ => by simp [Z45, Z1o]
  | k + 1, h => by
    unfold Z45
    split
    · exact Z67 hl k (by omega)
    · rename_i h0
      refine ⟨fun d hd => hl d (List.mem_of_mem_take hd), ?_⟩; rw [List.getD_eq_getElem?_getD, List.getElem?_eq_getElem (by omega), Option.getD_some] at h0; rw [List.take_succ_eq_append_getElem (by omega), List.getLast?_concat]; intro e; injection e with e; exact h0 e
theorem Z68 {B : Nat} {l : List Nat} (hl : ∀ d ∈ l, d < B) : Z1o B (Z7c l) := Z67 hl _ (Nat.le_refl _)
theorem Z1q {B : Nat} (hB : 2 ≤ B) {l : List Nat} (hl : ∀ d ∈ l, d < B) : Z7c l = digD B (valD B l) := by
  rw [← Z9e, Z8x hB (Z68 hl)]

/-! ### The program's naturals -/
def B32 : Nat := 4294967296
def u32V (d : Nat) : PV := .int .u32 (d : Int)
def natV (l : List Nat) : PV := .sl (l.map u32V)

theorem Z8f (l : List Nat) : Zu (l.map u32V) 1 := fun x hx => by
  obtain ⟨b, _, rfl⟩ := List.mem_map.1 hx
  rfl

theorem u91 (l : List Nat) (hl : l.length ≤ 2000000) : PFn Tryz.prog 192 [natV l] [natV (Z7c l)] := by
  refine PFn.of_body hΓ Tryz.func192 (by kernel_rfl) rfl (Wd [] ?_); simp -implicitDefEqProofs only [Tryz.ntmps192, Tryz.results192, Nat.reduceAdd, Nat.reduceSub, natV, go_sem]
  refine AWp.loopI (fun k : Nat => ⟨mkF 21 [(0, .p (natV (l.take k)))], []⟩)
    (fun k => k ≤ l.length ∧ Z45 l k = Z7c l) (fun k => k) l.length (by simp [go_sem, natV]) ⟨Nat.le_refl _, rfl⟩ ?_
  rintro k ⟨hk, ht⟩; refine Wd [] ?_
  cases k with
  | zero =>
    have hz : ¬ (0 : Int) < ((0 : Nat) : Int) := by omega
    simp -implicitDefEqProofs only [natV, List.take_zero, List.map_nil, hz, go_sem]; rw [← ht]; rfl
  | succ k =>
    have hk' : k < l.length := hk; have hln : (l.take (k + 1)).length = k + 1 := by simp; omega
    have h1 : (0 : Int) < ((k + 1 : Nat) : Int) := by omega
    have h2 : (((k + 1 : Nat) : Int) - 1).toNat = k := by omega
    have hget : ((l.take (k + 1)).map u32V).getD k default = .int .u32 (l.getD k 0 : Nat) := by
      rw [Z5 _ _ _ _ (by rw [hln]; omega), List.getElem_take, List.getD_eq_getElem?_getD, List.getElem?_eq_getElem hk', Option.getD_some]; rfl
    have ht' : Z45 l (k + 1) = if l.getD k 0 = 0 then Z45 l k else l.take (k + 1) := rfl
    by_cases h0 : l.getD k 0 = 0
    · have h0' : ((l.getD k 0 : Nat) : Int) = 0 := by omega
      rw [if_pos h0] at ht'; simp -implicitDefEqProofs only [natV, List.length_map, hln, h1, h2, hget, h0', go_sem]; refine ⟨by simp only [InR]; omega, ⟨by omega, by omega⟩, by simp only [InR]; omega, Z8f _, ⟨by omega, by omega⟩, k, ?_, ⟨by omega, by rw [← ht', ht]⟩, by omega⟩; rw [← List.map_take, List.take_take, Nat.min_eq_left (by omega)]
    · have h0' : ¬ ((l.getD k 0 : Nat) : Int) = 0 := by omega
      rw [if_neg h0] at ht'; simp -implicitDefEqProofs only [natV, List.length_map, hln, h1, h2, hget, h0', go_sem]; exact ⟨by simp only [InR]; omega, ⟨by omega, by omega⟩, by rw [← ht', ht]⟩

/-! ### A number's bytes and digits -/
def byN (bs : List Nat) (n i : Nat) : Nat := if i < n then bs.getD i 0 else 0
def grp (bs : List Nat) (n j : Nat) : Nat := byN bs n (4 * j) + 256 * byN bs n (4 * j + 1) + 65536 * byN bs n (4 * j + 2) + 16777216 * byN bs n (4 * j + 3)
def grpL (bs : List Nat) (n L : Nat) : List Nat := (List.range L).map (grp bs n)
theorem Z2i (bs : List Nat) (n L : Nat) : (grpL bs n L).length = L := by simp [grpL]
theorem Z3f {bs : List Nat} {n L j : Nat} (h : j < L) : (grpL bs n L)[j]? = some (grp bs n j) := by simp [grpL, List.getElem?_map, List.getElem?_range h]
theorem Z73 {bs : List Nat} (hb : ∀ b ∈ bs, b < 256) (n i : Nat) : byN bs n i < 256 := by
  unfold byN
  split
  · rw [List.getD_eq_getElem?_getD]
    cases h : bs[i]? with
    | none => simp
    | some b => exact hb b (List.mem_of_getElem? h)
  · omega
theorem Zkc {bs : List Nat} (hb : ∀ b ∈ bs, b < 256) (n j : Nat) : grp bs n j < B32 := by
  have h0 := Z73 hb n (4 * j); have h1 := Z73 hb n (4 * j + 1); have h2 := Z73 hb n (4 * j + 2); have h3 := Z73 hb n (4 * j + 3); unfold grp B32; omega
theorem Z1v (bs : List Nat) (n i : Nat) : byN bs (n + 1) i = if i = n then bs.getD n 0 else byN bs n i := by
  unfold byN; by_cases h : i = n
  · subst h; simp
  · rw [if_neg h]
    by_cases h2 : i < n
    · rw [if_pos h2, if_pos (by omega)]
    · rw [if_neg h2, if_neg (by omega)]
theorem Zft {bs : List Nat} {n j : Nat} (h : n / 4 ≠ j) : grp bs (n + 1) j = grp bs n j := by
  unfold grp; rw [Z1v, Z1v, Z1v, Z1v, if_neg (by omega), if_neg (by omega), if_neg (by omega), if_neg (by omega)]
theorem Zis (bs : List Nat) (j : Nat) : grp bs 0 j = 0 := by simp [grp, byN]
theorem Zit (bs : List Nat) (hb : ∀ b ∈ bs, b < 256) (n : Nat) : grp bs (n + 1) (n / 4) = grp bs n (n / 4) + bs.getD n 0 * 256 ^ (n % 4) ∧ grp bs n (n / 4) < 256 ^ (n % 4) := by
  have h0 := Z73 hb n (4 * (n / 4)); have h1 := Z73 hb n (4 * (n / 4) + 1); have h2 := Z73 hb n (4 * (n / 4) + 2); have hz : ∀ i, n ≤ i → byN bs n i = 0 := fun i hi => by unfold byN; rw [if_neg (by omega)]
  have hm : n % 4 < 4 := Nat.mod_lt _ (by omega); have hn : n = 4 * (n / 4) + n % 4 := (Nat.div_add_mod n 4).symm; unfold grp; rw [Z1v, Z1v, Z1v, Z1v]; generalize hq : n / 4 = q at *; generalize hr : n % 4 = r at *; rcases (by omega : r = 0 ∨ r = 1 ∨ r = 2 ∨ r = 3) with rfl | rfl | rfl | rfl
  · rw [if_pos (by omega), if_neg (by omega), if_neg (by omega), if_neg (by omega), hz (4 * q) (by omega), hz (4 * q + 1) (by omega), hz (4 * q + 2) (by omega), hz (4 * q + 3) (by omega)]
    omega
  · rw [if_neg (by omega), if_pos (by omega), if_neg (by omega), if_neg (by omega), hz (4 * q + 1) (by omega), hz (4 * q + 2) (by omega), hz (4 * q + 3) (by omega)]
    omega
  · rw [if_neg (by omega), if_neg (by omega), if_pos (by omega), if_neg (by omega), hz (4 * q + 2) (by omega), hz (4 * q + 3) (by omega)]
    omega
  · rw [if_neg (by omega), if_neg (by omega), if_neg (by omega), if_pos (by omega), hz (4 * q + 3) (by omega)]
    omega

theorem Z8k (j : Nat) : (256 : Nat) ^ (4 * j) = B32 ^ j := by
  rw [Nat.pow_mul]; rfl
theorem Zfs (bs : List Nat) (n : Nat) : ∀ L, sumN (fun j => grp bs n j * B32 ^ j) L = sumN (fun i => byN bs n i * 256 ^ i) (4 * L)
  | 0 => rfl
  | L + 1 => by
    have ih := Zfs bs n L; have e1 : sumN (fun j => grp bs n j * B32 ^ j) (L + 1) = sumN (fun j => grp bs n j * B32 ^ j) L + grp bs n L * B32 ^ L := rfl; have e2 : sumN (fun i => byN bs n i * 256 ^ i) (4 * (L + 1)) = sumN (fun i => byN bs n i * 256 ^ i) (4 * L) + byN bs n (4 * L) * 256 ^ (4 * L) + byN bs n (4 * L + 1) * 256 ^ (4 * L + 1) + byN bs n (4 * L + 2) * 256 ^ (4 * L + 2) + byN bs n (4 * L + 3) * 256 ^ (4 * L + 3) := rfl; rw [e1, e2, ih, ← Z8k]; simp only [Nat.pow_succ]; unfold grp; generalize (256 : Nat) ^ (4 * L) = X; generalize byN bs n (4 * L) = a; generalize byN bs n (4 * L + 1) = b; generalize byN bs n (4 * L + 2) = c; generalize byN bs n (4 * L + 3) = d; simp only [Nat.add_mul, Nat.mul_assoc]; have h1 : 256 * (b * X) = b * (X * 256) := by rw [Nat.mul_comm X, ← Nat.mul_assoc, ← Nat.mul_assoc, Nat.mul_comm 256]
    have h2 : 65536 * (c * X) = c * (X * (256 * 256)) := by
      rw [Nat.mul_comm X, ← Nat.mul_assoc, ← Nat.mul_assoc, Nat.mul_comm 65536]
    have h3 : 16777216 * (d * X) = d * (X * (256 * (256 * 256))) := by
      rw [Nat.mul_comm X, ← Nat.mul_assoc, ← Nat.mul_assoc, Nat.mul_comm 16777216]
    omega
theorem Ziu {bs : List Nat} {L : Nat} (hL : bs.length ≤ 4 * L) : valD B32 (grpL bs bs.length L) = valD 256 bs := by
  rw [Z8a, Z8a, Z2i]; have e1 : sumN (fun j => (grpL bs bs.length L).getD j 0 * B32 ^ j) L = sumN (fun j => grp bs bs.length j * B32 ^ j) L := Z3a fun j hj => by
    rw [List.getD_eq_getElem?_getD, Z3f hj, Option.getD_some]
  rw [e1, Zfs]; obtain ⟨m, hm⟩ : ∃ m, 4 * L = bs.length + m := ⟨4 * L - bs.length, by omega⟩; rw [hm, Z7i]; have e2 : sumN (fun j => byN bs bs.length (bs.length + j) * 256 ^ (bs.length + j)) m = 0 := Z9h fun j _ => by
    unfold byN; rw [if_neg (by omega)]; simp
  rw [e2, Nat.add_zero]; exact Z3a fun j hj => by unfold byN; rw [if_pos hj]

def intV (neg : Bool) (mag : List UInt8) : PV := .agg [.bool neg, .str mag]
def lebs (mag : List UInt8) : List Nat := (mag.reverse).map UInt8.toNat
theorem Z19 (mag : List UInt8) : (lebs mag).length = mag.length := by simp [lebs]
theorem Z52 (mag : List UInt8) : ∀ b ∈ lebs mag, b < 256 := fun b hb => by
  obtain ⟨c, _, rfl⟩ := List.mem_map.1 hb; exact c.toNat_lt
theorem Z2g {mag : List UInt8} {i : Nat} (hi : i < mag.length) : (lebs mag).getD i 0 = (mag.getD (mag.length - 1 - i) 0).toNat := by
  unfold lebs; rw [List.getD_eq_getElem?_getD, List.getElem?_map, List.getElem?_reverse hi, List.getD_eq_getElem?_getD, List.getElem?_eq_getElem (by omega)]; rfl
def Z3p (mag : List UInt8) : Nat := valD 256 (lebs mag)

theorem Zjz {x y k : Nat} (hx : x < 2 ^ k) (hs : x + y * 2 ^ k < 4294967296) : Z1n .or .u32 (x : Int) ((y * 2 ^ k : Nat) : Int) = ((x + y * 2 ^ k : Nat) : Int) := by
  have h1 : y * 2 ^ k < 4294967296 := by omega
  have h2 : x < 4294967296 := by omega
  have e : (BitVec.ofInt 32 (x : Int) ||| BitVec.ofInt 32 ((y * 2 ^ k : Nat) : Int)).toNat = x + y * 2 ^ k := by
    rw [BitVec.toNat_or, BitVec.ofInt_natCast, BitVec.ofInt_natCast, BitVec.toNat_ofNat, BitVec.toNat_ofNat, Nat.mod_eq_of_lt h2, Nat.mod_eq_of_lt h1]; rw [Nat.or_comm, ← Nat.shiftLeft_eq, ← Nat.shiftLeft_add_eq_or_of_lt hx, Nat.shiftLeft_eq, Nat.add_comm]
  show IntKind.wrap .u32 ((BitVec.ofInt 32 (x : Int) ||| BitVec.ofInt 32 ((y * 2 ^ k : Nat) : Int)).toNat : Nat) = _; rw [e]; exact InR.wrap (k := .u32) (by simp only [InR]; omega)

theorem Z16 {x : Nat} (h : x < 4294967296) : IntKind.u32.wrap (x : Int) = x := InR.wrap (k := .u32) (by simp only [InR]; omega)

theorem Zfu (bs : List Nat) (L : Nat) : List.replicate L (PV.int .u32 0) = (grpL bs 0 L).map u32V := by
  apply List.ext_getElem?
  intro j; rw [List.getElem?_map]; by_cases hj : j < L
  · rw [Z3f hj, Zis, List.getElem?_replicate, if_pos hj]; rfl
  · rw [List.getElem?_eq_none (by simp; omega), List.getElem?_eq_none (by rw [Z2i]; omega)]; rfl
theorem Zfv {bs : List Nat} {n L : Nat} (h : n / 4 < L) : ((grpL bs n L).map u32V).set (n / 4) (u32V (grp bs (n + 1) (n / 4))) = (grpL bs (n + 1) L).map u32V := by
  apply List.ext_getElem?
  intro j; rw [List.getElem?_set, List.getElem?_map]; by_cases hj : j < L
  · by_cases e : n / 4 = j
    · rw [if_pos e, if_pos (by simp [Z2i]; exact h), List.getElem?_map, Z3f hj, ← e]; rfl
    · rw [if_neg e, List.getElem?_map, Z3f hj, Z3f hj, Zft e]
  · rw [if_neg (by omega), List.getElem?_eq_none (by rw [Z2i]; omega), List.getElem?_map, List.getElem?_eq_none (by rw [Z2i]; omega)]

theorem u69 (neg : Bool) (mag : List UInt8) (hl : mag.length ≤ 1000000) : PFn Tryz.prog 156 [intV neg mag] [natV (digD B32 (Z3p mag))] := by
  obtain ⟨L, hL⟩ : ∃ L : Nat, ((mag.length : Int) + 3) / 4 = L := ⟨(mag.length + 3) / 4, by omega⟩; have hL2 : mag.length ≤ 4 * L := by omega
  have hL3 : ∀ i, i < mag.length → i / 4 < L := fun i hi => by omega
  have hres : Z7c (grpL (lebs mag) mag.length L) = digD B32 (Z3p mag) := by
    rw [Z1q (B := B32) (by decide) (fun d hd => by
      obtain ⟨j, _, rfl⟩ := List.mem_map.1 hd; exact Zkc (Z52 mag) _ _)]
    have := Ziu (bs := lebs mag) (L := L) (by rw [Z19]; exact hL2); rw [Z19] at this; rw [this]; rfl
  refine PFn.of_body hΓ Tryz.func156 (by kernel_rfl) rfl (Wd [] ?_); simp -implicitDefEqProofs only [Tryz.ntmps156, Tryz.results156, Nat.reduceAdd, Nat.reduceSub, intV, hL, go_sem]; refine ⟨by simp only [InR]; omega, ⟨by omega, by omega, by simp only [InR]; omega⟩, ⟨by omega, by omega⟩, ?_⟩; rw [Zfu (lebs mag)]
  refine AWp.loopI (fun i : Nat => ⟨mkF 43 [(1, .ptr 0 0), (2, .full []), (3, .own 1 L), (14, .p (.int .i64 mag.length)), (15, .p (.int .i64 i))], [.box [.p (.bool neg), .p (.str mag)], .row 136 1 ((grpL (lebs mag) i L).map u32V) .own]⟩)
    (fun i => i ≤ mag.length) (fun i => mag.length - i) 0 (by simp [go_sem]) (by omega) ?_
  intro i hi; by_cases hlt : i < mag.length
  · refine Wd [(6, 13)] ?_
    have hi4 := hL3 i hlt; have e1 : ((mag.length : Int) - 1 - i).toNat = mag.length - 1 - i := by omega
    have e2 : ((i : Int) / 4).toNat = i / 4 := by omega
    have hget : ((grpL (lebs mag) i L).map u32V).getD (i / 4) default = .int .u32 ((grp (lebs mag) i (i / 4) : Nat) : Int) := by
      rw [List.getD_eq_getElem?_getD, List.getElem?_map, Z3f hi4]; rfl
    have hwr : IntKind.u32.wrap ((mag.getD (mag.length - 1 - i) 0).toNat : Int) = (mag.getD (mag.length - 1 - i) 0).toNat := InR.wrap (k := .u32) (by
      have := (mag.getD (mag.length - 1 - i) 0).toNat_lt; simp only [InR]; omega)
    simp -implicitDefEqProofs only [hlt, e1, e2, hget, hwr, go_sem]; have hc := Z2g hlt; generalize hcn : (mag.getD (mag.length - 1 - i) 0).toNat = c at hc; have hc256 : c < 256 := by rw [← hcn]; exact (mag.getD (mag.length - 1 - i) 0).toNat_lt
    obtain ⟨h1, h2⟩ := Zit (lebs mag) (Z52 mag) i; rw [hc] at h1; have h3 := Zkc (Z52 mag) (i + 1) (i / 4); have hp : (256 : Nat) ^ (i % 4) = 2 ^ (8 * (i % 4)) := by rw [Nat.pow_mul]
    rw [hp] at h1 h2; have e8 : (8 * ((i : Int) % 4)).toNat = 8 * (i % 4) := by omega
    have ec : (c : Int) * 2 ^ (8 * (i % 4)) = ((c * 2 ^ (8 * (i % 4)) : Nat) : Int) := by simp
    have hs : grp (lebs mag) i (i / 4) + c * 2 ^ (8 * (i % 4)) < 4294967296 := by rw [← h1]; exact h3
    rw [e8, ec, Z16 (by omega), Zjz h2 hs, ← h1]; have hgl := Z2i (lebs mag) i L; generalize hX : c * 2 ^ (8 * (i % 4)) = X at hs; refine ⟨by simp only [InR]; omega, by simp only [InR]; omega, ⟨by omega, by omega⟩, ⟨by omega, by simp only [InR]; omega⟩, ⟨by omega, by omega⟩, by omega, by omega, by simp only [InR]; omega, ⟨by omega, by omega⟩, ⟨by omega, by omega⟩, ⟨by omega, rfl⟩, by simp only [InR]; omega, i + 1, ⟨by omega, .inl ?_⟩, hlt, by omega⟩; exact (Zfv hi4).symm
  · refine AWp.freeze 1 rfl ?_
    rw [show i = mag.length by omega]; refine Wd [(6, 13)] ?_; have hz : ¬ (mag.length : Int) < mag.length := by omega
    simp -implicitDefEqProofs only [hz, Z17, go_sem]; have e91 := u91 (grpL (lebs mag) mag.length L) (by rw [Z2i]; omega); rw [hres] at e91; refine Z0 e91 (.pures rfl) ?_; simp -implicitDefEqProofs only [natV, go_sem]

theorem Z1p (n : Nat) : IntKind.u32.wrap (n : Int) = ((n % 4294967296 : Nat) : Int) := by
  simp [IntKind.wrap, IntKind.signed, IntKind.bits]
theorem Z4u (o : List Nat) (m v : Nat) : ((o ++ List.replicate (m + 1) 0).map u32V).set o.length (u32V v) = ((o ++ [v]) ++ List.replicate m 0).map u32V := by
  rw [List.map_append, List.set_append_right _ _ (by simp), List.replicate_succ]; simp
theorem Zh {l : List Nat} (B i : Nat) : valD B (l.take (i + 1)) = valD B (l.take i) + l.getD i 0 * B ^ i := by
  by_cases h : i < l.length
  · rw [List.take_succ_eq_append_getElem h, Zg, List.getD_eq_getElem?_getD, List.getElem?_eq_getElem h, Option.getD_some, List.length_take, Nat.min_eq_left (by omega)]
    simp [valD, Nat.mul_comm]
  · rw [List.take_of_length_le (by omega), List.take_of_length_le (by omega), List.getD_eq_getElem?_getD, List.getElem?_eq_none (by omega)]
    simp

theorem u105 (x y : List Nat) (hx : ∀ d ∈ x, d < B32) (hy : ∀ d ∈ y, d < B32) (hxl : x.length ≤ 1000000) (hyl : y.length ≤ 1000000) : PFn Tryz.prog 159 [natV x, natV y] [natV (digD B32 (valD B32 x + valD B32 y))] := by
  refine PFn.of_body hΓ Tryz.func159 (by kernel_rfl) rfl (AWp.seq (Wd [] ?_)); simp -implicitDefEqProofs only [Tryz.ntmps159, Tryz.results159, Nat.reduceAdd, Nat.reduceSub, natV, go_sem]; refine AWp.seq (AWp.mono (Q := fun e st => e = .normal ∧ ∃ X Y : List Nat, ((∀ d ∈ X, d < B32) ∧ (∀ d ∈ Y, d < B32) ∧ X.length ≤ 1000000 ∧ Y.length ≤ X.length ∧ valD B32 X + valD B32 Y = valD B32 x + valD B32 y) ∧ Weak st ⟨mkF 59 [(0, .p (natV X)), (1, .p (natV Y)), (4, .full [])], []⟩) (Wd [] ?_) ?_)
  · by_cases hc : (x.length : Int) < y.length
    · simp -implicitDefEqProofs only [hc, List.length_map, go_sem]
      exact ⟨y, x, ⟨hy, hx, hyl, by omega, by omega⟩, rfl, rfl⟩
    · simp -implicitDefEqProofs only [hc, List.length_map, go_sem]
      exact ⟨x, y, ⟨hx, hy, hxl, by omega, rfl⟩, rfl, rfl⟩
  rintro e st ⟨rfl, X, Y, ⟨hX, hY, hXl, hYX, hval⟩, hw⟩; refine AWp.weak hw ?_; rw [← hval]; clear hval hw hx hy hxl hyl x y; have eL : ((X.length : Int) + 1).toNat = X.length + 1 := by omega
  refine AWp.seq (Wd [] ?_); simp -implicitDefEqProofs only [natV, List.length_map, eL, go_sem]; refine ⟨by simp only [InR]; omega, ⟨by omega, by omega, by omega⟩, ?_⟩; refine AWp.seq (Wd [] ?_); simp -implicitDefEqProofs only [go_sem]; refine AWp.seq (Wd [] ?_); simp -implicitDefEqProofs only [List.length_map, go_sem]
  refine AWp.loopI (fun z : Nat × List Nat × Nat => ⟨mkF 59 [(0, .p (natV X)), (1, .p (natV Y)), (4, .full []), (5, .own 0 (X.length + 1)), (6, .p (.int .u64 z.2.2)), (20, .p (natV X)), (21, .p (.int .i64 X.length)), (22, .p (.int .i64 z.1))], [.row 136 1 ((z.2.1 ++ List.replicate (X.length + 1 - z.1) 0).map u32V) .own]⟩)
    (fun z => z.1 ≤ X.length ∧ z.2.1.length = z.1 ∧ (∀ d ∈ z.2.1, d < B32) ∧ z.2.2 ≤ 1 ∧ valD B32 z.2.1 + z.2.2 * B32 ^ z.1 = valD B32 (X.take z.1) + valD B32 (Y.take z.1)) (fun z => X.length - z.1) (0, [], 0) (by simp [go_sem, natV, u32V]) (by simp [valD]) ?_
  rintro ⟨i, o, c⟩ ⟨hi, ho, hod, hc, hval⟩; simp only at hi ho hod hc hval; refine Wd [] ?_; by_cases hlt : i < X.length
  · have hgX : (X.map u32V).getD i default = .int .u32 ((X.getD i 0 : Nat) : Int) := by
      rw [Z5 _ _ _ _ hlt, List.getD_eq_getElem?_getD, List.getElem?_eq_getElem hlt]; rfl
    have dX : X.getD i 0 < B32 := by
      rw [List.getD_eq_getElem?_getD, List.getElem?_eq_getElem hlt, Option.getD_some]; exact hX _ (List.getElem_mem hlt)
    have dY : Y.getD i 0 < B32 := by
      rw [List.getD_eq_getElem?_getD]
      cases hq : Y[i]? with
      | none => decide
      | some d => exact hY d (List.mem_of_getElem? hq)
    have hwX : IntKind.u64.wrap ((X.getD i 0 : Nat) : Int) = (X.getD i 0 : Nat) := InR.wrap (k := .u64) (by simp only [InR]; unfold B32 at dX; omega); have hwY : IntKind.u64.wrap ((Y.getD i 0 : Nat) : Int) = (Y.getD i 0 : Nat) := InR.wrap (k := .u64) (by simp only [InR]; unfold B32 at dY; omega); have tX := Zh (l := X) B32 i; have tY := Zh (l := Y) B32 i; obtain ⟨s, hs⟩ : ∃ s, s = X.getD i 0 + c + Y.getD i 0 := ⟨_, rfl⟩; have hvl : valD B32 (o ++ [s % B32]) + s / B32 * B32 ^ (i + 1) = valD B32 (X.take (i + 1)) + valD B32 (Y.take (i + 1)) := by
      rw [tX, tY, Zg, ho, Nat.pow_succ]; have e1 : valD B32 [s % B32] = s % B32 := by simp [valD]
      rw [e1]; have e2 : s % B32 + B32 * (s / B32) = s := Nat.mod_add_div s B32; generalize hP : B32 ^ i = P at *; have e3 : P * (s % B32) + s / B32 * (P * B32) = P * s := by
        conv => rhs; rw [← e2, Nat.mul_add]
        rw [Nat.mul_comm (s / B32), Nat.mul_assoc]
      have e4 : P * s = X.getD i 0 * P + c * P + Y.getD i 0 * P := by rw [hs, Nat.mul_comm, Nat.add_mul, Nat.add_mul]
      omega
    have hsb : s ≤ 8589934591 := by unfold B32 at dX dY; omega
    have hs32 : IntKind.u32.wrap (s : Int) = ((s % B32 : Nat) : Int) := Z1p s; have hsd : (s : Int) / 2 ^ Int.toNat 32 = ((s / B32 : Nat) : Int) := by
      have : (2 : Int) ^ Int.toNat 32 = ((B32 : Nat) : Int) := rfl; rw [this, Int.natCast_ediv]
    have hset : ((o ++ List.replicate (X.length + 1 - i) 0).map u32V).set i (.int .u32 ((s % B32 : Nat) : Int)) = ((o ++ [s % B32]) ++ List.replicate (X.length + 1 - (i + 1)) 0).map u32V := by
      have := Z4u o (X.length + 1 - (i + 1)) (s % B32); rw [ho, show X.length + 1 - (i + 1) + 1 = X.length + 1 - i by omega] at this; exact this
    have hod' : ∀ d ∈ o ++ [s % B32], d < B32 := fun d hd => by
      rcases List.mem_append.1 hd with hd | hd
      · exact hod d hd
      · rw [List.mem_singleton] at hd; subst hd; exact Nat.mod_lt _ (by decide)
    have hc1 : s / B32 ≤ 1 := by unfold B32; omega
    have hlen : i < (o ++ List.replicate (X.length + 1 - i) 0).length := by simp; omega
    by_cases hlt2 : (i : Int) < Y.length
    · have hlt2' : i < Y.length := by omega
      have hgY : (Y.map u32V).getD i default = .int .u32 ((Y.getD i 0 : Nat) : Int) := by
        rw [Z5 _ _ _ _ hlt2', List.getD_eq_getElem?_getD, List.getElem?_eq_getElem hlt2']; rfl
      have es : ((X.getD i 0 : Nat) : Int) + (c : Int) + ((Y.getD i 0 : Nat) : Int) = (s : Int) := by omega
      simp -implicitDefEqProofs only [natV, List.length_map, hlt, hgX, hgY, hlt2', hwX, hwY, es, hs32, hsd, hset, go_sem]; refine ⟨by simp only [InR]; omega, by simp only [InR]; omega, ⟨by omega, by omega⟩, ⟨hlen, rfl⟩, by simp only [InR]; omega, (i + 1, o ++ [s % B32], s / B32), ⟨⟨rfl, by simp⟩, .inl rfl⟩, ⟨hlt, by simp [ho], hod', hc1, hvl⟩, by simp only; omega⟩
    · have hy0 : Y.getD i 0 = 0 := by rw [List.getD_eq_getElem?_getD, List.getElem?_eq_none (by omega)]; rfl
      have es : ((X.getD i 0 : Nat) : Int) + (c : Int) = (s : Int) := by omega
      simp -implicitDefEqProofs only [natV, List.length_map, hlt, hgX, hlt2, hwX, es, hs32, hsd, hset, go_sem]; refine ⟨by simp only [InR]; omega, ⟨by omega, by omega⟩, ⟨hlen, rfl⟩, by simp only [InR]; omega, (i + 1, o ++ [s % B32], s / B32), ⟨⟨rfl, by simp⟩, .inl rfl⟩, ⟨hlt, by simp [ho], hod', hc1, hvl⟩, by simp only; omega⟩
  · simp -implicitDefEqProofs only [natV, List.length_map, hlt, go_sem]
    have hin : i = X.length := by omega
    refine AWp.seq (Wd [] ?_); have hcw : IntKind.u32.wrap (c : Int) = (c : Int) := InR.wrap (k := .u32) (by simp only [InR]; omega); have hset : ((o ++ List.replicate (X.length + 1 - i) 0).map u32V).set X.length (.int .u32 (c : Int)) = (o ++ [c]).map u32V := by
      have := Z4u o 0 c; rw [ho, hin, show (0 : Nat) + 1 = X.length + 1 - X.length by omega] at this; rw [hin]
      simpa [u32V] using this
    simp -implicitDefEqProofs only [List.length_map, hcw, hset, go_sem]; refine ⟨⟨by simp; omega, rfl⟩, ?_⟩; refine AWp.freeze 0 rfl ?_; refine Wd [] ?_; simp -implicitDefEqProofs only [Z17, go_sem]; have hall : ∀ d ∈ o ++ [c], d < B32 := fun d hd => by
      rcases List.mem_append.1 hd with hd | hd
      · exact hod d hd
      · rw [List.mem_singleton] at hd; subst hd; unfold B32; omega
    have e91 := u91 (o ++ [c]) (by rw [List.length_append, ho]; simp; omega); have hv : valD B32 (o ++ [c]) = valD B32 X + valD B32 Y := by
      rw [hin, List.take_of_length_le (Nat.le_refl _), List.take_of_length_le hYX] at hval; rw [Zg, ho, hin, ← hval]; simp [valD, Nat.mul_comm]
    rw [Z1q (B := B32) (by decide) hall, hv] at e91; refine Z0 e91 (.pures rfl) ?_; simp -implicitDefEqProofs only [natV, go_sem]

theorem Z4m (B : Nat) : digD B 0 = [] := rfl
theorem Z8y {B n : Nat} (hB : 2 ≤ B) (h : digD B n = []) : n = 0 := by
  have := Z8 hB n; rw [h] at this; exact this.symm
theorem Zgf {B c n : Nat} (hB : 2 ≤ B) (hc : c < B) (h : ¬ (c = 0 ∧ n = 0)) : digD B (c + B * n) = c :: digD B n := by
  have hcan : Z1o B (c :: digD B n) := by
    obtain ⟨h1, h2⟩ := Zv hB n; refine ⟨fun d hd => ?_, ?_⟩
    · rcases List.mem_cons.1 hd with rfl | hd
      · exact hc
      · exact h1 d hd
    · cases e : digD B n with
      | nil =>
        have hn := Z8y hB e; simp only [List.getLast?_singleton, ne_eq, Option.some.injEq]; exact fun h0 => h ⟨h0, hn⟩
      | cons a l => rw [e] at h2; simpa using h2
  have h1 := Z8x hB hcan; have e : valD B (c :: digD B n) = c + B * valD B (digD B n) := rfl; rw [e, Z8 hB] at h1; exact h1

def magB (n : Nat) : List UInt8 := ((digD 256 n).map UInt8.ofNat).reverse
theorem magB_zero : magB 0 = [] := rfl
theorem Z1k {c n : Nat} (hc : c < 256) : magB (c + 256 * n) = if c = 0 ∧ n = 0 then [] else magB n ++ [UInt8.ofNat c] := by
  by_cases h : c = 0 ∧ n = 0
  · rw [if_pos h, h.1, h.2]; rfl
  · rw [if_neg h]; unfold magB; rw [Zgf (by decide) hc h]; simp
theorem Zq {n : Nat} (h : magB n = []) : n = 0 := by
  unfold magB at h; rw [List.reverse_eq_nil_iff, List.map_eq_nil_iff] at h; exact Z8y (by decide) h
theorem Zfe (n : Nat) : lebs (magB n) = digD 256 n := by
  unfold lebs magB; rw [List.reverse_reverse, List.map_map]
  conv => rhs; rw [← List.map_id (digD 256 n)]
  apply List.map_congr_left
  intro d hd; have := (Zv (B := 256) (by decide) n).1 d hd; simp [UInt8.toNat_ofNat, Nat.mod_eq_of_lt this]
theorem Z1j (n : Nat) : Z3p (magB n) = n := by
  unfold Z3p; rw [Zfe, Z8 (by decide)]
theorem Z80 {B : Nat} (hB : 2 ≤ B) : ∀ k f n, n < B ^ k → (digF B f n).length ≤ k
  | _, 0, _, _ => by simp [digF]
  | 0, f + 1, n, h => by
    have : n = 0 := by simp at h; exact h
    subst this; simp [digF]
  | k + 1, f + 1, n, h => by
    unfold digF
    split
    · simp
    · have := Z80 hB k f (n / B) (by
        rw [Nat.div_lt_iff_lt_mul (by omega)]; rwa [Nat.pow_succ] at h)
      simp; omega
theorem Z2a {B : Nat} (hB : 2 ≤ B) {k n : Nat} (h : n < B ^ k) : (digD B n).length ≤ k := Z80 hB k n n h
theorem Z3e {k n : Nat} (h : n < 256 ^ k) : (magB n).length ≤ k := by
  unfold magB; simpa using Z2a (B := 256) (by decide) h

def intN (neg : Bool) (n : Nat) : PV := intV (neg && decide (n ≠ 0)) (magB n)
theorem Za4 (neg : Bool) : intN neg 0 = intV false [] := by simp [intN, magB_zero]

theorem magS (V d r : Nat) (hr : r < 4) : V * 256 ^ (4 - r) + d / 256 ^ r = (d / 256 ^ r) % 256 + 256 * (V * 256 ^ (4 - (r + 1)) + d / 256 ^ (r + 1)) := by
  rcases (by omega : r = 0 ∨ r = 1 ∨ r = 2 ∨ r = 3) with rfl | rfl | rfl | rfl <;> simp <;> omega

theorem Zkl (n : Nat) : IntKind.u8.wrap (n : Int) = ((n % 256 : Nat) : Int) := by
  simp [IntKind.wrap, IntKind.signed, IntKind.bits]
theorem u8_of (n : Nat) (h : n < 256) : (PV.int .u8 (n : Int)) = u8V (UInt8.ofNat n) := by
  simp [u8V, UInt8.toNat_ofNat, Nat.mod_eq_of_lt h]

theorem Z1x {B : Nat} : ∀ {l : List Nat}, (∀ d ∈ l, d < B) → valD B l < B ^ l.length
  | [], _ => by simp [valD]
  | d :: l, h => by
    have ih := Z1x (l := l) (fun x hx => h x (by simp [hx])); have hd := h d (by simp); rw [List.length_cons, Nat.pow_succ]; have e : valD B (d :: l) = d + B * valD B l := rfl; rw [e]; have h2 : B * (valD B l + 1) ≤ B * B ^ l.length := Nat.mul_le_mul_left B ih; rw [Nat.mul_add] at h2; rw [Nat.mul_comm (B ^ l.length)]; omega
theorem Zm2 {l : List Nat} (h : ∀ d ∈ l, d < B32) {n : Nat} (hn : n ≤ valD B32 l) : (magB n).length ≤ 4 * l.length := by
  refine Z3e ?_; rw [Z8k]; exact Nat.lt_of_le_of_lt hn (Z1x h)

theorem u66 (neg : Bool) (x : List Nat) (hx : ∀ d ∈ x, d < B32) (hl : x.length ≤ 1000000) : PFn Tryz.prog 139 [.bool neg, natV x] [intN neg (valD B32 x)] := by
  refine PFn.of_body hΓ Tryz.func139 (by kernel_rfl) rfl (AWp.seq (Wd [] ?_)); simp -implicitDefEqProofs only [Tryz.ntmps139, Tryz.results139, Nat.reduceAdd, Nat.reduceSub, go_sem]; refine AWp.seq (Wd [] ?_); simp -implicitDefEqProofs only [go_sem]; refine Z0 (u91 x (by omega)) (.pures rfl) ?_; simp -implicitDefEqProofs only [go_sem]; have hval := Z9e B32 x; have hcan := Z68 hx; have hXl : (Z7c x).length ≤ 1000000 := by
    have : ∀ k, (Z45 x k).length ≤ x.length := fun k => by
      induction k with
      | zero => simp [Z45]
      | succ k ih =>
        unfold Z45
        split
        · exact ih
        · simp; omega
    have := this x.length; unfold Z7c; omega
  rw [← hval]; generalize Z7c x = X at *; clear hval hx hl; by_cases hX0 : X = []
  · subst hX0
    refine Wd [] ?_; have hz : (([] : List PV).length : Int) = 0 := rfl; simp -implicitDefEqProofs only [natV, List.map_nil, hz, go_sem]; rw [show valD B32 [] = 0 from rfl, Za4]; exact ⟨fun _ => rfl, fun h => absurd rfl h⟩
  have hXp : 0 < X.length := List.length_pos_iff.2 hX0; have hXn : ¬ (X.length : Int) = 0 := by omega
  have hv0 : valD B32 X ≠ 0 := fun h => hX0 (Z3h (B := B32) (by decide) hcan h)
  have hres : intN neg (valD B32 X) = .agg [.bool neg, .str (magB (valD B32 X))] := by simp [intN, intV, hv0]
  rw [hres]; refine AWp.seq (Wd [] ?_); simp -implicitDefEqProofs only [natV, hXn, List.length_map, go_sem]; refine AWp.seq (Wd [] ?_); simp -implicitDefEqProofs only [natV, hXn, List.length_map, go_sem]; refine ⟨by simp only [InR]; omega, ⟨by omega, by omega, by omega⟩, ?_⟩; refine AWp.seq (Wd [] ?_); simp -implicitDefEqProofs only [natV, hXn, List.length_map, go_sem]; refine ⟨by simp only [InR]; omega, ?_⟩
  refine AWp.loopI (fun n : Nat => ⟨mkF 53 [(0, .p (.bool neg)), (1, .p (natV X)), (4, .ptr 0 0), (5, .own 1 (magB (valD B32 (X.drop n))).length), (6, .p (.int .i64 ((n : Int) - 1)))], [.box [.p (.bool false), .p (.str [])], .row 5 1 ((magB (valD B32 (X.drop n))).map u8V) .own]⟩)
    (fun n => n ≤ X.length) (fun n => n) X.length (by simp [go_sem, natV, magB_zero, valD]) (Nat.le_refl _) ?_
  intro n hn; refine Wd [] ?_
  cases n with
  | zero =>
    have h1 : ¬ (0 : Int) ≤ ((0 : Nat) : Int) - 1 := by omega
    simp -implicitDefEqProofs only [h1, go_sem]; refine Wd [] ?_; simp -implicitDefEqProofs only [go_sem]; exact ⟨⟨5, rfl, rfl⟩, magB (valD B32 X), rfl, by omega, rfl⟩
  | succ n =>
    have h1 : (0 : Int) ≤ ((n + 1 : Nat) : Int) - 1 := by omega
    have e1 : ((n + 1 : Nat) : Int) - 1 = n := by omega
    simp -implicitDefEqProofs only [h1, e1, go_sem]; have hnX : n < X.length := hn; have hgX : (X.map u32V).getD n default = .int .u32 ((X.getD n 0 : Nat) : Int) := by
      rw [Z5 _ _ _ _ hnX, List.getD_eq_getElem?_getD, List.getElem?_eq_getElem hnX]; rfl
    have hd : X.getD n 0 < B32 := by
      rw [List.getD_eq_getElem?_getD, List.getElem?_eq_getElem hnX, Option.getD_some]; exact hcan.1 _ (List.getElem_mem hnX)
    have hdrop : valD B32 (X.drop n) = X.getD n 0 + B32 * valD B32 (X.drop (n + 1)) := by
      rw [List.drop_eq_getElem_cons hnX, List.getD_eq_getElem?_getD, List.getElem?_eq_getElem hnX]; rfl
    have hdl : ∀ e ∈ X.drop n, e < B32 := fun e he => hcan.1 e (List.mem_of_mem_drop he)
    have hdle : (X.drop n).length ≤ 1000000 := by simp; omega
    generalize hV : valD B32 (X.drop (n + 1)) = V at *; generalize X.getD n 0 = d at *
    refine AWp.loopI (fun r : Nat => ⟨mkF 53 [(0, .p (.bool neg)), (1, .p (natV X)), (4, .ptr 0 0), (5, .own 1 (magB (V * 256 ^ (4 - r) + d / 256 ^ r)).length), (6, .p (.int .i64 n)), (7, .p (.int .i64 ((r : Int) - 1)))], [.box [.p (.bool false), .p (.str [])], .row 5 1 ((magB (V * 256 ^ (4 - r) + d / 256 ^ r)).map u8V) .own]⟩)
      (fun r => r ≤ 4) (fun r => r) 4 (by
        have : V * 256 ^ (4 - 4) + d / 256 ^ 4 = V := by unfold B32 at hd; simp; omega
        rw [this]; simp [go_sem]) (Nat.le_refl _) ?_
    intro r hr; refine Wd [] ?_
    cases r with
    | zero =>
      have h2 : ¬ (0 : Int) ≤ ((0 : Nat) : Int) - 1 := by omega
      have e2 : V * 256 ^ (4 - 0) + d / 256 ^ 0 = d + B32 * V := by unfold B32; simp; omega
      rw [e2, ← hdrop]; simp -implicitDefEqProofs only [h2, go_sem]; refine ⟨by simp only [InR]; omega, n, ⟨by simp, .inl rfl⟩, by omega, by omega⟩
    | succ r =>
      have h2 : (0 : Int) ≤ ((r + 1 : Nat) : Int) - 1 := by omega
      have e2 : ((r + 1 : Nat) : Int) - 1 = r := by omega
      have e3 := magS V d r (by omega); have e4 : (8 * (r : Int)).toNat = 8 * r := by omega
      have e5 : (d : Int) / 2 ^ (8 * r) = ((d / 256 ^ r : Nat) : Int) := by
        rw [show (256 : Nat) ^ r = 2 ^ (8 * r) by rw [Nat.pow_mul]]; simp
      obtain ⟨N, hN⟩ : ∃ N, N = V * 256 ^ (4 - (r + 1)) + d / 256 ^ (r + 1) := ⟨_, rfl⟩; obtain ⟨c, hc⟩ : ∃ c, c = d / 256 ^ r % 256 := ⟨_, rfl⟩; have hc2 : c < 256 := by rw [hc]; exact Nat.mod_lt _ (by omega)
      have hcw : IntKind.u8.wrap ((d / 256 ^ r : Nat) : Int) = (c : Int) := by rw [hc]; exact Zkl _
      have hst := Z1k (c := c) (n := N) hc2; rw [← hc, ← hN] at e3; rw [← e3] at hst; rw [← hN]; have hlN : (magB N).length ≤ 4000000 := by
        have := Zm2 hdl (n := N) (by
          rw [hdrop, hN]; unfold B32; rcases (by omega : r = 0 ∨ r = 1 ∨ r = 2 ∨ r = 3) with rfl | rfl | rfl | rfl <;> simp <;> omega)
        omega
      by_cases hc0 : c = 0
      · have hc0' : (c : Int) = 0 := by omega
        by_cases hN0 : (magB N) = []
        · rw [if_pos ⟨hc0, Zq hN0⟩] at hst
          have hl0 : ¬ (0 : Int) < (([] : List UInt8).length : Int) := by simp
          rw [hN0]; simp -implicitDefEqProofs only [natV, List.length_map, h2, e2, e4, e5, hgX, hcw, hc0', hl0, go_sem]; refine ⟨hnX, by simp only [InR]; omega, ⟨by omega, by omega⟩, fun h => absurd h (by omega), fun _ => ⟨by simp only [InR]; omega, r, ⟨⟨by rw [hst]; rfl, rfl⟩, .inl (by rw [hst]; rfl)⟩, by omega, by omega⟩⟩
        · rw [if_neg (fun h => hN0 (by rw [h.2]; rfl))] at hst
          have hl0 : (0 : Int) < ((magB N).length : Int) := by have := List.length_pos_iff.2 hN0; omega
          simp -implicitDefEqProofs only [natV, List.length_map, h2, e2, e4, e5, hgX, hcw, hc0', hl0, go_sem]; have hs1 : Zu [PV.int .u8 0] 1 := by simp [Zu, PV.cells]
          have ho1 : Z4z [PV.int .u8 0] := by simp [Z4z, PV.cells, PV.isAgg]
          have hu8 : [UInt8.ofNat c].map u8V = [PV.int .u8 0] := by rw [hc0]; rfl
          refine ⟨hnX, by simp only [InR]; omega, ⟨by omega, by omega⟩, ⟨hs1, by omega⟩, ⟨hs1, ho1⟩, ⟨.inl (by omega), by omega, by omega⟩, by simp only [InR]; omega, r, ⟨⟨by rw [hst]; simp, rfl⟩, .inl ⟨by rw [hst, List.map_append, hu8], rfl⟩⟩, by omega, by omega⟩
      · have hc0' : ¬ (c : Int) = 0 := by omega
        rw [if_neg (fun h => hc0 h.1)] at hst; simp -implicitDefEqProofs only [natV, List.length_map, h2, e2, e4, e5, hgX, hcw, hc0', go_sem]; have hs1 : Zu [PV.int .u8 (c : Int)] 1 := by simp [Zu, PV.cells]
        have ho1 : Z4z [PV.int .u8 (c : Int)] := by simp [Z4z, PV.cells, PV.isAgg]
        have hu8 : [UInt8.ofNat c].map u8V = [PV.int .u8 (c : Int)] := by rw [u8_of c hc2]; rfl
        refine ⟨hnX, by simp only [InR]; omega, ⟨by omega, by omega⟩, ⟨hs1, by omega⟩, ⟨hs1, ho1⟩, ⟨.inl (by omega), by omega, by omega⟩, by simp only [InR]; omega, r, ⟨⟨by rw [hst]; simp, rfl⟩, .inl ⟨by rw [hst, List.map_append, hu8], rfl⟩⟩, by omega, by omega⟩

def capN : Nat := 256 ^ (4 * 50)
theorem Z90 : capN = B32 ^ 50 := by unfold capN; rw [Z8k]
theorem Z0a : 0 < capN := Nat.pow_pos (by decide)
theorem Z1u {n k : Nat} (h : n < 256 ^ k) (hk : k ≤ 4 * 50) : n < capN := Nat.lt_of_lt_of_le h (Nat.pow_le_pow_right (by decide) hk)
theorem Z0y {n : Nat} (h : n < capN) : (magB n).length ≤ 200 := Z3e (k := 4 * 50) h
theorem Z0i {n : Nat} (h : n < capN) : (digD B32 n).length ≤ 50 := by
  rw [Z90] at h; exact Z2a (by decide) h
theorem Zmx {a b : Nat} (ha : a < capN) (hb : b < capN) : (digD B32 (a + b)).length ≤ 51 := by
  refine Z2a (by decide) ?_; rw [Nat.pow_succ, ← Z90]; unfold B32; omega
theorem Z02 (n : Nat) : ∀ d ∈ digD B32 n, d < B32 := (Zv (by decide) n).1

theorem u69n (neg : Bool) (n : Nat) (hn : n < capN) : PFn Tryz.prog 156 [intN neg n] [natV (digD B32 n)] := by
  have h := u69 (neg && decide (n ≠ 0)) (magB n) (by have := Z0y hn; omega)
  rwa [Z1j] at h

theorem Z4 (n : Nat) : intN false n = .agg [.bool false, .str (magB n)] := rfl

theorem u34 (n : Nat) (hn : n < 9223372036854775808) : PFn Tryz.prog 73 [.int .i64 n] [intN false n] := by
  have hd : ∀ d ∈ [n % B32, n / B32], d < B32 := fun d hd => by
    unfold B32 at *; simp at hd; rcases hd with rfl | rfl <;> omega
  have e := u66 false [n % B32, n / B32] hd (by simp); have hv : valD B32 [n % B32, n / B32] = n := by
    simp only [valD]; unfold B32; omega
  rw [hv] at e; have h1 : IntKind.u64.wrap (n : Int) = n := InR.wrap (k := .u64) (by simp only [InR]; omega); have h2 : ¬ (n : Int) < 0 := by omega
  have h3 : IntKind.u32.wrap (n : Int) = ((n % B32 : Nat) : Int) := Z1p n; have h4 : IntKind.u32.wrap ((n : Int) / 2 ^ Int.toNat 32) = ((n / B32 : Nat) : Int) := by
    have : (2 : Int) ^ Int.toNat 32 = ((B32 : Nat) : Int) := rfl; rw [this, ← Int.natCast_ediv]; exact InR.wrap (k := .u32) (by unfold B32; simp only [InR]; omega)
  refine PFn.of_body hΓ Tryz.func73 (by kernel_rfl) rfl (Wd [] ?_); simp +contextual -implicitDefEqProofs only [Tryz.ntmps73, Tryz.results73, Nat.reduceAdd, Nat.reduceSub, go_sem]; simp -implicitDefEqProofs only [h1, h2, h3, h4, go_sem]; have hs2 : Zu [PV.int .u32 ((n % B32 : Nat) : Int), PV.int .u32 ((n / B32 : Nat) : Int)] 1 := Z8f [n % B32, n / B32]; refine ⟨⟨by omega, by omega⟩, ⟨hs2, by omega⟩, ?_⟩; refine Z0 e (.pures rfl) ?_; simp -implicitDefEqProofs only [h1, h2, h3, h4, Z4, go_sem]

theorem u89 (a b : Nat) (ha : a < capN) (hb : b < capN) : PFn Tryz.prog 99 [intN false a, intN false b] [intN false (a + b)] := by
  have ea := u69n false a ha; have eb := u69n false b hb; have e1 := u105 (digD B32 a) (digD B32 b) (Z02 a) (Z02 b) (by have := Z0i ha; omega) (by have := Z0i hb; omega); rw [Z8 (by decide), Z8 (by decide)] at e1; have e2 := u66 false (digD B32 (a + b)) (Z02 _) (by have := Zmx ha hb; omega); rw [Z8 (by decide)] at e2; refine PFn.of_body hΓ Tryz.func99 (by kernel_rfl) rfl (Wd [(1, 6), (3, 6), (5, 6), (6, 6)] ?_); simp +contextual -implicitDefEqProofs only [Z4, Tryz.ntmps99, Tryz.results99, Nat.reduceAdd, Nat.reduceSub, go_sem]; refine Z1 ea (.still rfl) ?_; simp -implicitDefEqProofs only [go_sem]; refine Z1 eb (.still rfl) ?_; simp -implicitDefEqProofs only [beq_self_eq_true, go_sem]; refine Z1 e1 (.pures rfl) ?_; simp -implicitDefEqProofs only [go_sem]; refine Z1 e2 (.pures rfl) ?_; simp -implicitDefEqProofs only [Z4, go_sem]
end Go.Proofs.YtpljmccnfmkmfaaGreat
end

