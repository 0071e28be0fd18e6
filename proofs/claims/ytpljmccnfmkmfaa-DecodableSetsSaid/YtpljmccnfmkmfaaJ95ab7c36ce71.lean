/-
  Texts of this claim, joined.
-/
import Derived.Test.YtpljmccnfmkmfaaJad41afcb2056
import Derived.Test.YtpljmccnfmkmfaaProg
import Derived.KernelRfl
import Derived.Test.YtpljmccnfmkmfaaJff830da085a8

set_option linter.unusedSimpArgs false
set_option maxRecDepth 1000000
section
namespace Go.Proofs.Ytpljmccnfmkmfaa
open Go Go.AM

def Γ : Gam := fun t => match t with
  | 1 => some ⟨.other, 1, 8, some (.cell), false, false⟩
  | 2 => some ⟨.int .i64, 1, 8, some (.p (.int .i64 0)), false, false⟩
  | 3 => some ⟨.int .i64, 1, 8, some (.p (.int .i64 0)), false, false⟩
  | 4 => some ⟨.bool, 1, 1, some (.p (.bool false)), false, false⟩
  | 5 => some ⟨.int .u8, 1, 1, some (.p (.int .u8 0)), false, false⟩
  | 6 => some ⟨.int .u8, 1, 1, some (.p (.int .u8 0)), false, false⟩
  | 7 => some ⟨.struct [(0, 2), (1, 3), (2, 4), (3, 6)], 4, 24, some (.agg [.p (.int .i64 0), .p (.int .i64 0), .p (.bool false), .p (.int .u8 0)]), true, false⟩
  | 8 => some ⟨.struct [(0, 2), (1, 3), (2, 4), (3, 6)], 4, 24, some (.agg [.p (.int .i64 0), .p (.int .i64 0), .p (.bool false), .p (.int .u8 0)]), true, false⟩
  | 9 => some ⟨.str, 1, 16, some (.p (.str [])), false, false⟩
  | 10 => some ⟨.str, 1, 16, some (.p (.str [])), false, false⟩
  | 11 => some ⟨.str, 1, 16, some (.p (.str [])), false, false⟩
  | 12 => some ⟨.int .u64, 1, 8, some (.p (.int .u64 0)), false, false⟩
  | 13 => some ⟨.struct [(0, 9), (1, 12)], 2, 24, some (.agg [.p (.str []), .p (.int .u64 0)]), true, false⟩
  | 14 => some ⟨.struct [(0, 9), (1, 12)], 2, 24, some (.agg [.p (.str []), .p (.int .u64 0)]), true, false⟩
  | 15 => some ⟨.other, 1, 8, some (.cell), false, false⟩
  | 16 => some ⟨.other, 1, 8, some (.cell), false, false⟩
  | 17 => some ⟨.other, 1, 8, some (.cell), false, false⟩
  | 18 => some ⟨.struct [(0, 17)], 1, 8, some (.agg [.cell]), true, false⟩
  | 19 => some ⟨.struct [(0, 17)], 1, 8, some (.agg [.cell]), true, false⟩
  | 21 => some ⟨.int .i32, 1, 4, some (.p (.int .i32 0)), false, false⟩
  | 22 => some ⟨.slice 9, 1, 24, some (.full []), false, false⟩
  | 23 => some ⟨.struct [(0, 3), (1, 22)], 2, 32, some (.agg [.p (.int .i64 0), .full []]), true, false⟩
  | 24 => some ⟨.struct [(0, 3), (1, 22)], 2, 32, some (.agg [.p (.int .i64 0), .full []]), true, false⟩
  | 25 => some ⟨.other, 1, 8, some (.cell), false, false⟩
  | 26 => some ⟨.other, 1, 8, some (.cell), false, false⟩
  | 27 => some ⟨.int .i64, 1, 8, some (.p (.int .i64 0)), false, false⟩
  | 29 => some ⟨.other, 1, 8, some (.cell), false, false⟩
  | 32 => some ⟨.slice 3, 1, 24, some (.full []), false, false⟩
  | 33 => some ⟨.struct [(0, 9), (1, 32), (2, 32)], 3, 64, some (.agg [.p (.str []), .full [], .full []]), true, false⟩
  | 34 => some ⟨.struct [(0, 9), (1, 32), (2, 32)], 3, 64, some (.agg [.p (.str []), .full [], .full []]), true, false⟩
  | 36 => some ⟨.other, 1, 8, some (.cell), false, false⟩
  | 39 => some ⟨.other, 1, 8, some (.cell), false, false⟩
  | 40 => some ⟨.other, 1, 8, some (.cell), false, false⟩
  | 41 => some ⟨.other, 1, 8, some (.cell), false, false⟩
  | 42 => some ⟨.other, 1, 8, some (.cell), false, false⟩
  | 43 => some ⟨.other, 1, 8, some (.cell), false, false⟩
  | 45 => some ⟨.other, 1, 8, some (.cell), false, false⟩
  | 46 => some ⟨.other, 1, 8, some (.cell), false, false⟩
  | 48 => some ⟨.other, 1, 8, some (.cell), false, false⟩
  | 50 => some ⟨.other, 1, 8, some (.cell), false, false⟩
  | 52 => some ⟨.other, 1, 8, some (.cell), false, false⟩
  | 53 => some ⟨.other, 1, 8, some (.cell), false, false⟩
  | 54 => some ⟨.other, 1, 8, some (.cell), false, false⟩
  | 56 => some ⟨.slice 4, 1, 24, some (.full []), false, false⟩
  | 57 => some ⟨.other, 1, 8, some (.cell), false, false⟩
  | 58 => some ⟨.slice 32, 1, 24, some (.full []), false, false⟩
  | 59 => some ⟨.other, 1, 8, some (.cell), false, false⟩
  | 60 => some ⟨.other, 1, 8, some (.cell), false, false⟩
  | 62 => some ⟨.map 9 4, 1, 8, some (.cell), false, false⟩
  | 63 => some ⟨.other, 1, 8, some (.cell), false, false⟩
  | 64 => some ⟨.other, 1, 8, some (.cell), false, false⟩
  | 65 => some ⟨.other, 1, 8, some (.cell), false, false⟩
  | 66 => some ⟨.other, 1, 8, some (.cell), false, false⟩
  | 67 => some ⟨.other, 1, 8, some (.cell), false, false⟩
  | 68 => some ⟨.other, 1, 8, some (.cell), false, false⟩
  | 69 => some ⟨.other, 1, 8, some (.cell), false, false⟩
  | 70 => some ⟨.other, 1, 8, some (.cell), false, false⟩
  | 77 => some ⟨.other, 1, 8, some (.cell), false, false⟩
  | 78 => some ⟨.other, 1, 8, some (.cell), false, false⟩
  | 80 => some ⟨.other, 1, 8, some (.cell), false, false⟩
  | 81 => some ⟨.other, 1, 8, some (.cell), false, false⟩
  | 82 => some ⟨.other, 1, 8, some (.cell), false, false⟩
  | 83 => some ⟨.map 9 9, 1, 8, some (.cell), false, false⟩
  | 84 => some ⟨.other, 1, 8, some (.cell), false, false⟩
  | 85 => some ⟨.other, 1, 8, some (.cell), false, false⟩
  | 87 => some ⟨.other, 1, 8, some (.cell), false, false⟩
  | 88 => some ⟨.other, 1, 8, some (.cell), false, false⟩
  | 89 => some ⟨.other, 1, 8, some (.cell), false, false⟩
  | 90 => some ⟨.other, 1, 8, some (.cell), false, false⟩
  | 91 => some ⟨.other, 1, 8, some (.cell), false, false⟩
  | 92 => some ⟨.other, 1, 8, some (.cell), false, false⟩
  | 98 => some ⟨.int .u64, 1, 8, some (.p (.int .u64 0)), false, false⟩
  | 99 => some ⟨.other, 1, 8, some (.cell), false, false⟩
  | 100 => some ⟨.other, 1, 8, some (.cell), false, false⟩
  | 103 => some ⟨.other, 1, 8, some (.cell), false, false⟩
  | 104 => some ⟨.other, 1, 8, some (.cell), false, false⟩
  | 105 => some ⟨.int .i64, 1, 8, some (.p (.int .i64 0)), false, false⟩
  | 113 => some ⟨.int .u32, 1, 4, some (.p (.int .u32 0)), false, false⟩
  | 114 => some ⟨.other, 1, 8, some (.cell), false, false⟩
  | 115 => some ⟨.int .u64, 1, 8, some (.p (.int .u64 0)), false, false⟩
  | 116 => some ⟨.int .u64, 1, 8, some (.p (.int .u64 0)), false, false⟩
  | 119 => some ⟨.other, 1, 8, some (.cell), false, false⟩
  | 120 => some ⟨.other, 1, 8, some (.cell), false, false⟩
  | 122 => some ⟨.other, 1, 8, some (.cell), false, false⟩
  | 126 => some ⟨.struct [(0, 17), (1, 17), (2, 17), (3, 9)], 4, 40, some (.agg [.cell, .cell, .cell, .p (.str [])]), true, false⟩
  | 129 => some ⟨.struct [(0, 127)], 0, 0, some (.agg []), true, false⟩
  | _ => none

theorem g3 : Γ 3 = some ⟨.int .i64, 1, 8, some (.p (.int .i64 0)), false, false⟩ := rfl
theorem g4 : Γ 4 = some ⟨.bool, 1, 1, some (.p (.bool false)), false, false⟩ := rfl
theorem g9 : Γ 9 = some ⟨.str, 1, 16, some (.p (.str [])), false, false⟩ := rfl
theorem g22 : Γ 22 = some ⟨.slice 9, 1, 24, some (.full []), false, false⟩ := rfl
theorem g24 : Γ 24 = some ⟨.struct [(0, 3), (1, 22)], 2, 32, some (.agg [.p (.int .i64 0), .full []]), true, false⟩ := rfl
theorem g32 : Γ 32 = some ⟨.slice 3, 1, 24, some (.full []), false, false⟩ := rfl
theorem g34 : Γ 34 = some ⟨.struct [(0, 9), (1, 32), (2, 32)], 3, 64, some (.agg [.p (.str []), .full [], .full []]), true, false⟩ := rfl
theorem g56 : Γ 56 = some ⟨.slice 4, 1, 24, some (.full []), false, false⟩ := rfl
theorem g58 : Γ 58 = some ⟨.slice 32, 1, 24, some (.full []), false, false⟩ := rfl
theorem g62 : Γ 62 = some ⟨.map 9 4, 1, 8, some (.cell), false, false⟩ := rfl
theorem g81 : Γ 81 = some ⟨.other, 1, 8, some (.cell), false, false⟩ := rfl
theorem g83 : Γ 83 = some ⟨.map 9 9, 1, 8, some (.cell), false, false⟩ := rfl
theorem g84 : Γ 84 = some ⟨.other, 1, 8, some (.cell), false, false⟩ := rfl
theorem g85 : Γ 85 = some ⟨.other, 1, 8, some (.cell), false, false⟩ := rfl
theorem g88 : Γ 88 = some ⟨.other, 1, 8, some (.cell), false, false⟩ := rfl

theorem hΓ : Zs Try.prog Γ := by
  intro t te h; unfold Γ at h
  split at h
  · injection h with h; subst h; exact Z5 (zv := .nilFunc) (by kernel_rfl) (by kernel_rfl) rfl
  · injection h with h; subst h; exact Z5 (zv := .int .i64 0) (by kernel_rfl) (by kernel_rfl) rfl
  · injection h with h; subst h; exact Z5 (zv := .int .i64 0) (by kernel_rfl) (by kernel_rfl) rfl
  · injection h with h; subst h; exact Z5 (zv := .bool false) (by kernel_rfl) (by kernel_rfl) rfl
  · injection h with h; subst h; exact Z5 (zv := .int .u8 0) (by kernel_rfl) (by kernel_rfl) rfl
  · injection h with h; subst h; exact Z5 (zv := .int .u8 0) (by kernel_rfl) (by kernel_rfl) rfl
  · injection h with h; subst h; exact Z5 (zv := .agg #[.int .i64 0, .int .i64 0, .bool false, .int .u8 0]) (by kernel_rfl) (by kernel_rfl) rfl
  · injection h with h; subst h; exact Z5 (zv := .agg #[.int .i64 0, .int .i64 0, .bool false, .int .u8 0]) (by kernel_rfl) (by kernel_rfl) rfl
  · injection h with h; subst h; exact Z5 (zv := .string ⟨#[]⟩) (by kernel_rfl) (by kernel_rfl) rfl
  · injection h with h; subst h; exact Z5 (zv := .string ⟨#[]⟩) (by kernel_rfl) (by kernel_rfl) rfl
  · injection h with h; subst h; exact Z5 (zv := .string ⟨#[]⟩) (by kernel_rfl) (by kernel_rfl) rfl
  · injection h with h; subst h; exact Z5 (zv := .int .u64 0) (by kernel_rfl) (by kernel_rfl) rfl
  · injection h with h; subst h; exact Z5 (zv := .agg #[.string ⟨#[]⟩, .int .u64 0]) (by kernel_rfl) (by kernel_rfl) rfl
  · injection h with h; subst h; exact Z5 (zv := .agg #[.string ⟨#[]⟩, .int .u64 0]) (by kernel_rfl) (by kernel_rfl) rfl
  · injection h with h; subst h; exact Z5 (zv := .pointer none) (by kernel_rfl) (by kernel_rfl) rfl
  · injection h with h; subst h; exact Z5 (zv := .pointer none) (by kernel_rfl) (by kernel_rfl) rfl
  · injection h with h; subst h; exact Z5 (zv := .pointer none) (by kernel_rfl) (by kernel_rfl) rfl
  · injection h with h; subst h; exact Z5 (zv := .agg #[.pointer none]) (by kernel_rfl) (by kernel_rfl) rfl
  · injection h with h; subst h; exact Z5 (zv := .agg #[.pointer none]) (by kernel_rfl) (by kernel_rfl) rfl
  · injection h with h; subst h; exact Z5 (zv := .int .i32 0) (by kernel_rfl) (by kernel_rfl) rfl
  · injection h with h; subst h; exact Z5 (zv := .slice none 0 0) (by kernel_rfl) (by kernel_rfl) rfl
  · injection h with h; subst h; exact Z5 (zv := .agg #[.int .i64 0, .slice none 0 0]) (by kernel_rfl) (by kernel_rfl) rfl
  · injection h with h; subst h; exact Z5 (zv := .agg #[.int .i64 0, .slice none 0 0]) (by kernel_rfl) (by kernel_rfl) rfl
  · injection h with h; subst h; exact Z5 (zv := .nilFunc) (by kernel_rfl) (by kernel_rfl) rfl
  · injection h with h; subst h; exact Z5 (zv := .nilFunc) (by kernel_rfl) (by kernel_rfl) rfl
  · injection h with h; subst h; exact Z5 (zv := .int .i64 0) (by kernel_rfl) (by kernel_rfl) rfl
  · injection h with h; subst h; exact Z5 (zv := .nilFunc) (by kernel_rfl) (by kernel_rfl) rfl
  · injection h with h; subst h; exact Z5 (zv := .slice none 0 0) (by kernel_rfl) (by kernel_rfl) rfl
  · injection h with h; subst h; exact Z5 (zv := .agg #[.string ⟨#[]⟩, .slice none 0 0, .slice none 0 0]) (by kernel_rfl) (by kernel_rfl) rfl
  · injection h with h; subst h; exact Z5 (zv := .agg #[.string ⟨#[]⟩, .slice none 0 0, .slice none 0 0]) (by kernel_rfl) (by kernel_rfl) rfl
  · injection h with h; subst h; exact Z5 (zv := .nilFunc) (by kernel_rfl) (by kernel_rfl) rfl
  · injection h with h; subst h; exact Z5 (zv := .nilFunc) (by kernel_rfl) (by kernel_rfl) rfl
  · injection h with h; subst h; exact Z5 (zv := .nilFunc) (by kernel_rfl) (by kernel_rfl) rfl
  · injection h with h; subst h; exact Z5 (zv := .nilFunc) (by kernel_rfl) (by kernel_rfl) rfl
  · injection h with h; subst h; exact Z5 (zv := .nilFunc) (by kernel_rfl) (by kernel_rfl) rfl
  · injection h with h; subst h; exact Z5 (zv := .nilFunc) (by kernel_rfl) (by kernel_rfl) rfl
  · injection h with h; subst h; exact Z5 (zv := .nilFunc) (by kernel_rfl) (by kernel_rfl) rfl
  · injection h with h; subst h; exact Z5 (zv := .nilFunc) (by kernel_rfl) (by kernel_rfl) rfl
  · injection h with h; subst h; exact Z5 (zv := .nilFunc) (by kernel_rfl) (by kernel_rfl) rfl
  · injection h with h; subst h; exact Z5 (zv := .nilFunc) (by kernel_rfl) (by kernel_rfl) rfl
  · injection h with h; subst h; exact Z5 (zv := .nilFunc) (by kernel_rfl) (by kernel_rfl) rfl
  · injection h with h; subst h; exact Z5 (zv := .nilFunc) (by kernel_rfl) (by kernel_rfl) rfl
  · injection h with h; subst h; exact Z5 (zv := .nilFunc) (by kernel_rfl) (by kernel_rfl) rfl
  · injection h with h; subst h; exact Z5 (zv := .slice none 0 0) (by kernel_rfl) (by kernel_rfl) rfl
  · injection h with h; subst h; exact Z5 (zv := .nilFunc) (by kernel_rfl) (by kernel_rfl) rfl
  · injection h with h; subst h; exact Z5 (zv := .slice none 0 0) (by kernel_rfl) (by kernel_rfl) rfl
  · injection h with h; subst h; exact Z5 (zv := .nilFunc) (by kernel_rfl) (by kernel_rfl) rfl
  · injection h with h; subst h; exact Z5 (zv := .nilFunc) (by kernel_rfl) (by kernel_rfl) rfl
  · injection h with h; subst h; exact Z5 (zv := .map none) (by kernel_rfl) (by kernel_rfl) rfl
  · injection h with h; subst h; exact Z5 (zv := .nilFunc) (by kernel_rfl) (by kernel_rfl) rfl
  · injection h with h; subst h; exact Z5 (zv := .nilFunc) (by kernel_rfl) (by kernel_rfl) rfl
  · injection h with h; subst h; exact Z5 (zv := .nilFunc) (by kernel_rfl) (by kernel_rfl) rfl
  · injection h with h; subst h; exact Z5 (zv := .nilFunc) (by kernel_rfl) (by kernel_rfl) rfl
  · injection h with h; subst h; exact Z5 (zv := .nilFunc) (by kernel_rfl) (by kernel_rfl) rfl
  · injection h with h; subst h; exact Z5 (zv := .nilFunc) (by kernel_rfl) (by kernel_rfl) rfl
  · injection h with h; subst h; exact Z5 (zv := .nilFunc) (by kernel_rfl) (by kernel_rfl) rfl
  · injection h with h; subst h; exact Z5 (zv := .pointer none) (by kernel_rfl) (by kernel_rfl) rfl
  · injection h with h; subst h; exact Z5 (zv := .nilFunc) (by kernel_rfl) (by kernel_rfl) rfl
  · injection h with h; subst h; exact Z5 (zv := .nilFunc) (by kernel_rfl) (by kernel_rfl) rfl
  · injection h with h; subst h; exact Z5 (zv := .nilFunc) (by kernel_rfl) (by kernel_rfl) rfl
  · injection h with h; subst h; exact Z5 (zv := .nilFunc) (by kernel_rfl) (by kernel_rfl) rfl
  · injection h with h; subst h; exact Z5 (zv := .nilFunc) (by kernel_rfl) (by kernel_rfl) rfl
  · injection h with h; subst h; exact Z5 (zv := .map none) (by kernel_rfl) (by kernel_rfl) rfl
  · injection h with h; subst h; exact Z5 (zv := .nilFunc) (by kernel_rfl) (by kernel_rfl) rfl
  · injection h with h; subst h; exact Z5 (zv := .nilFunc) (by kernel_rfl) (by kernel_rfl) rfl
  · injection h with h; subst h; exact Z5 (zv := .nilFunc) (by kernel_rfl) (by kernel_rfl) rfl
  · injection h with h; subst h; exact Z5 (zv := .nilFunc) (by kernel_rfl) (by kernel_rfl) rfl
  · injection h with h; subst h; exact Z5 (zv := .nilFunc) (by kernel_rfl) (by kernel_rfl) rfl
  · injection h with h; subst h; exact Z5 (zv := .nilFunc) (by kernel_rfl) (by kernel_rfl) rfl
  · injection h with h; subst h; exact Z5 (zv := .nilFunc) (by kernel_rfl) (by kernel_rfl) rfl
  · injection h with h; subst h; exact Z5 (zv := .pointer none) (by kernel_rfl) (by kernel_rfl) rfl
  · injection h with h; subst h; exact Z5 (zv := .int .u64 0) (by kernel_rfl) (by kernel_rfl) rfl
  · injection h with h; subst h; exact Z5 (zv := .nilFunc) (by kernel_rfl) (by kernel_rfl) rfl
  · injection h with h; subst h; exact Z5 (zv := .nilFunc) (by kernel_rfl) (by kernel_rfl) rfl
  · injection h with h; subst h; exact Z5 (zv := .nilFunc) (by kernel_rfl) (by kernel_rfl) rfl
  · injection h with h; subst h; exact Z5 (zv := .nilFunc) (by kernel_rfl) (by kernel_rfl) rfl
  · injection h with h; subst h; exact Z5 (zv := .int .i64 0) (by kernel_rfl) (by kernel_rfl) rfl
  · injection h with h; subst h; exact Z5 (zv := .int .u32 0) (by kernel_rfl) (by kernel_rfl) rfl
  · injection h with h; subst h; exact Z5 (zv := .nilFunc) (by kernel_rfl) (by kernel_rfl) rfl
  · injection h with h; subst h; exact Z5 (zv := .int .u64 0) (by kernel_rfl) (by kernel_rfl) rfl
  · injection h with h; subst h; exact Z5 (zv := .int .u64 0) (by kernel_rfl) (by kernel_rfl) rfl
  · injection h with h; subst h; exact Z5 (zv := .nilFunc) (by kernel_rfl) (by kernel_rfl) rfl
  · injection h with h; subst h; exact Z5 (zv := .pointer none) (by kernel_rfl) (by kernel_rfl) rfl
  · injection h with h; subst h; exact Z5 (zv := .pointer none) (by kernel_rfl) (by kernel_rfl) rfl
  · injection h with h; subst h; exact Z5 (zv := .agg #[.pointer none, .pointer none, .pointer none, .string ⟨#[]⟩]) (by kernel_rfl) (by kernel_rfl) rfl
  · injection h with h; subst h; exact Z5 (zv := .agg #[]) (by kernel_rfl) (by kernel_rfl) rfl
  · cases h
theorem y3 (f : TE → Prop) : tyAt Γ 3 f = f ⟨.int .i64, 1, 8, some (.p (.int .i64 0)), false, false⟩ := Zz g3 f
theorem y4 (f : TE → Prop) : tyAt Γ 4 f = f ⟨.bool, 1, 1, some (.p (.bool false)), false, false⟩ := Zz g4 f
theorem y9 (f : TE → Prop) : tyAt Γ 9 f = f ⟨.str, 1, 16, some (.p (.str [])), false, false⟩ := Zz g9 f
theorem y22 (f : TE → Prop) : tyAt Γ 22 f = f ⟨.slice 9, 1, 24, some (.full []), false, false⟩ := Zz g22 f
theorem y24 (f : TE → Prop) : tyAt Γ 24 f = f ⟨.struct [(0, 3), (1, 22)], 2, 32, some (.agg [.p (.int .i64 0), .full []]), true, false⟩ := Zz g24 f
theorem y32 (f : TE → Prop) : tyAt Γ 32 f = f ⟨.slice 3, 1, 24, some (.full []), false, false⟩ := Zz g32 f
theorem y34 (f : TE → Prop) : tyAt Γ 34 f = f ⟨.struct [(0, 9), (1, 32), (2, 32)], 3, 64, some (.agg [.p (.str []), .full [], .full []]), true, false⟩ := Zz g34 f
theorem y56 (f : TE → Prop) : tyAt Γ 56 f = f ⟨.slice 4, 1, 24, some (.full []), false, false⟩ := Zz g56 f
theorem y58 (f : TE → Prop) : tyAt Γ 58 f = f ⟨.slice 32, 1, 24, some (.full []), false, false⟩ := Zz g58 f
theorem y62 (f : TE → Prop) : tyAt Γ 62 f = f ⟨.map 9 4, 1, 8, some (.cell), false, false⟩ := Zz g62 f
theorem y81 (f : TE → Prop) : tyAt Γ 81 f = f ⟨.other, 1, 8, some (.cell), false, false⟩ := Zz g81 f
theorem y83 (f : TE → Prop) : tyAt Γ 83 f = f ⟨.map 9 9, 1, 8, some (.cell), false, false⟩ := Zz g83 f
theorem y84 (f : TE → Prop) : tyAt Γ 84 f = f ⟨.other, 1, 8, some (.cell), false, false⟩ := Zz g84 f
theorem y85 (f : TE → Prop) : tyAt Γ 85 f = f ⟨.other, 1, 8, some (.cell), false, false⟩ := Zz g85 f
theorem y88 (f : TE → Prop) : tyAt Γ 88 f = f ⟨.other, 1, 8, some (.cell), false, false⟩ := Zz g88 f
attribute [go_sem] g3 y3 g4 y4 g9 y9 g22 y22 g24 y24 g32 y32 g34 y34 g56 y56 g58 y58 g62 y62 g81 y81 g83 y83 g84 y84 g85 y85 g88 y88
theorem hmix : Try.prog.follows .mixedOrders = true := by kernel_rfl
theorem Wd {n0 : Nat} {ks : List Nat} {r : Option Nat} {c : Code} {Q : Exit → St → Prop} {st : St} (l : List (Nat × Nat)) (h : awpD ⟨Try.prog, Γ, n0, ks⟩ r l c Q st) (hd : Z23 l c = true := by kernel_rfl) : AWp ⟨Try.prog, Γ, n0, ks⟩ r c Q st := AWp.of_awpD l hΓ hmix hd h

theorem t60 (w x : List UInt8) : PFn Try.prog 32 [.str w, .str x] [.bool (x.isPrefixOf w)] := by
  refine PFn.of_body hΓ Try.func32 (by kernel_rfl) rfl (Wd [] ?_); simp +contextual -implicitDefEqProofs only [Try.ntmps32, Try.results32, Nat.reduceAdd, Nat.reduceSub, go_sem]; refine ⟨fun h => ?_, fun h => ?_⟩
  · rw [Bool.eq_iff_iff, List.isPrefixOf_iff_prefix, List.prefix_iff_eq_take, decide_eq_true_eq]; exact eq_comm
  · rw [Bool.eq_iff_iff, List.isPrefixOf_iff_prefix]
    exact ⟨fun h => by simp at h, fun h' => absurd h'.length_le h⟩

theorem t55 (ws : List (List UInt8)) (x : List UInt8) (hl : ws.length ≤ 9223372036854775807) : PFn Try.prog 26 [.sl (ws.map .str), .str x] [.bool (decide (x ∈ ws))] := by
  refine PFn.of_body hΓ Try.func26 (by kernel_rfl) rfl (Wd [] ?_); simp +contextual -implicitDefEqProofs only [Try.ntmps26, Try.results26, Nat.reduceAdd, Nat.reduceSub, go_sem]
  refine AWp.loopI (fun k : Nat => ⟨mkF 18 [(0, .p (.sl (ws.map .str))), (1, .p (.str x)), (4, .p (.bool false)), (5, .p (.int .i64 k))], []⟩)
    (fun k => k ≤ ws.length ∧ x ∉ ws.take k) (fun k => ws.length - k) 0 (by simp [go_sem]) (by simp) ?_
  rintro k ⟨hk, hnot⟩; refine Wd [] ?_; simp +contextual -implicitDefEqProofs only [go_sem, Z2, ↓reduceIte]; refine ⟨fun hlt => ⟨fun he => ?_, fun hne => ⟨by simp only [InR]; omega, k + 1, by simp, ⟨hlt, ?_⟩, by omega⟩⟩, fun hge => ?_⟩
  · simp [← he]
  · rw [List.take_succ_eq_append_getElem hlt]
    simp only [List.mem_append, List.mem_singleton, hnot, false_or]; exact fun h => hne h.symm
  · rw [List.take_of_length_le (by omega)] at hnot; simp [hnot]

theorem t57 (a b : List UInt8) : PFn Try.prog 28 [.str a, .str b] [.bool (decide (a.length < b.length) || (decide (a.length = b.length) && Op.bytesLess a b))] := by
  refine PFn.of_body hΓ Try.func28 (by kernel_rfl) rfl (Wd [] ?_); simp +contextual -implicitDefEqProofs only [Try.ntmps28, Try.results28, Nat.reduceAdd, Nat.reduceSub, go_sem, Bool.false_or, Bool.true_or, Bool.true_and, Bool.false_and]; intro h1 h2; simp

theorem t64 (a b : List Int) (hl : a.length ≤ 9223372036854775807) : PFn Try.prog 36 [.sl (a.map (.int .i64)), .sl (b.map (.int .i64))] [.bool (decide (a = b))] := by
  refine PFn.of_body hΓ Try.func36 (by kernel_rfl) rfl (Wd [] ?_); simp +contextual -implicitDefEqProofs only [Try.ntmps36, Try.results36, Nat.reduceAdd, Nat.reduceSub, go_sem]; refine ⟨fun he => ?_, fun hne => ?_⟩
  · refine AWp.loopI (fun k : Nat => ⟨mkF 26 [(0, .p (.sl (a.map (.int .i64)))), (1, .p (.sl (b.map (.int .i64)))), (4, .p (.bool false)), (5, .p (.int .i64 k))], []⟩)
      (fun k => k ≤ a.length ∧ a.take k = b.take k) (fun k => a.length - k) 0 (by simp [go_sem]) (by simp) ?_
    rintro k ⟨hk, heq⟩; refine Wd [(6, 9)] ?_; simp +contextual -implicitDefEqProofs only [go_sem, Z2, ↓reduceIte, ← he]; refine ⟨fun hlt => ⟨fun hk' => ⟨by simp only [InR]; omega, k + 1, by simp, ⟨hlt, ?_⟩, by omega⟩, fun hk' => ?_⟩, fun hge => ?_⟩
    · rw [List.take_succ_eq_append_getElem hlt, List.take_succ_eq_append_getElem (by omega), heq, hk']
    · exact (decide_eq_false fun e => hk' (by subst e; rfl)).symm
    · rw [List.take_of_length_le (by omega), List.take_of_length_le (by omega)] at heq
      exact (decide_eq_true heq).symm
  · exact (decide_eq_false fun e => hne (by rw [e])).symm

def Z9 (q : Int) (ws : List (List UInt8)) : PV := .agg [.int .i64 q, .sl (ws.map .str)]
def Z0 (q : Int) (ws : List (List UInt8)) : AObj := .box [.p (.int .i64 q), .p (.sl (ws.map .str))]
def Z1h (w : List UInt8) : Bool := (decide (6 < w.length) && decide (w.length ≤ 32)) || decide (35 < w.length)

theorem t24 (q : Int) (ws : List (List UInt8)) (hl : ws.length ≤ 9223372036854775807) : PFn Try.prog 6 [Z9 q ws] [.bool (ws.any Z1h || ((decide (6 < ws.length) && decide (ws.length ≤ 64)) || decide (67 < ws.length)))] := by
  refine PFn.of_body hΓ Try.func6 (by kernel_rfl) rfl (Wd [] ?_); simp +contextual -implicitDefEqProofs only [Try.ntmps6, Try.results6, Nat.reduceSub, go_sem, Z9]
  refine AWp.loopI (fun k : Nat => ⟨mkF 44 [(1, .ptr 0 0), (2, .p (.bool false)), (3, .p (.int .i64 k))], [Z0 q ws]⟩)
    (fun k => k ≤ ws.length ∧ (ws.take k).any Z1h = false) (fun k => ws.length - k) 0 (by simp [go_sem, Z0]) (by simp) ?_
  rintro k ⟨hk, hno⟩; refine Wd [] ?_; simp +contextual -implicitDefEqProofs only [go_sem, Z2, ↓reduceIte, Z0]; have key : ∀ h : k < ws.length, Z1h ws[k] = true → ws.any Z1h = true := fun h h' => List.any_eq_true.2 ⟨_, List.getElem_mem h, h'⟩
  have step : ∀ h : k < ws.length, Z1h ws[k] = false → InR IntKind.i64 (↑k + 1) ∧ ∃ y : Nat, (↑y : Int) = ↑k + 1 ∧ (y ≤ ws.length ∧ (List.take y ws).any Z1h = false) ∧ ws.length - y < ws.length - k := fun h h' =>
    ⟨by simp only [InR]; omega, k + 1, by simp, ⟨h, by rw [List.take_succ_eq_append_getElem h, List.any_append, hno]; simp [h']⟩, by omega⟩
  have yes : ∀ (h : k < ws.length) {b : Bool}, Z1h ws[k] = true → true = (ws.any Z1h || b) := fun h b h' => by rw [key h h']; rfl
  have fin : ¬ k < ws.length → ws.any Z1h = false := fun h => by rw [List.take_of_length_le (by omega)] at hno; exact hno
  refine ⟨fun h => ⟨fun h1 => ⟨fun h2 => yes h ?_, fun h2 => ⟨fun h3 => yes h ?_, fun h3 => step h ?_⟩⟩, fun h1 => ⟨fun h3 => yes h ?_, fun h3 => step h ?_⟩⟩, fun h => ?_⟩
  · simp only [Z1h, Bool.or_eq_true, Bool.and_eq_true, decide_eq_true_eq]; omega
  · simp only [Z1h, Bool.or_eq_true, Bool.and_eq_true, decide_eq_true_eq]; omega
  · simp only [Z1h, Bool.or_eq_false_iff, Bool.and_eq_false_iff, decide_eq_false_iff_not]; omega
  · simp only [Z1h, Bool.or_eq_true, Bool.and_eq_true, decide_eq_true_eq]; omega
  · simp only [Z1h, Bool.or_eq_false_iff, Bool.and_eq_false_iff, decide_eq_false_iff_not]; omega
  · rw [fin h, Bool.false_or]
    refine ⟨fun h1 => ⟨fun h2 => ?_, fun h2 => ?_⟩, fun h1 => ?_⟩
    · rw [decide_eq_true (show 6 < ws.length by omega), decide_eq_true (show ws.length ≤ 64 by omega)]; rfl
    · rw [decide_eq_false (show ¬ ws.length ≤ 64 by omega), Bool.and_false, Bool.false_or]
      exact Bool.eq_iff_iff.2 (by simp only [decide_eq_true_eq]; omega)
    · rw [decide_eq_false (show ¬ 6 < ws.length by omega), Bool.false_and, Bool.false_or]
      exact Bool.eq_iff_iff.2 (by simp only [decide_eq_true_eq]; omega)

def axT : FuncId → List AV → Option AV := fun f args => match f, args with
  | 88, [.p (.str s), .p (.int .u8 c)] => some (.p (.int .i64 (ixB c.toNat.toUInt8 s 0)))
  | 89, [.p (.str a), .p (.str b)] => some (.p (.int .i64 (cmpB a b)))
  | _, _ => none

theorem Zf1 : ∀ f args v, axT f args = some v → AX Try.prog f args v := by
  intro f args v h; unfold axT at h
  split at h
  · injection h with h; subst h
    exact Zh5 Try.func88 (by kernel_rfl) (by kernel_rfl) (by kernel_rfl) (by kernel_rfl) _ _
  · injection h with h; subst h
    exact Zc8 Try.func89 (by kernel_rfl) (by kernel_rfl) (by kernel_rfl) (by kernel_rfl) _ _
  · cases h

theorem hEC : ECOK ⟨Try.prog, Γ, axT⟩ := ⟨hΓ, hmix, Zgg (by kernel_rfl), fun f a v h => .inl (Zf1 f a v h)⟩

theorem Zh7 : PFn Try.prog 7 [] [.bool true] := PFn.of_runE (C := ⟨Try.prog, Γ, axT⟩) (fuel := 900) hEC (by kernel_rfl)

theorem x126 (s : List UInt8) (c : Int) : AX Try.prog 88 [.p (.str s), .p (.int .u8 c)] (.p (.int .i64 (ixB c.toNat.toUInt8 s 0))) := Zf1 _ _ _ rfl
theorem x127 (s t : List UInt8) : AX Try.prog 89 [.p (.str s), .p (.str t)] (.p (.int .i64 (cmpB s t))) := Zf1 _ _ _ rfl

theorem t113 (s : List UInt8) (c : Int) : PFn Try.prog 75 [.str s, .int .u8 c] [.int .i64 (ixB c.toNat.toUInt8 s 0)] := by
  refine PFn.of_body hΓ Try.func75 (by kernel_rfl) rfl (Wd [] ?_); simp +contextual -implicitDefEqProofs only [Try.ntmps75, Try.results75, Nat.reduceAdd, Nat.reduceSub, go_sem]; refine Zbb (x126 s c) ?_; simp +contextual -implicitDefEqProofs only [go_sem]

theorem t101 (s : List UInt8) (c : Int) : PFn Try.prog 63 [.str s, .int .u8 c] [.int .i64 (ixB c.toNat.toUInt8 s 0)] := by
  refine PFn.of_body hΓ Try.func63 (by kernel_rfl) rfl (Wd [] ?_); simp +contextual -implicitDefEqProofs only [Try.ntmps63, Try.results63, Nat.reduceAdd, Nat.reduceSub, go_sem]; refine Z4 (t113 s c) (.pures rfl) ?_; simp +contextual -implicitDefEqProofs only [go_sem]

theorem t115 (s t : List UInt8) : PFn Try.prog 77 [.str s, .str t] [.int .i64 (cmpB s t)] := by
  refine PFn.of_body hΓ Try.func77 (by kernel_rfl) rfl (Wd [] ?_); simp +contextual -implicitDefEqProofs only [Try.ntmps77, Try.results77, Nat.reduceAdd, Nat.reduceSub, go_sem]; refine Zbb (x127 s t) ?_; simp +contextual -implicitDefEqProofs only [go_sem]

theorem t104 (s t : List UInt8) : PFn Try.prog 66 [.str s, .str t] [.int .i64 (cmpB s t)] := by
  refine PFn.of_body hΓ Try.func66 (by kernel_rfl) rfl (Wd [] ?_); simp +contextual -implicitDefEqProofs only [Try.ntmps66, Try.results66, Nat.reduceAdd, Nat.reduceSub, go_sem]; refine Z4 (t115 s t) (.pures rfl) ?_; simp +contextual -implicitDefEqProofs only [go_sem]

theorem t114 (x : Int) : PFn Try.prog 76 [.int .i64 x] [.bool false] := by
  refine PFn.of_body hΓ Try.func76 (by kernel_rfl) rfl (Wd [] ?_); simp +contextual -implicitDefEqProofs only [Try.ntmps76, Try.results76, Nat.reduceAdd, Nat.reduceSub, go_sem]

def cmpI (x y : Int) : Int := if x < y then -1 else if y < x then 1 else 0
theorem t103 (x y : Int) : PFn Try.prog 65 [.int .i64 x, .int .i64 y] [.int .i64 (cmpI x y)] := by
  refine PFn.of_body hΓ Try.func65 (by kernel_rfl) rfl (Wd [] ?_); simp +contextual -implicitDefEqProofs only [Try.ntmps65, Try.results65, Nat.reduceAdd, Nat.reduceSub, go_sem]; refine Z4 (t114 x) (.pures rfl) ?_; simp +contextual -implicitDefEqProofs only [go_sem]; refine Z4 (t114 y) (.pures rfl) ?_; simp +contextual -implicitDefEqProofs only [go_sem]; unfold cmpI; exact ⟨fun h => by rw [if_pos h], fun h => ⟨fun h' => by rw [if_neg h, if_pos h'], fun h' => by rw [if_neg h, if_neg h']⟩⟩

theorem t100 (x : Int) : PFn Try.prog 62 [.int .i64 x] [.bool (decide (1 ≤ x) && decide (x ≤ 16))] := by
  refine PFn.of_body hΓ Try.func62 (by kernel_rfl) rfl (Wd [] ?_); simp +contextual -implicitDefEqProofs only [Try.ntmps62, Try.results62, Nat.reduceAdd, Nat.reduceSub, go_sem]; intro _; rfl

def Z21 (l : List Int) : Int := (l.find? fun x => decide (x ≠ 0)).getD 0
theorem Z74 {l : List Int} {k : Nat} (hk : k < l.length) (h0 : ∀ x ∈ l.take k, x = 0) (h1 : l[k] ≠ 0) : Z21 l = l[k] := by
  have e : l = l.take k ++ l[k] :: l.drop (k + 1) := by rw [← List.drop_eq_getElem_cons hk, List.take_append_drop]
  unfold Z21; have e2 : l.find? (fun x => decide (x ≠ 0)) = some l[k] := by
    conv => lhs; rw [e]
    rw [List.find?_append, List.find?_eq_none.2 (fun x hx => by simpa using h0 x hx), List.find?_cons, decide_eq_true h1]; rfl
  rw [e2]; rfl
theorem Z4w {l : List Int} (h0 : ∀ x ∈ l, x = 0) : Z21 l = 0 := by
  unfold Z21; rw [List.find?_eq_none.2 (fun x hx => by simpa using h0 x hx)]; rfl

theorem t102 (l : List Int) (hl : l.length ≤ 9223372036854775807) : PFn Try.prog 64 [.sl (l.map (.int .i64))] [.int .i64 (Z21 l)] := by
  refine PFn.of_body hΓ Try.func64 (by kernel_rfl) rfl (Wd [] ?_); simp +contextual -implicitDefEqProofs only [Try.ntmps64, Try.results64, Nat.reduceAdd, Nat.reduceSub, go_sem]
  refine AWp.loopI (fun k : Nat => ⟨mkF 18 [(0, .p (.sl (l.map (.int .i64)))), (2, .p (.int .i64 0)), (3, .p (.int .i64 0)), (6, .p (.sl (l.map (.int .i64)))), (7, .p (.int .i64 l.length)), (8, .p (.int .i64 k))], []⟩)
    (fun k => k ≤ l.length ∧ ∀ x ∈ l.take k, x = 0) (fun k => l.length - k) 0 (by simp [go_sem]) (by simp) ?_
  rintro k ⟨hk, h0⟩; refine Wd [] ?_; simp +contextual -implicitDefEqProofs only [Z2, ↓reduceIte, go_sem]; refine ⟨fun hlt => ⟨fun he => ⟨by simp only [InR]; omega, k + 1, by simp, ⟨hlt, ?_⟩, by omega⟩, fun hne => (Z74 hlt h0 hne).symm⟩, fun hge => ?_⟩
  · rw [List.take_succ_eq_append_getElem hlt]
    intro x hx; rcases List.mem_append.1 hx with h | h
    · exact h0 x h
    · simp only [List.mem_singleton] at h; rw [h, he]
  · rw [List.take_of_length_le (by omega)] at h0
    exact (Z4w h0).symm

def cmpW (a b : List UInt8) : Int := if a.length < b.length then -1 else if b.length < a.length then 1 else cmpB a b
theorem t81 (a b : List UInt8) : PFn Try.prog 44 [.str a, .str b] [.int .i64 (cmpW a b)] := by
  refine PFn.of_body hΓ Try.func44 (by kernel_rfl) rfl (Wd [] ?_); simp +contextual -implicitDefEqProofs only [Try.ntmps44, Try.results44, Nat.reduceAdd, Nat.reduceSub, go_sem]; refine Z4 (t103 a.length b.length) (.pures rfl) ?_; simp +contextual -implicitDefEqProofs only [go_sem]; refine Z4 (t104 a b) (.pures rfl) ?_; simp +contextual -implicitDefEqProofs only [go_sem]; refine ⟨⟨by simp [Zb, PV.cells], by omega⟩, Z4 (t102 [cmpI a.length b.length, cmpB a b] (by simp)) (.still rfl) ?_⟩; simp +contextual -implicitDefEqProofs only [go_sem]
  congr 2
  unfold Z21 cmpI cmpW; by_cases h1 : a.length < b.length
  · simp [h1]
  · by_cases h2 : b.length < a.length
    · simp [h1, h2]
    · simp [h1, h2]
      by_cases h3 : cmpB a b = 0 <;> simp [h3]

def L16 : List UInt8 := [48, 49, 50, 51, 52, 53, 54, 55, 56, 57, 97, 98, 99, 100, 101, 102]

theorem Zhx (c : UInt8) : ∀ (l : List UInt8) (n k : Nat) (hk : k < l.length), (∀ j (hj : j < k), l[j] ≠ c) → l[k] = c → ixB c l n = ((n + k : Nat) : Int)
  | [], n, k, hk, _, _ => absurd hk (Nat.not_lt_zero k)
  | a :: l, n, 0, _, _, h => by
    have : a = c := h; subst this; unfold ixB; simp
  | a :: l, n, k + 1, hk, h0, h => by
    have h1 : a ≠ c := h0 0 (by omega); have h2 : Nat.beq a.toNat c.toNat = false := Bool.eq_false_iff.2 fun e => h1 (UInt8.toNat_inj.1 (Nat.eq_of_beq_eq_true e))
    unfold ixB; rw [h2]; refine (Zhx c l (n + 1) k (by simpa using hk) (fun j hj => h0 (j + 1) (by omega)) h).trans ?_
    congr 1; omega
theorem Zb3 (c : UInt8) : ∀ (l : List UInt8) (n : Nat), (∀ j (hj : j < l.length), l[j] ≠ c) → ixB c l n = -1
  | [], _, _ => rfl
  | a :: l, n, h0 => by
    have h1 : a ≠ c := h0 0 (by simp); have h2 : Nat.beq a.toNat c.toNat = false := Bool.eq_false_iff.2 fun e => h1 (UInt8.toNat_inj.1 (Nat.eq_of_beq_eq_true e))
    unfold ixB; rw [h2]; exact Zb3 c l (n + 1) (fun j hj => h0 (j + 1) (by simpa using hj))

theorem t99 (b : UInt8) : PFn Try.prog 69 [.int .u8 b.toNat] [.int .i64 (ixB b L16 0)] := by
  refine PFn.of_body hΓ Try.func69 (by kernel_rfl) rfl (Wd [] ?_); simp +contextual -implicitDefEqProofs only [Try.ntmps69, Try.results69, Nat.reduceAdd, Nat.reduceSub, go_sem]
  refine AWp.loopI (fun k : Nat => ⟨mkF 13 [(0, .p (.int .u8 b.toNat)), (2, .p (.int .i64 0)), (3, .p (.int .i64 k))], []⟩)
    (fun k => k ≤ 16 ∧ ∀ j (hj : j < 16), j < k → L16[j]'hj ≠ b) (fun k => 16 - k) 0 (by simp [go_sem]) (by simp) ?_
  rintro k ⟨hk, h0⟩; refine Wd [] ?_; simp +contextual -implicitDefEqProofs only [Z2, ↓reduceIte, go_sem]; refine ⟨fun hlt => ⟨by omega, fun he => ?_, fun hne => ⟨by simp only [InR]; omega, k + 1, by simp, ⟨by omega, ?_⟩, by omega⟩⟩, fun hge => ?_⟩
  · have hk' : k < L16.length := by simp [L16]; omega
    have e : L16[k] = b := by
      rw [← UInt8.toNat_inj, ← he]; show _ = (L16.getD k 0).toNat; rw [List.getD_eq_getElem?_getD, List.getElem?_eq_getElem hk', Option.getD_some]
    rw [Zhx b L16 0 k hk' (fun j hj => h0 j (by omega) hj) e]; simp
  · intro j hj hjk e
    by_cases hjk' : j < k
    · exact h0 j hj hjk' e
    · have : j = k := by omega
      subst this
      apply hne
      rw [← e]; show (L16.getD j 0).toNat = _; rw [List.getD_eq_getElem?_getD, List.getElem?_eq_getElem (by simpa [L16] using hj), Option.getD_some]; rfl
  · exact (Zb3 b L16 0 (fun j hj => h0 j (by simpa [L16] using hj) (by simp [L16] at hj; omega))).symm

theorem t79 (a b : List UInt8) : PFn Try.prog 49 [.str a, .str b] [.bool (if a.length ≠ b.length then decide (a.length < b.length) else Op.bytesLess a b)] := by
  refine PFn.of_body hΓ Try.func49 (by kernel_rfl) rfl (Wd [] ?_); simp +contextual -implicitDefEqProofs only [Try.ntmps49, Try.results49, Nat.reduceAdd, Nat.reduceSub, go_sem]

def okB (q : Int) (b : UInt8) : Bool := decide (0 ≤ ixB b L16 0) && decide (ixB b L16 0 < q)
def okW (q : Int) (w : List UInt8) : Bool := w.all (okB q)
def Zl (q : Int) (w : List UInt8) : Int := if q < 1 ∨ 16 < q then 12 else if 65536 < w.length then 4 else if okW q w then 0 else 13

theorem Zas {q : Int} {w : List UInt8} {k : Nat} (hk : k < w.length) (h0 : okW q (w.take k) = true) (h1 : okB q (w.getD k 0) = true) : okW q (w.take (k + 1)) = true := by
  rw [List.getD_eq_getElem?_getD, List.getElem?_eq_getElem hk, Option.getD_some] at h1; rw [List.take_succ_eq_append_getElem hk]; unfold okW at h0 ⊢; rw [List.all_append, h0]; simp [h1]
theorem Z3r {q : Int} {w : List UInt8} {k : Nat} (hq : ¬ q < 1) (hq2 : ¬ 16 < q) (hl : ¬ 65536 < w.length) (hk : k < w.length) (h1 : okB q (w.getD k 0) = false) : Zl q w = 13 := by
  rw [List.getD_eq_getElem?_getD, List.getElem?_eq_getElem hk, Option.getD_some] at h1; unfold Zl; rw [if_neg (by omega), if_neg hl, if_neg]; intro h; have := List.all_eq_true.1 h _ (List.getElem_mem hk); rw [h1] at this; cases this
theorem Z3g {q : Int} {w : List UInt8} (hq : ¬ q < 1) (hq2 : ¬ 16 < q) (hl : ¬ 65536 < w.length) (h1 : okW q w = true) : Zl q w = 0 := by
  unfold Zl; rw [if_neg (by omega), if_neg hl, if_pos h1]
theorem Z2m {q : Int} {w : List UInt8} (hq : q < 1 ∨ 16 < q) : Zl q w = 12 := by unfold Zl; rw [if_pos hq]
theorem Z5j {q : Int} {w : List UInt8} (hq : ¬ q < 1) (hq2 : ¬ 16 < q) (hl : 65536 < w.length) : Zl q w = 4 := by unfold Zl; rw [if_neg (by omega), if_pos hl]

theorem t78 (q : Int) (w : List UInt8) : PFn Try.prog 48 [.int .i64 q, .str w] [.int .i64 (Zl q w)] := by
  refine PFn.of_body hΓ Try.func48 (by kernel_rfl) rfl (Wd [] ?_); simp +contextual -implicitDefEqProofs only [Try.ntmps48, Try.results48, Nat.reduceAdd, Nat.reduceSub, go_sem]; refine ⟨fun h => (Z2m (.inl h)).symm, fun h1 => ⟨fun h => (Z2m (.inr h)).symm, fun h2 => ⟨fun h => (Z5j h1 h2 (by omega)).symm, fun h3 => ?_⟩⟩⟩; have h3' : ¬ 65536 < w.length := by omega
  refine AWp.loopI (fun k : Nat => ⟨mkF 33 [(0, .p (.int .i64 q)), (1, .p (.str w)), (4, .p (.int .i64 0)), (5, .p (.int .i64 k))], []⟩)
    (fun k => k ≤ w.length ∧ okW q (w.take k) = true) (fun k => w.length - k) 0 (by simp [go_sem]) (by simp [okW]) ?_
  rintro k ⟨hk, h0⟩; refine Wd [] ?_; simp +contextual -implicitDefEqProofs only [Z2, ↓reduceIte, go_sem]; refine ⟨fun hlt => Z4 (t99 (w.getD k 0)) (.pures rfl) ?_, fun hge => ?_⟩
  · simp +contextual -implicitDefEqProofs only [hlt, ↓reduceIte, go_sem]
    have good : okB q (w.getD k 0) = true → InR .i64 ((k : Int) + 1) ∧ ∃ y : Nat, (y : Int) = (k : Int) + 1 ∧ (y ≤ w.length ∧ okW q (w.take y) = true) ∧ w.length - y < w.length - k := fun h => ⟨by simp only [InR]; omega, k + 1, by simp, ⟨hlt, Zas hlt h0 h⟩, by omega⟩
    have bad : okB q (w.getD k 0) = false → (13 : Int) = Zl q w := fun h => (Z3r h1 h2 h3' hlt h).symm
    refine ⟨fun e1 => bad ?_, fun e1 => ⟨fun e2 => bad ?_, fun e2 => good ?_⟩⟩
    · unfold okB; rw [decide_eq_false (by omega)]; rfl
    · unfold okB; rw [decide_eq_false (p := ixB (w.getD k 0) L16 0 < q) (by omega), Bool.and_false]
    · unfold okB; rw [decide_eq_true (by omega), decide_eq_true (by omega)]; rfl
  · rw [List.take_of_length_le (by omega)] at h0
    exact (Z3g h1 h2 h3' h0).symm

theorem Zb2 (c : UInt8) : ∀ (l : List UInt8) (k m : Nat), decide (ixB c (l.take m) k < 0) = !(decide (0 ≤ ixB c l k) && decide (ixB c l k < k + m))
  | [], k, m => by simp [ixB]
  | a :: l, k, 0 => by
    have := Ze2 c (a :: l) k; have hge := Lib.indexByte_ge (a :: l) c; rw [List.take_zero, this]; simp only [ixB]
    split <;> simp <;> omega
  | a :: l, k, m + 1 => by
    have ih := Zb2 c l (k + 1) m; rw [List.take_succ_cons]; unfold ixB
    cases h : Nat.beq a.toNat c.toNat
    · simp only [h]
      rw [ih]
      congr 3
      push_cast; exact propext ⟨fun h => by omega, fun h => by omega⟩
    · simp only [h]
      rw [decide_eq_false (by omega), decide_eq_true (by omega), decide_eq_true (by omega)]; rfl

theorem t80 (q : Int) (w : List UInt8) : PFn Try.prog 43 [.int .i64 q, .str w] [.int .i64 (Zl q w)] := by
  refine PFn.of_body hΓ Try.func43 (by kernel_rfl) rfl (Wd [(8, 7)] ?_); simp +contextual -implicitDefEqProofs only [Try.ntmps43, Try.results43, Nat.reduceAdd, Nat.reduceSub, go_sem]; refine Z4 (t100 q) (.pures rfl) ?_
  cases hq : (decide (1 ≤ q) && decide (q ≤ 16))
  · simp -implicitDefEqProofs only [go_sem]
    simp only [Bool.and_eq_false_iff, decide_eq_false_iff_not] at hq; exact (Z2m (by omega)).symm
  simp -implicitDefEqProofs only [go_sem]; simp only [Bool.and_eq_true, decide_eq_true_eq] at hq; refine ⟨fun h3 => (Z5j (by omega) (by omega) (by omega)).symm, fun h3 => ?_⟩; have h1 : ¬ q < 1 := by omega
  have h2 : ¬ 16 < q := by omega
  have h3' : ¬ 65536 < w.length := by omega
  refine AWp.loopI (fun k : Nat => ⟨mkF 27 [(0, .p (.int .i64 q)), (1, .p (.str w)), (4, .p (.int .i64 0)), (15, .p (.int .i64 w.length)), (16, .p (.int .i64 k))], []⟩)
    (fun k => k ≤ w.length ∧ okW q (w.take k) = true) (fun k => w.length - k) 0 (by simp [go_sem]) (by simp [okW]) ?_
  rintro k ⟨hk, h0⟩; refine Wd [(8, 7)] ?_; simp +contextual -implicitDefEqProofs only [Z2, ↓reduceIte, go_sem]; refine ⟨fun hlt => ⟨by omega, Z1o (t101 _ (w.getD k 0).toNat) (.pures rfl) ?_⟩, fun hge => ?_⟩
  · simp +contextual -implicitDefEqProofs only [hlt, ↓reduceIte, go_sem]
    have good : okB q (w.getD k 0) = true → InR .i64 ((k : Int) + 1) ∧ ∃ y : Nat, (y : Int) = (k : Int) + 1 ∧ (y ≤ w.length ∧ okW q (w.take y) = true) ∧ w.length - y < w.length - k := fun h => ⟨by simp only [InR]; omega, k + 1, by simp, ⟨hlt, Zas hlt h0 h⟩, by omega⟩
    have bad : okB q (w.getD k 0) = false → (13 : Int) = Zl q w := fun h => (Z3r h1 h2 h3' hlt h).symm
    have key : decide (ixB (w.getD k 0) (L16.take q.toNat) 0 < 0) = !okB q (w.getD k 0) := by
      rw [Zb2, okB, show ((0 : Nat) : Int) + (q.toNat : Nat) = q by omega]
    have e : (w.getD k 0).toNat.toUInt8 = w.getD k 0 := by simp
    rw [e]; refine ⟨fun e1 => bad ?_, fun e1 => good ?_⟩
    · have := decide_eq_true e1
      rw [show ixB (w.getD k 0) (List.take q.toNat [48, 49, 50, 51, 52, 53, 54, 55, 56, 57, 97, 98, 99, 100, 101, 102]) 0 = ixB (w.getD k 0) (L16.take q.toNat) 0 from rfl, key] at this
      simpa using this
    · have := decide_eq_false e1
      rw [show ixB (w.getD k 0) (List.take q.toNat [48, 49, 50, 51, 52, 53, 54, 55, 56, 57, 97, 98, 99, 100, 101, 102]) 0 = ixB (w.getD k 0) (L16.take q.toNat) 0 from rfl, key] at this
      simpa using this
  · rw [List.take_of_length_le (by omega)] at h0
    exact (Z3g h1 h2 h3' h0).symm

def Zh (q : Int) (ws : List (List UInt8)) (i : Nat) : Int :=
  let w := ws.getD i []
  if w = [] then 5 else if 32 < w.length then 4 else if Zl q w ≠ 0 then 13 else if 0 < i ∧ 0 ≤ cmpW (ws.getD (i - 1) []) w then 10 else 0
def Z7 (q : Int) (ws : List (List UInt8)) : Int :=
  if q < 2 ∨ 16 < q then 12 else if ws.length = 0 then 5 else if 64 < ws.length then 4 else Z21 ((List.range ws.length).map (Zh q ws))

theorem Z1x {q : Int} {ws : List (List UInt8)} (h : q < 2 ∨ 16 < q) : Z7 q ws = 12 := by unfold Z7; rw [if_pos h]
theorem Z69 {q : Int} {ws : List (List UInt8)} (h : ¬ (q < 2 ∨ 16 < q)) (h1 : ws.length = 0) : Z7 q ws = 5 := by unfold Z7; rw [if_neg h, if_pos h1]
theorem Z6a {q : Int} {ws : List (List UInt8)} (h : ¬ (q < 2 ∨ 16 < q)) (h1 : ¬ ws.length = 0) (h2 : 64 < ws.length) : Z7 q ws = 4 := by unfold Z7; rw [if_neg h, if_neg h1, if_pos h2]
theorem Z4z {q : Int} {ws : List (List UInt8)} (h : ¬ (q < 2 ∨ 16 < q)) (h2 : ¬ 64 < ws.length) {k : Nat} (hk : k < ws.length) (h0 : ∀ j, j < k → Zh q ws j = 0) (h1 : Zh q ws k ≠ 0) :
    Z7 q ws = Zh q ws k := by
  unfold Z7; rw [if_neg h, if_neg (by omega), if_neg h2, Z74 (k := k) (by simpa using hk) (fun x hx => ?_) (by simpa using h1)]
  · simp
  · rw [← List.map_take, List.take_range] at hx
    obtain ⟨j, hj, rfl⟩ := List.mem_map.1 hx; exact h0 j (by have := List.mem_range.1 hj; omega)
theorem Z6b {q : Int} {ws : List (List UInt8)} (h : ¬ (q < 2 ∨ 16 < q)) (h1 : ¬ ws.length = 0) (h2 : ¬ 64 < ws.length) (h0 : ∀ j, j < ws.length → Zh q ws j = 0) : Z7 q ws = 0 := by
  unfold Z7; rw [if_neg h, if_neg h1, if_neg h2, Z4w]; intro x hx; obtain ⟨j, hj, rfl⟩ := List.mem_map.1 hx; exact h0 j (List.mem_range.1 hj)

theorem t45 (q : Int) (ws : List (List UInt8)) : PFn Try.prog 22 [Z9 q ws] [.int .i64 (Z7 q ws)] := by
  refine PFn.of_body hΓ Try.func22 (by kernel_rfl) rfl (Wd [] ?_); simp +contextual -implicitDefEqProofs only [Z9, Try.ntmps22, Try.results22, Nat.reduceAdd, Nat.reduceSub, go_sem]; refine ⟨fun h => (Z1x (.inl h)).symm, fun h1 => ⟨fun h => (Z1x (.inr h)).symm, fun h2 => ⟨fun h => (Z69 (by omega) (by omega)).symm, fun h3 => ⟨fun h => (Z6a (by omega) (by omega) (by omega)).symm, fun h4 => ?_⟩⟩⟩⟩; have hq : ¬ (q < 2 ∨ 16 < q) := by omega
  have hn : ¬ ws.length = 0 := by omega
  have hl : ¬ 64 < ws.length := by omega
  refine AWp.loopI (fun k : Nat => ⟨mkF 60 [(1, .ptr 0 0), (2, .p (.int .i64 0)), (25, .p (.sl (ws.map .str))), (26, .p (.int .i64 ws.length)), (27, .p (.int .i64 k))], [Z0 q ws]⟩)
    (fun k => k ≤ ws.length ∧ ∀ j, j < k → Zh q ws j = 0) (fun k => ws.length - k) 0 (by simp [go_sem, Z0]) (by simp) ?_
  rintro k ⟨hk, h0⟩; refine Wd [] ?_; simp +contextual -implicitDefEqProofs only [Z2, ↓reduceIte, Z0, go_sem]; refine ⟨fun hlt => ?_, fun hge => (Z6b hq hn hl (fun j hj => h0 j (by omega))).symm⟩; have bad : Zh q ws k ≠ 0 → Zh q ws k = Z7 q ws := fun h => (Z4z hq hl hlt h0 h).symm
  have hw : ws.getD k [] = ws[k] := by rw [List.getD_eq_getElem?_getD, List.getElem?_eq_getElem hlt, Option.getD_some]
  have good : Zh q ws k = 0 → InR .i64 ((k : Int) + 1) ∧ ∃ y : Nat, (y : Int) = (k : Int) + 1 ∧ (y ≤ ws.length ∧ ∀ j, j < y → Zh q ws j = 0) ∧ ws.length - y < ws.length - k :=
    fun h => ⟨by simp only [InR]; omega, k + 1, by simp, ⟨hlt, fun j hj => by by_cases h' : j = k; · subst h'; exact h
                                                                              · exact h0 j (by omega)⟩, by omega⟩
  have e5 : ws[k] = [] → Zh q ws k = 5 := fun h => by unfold Zh; rw [hw, if_pos h]
  have e4 : ¬ ws[k] = [] → 32 < ws[k].length → Zh q ws k = 4 := fun h h' => by unfold Zh; rw [hw, if_neg h, if_pos h']
  have e13 : ¬ ws[k] = [] → ¬ 32 < ws[k].length → Zl q ws[k] ≠ 0 → Zh q ws k = 13 := fun h h' h'' => by unfold Zh; rw [hw, if_neg h, if_neg h', if_pos h'']
  have eL : ¬ ws[k] = [] → ¬ 32 < ws[k].length → Zl q ws[k] = 0 → Zh q ws k = if 0 < k ∧ 0 ≤ cmpW (ws.getD (k - 1) []) ws[k] then 10 else 0 := fun h h' h'' => by unfold Zh; rw [hw, if_neg h, if_neg h', if_neg (by omega)]
  refine ⟨fun h => by have := e5 h; rw [← bad (by omega)]; omega, fun n5 => ⟨fun h => by have := e4 n5 (by omega); rw [← bad (by omega)]; omega, fun n4 => Z4 (t80 q ws[k]) (.pures rfl) ?_⟩⟩; simp +contextual -implicitDefEqProofs only [Z2, ↓reduceIte, Z0, hlt, go_sem]; refine ⟨fun h => ⟨fun hp => ?_, fun hp => good (by rw [eL n5 (by omega) h, if_neg (by omega)])⟩, fun n13 => by have := e13 n5 (by omega) n13; rw [← bad (by omega)]; omega⟩; have hk1 : ((k : Int) - 1).toNat = k - 1 := by omega
  have hlt1 : k - 1 < ws.length := by omega
  have hw1 : ws.getD (k - 1) [] = ws[k - 1] := by rw [List.getD_eq_getElem?_getD, List.getElem?_eq_getElem hlt1, Option.getD_some]
  rw [hw1] at eL; simp +contextual -implicitDefEqProofs only [hk1, Z2, hlt1, ↓reduceIte, Z0, go_sem]; refine ⟨by simp only [InR]; omega, by omega, ?_⟩; refine Z4 (t81 ws[k - 1] ws[k]) (.pures rfl) ?_; simp +contextual -implicitDefEqProofs only [Z2, ↓reduceIte, Z0, hlt, go_sem]; refine ⟨fun hc => ?_, fun hc => good (by rw [eL n5 (by omega) h, if_neg (fun e => hc e.2)])⟩; have := eL n5 (by omega) h; rw [if_pos ⟨by omega, hc⟩] at this; rw [← bad (by omega)]; omega

theorem Zjn (a b : List UInt8) : (if a.length ≠ b.length then decide (a.length < b.length) else Op.bytesLess a b) = decide (cmpW a b < 0) := by
  unfold cmpW; by_cases h1 : a.length < b.length
  · rw [if_pos (by omega), if_pos h1]; simp [h1]
  · by_cases h2 : b.length < a.length
    · rw [if_pos (by omega), if_neg h1, if_pos h2]; simp [h1]
    · rw [if_neg (by omega), if_neg h1, if_neg h2, ← Zbh]
      unfold cmpB
      cases bLt a b
      · cases bEq a b <;> rfl
      · rfl
theorem t79' (a b : List UInt8) : PFn Try.prog 49 [.str a, .str b] [.bool (decide (cmpW a b < 0))] := by rw [← Zjn]; exact t79 a b

theorem t44 (q : Int) (ws : List (List UInt8)) : PFn Try.prog 24 [Z9 q ws] [.int .i64 (Z7 q ws)] := by
  refine PFn.of_body hΓ Try.func24 (by kernel_rfl) rfl (Wd [] ?_); simp +contextual -implicitDefEqProofs only [Z9, Try.ntmps24, Try.results24, Nat.reduceAdd, Nat.reduceSub, go_sem]; refine ⟨fun h => (Z1x (.inl h)).symm, fun h1 => ⟨fun h => (Z1x (.inr h)).symm, fun h2 => ⟨fun h => (Z69 (by omega) (by omega)).symm, fun h3 => ⟨fun h => (Z6a (by omega) (by omega) (by omega)).symm, fun h4 => ?_⟩⟩⟩⟩; have hq : ¬ (q < 2 ∨ 16 < q) := by omega
  have hn : ¬ ws.length = 0 := by omega
  have hl : ¬ 64 < ws.length := by omega
  refine AWp.loopI (fun k : Nat => ⟨mkF 56 [(1, .ptr 0 0), (2, .p (.int .i64 0)), (3, .p (.int .i64 k))], [Z0 q ws]⟩)
    (fun k => k ≤ ws.length ∧ ∀ j, j < k → Zh q ws j = 0) (fun k => ws.length - k) 0 (by simp [go_sem, Z0]) (by simp) ?_
  rintro k ⟨hk, h0⟩; refine Wd [] ?_; simp +contextual -implicitDefEqProofs only [Z2, ↓reduceIte, Z0, go_sem]; refine ⟨fun hlt => ?_, fun hge => (Z6b hq hn hl (fun j hj => h0 j (by omega))).symm⟩; have bad : Zh q ws k ≠ 0 → Zh q ws k = Z7 q ws := fun h => (Z4z hq hl hlt h0 h).symm
  have hw : ws.getD k [] = ws[k] := by rw [List.getD_eq_getElem?_getD, List.getElem?_eq_getElem hlt, Option.getD_some]
  have good : Zh q ws k = 0 → InR .i64 ((k : Int) + 1) ∧ ∃ y : Nat, (y : Int) = (k : Int) + 1 ∧ (y ≤ ws.length ∧ ∀ j, j < y → Zh q ws j = 0) ∧ ws.length - y < ws.length - k :=
    fun h => ⟨by simp only [InR]; omega, k + 1, by simp, ⟨hlt, fun j hj => by by_cases h' : j = k; · subst h'; exact h
                                                                              · exact h0 j (by omega)⟩, by omega⟩
  have e5 : ws[k] = [] → Zh q ws k = 5 := fun h => by unfold Zh; rw [hw, if_pos h]
  have e4 : ¬ ws[k] = [] → 32 < ws[k].length → Zh q ws k = 4 := fun h h' => by unfold Zh; rw [hw, if_neg h, if_pos h']
  have e13 : ¬ ws[k] = [] → ¬ 32 < ws[k].length → Zl q ws[k] ≠ 0 → Zh q ws k = 13 := fun h h' h'' => by unfold Zh; rw [hw, if_neg h, if_neg h', if_pos h'']
  have eL : ¬ ws[k] = [] → ¬ 32 < ws[k].length → Zl q ws[k] = 0 → Zh q ws k = if 0 < k ∧ 0 ≤ cmpW (ws.getD (k - 1) []) ws[k] then 10 else 0 := fun h h' h'' => by unfold Zh; rw [hw, if_neg h, if_neg h', if_neg (by omega)]
  refine ⟨fun h => by have := e5 h; rw [← bad (by omega)]; omega, fun n5 => ⟨fun h => by have := e4 n5 (by omega); rw [← bad (by omega)]; omega, fun n4 => Z4 (t78 q ws[k]) (.pures rfl) ?_⟩⟩; simp +contextual -implicitDefEqProofs only [Z2, ↓reduceIte, Z0, hlt, go_sem]; refine ⟨fun h => ⟨fun hp => ?_, fun hp => good (by rw [eL n5 (by omega) h, if_neg (by omega)])⟩, fun n13 => by have := e13 n5 (by omega) n13; rw [← bad (by omega)]; omega⟩; have hk1 : ((k : Int) - 1).toNat = k - 1 := by omega
  have hlt1 : k - 1 < ws.length := by omega
  have hw1 : ws.getD (k - 1) [] = ws[k - 1] := by rw [List.getD_eq_getElem?_getD, List.getElem?_eq_getElem hlt1, Option.getD_some]
  rw [hw1] at eL; simp +contextual -implicitDefEqProofs only [hk1, Z2, hlt1, ↓reduceIte, Z0, go_sem]; refine ⟨by simp only [InR]; omega, by omega, ?_⟩; refine Z4 (t79' ws[k - 1] ws[k]) (.pures rfl) ?_; simp +contextual -implicitDefEqProofs only [Z2, ↓reduceIte, Z0, hlt, go_sem]; refine ⟨fun hc => good (by rw [eL n5 (by omega) h, if_neg (fun e => by omega)]), fun hc => ?_⟩; have := eL n5 (by omega) h; rw [if_pos ⟨by omega, by omega⟩] at this; rw [← bad (by omega)]; omega

theorem t85 (w x : List UInt8) : PFn Try.prog 72 [.str w, .str x] [.bool (x.isPrefixOf w)] := by
  refine PFn.of_body hΓ Try.func72 (by kernel_rfl) rfl (Wd [] ?_); simp +contextual -implicitDefEqProofs only [Try.ntmps72, Try.results72, Nat.reduceAdd, Nat.reduceSub, go_sem]; refine ⟨fun h => ?_, fun h => ?_⟩
  · rw [Bool.eq_iff_iff, List.isPrefixOf_iff_prefix, List.prefix_iff_eq_take, decide_eq_true_eq]; exact eq_comm
  · rw [Bool.eq_iff_iff, List.isPrefixOf_iff_prefix]
    exact ⟨fun h => by simp at h, fun h' => absurd h'.length_le (by omega)⟩

theorem t69 (w x : List UInt8) : PFn Try.prog 55 [.str w, .str x] [.bool (x.isPrefixOf w)] := by
  refine PFn.of_body hΓ Try.func55 (by kernel_rfl) rfl (Wd [] ?_); simp +contextual -implicitDefEqProofs only [Try.ntmps55, Try.results55, Nat.reduceAdd, Nat.reduceSub, go_sem]; refine Z4 (t85 w x) (.pures rfl) ?_; simp +contextual -implicitDefEqProofs only [go_sem]

def cutW (w x : List UInt8) : List UInt8 := if x.isPrefixOf w then w.drop x.length else w
theorem t51 (w x : List UInt8) : PFn Try.prog 73 [.str w, .str x] [.str (cutW w x), .bool (x.isPrefixOf w)] := by
  refine PFn.of_body hΓ Try.func73 (by kernel_rfl) rfl (Wd [] ?_); simp +contextual -implicitDefEqProofs only [Try.ntmps73, Try.results73, Nat.reduceAdd, Nat.reduceSub, go_sem]; refine Z4 (t85 w x) (.pures rfl) ?_
  cases hp : x.isPrefixOf w
  · simp -implicitDefEqProofs only [go_sem]
    unfold cutW; rw [if_neg (by rw [hp]; simp)]
  · simp -implicitDefEqProofs only [go_sem]
    exact ⟨(List.isPrefixOf_iff_prefix.1 hp).length_le, by unfold cutW; rw [if_pos hp]⟩

theorem t20 (w x : List UInt8) : PFn Try.prog 59 [.str w, .str x] [.str (cutW w x), .bool (x.isPrefixOf w)] := by
  refine PFn.of_body hΓ Try.func59 (by kernel_rfl) rfl (Wd [] ?_); simp +contextual -implicitDefEqProofs only [Try.ntmps59, Try.results59, Nat.reduceAdd, Nat.reduceSub, go_sem]; refine Z4 (t51 w x) (.pures rfl) ?_; simp +contextual -implicitDefEqProofs only [go_sem]


def Z1u (ws : List (List UInt8)) (i k : Nat) : List (List UInt8) :=
  if i ≠ k ∧ (ws.getD k []).isPrefixOf (ws.getD i []) then [(ws.getD i []).drop (ws.getD k []).length] else []
def Zk (ws : List (List UInt8)) (i n : Nat) : List (List UInt8) := (List.range n).flatMap (Z1u ws i)
def Z0a (ws : List (List UInt8)) (n : Nat) : List (List UInt8) := (List.range n).flatMap fun i => Zk ws i ws.length
def Z0f (ws : List (List UInt8)) : List (List UInt8) := Z0a ws ws.length

theorem Zbo (ws : List (List UInt8)) (i k : Nat) : (Z1u ws i k).length ≤ 1 := by unfold Z1u; split <;> simp
theorem Z0g (ws : List (List UInt8)) (i n : Nat) : Zk ws i (n + 1) = Zk ws i n ++ Z1u ws i n := by
  unfold Zk; rw [List.range_succ, List.flatMap_append]; simp
theorem Z2b (ws : List (List UInt8)) (i : Nat) : ∀ n, (Zk ws i n).length ≤ n
  | 0 => by simp [Zk]
  | n + 1 => by
    rw [Z0g, List.length_append]; have := Z2b ws i n; have := Zbo ws i n; omega
theorem Z3p (ws : List (List UInt8)) (n : Nat) : Z0a ws (n + 1) = Z0a ws n ++ Zk ws n ws.length := by
  unfold Z0a; rw [List.range_succ, List.flatMap_append]; simp
theorem Z39 (ws : List (List UInt8)) : ∀ n, (Z0a ws n).length ≤ n * ws.length
  | 0 => by simp [Z0a]
  | n + 1 => by
    rw [Z3p, List.length_append, Nat.succ_mul]; have := Z39 ws n; have := Z2b ws n ws.length; omega

theorem r54 (q : Int) (ws : List (List UInt8)) (hl : ws.length ≤ 1000) : PRow Try.prog 25 [Z9 q ws] 9 1 ((Z0f ws).map .str) := by
  refine AC.of_body 2 hΓ Try.func25 (by kernel_rfl) rfl (by simp) (Wd [] ?_); simp +contextual -implicitDefEqProofs only [Z9, Try.ntmps25, Try.results25, Nat.reduceAdd, Nat.reduceSub, List.map_cons, List.map_nil, go_sem]; refine ⟨⟨fun x h => (by cases h), by omega⟩, ?_⟩; refine AWp.adopt (l := []) 3 9 1 (by rfl) (by simp) ?_; simp +contextual -implicitDefEqProofs only [go_sem]
  refine AWp.loopI (fun i : Nat => ⟨mkF 53 [(1, .ptr 0 0), (3, .own 1 (Z0a ws i).length), (4, .p (.int .i64 i))], [Z0 q ws, .row 9 1 ((Z0a ws i).map .str) .lax]⟩)
    (fun i => i ≤ ws.length) (fun i => ws.length - i) 0 (by simp [go_sem, Z0, Z0a]) (by simp) ?_
  rintro i hk; refine Wd [] ?_; simp +contextual -implicitDefEqProofs only [↓reduceIte, Z0, go_sem]; refine ⟨fun hlt => ?_, fun hge => by rw [show i = ws.length by omega]; exact ⟨rfl, 1, .lax, ⟨rfl, rfl⟩, rfl, by simp⟩⟩
  refine AWp.loopI (fun k : Nat => ⟨mkF 53 [(1, .ptr 0 0), (3, .own 1 (Z0a ws i ++ Zk ws i k).length), (4, .p (.int .i64 i)), (5, .p (.int .i64 k))], [Z0 q ws, .row 9 1 ((Z0a ws i ++ Zk ws i k).map .str) .lax]⟩)
    (fun k => k ≤ ws.length) (fun k => ws.length - k) 0 (by simp [go_sem, Z0, Zk]) (by simp) ?_
  rintro k hk2; refine Wd [(8, 14), (9, 14)] ?_; simp +contextual -implicitDefEqProofs only [Z2, ↓reduceIte, Z0, hlt, go_sem]; have hwi : ws.getD i [] = ws[i] := by rw [List.getD_eq_getElem?_getD, List.getElem?_eq_getElem hlt, Option.getD_some]
  refine ⟨fun hlt2 => ⟨fun he => ⟨by simp only [InR]; omega, k + 1, ?_, hlt2, by omega⟩, fun hne => Z4 (t60 ws[i] ws[k]) (.pures rfl) ?_⟩, fun hge => ⟨by simp only [InR]; omega, i + 1, ?_, hlt, by omega⟩⟩
  · have : Zk ws k (k + 1) = Zk ws k k := by rw [Z0g]; unfold Z1u; rw [if_neg (by simp)]; simp
    rw [this]; simp
  · have hwk : ws.getD k [] = ws[k] := by rw [List.getD_eq_getElem?_getD, List.getElem?_eq_getElem hlt2, Option.getD_some]
    cases hp : ws[k].isPrefixOf ws[i]
    · simp -implicitDefEqProofs only [hlt, hlt2, Z2, ↓reduceIte, Z0, go_sem]
      have : Zk ws i (k + 1) = Zk ws i k := by rw [Z0g]; unfold Z1u; rw [hwi, hwk, if_neg (by simp [hp])]; simp
      exact ⟨by simp only [InR]; omega, k + 1, by rw [this]; simp, hlt2, by omega⟩
    · simp -implicitDefEqProofs only [hlt, hlt2, Z2, ↓reduceIte, Z0, go_sem]
      have : Zk ws i (k + 1) = Zk ws i k ++ [ws[i].drop ws[k].length] := by rw [Z0g]; unfold Z1u; rw [hwi, hwk, if_pos ⟨hne, hp⟩]
      have h1 := Z39 ws i; have h2 := Z2b ws i k; have h3 : i * ws.length ≤ 1000 * 1000 := Nat.mul_le_mul (by omega) hl
      refine ⟨(List.isPrefixOf_iff_prefix.1 hp).length_le, ⟨by simp [Zb, PV.cells], by omega⟩, ⟨by simp [Zb, PV.cells], by simp [Z2u, PV.cells, PV.isAgg]⟩, ⟨by simp, by simp only [List.length_append]; omega, by simp only [List.length_append]; omega⟩,
        by simp only [InR]; omega, k + 1, ⟨⟨by rw [this]; simp; omega, by simp⟩, by rw [this]; simp⟩, hlt2, by omega⟩
  · have : Z0a ws (i + 1) = Z0a ws i ++ Zk ws i k := by rw [Z3p, show k = ws.length by omega]
    rw [this]; simp

theorem t54 (q : Int) (ws : List (List UInt8)) (hl : ws.length ≤ 1000) : PFn Try.prog 25 [Z9 q ws] [.sl ((Z0f ws).map .str)] := .of_row (r54 q ws hl)

def Z2v (r x : List UInt8) : List (List UInt8) := if x.isPrefixOf r then [r.drop x.length] else if r.isPrefixOf x then [x.drop r.length] else []
def Z13 (ws : List (List UInt8)) (r : List UInt8) : List (List UInt8) := ws.flatMap (Z2v r)
theorem Z5w (r : List UInt8) : ∀ ws : List (List UInt8), (Z13 ws r).length ≤ ws.length
  | [] => by simp [Z13]
  | x :: ws => by
    have := Z5w r ws; have h : (Z2v r x).length ≤ 1 := by unfold Z2v; split; simp; split <;> simp
    unfold Z13 at this ⊢; simp only [List.flatMap_cons, List.length_append, List.length_cons]; omega
theorem Zbu {ws : List (List UInt8)} {k : Nat} (r : List UInt8) (hk : k < ws.length) : Z13 (ws.take (k + 1)) r = Z13 (ws.take k) r ++ Z2v r ws[k] := by
  rw [List.take_succ_eq_append_getElem hk]; unfold Z13; rw [List.flatMap_append]; simp

theorem t56 (q : Int) (ws : List (List UInt8)) (r : List UInt8) (hl : ws.length ≤ 1000) : PFn Try.prog 27 [Z9 q ws, .str r] [.sl ((Z13 ws r).map .str)] := by
  refine PFn.of_body hΓ Try.func27 (by kernel_rfl) rfl (Wd [] ?_); simp +contextual -implicitDefEqProofs only [Z9, Try.ntmps27, Try.results27, Nat.reduceAdd, Nat.reduceSub, go_sem]; refine ⟨⟨fun x h => (by cases h), by omega⟩, ?_⟩; refine AWp.adopt (l := []) 5 9 1 (by rfl) (by simp) ?_; simp +contextual -implicitDefEqProofs only [go_sem]
  refine AWp.loopI (fun k : Nat => ⟨mkF 42 [(1, .p (.str r)), (2, .ptr 0 0), (5, .own 1 (Z13 (ws.take k) r).length), (6, .p (.int .i64 k))], [Z0 q ws, .row 9 1 ((Z13 (ws.take k) r).map .str) .lax]⟩)
    (fun k => k ≤ ws.length) (fun k => ws.length - k) 0 (by simp [go_sem, Z0, Z13]) (by simp) ?_
  rintro k hk; refine Wd [] ?_; simp +contextual -implicitDefEqProofs only [Z2, ↓reduceIte, Z0, go_sem]; refine ⟨fun hlt => Z4 (t60 r ws[k]) (.pures rfl) ?_, fun hge => by rw [List.take_of_length_le (by omega)]⟩; have h2 := Z5w r (ws.take k); rw [List.length_take] at h2; have hs := Zbu r hlt
  cases hp : ws[k].isPrefixOf r
  · simp -implicitDefEqProofs only [hlt, Z2, ↓reduceIte, Z0, go_sem]
    refine Z4 (t60 ws[k] r) (.pures rfl) ?_
    cases hp2 : r.isPrefixOf ws[k]
    · simp -implicitDefEqProofs only [hlt, Z2, ↓reduceIte, Z0, go_sem]
      have : Z13 (ws.take (k + 1)) r = Z13 (ws.take k) r := by rw [hs]; unfold Z2v; rw [if_neg (by simp [hp]), if_neg (by simp [hp2])]; simp
      exact ⟨by simp only [InR]; omega, k + 1, by rw [this]; simp, hlt, by omega⟩
    · simp -implicitDefEqProofs only [hlt, Z2, ↓reduceIte, Z0, go_sem]
      have : Z13 (ws.take (k + 1)) r = Z13 (ws.take k) r ++ [ws[k].drop r.length] := by rw [hs]; unfold Z2v; rw [if_neg (by simp [hp]), if_pos hp2]
      refine ⟨(List.isPrefixOf_iff_prefix.1 hp2).length_le, ⟨by simp [Zb, PV.cells], by omega⟩, ⟨by simp [Zb, PV.cells], by simp [Z2u, PV.cells, PV.isAgg]⟩, ⟨by simp, by omega, by omega⟩,
        by simp only [InR]; omega, k + 1, ⟨⟨by rw [this]; simp, by simp⟩, by rw [this]; simp⟩, hlt, by omega⟩
  · simp -implicitDefEqProofs only [hlt, Z2, ↓reduceIte, Z0, go_sem]
    have : Z13 (ws.take (k + 1)) r = Z13 (ws.take k) r ++ [r.drop ws[k].length] := by rw [hs]; unfold Z2v; rw [if_pos hp]
    refine ⟨(List.isPrefixOf_iff_prefix.1 hp).length_le, ⟨by simp [Zb, PV.cells], by omega⟩, ⟨by simp [Zb, PV.cells], by simp [Z2u, PV.cells, PV.isAgg]⟩, ⟨by simp, by omega, by omega⟩,
      by simp only [InR]; omega, k + 1, ⟨⟨by rw [this]; simp, by simp⟩, by rw [this]; simp⟩, hlt, by omega⟩


theorem Z5h {E : Env} {tm : List AV} {h : List AObj} {KS : St → Prop} {d : Option Nat} {b : Nat} {args : List AV} {ks : List Nat} {R : AV → List AObj → Prop} (hf : YC E.P b args h ks R) (hks : ∀ k ∈ ks, E.n0 ≤ k ∨ k ∈ E.ks)
    (hk : ∀ v h', R v h' → KS ⟨putD (Z8 ks tm) d v, h'⟩) : Z3e E ⟨tm, h⟩ d (.yld b) args KS := ⟨ks, R, hf, hks, hk⟩

def Z1f (x y : List UInt8) : List (List UInt8 × List UInt8) := if x.isPrefixOf y ∧ y.drop x.length ≠ [] then [(y, y.drop x.length)] else []
def Z1c (ws : List (List UInt8)) (i k : Nat) : List (List UInt8 × List UInt8) := (ws.take k).flatMap (Z1f (ws.getD i []))
def Z1v (ws : List (List UInt8)) (i : Nat) : List (List UInt8 × List UInt8) := (List.range i).flatMap fun i => Z1c ws i ws.length
def Z0w (ws : List (List UInt8)) : List (List UInt8 × List UInt8) := Z1v ws ws.length

theorem Z2f (ws : List (List UInt8)) (n : Nat) : Z1v ws (n + 1) = Z1v ws n ++ Z1c ws n ws.length := by
  unfold Z1v; rw [List.range_succ, List.flatMap_append]; simp
theorem Z9n {ws : List (List UInt8)} {i k : Nat} (hk : k < ws.length) : Z1c ws i (k + 1) = Z1c ws i k ++ Z1f (ws.getD i []) ws[k] := by
  unfold Z1c; rw [List.take_succ_eq_append_getElem hk, List.flatMap_append]; simp
theorem Zd9 (ws : List (List UInt8)) : ∀ {n : Nat}, n ≤ ws.length → ∃ l, Z1v ws n ++ l = Z0w ws := by
  intro n hn
  induction hd : ws.length - n generalizing n with
  | zero => exact ⟨[], by rw [show n = ws.length by omega]; simp [Z0w]⟩
  | succ d ih =>
    obtain ⟨l, hl⟩ := ih (n := n + 1) (by omega) (by omega); exact ⟨Z1c ws n ws.length ++ l, by rw [← List.append_assoc, ← Z2f]; exact hl⟩
theorem Zda (ws : List (List UInt8)) (i : Nat) : ∀ {k : Nat}, k ≤ ws.length → ∃ l, Z1c ws i k ++ l = Z1c ws i ws.length := by
  intro k hk; refine ⟨(ws.drop k).flatMap (Z1f (ws.getD i [])), ?_⟩; unfold Z1c; rw [List.take_length, ← List.flatMap_append, List.take_append_drop]

theorem c86 {h : List AObj} {b c : Nat} {ks : List Nat} (hbk : b ∉ ks) (hck : c ∉ ks) (q : Int) (ws : List (List UInt8)) (hws : ws.length ≤ 1000) {J : List (List UInt8 × List UInt8) → List AObj → Prop} {D : List AObj → Prop} (hJ0 : J [] h)
    (hbox : ∀ done h', J done h' → h'[c]? = some (Z0 q ws) ∧ h.length ≤ h'.length) (hD : ∀ h', D h' → h.length ≤ h'.length)
    (hround : ∀ done y r h', (∃ l, done ++ (y, r) :: l = Z0w ws) → J done h' → YC Try.prog b [.p (.str y), .p (.str r)] h' ks (fun v h'' => (v = .p (.bool true) ∧ J (done ++ [(y, r)]) h'') ∨ (v = .p (.bool false) ∧ D h''))) :
    AC Try.prog 58 [.yld b, .ptr c 0] h ks (fun _ h' => J (Z0w ws) h' ∨ D h') := by
  have nb : ∀ {k}, k ∈ ks → b ≠ k := fun h e => hbk (e ▸ h)
  have nc : ∀ {k}, k ∈ ks → c ≠ k := fun h e => hck (e ▸ h)
  refine AC.of_bodyE hΓ Try.func58 (by kernel_rfl) rfl (AWp.mono (Q := fun e st => AM.Ends e ∧ (J (Z0w ws) st.h ∨ D st.h)) ?_ ?_)
  rotate_left
  · rintro e st ⟨he, hst⟩
    refine ⟨he, st, Less.refl st, ?_⟩; refine ⟨st.h.length, hst.elim (fun hj => (hbox _ _ hj).2) (hD _), .inl rfl, ?_⟩; rw [List.take_length]; exact hst
  refine Wd [] ?_; have hb0 := (hbox _ _ hJ0).1; simp +contextual -implicitDefEqProofs only [Try.ntmps58, Nat.reduceAdd, Nat.reduceSub, hb0, Z0, go_sem]
  refine AWp.loopI (fun p : Nat × List AObj => ⟨mkF 43 [(0, .yld b), (1, .ptr c 0), (10, .p (.sl (ws.map .str))), (11, .p (.int .i64 ws.length)), (12, .p (.int .i64 p.1))], p.2⟩)
    (fun p => p.1 ≤ ws.length ∧ J (Z1v ws p.1) p.2) (fun p => ws.length - p.1) (0, h) (by simp [go_sem, Zf]) ⟨Nat.zero_le _, hJ0⟩ ?_
  rintro ⟨i, h1⟩ ⟨hi, hJ1⟩; simp only at hi hJ1; refine Wd [] ?_; have hb1 := (hbox _ _ hJ1).1; simp +contextual -implicitDefEqProofs only [hb1, Z2, ↓reduceIte, Z0, go_sem]; refine ⟨fun hlt => ?_, fun hge => .inl (by rw [show i = ws.length by omega] at hJ1; exact hJ1)⟩; have hwi : ws.getD i [] = ws[i] := by rw [List.getD_eq_getElem?_getD, List.getElem?_eq_getElem hlt, Option.getD_some]
  refine AWp.loopI (fun p : Nat × List AObj => ⟨mkF 43 [(0, .yld b), (1, .ptr c 0), (4, .p (.str ws[i])), (10, .p (.sl (ws.map .str))), (11, .p (.int .i64 ws.length)), (12, .p (.int .i64 i)),
      (17, .p (.sl (ws.map .str))), (18, .p (.int .i64 ws.length)), (19, .p (.int .i64 p.1))], p.2⟩)
    (fun p => p.1 ≤ ws.length ∧ J (Z1v ws i ++ Z1c ws i p.1) p.2) (fun p => ws.length - p.1) (0, h1) (by simp [go_sem, Zf]) ⟨Nat.zero_le _, by simpa [Z1c] using hJ1⟩ ?_
  rintro ⟨k, h2⟩ ⟨hk, hJ2⟩; simp only at hk hJ2; refine Wd [] ?_; simp +contextual -implicitDefEqProofs only [Z2, ↓reduceIte, Z0, go_sem]; refine ⟨fun hlt2 => ?_, fun hge => ⟨by simp only [InR]; omega, (i + 1, h2), by simp [Zf], ⟨hlt, by rw [Z2f, show ws.length = k by omega]; exact hJ2⟩, by simp only; omega⟩⟩; refine Z4 (t20 ws[k] ws[i]) (.pures rfl) ?_; have hs := Z9n (i := i) hlt2; rw [hwi] at hs
  cases hp : ws[i].isPrefixOf ws[k]
  · simp -implicitDefEqProofs only [go_sem]
    have : Z1f ws[i] ws[k] = [] := by unfold Z1f; rw [if_neg (by simp [hp])]
    rw [this, List.append_nil] at hs; exact ⟨by simp only [InR]; omega, (k + 1, h2), by simp [Zf], ⟨hlt2, by simp only; rw [hs]; exact hJ2⟩, by simp only; omega⟩
  · have hcut : cutW ws[k] ws[i] = ws[k].drop ws[i].length := by unfold cutW; rw [if_pos hp]
    by_cases he : cutW ws[k] ws[i] = []
    · simp -implicitDefEqProofs only [he, go_sem]
      have : Z1f ws[i] ws[k] = [] := by unfold Z1f; rw [if_neg (fun e => e.2 (hcut ▸ he))]
      rw [this, List.append_nil] at hs; exact ⟨by simp only [InR]; omega, (k + 1, h2), by simp [Zf], ⟨hlt2, by simp only; rw [hs]; exact hJ2⟩, by simp only; omega⟩
    · simp -implicitDefEqProofs only [he, go_sem]
      have : Z1f ws[i] ws[k] = [(ws[k], cutW ws[k] ws[i])] := by unfold Z1f; rw [hcut, if_pos ⟨hp, hcut ▸ he⟩]
      rw [this] at hs; obtain ⟨l1, hl1⟩ := Zda ws i (k := k + 1) hlt2; obtain ⟨l2, hl2⟩ := Zd9 ws (n := i + 1) hlt; have hdone : ∃ l, (Z1v ws i ++ Z1c ws i k) ++ (ws[k], cutW ws[k] ws[i]) :: l = Z0w ws := ⟨l1 ++ l2, by
        rw [← hl2, Z2f, ← hl1, hs]; simp⟩
      refine Z5h (hround _ _ _ _ hdone hJ2) (fun k hk => .inr hk) ?_; rintro v h' (⟨rfl, hj⟩ | ⟨rfl, hd⟩)
      · rw [Z0i (fun k hk => by simp [AV.kill, AV.kill.killL, nb hk, nc hk])]
        simp -implicitDefEqProofs only [go_sem]; exact ⟨by simp only [InR]; omega, (k + 1, h'), by simp [Zf], ⟨hlt2, by simp only; rw [hs, ← List.append_assoc]; exact hj⟩, by simp only; omega⟩
      · rw [Z0i (fun k hk => by simp [AV.kill, AV.kill.killL, nb hk, nc hk])]
        simp -implicitDefEqProofs only [go_sem]; exact .inr hd

def Z1k (r x : List UInt8) : List (List UInt8 × Nat) := if x.isPrefixOf r then [(r.drop x.length, 0)] else if r.isPrefixOf x then [(x.drop r.length, (x.drop r.length).length)] else []
def Zo (ws : List (List UInt8)) (r : List UInt8) : List (List UInt8 × Nat) := ws.flatMap (Z1k r)
theorem Z9q {ws : List (List UInt8)} {k : Nat} (r : List UInt8) (hk : k < ws.length) : Zo (ws.take (k + 1)) r = Zo (ws.take k) r ++ Z1k r ws[k] := by
  rw [List.take_succ_eq_append_getElem hk]; unfold Zo; rw [List.flatMap_append]; simp
theorem Zdo (ws : List (List UInt8)) (r : List UInt8) (k : Nat) : ∃ l, Zo (ws.take k) r ++ l = Zo ws r :=
  ⟨Zo (ws.drop k) r, by unfold Zo; rw [← List.flatMap_append, List.take_append_drop]⟩

theorem c87 {h : List AObj} {b c d : Nat} {ks : List Nat} (hbk : b ∉ ks) (hck : c ∉ ks) (hdk : d ∉ ks) (q : Int) (ws : List (List UInt8)) (r : List UInt8) (hws : ws.length ≤ 1000) {J : List (List UInt8 × Nat) → List AObj → Prop} {D : List AObj → Prop} (hJ0 : J [] h)
    (hbox : ∀ done h', J done h' → h'[c]? = some (Z0 q ws) ∧ h'[d]? = some (.box [.p (.str r)]) ∧ h.length ≤ h'.length) (hD : ∀ h', D h' → h.length ≤ h'.length)
    (hround : ∀ done u n h', (∃ l, done ++ (u, n) :: l = Zo ws r) → J done h' → YC Try.prog b [.p (.str u), .p (.int .i64 (n : Nat))] h' ks (fun v h'' => (v = .p (.bool true) ∧ J (done ++ [(u, n)]) h'') ∨ (v = .p (.bool false) ∧ D h''))) :
    AC Try.prog 60 [.yld b, .ptr c 0, .ptr d 0] h ks (fun _ h' => J (Zo ws r) h' ∨ D h') := by
  have nb : ∀ {k}, k ∈ ks → b ≠ k := fun h e => hbk (e ▸ h)
  have nc : ∀ {k}, k ∈ ks → c ≠ k := fun h e => hck (e ▸ h)
  have nd : ∀ {k}, k ∈ ks → d ≠ k := fun h e => hdk (e ▸ h)
  refine AC.of_bodyE hΓ Try.func60 (by kernel_rfl) rfl (AWp.mono (Q := fun e st => AM.Ends e ∧ (J (Zo ws r) st.h ∨ D st.h)) ?_ ?_)
  rotate_left
  · rintro e st ⟨he, hst⟩
    refine ⟨he, st, Less.refl st, ?_⟩; refine ⟨st.h.length, hst.elim (fun hj => (hbox _ _ hj).2.2) (hD _), .inl rfl, ?_⟩; rw [List.take_length]; exact hst
  refine Wd [] ?_; have hb0 := (hbox _ _ hJ0).1; simp +contextual -implicitDefEqProofs only [Try.ntmps60, Nat.reduceAdd, Nat.reduceSub, hb0, Z0, go_sem]
  refine AWp.loopI (fun p : Nat × List AObj => ⟨mkF 44 [(0, .yld b), (1, .ptr c 0), (2, .ptr d 0), (11, .p (.sl (ws.map .str))), (12, .p (.int .i64 ws.length)), (13, .p (.int .i64 p.1))], p.2⟩)
    (fun p => p.1 ≤ ws.length ∧ J (Zo (ws.take p.1) r) p.2) (fun p => ws.length - p.1) (0, h) (by simp [go_sem, Zf]) ⟨Nat.zero_le _, by simpa [Zo] using hJ0⟩ ?_
  rintro ⟨k, h2⟩ ⟨hk, hJ2⟩; simp only at hk hJ2; refine Wd [] ?_; have hb2 := (hbox _ _ hJ2).2.1; simp +contextual -implicitDefEqProofs only [hb2, Z2, ↓reduceIte, Z0, go_sem]; refine ⟨fun hlt => Z4 (t20 r ws[k]) (.pures rfl) ?_, fun hge => .inl (by rw [List.take_of_length_le (by omega)] at hJ2; exact hJ2)⟩; have hs := Z9q r hlt; obtain ⟨l1, hl1⟩ := Zdo ws r (k + 1); have fin : ∀ u n, Z1k r ws[k] = [(u, n)] → ∃ l, Zo (ws.take k) r ++ (u, n) :: l = Zo ws r := fun u n e => ⟨l1, by rw [← hl1, hs, e]; simp⟩
  cases hp : ws[k].isPrefixOf r
  · simp -implicitDefEqProofs only [hb2, go_sem]
    refine Z4 (t20 ws[k] r) (.pures rfl) ?_
    cases hp2 : r.isPrefixOf ws[k]
    · simp -implicitDefEqProofs only [go_sem]
      have : Z1k r ws[k] = [] := by unfold Z1k; rw [if_neg (by simp [hp]), if_neg (by simp [hp2])]
      rw [this, List.append_nil] at hs; exact ⟨by simp only [InR]; omega, (k + 1, h2), by simp [Zf], ⟨hlt, by simp only; rw [hs]; exact hJ2⟩, by simp only; omega⟩
    · simp -implicitDefEqProofs only [go_sem]
      have hcut : cutW ws[k] r = ws[k].drop r.length := by unfold cutW; rw [if_pos hp2]
      have he : Z1k r ws[k] = [(cutW ws[k] r, (cutW ws[k] r).length)] := by unfold Z1k; rw [if_neg (by simp [hp]), if_pos hp2, hcut]
      refine Z5h (hround _ _ _ _ (fin _ _ he) hJ2) (fun k hk => .inr hk) ?_; rw [he] at hs; rintro v h' (⟨rfl, hj⟩ | ⟨rfl, hd⟩)
      · rw [Z0i (fun k hk => by simp [AV.kill, AV.kill.killL, nb hk, nc hk, nd hk])]
        simp -implicitDefEqProofs only [go_sem]; exact ⟨by simp only [InR]; omega, (k + 1, h'), by simp [Zf], ⟨hlt, by simp only; rw [hs]; exact hj⟩, by simp only; omega⟩
      · rw [Z0i (fun k hk => by simp [AV.kill, AV.kill.killL, nb hk, nc hk, nd hk])]
        simp -implicitDefEqProofs only [go_sem]; exact .inr hd
  · simp -implicitDefEqProofs only [go_sem]
    have hcut : cutW r ws[k] = r.drop ws[k].length := by unfold cutW; rw [if_pos hp]
    have he : Z1k r ws[k] = [(cutW r ws[k], 0)] := by unfold Z1k; rw [if_pos hp, hcut]
    refine Z5h (hround _ _ _ _ (fin _ _ he) hJ2) (fun k hk => .inr hk) ?_; rw [he] at hs; rintro v h' (⟨rfl, hj⟩ | ⟨rfl, hd⟩)
    · rw [Z0i (fun k hk => by simp [AV.kill, AV.kill.killL, nb hk, nc hk, nd hk])]
      simp -implicitDefEqProofs only [go_sem]; exact ⟨by simp only [InR]; omega, (k + 1, h'), by simp [Zf], ⟨hlt, by simp only; rw [hs]; exact hj⟩, by simp only; omega⟩
    · rw [Z0i (fun k hk => by simp [AV.kill, AV.kill.killL, nb hk, nc hk, nd hk])]
      simp -implicitDefEqProofs only [go_sem]; exact .inr hd
end Go.Proofs.Ytpljmccnfmkmfaa
end

