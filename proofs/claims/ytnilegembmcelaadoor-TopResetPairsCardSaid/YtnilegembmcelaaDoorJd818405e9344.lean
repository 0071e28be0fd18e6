/-
  Texts of this claim, joined.
-/
import Derived.Test.YtnilegembmcelaaDoorJ02ea5e1884ed
import Derived.Test.YtnilegembmcelaaDoorProg
import Derived.KernelRfl
import Derived.Test.YtnilegembmcelaaDoorJ75ab21772372
import Derived.Test.YtnilegembmcelaaDoorJff1b1cd1c358
import Derived.Test.YtnilegembmcelaaDoorJ7b26b6f35787
import Derived.Test.YtnilegembmcelaaDoorRows
import Derived.Test.YtnilegembmcelaaDoorJ11d6ef8752a5
import Derived.Test.YtnilegembmcelaaDoorJe6ecda76b862

set_option linter.unusedSimpArgs false
set_option maxRecDepth 1000000
set_option maxHeartbeats 4000000
section
namespace Go.Proofs.YtnilegembmcelaaDoor
open Go Go.AM

def Γ : Gam := fun t => match t with
  | 1 => some ⟨.other, 1, 8, some (.cell), false, false⟩
  | 2 => some ⟨.int .i64, 1, 8, some (.p (.int .i64 0)), false, false⟩
  | 3 => some ⟨.int .i64, 1, 8, some (.p (.int .i64 0)), false, false⟩
  | 4 => some ⟨.bool, 1, 1, some (.p (.bool false)), false, false⟩
  | 5 => some ⟨.int .u8, 1, 1, some (.p (.int .u8 0)), false, false⟩
  | 6 => some ⟨.int .u8, 1, 1, some (.p (.int .u8 0)), false, false⟩
  | 7 => some ⟨.struct [(0, 2), (1, 3), (2, 4), (3, 6)], 4, 24, some (.agg [.p (.int .i64 0), .p (.int .i64 0), .p (.bool false), .p (.int .u8 0)]), true, false⟩
  | 8 => some ⟨.struct [(0, 2), (1, 3), (2, 4), (3, 6)], 4, 24, some (.agg [.p (.int .i64 0), .p (.int .i64 0), .p (.bool false), .p (.int .u8 0)]), true, false⟩
  | 9 => some ⟨.str, 1, 16, some (.p (.str [])), false, false⟩
  | 10 => some ⟨.str, 1, 16, some (.p (.str [])), false, false⟩
  | 11 => some ⟨.str, 1, 16, some (.p (.str [])), false, false⟩
  | 12 => some ⟨.int .u64, 1, 8, some (.p (.int .u64 0)), false, false⟩
  | 13 => some ⟨.struct [(0, 9), (1, 12)], 2, 24, some (.agg [.p (.str []), .p (.int .u64 0)]), true, false⟩
  | 14 => some ⟨.struct [(0, 9), (1, 12)], 2, 24, some (.agg [.p (.str []), .p (.int .u64 0)]), true, false⟩
  | 15 => some ⟨.other, 1, 8, some (.cell), false, false⟩
  | 16 => some ⟨.other, 1, 8, some (.cell), false, false⟩
  | 17 => some ⟨.other, 1, 8, some (.cell), false, false⟩
  | 18 => some ⟨.struct [(0, 17)], 1, 8, some (.agg [.cell]), true, false⟩
  | 19 => some ⟨.struct [(0, 17)], 1, 8, some (.agg [.cell]), true, false⟩
  | 21 => some ⟨.int .i32, 1, 4, some (.p (.int .i32 0)), false, false⟩
  | 22 => some ⟨.slice 9, 1, 24, some (.full []), false, false⟩
  | 24 => some ⟨.struct [(0, 3), (1, 22)], 2, 32, some (.agg [.p (.int .i64 0), .full []]), true, false⟩
  | 25 => some ⟨.slice 53, 1, 24, some (.full []), false, false⟩
  | 26 => some ⟨.struct [(0, 3), (1, 22), (2, 25), (3, 25)], 4, 80, some (.agg [.p (.int .i64 0), .full [], .full [], .full []]), true, false⟩
  | 27 => some ⟨.struct [(0, 3), (1, 22), (2, 25), (3, 25)], 4, 80, some (.agg [.p (.int .i64 0), .full [], .full [], .full []]), true, false⟩
  | 28 => some ⟨.struct [(0, 3), (1, 25)], 2, 32, some (.agg [.p (.int .i64 0), .full []]), true, false⟩
  | 29 => some ⟨.struct [(0, 3), (1, 25)], 2, 32, some (.agg [.p (.int .i64 0), .full []]), true, false⟩
  | 31 => some ⟨.other, 1, 8, some (.cell), false, false⟩
  | 32 => some ⟨.other, 1, 8, some (.cell), false, false⟩
  | 33 => some ⟨.int .i64, 1, 8, some (.p (.int .i64 0)), false, false⟩
  | 35 => some ⟨.other, 1, 8, some (.cell), false, false⟩
  | 41 => some ⟨.other, 1, 8, some (.cell), false, false⟩
  | 46 => some ⟨.other, 1, 8, some (.cell), false, false⟩
  | 48 => some ⟨.other, 1, 8, some (.cell), false, false⟩
  | 49 => some ⟨.other, 1, 8, some (.cell), false, false⟩
  | 51 => some ⟨.other, 1, 8, some (.cell), false, false⟩
  | 52 => some ⟨.other, 1, 8, some (.cell), false, false⟩
  | 53 => some ⟨.slice 3, 1, 24, some (.full []), false, false⟩
  | 54 => some ⟨.map 3 4, 1, 8, some (.cell), false, false⟩
  | 55 => some ⟨.other, 1, 8, some (.cell), false, false⟩
  | 56 => some ⟨.other, 1, 8, some (.cell), false, false⟩
  | 57 => some ⟨.other, 1, 8, some (.cell), false, false⟩
  | 58 => some ⟨.other, 1, 8, some (.cell), false, false⟩
  | 59 => some ⟨.other, 1, 8, some (.cell), false, false⟩
  | 60 => some ⟨.other, 1, 8, some (.cell), false, false⟩
  | 61 => some ⟨.other, 1, 8, some (.cell), false, false⟩
  | 63 => some ⟨.other, 1, 8, some (.cell), false, false⟩
  | 64 => some ⟨.other, 1, 8, some (.cell), false, false⟩
  | 65 => some ⟨.other, 1, 8, some (.cell), false, false⟩
  | 67 => some ⟨.struct [(0, 3), (1, 9)], 2, 24, some (.agg [.p (.int .i64 0), .p (.str [])]), true, false⟩
  | 68 => some ⟨.struct [(0, 3), (1, 9)], 2, 24, some (.agg [.p (.int .i64 0), .p (.str [])]), true, true⟩
  | 69 => some ⟨.slice 68, 1, 24, some (.full []), false, false⟩
  | 72 => some ⟨.other, 1, 8, some (.cell), false, false⟩
  | 73 => some ⟨.int .u64, 1, 8, some (.p (.int .u64 0)), false, false⟩
  | 75 => some ⟨.other, 1, 8, some (.cell), false, false⟩
  | 76 => some ⟨.other, 1, 8, some (.cell), false, false⟩
  | 77 => some ⟨.other, 1, 8, some (.cell), false, false⟩
  | 79 => some ⟨.other, 1, 8, some (.cell), false, false⟩
  | 81 => some ⟨.map 9 3, 1, 8, some (.cell), false, false⟩
  | 84 => some ⟨.other, 1, 8, some (.cell), false, false⟩
  | 87 => some ⟨.other, 1, 8, some (.cell), false, false⟩
  | 89 => some ⟨.int .i64, 1, 8, some (.p (.int .i64 0)), false, false⟩
  | 97 => some ⟨.int .u32, 1, 4, some (.p (.int .u32 0)), false, false⟩
  | 99 => some ⟨.int .u64, 1, 8, some (.p (.int .u64 0)), false, false⟩
  | 101 => some ⟨.other, 1, 8, some (.cell), false, false⟩
  | 102 => some ⟨.other, 1, 8, some (.cell), false, false⟩
  | 103 => some ⟨.other, 1, 8, some (.cell), false, false⟩
  | 104 => some ⟨.int .u64, 1, 8, some (.p (.int .u64 0)), false, false⟩
  | 106 => some ⟨.other, 1, 8, some (.cell), false, false⟩
  | 107 => some ⟨.other, 1, 8, some (.cell), false, false⟩
  | 108 => some ⟨.other, 1, 8, some (.cell), false, false⟩
  | 112 => some ⟨.other, 1, 8, some (.cell), false, false⟩
  | 114 => some ⟨.other, 1, 8, some (.cell), false, false⟩
  | 115 => some ⟨.array 32 5, 32, 32, some (.agg [.p (.int .u8 0), .p (.int .u8 0), .p (.int .u8 0), .p (.int .u8 0), .p (.int .u8 0), .p (.int .u8 0), .p (.int .u8 0), .p (.int .u8 0), .p (.int .u8 0), .p (.int .u8 0), .p (.int .u8 0), .p (.int .u8 0), .p (.int .u8 0), .p (.int .u8 0), .p (.int .u8 0), .p (.int .u8 0), .p (.int .u8 0), .p (.int .u8 0), .p (.int .u8 0), .p (.int .u8 0), .p (.int .u8 0), .p (.int .u8 0), .p (.int .u8 0), .p (.int .u8 0), .p (.int .u8 0), .p (.int .u8 0), .p (.int .u8 0), .p (.int .u8 0), .p (.int .u8 0), .p (.int .u8 0), .p (.int .u8 0), .p (.int .u8 0)]), true, false⟩
  | 116 => some ⟨.array 64 5, 64, 64, some (.agg [.p (.int .u8 0), .p (.int .u8 0), .p (.int .u8 0), .p (.int .u8 0), .p (.int .u8 0), .p (.int .u8 0), .p (.int .u8 0), .p (.int .u8 0), .p (.int .u8 0), .p (.int .u8 0), .p (.int .u8 0), .p (.int .u8 0), .p (.int .u8 0), .p (.int .u8 0), .p (.int .u8 0), .p (.int .u8 0), .p (.int .u8 0), .p (.int .u8 0), .p (.int .u8 0), .p (.int .u8 0), .p (.int .u8 0), .p (.int .u8 0), .p (.int .u8 0), .p (.int .u8 0), .p (.int .u8 0), .p (.int .u8 0), .p (.int .u8 0), .p (.int .u8 0), .p (.int .u8 0), .p (.int .u8 0), .p (.int .u8 0), .p (.int .u8 0), .p (.int .u8 0), .p (.int .u8 0), .p (.int .u8 0), .p (.int .u8 0), .p (.int .u8 0), .p (.int .u8 0), .p (.int .u8 0), .p (.int .u8 0), .p (.int .u8 0), .p (.int .u8 0), .p (.int .u8 0), .p (.int .u8 0), .p (.int .u8 0), .p (.int .u8 0), .p (.int .u8 0), .p (.int .u8 0), .p (.int .u8 0), .p (.int .u8 0), .p (.int .u8 0), .p (.int .u8 0), .p (.int .u8 0), .p (.int .u8 0), .p (.int .u8 0), .p (.int .u8 0), .p (.int .u8 0), .p (.int .u8 0), .p (.int .u8 0), .p (.int .u8 0), .p (.int .u8 0), .p (.int .u8 0), .p (.int .u8 0), .p (.int .u8 0)]), true, false⟩
  | 117 => some ⟨.other, 1, 8, some (.cell), false, false⟩
  | 119 => some ⟨.other, 1, 8, some (.cell), false, false⟩
  | 122 => some ⟨.other, 1, 8, some (.cell), false, false⟩
  | 129 => some ⟨.other, 1, 8, some (.cell), false, false⟩
  | 130 => some ⟨.int .u8, 1, 1, some (.p (.int .u8 0)), false, false⟩
  | 131 => some ⟨.int .u8, 1, 1, some (.p (.int .u8 0)), false, false⟩
  | 132 => some ⟨.other, 1, 8, some (.cell), false, false⟩
  | 133 => some ⟨.other, 1, 8, some (.cell), false, false⟩
  | 134 => some ⟨.int .i32, 1, 4, some (.p (.int .i32 0)), false, false⟩
  | 135 => some ⟨.int .i32, 1, 4, some (.p (.int .i32 0)), false, false⟩
  | 137 => some ⟨.struct [(0, 12), (1, 12), (2, 97), (3, 130), (4, 5), (5, 5), (6, 131), (7, 132), (8, 133), (9, 134), (10, 135)], 11, 48, some (.agg [.p (.int .u64 0), .p (.int .u64 0), .p (.int .u32 0), .p (.int .u8 0), .p (.int .u8 0), .p (.int .u8 0), .p (.int .u8 0), .cell, .cell, .p (.int .i32 0), .p (.int .i32 0)]), true, false⟩
  | _ => none

theorem g3 : Γ 3 = some ⟨.int .i64, 1, 8, some (.p (.int .i64 0)), false, false⟩ := rfl
theorem g4 : Γ 4 = some ⟨.bool, 1, 1, some (.p (.bool false)), false, false⟩ := rfl
theorem g9 : Γ 9 = some ⟨.str, 1, 16, some (.p (.str [])), false, false⟩ := rfl
theorem g22 : Γ 22 = some ⟨.slice 9, 1, 24, some (.full []), false, false⟩ := rfl
theorem g24 : Γ 24 = some ⟨.struct [(0, 3), (1, 22)], 2, 32, some (.agg [.p (.int .i64 0), .full []]), true, false⟩ := rfl
theorem g25 : Γ 25 = some ⟨.slice 53, 1, 24, some (.full []), false, false⟩ := rfl
theorem g27 : Γ 27 = some ⟨.struct [(0, 3), (1, 22), (2, 25), (3, 25)], 4, 80, some (.agg [.p (.int .i64 0), .full [], .full [], .full []]), true, false⟩ := rfl
theorem g29 : Γ 29 = some ⟨.struct [(0, 3), (1, 25)], 2, 32, some (.agg [.p (.int .i64 0), .full []]), true, false⟩ := rfl
theorem g53 : Γ 53 = some ⟨.slice 3, 1, 24, some (.full []), false, false⟩ := rfl
theorem g54 : Γ 54 = some ⟨.map 3 4, 1, 8, some (.cell), false, false⟩ := rfl
theorem g68 : Γ 68 = some ⟨.struct [(0, 3), (1, 9)], 2, 24, some (.agg [.p (.int .i64 0), .p (.str [])]), true, true⟩ := rfl
theorem g69 : Γ 69 = some ⟨.slice 68, 1, 24, some (.full []), false, false⟩ := rfl
theorem g73 : Γ 73 = some ⟨.int .u64, 1, 8, some (.p (.int .u64 0)), false, false⟩ := rfl
theorem g81 : Γ 81 = some ⟨.map 9 3, 1, 8, some (.cell), false, false⟩ := rfl
theorem g99 : Γ 99 = some ⟨.int .u64, 1, 8, some (.p (.int .u64 0)), false, false⟩ := rfl

theorem hΓ : Zg Tryd.prog Γ := by
  intro t te h; unfold Γ at h
  split at h
  · injection h with h; subst h; exact Z1 (zv := .nilFunc) (by kernel_rfl) (by kernel_rfl) rfl
  · injection h with h; subst h; exact Z1 (zv := .int .i64 0) (by kernel_rfl) (by kernel_rfl) rfl
  · injection h with h; subst h; exact Z1 (zv := .int .i64 0) (by kernel_rfl) (by kernel_rfl) rfl
  · injection h with h; subst h; exact Z1 (zv := .bool false) (by kernel_rfl) (by kernel_rfl) rfl
  · injection h with h; subst h; exact Z1 (zv := .int .u8 0) (by kernel_rfl) (by kernel_rfl) rfl
  · injection h with h; subst h; exact Z1 (zv := .int .u8 0) (by kernel_rfl) (by kernel_rfl) rfl
  · injection h with h; subst h; exact Z1 (zv := .agg #[.int .i64 0, .int .i64 0, .bool false, .int .u8 0]) (by kernel_rfl) (by kernel_rfl) rfl
  · injection h with h; subst h; exact Z1 (zv := .agg #[.int .i64 0, .int .i64 0, .bool false, .int .u8 0]) (by kernel_rfl) (by kernel_rfl) rfl
  · injection h with h; subst h; exact Z1 (zv := .string ⟨#[]⟩) (by kernel_rfl) (by kernel_rfl) rfl
  · injection h with h; subst h; exact Z1 (zv := .string ⟨#[]⟩) (by kernel_rfl) (by kernel_rfl) rfl
  · injection h with h; subst h; exact Z1 (zv := .string ⟨#[]⟩) (by kernel_rfl) (by kernel_rfl) rfl
  · injection h with h; subst h; exact Z1 (zv := .int .u64 0) (by kernel_rfl) (by kernel_rfl) rfl
  · injection h with h; subst h; exact Z1 (zv := .agg #[.string ⟨#[]⟩, .int .u64 0]) (by kernel_rfl) (by kernel_rfl) rfl
  · injection h with h; subst h; exact Z1 (zv := .agg #[.string ⟨#[]⟩, .int .u64 0]) (by kernel_rfl) (by kernel_rfl) rfl
  · injection h with h; subst h; exact Z1 (zv := .pointer none) (by kernel_rfl) (by kernel_rfl) rfl
  · injection h with h; subst h; exact Z1 (zv := .pointer none) (by kernel_rfl) (by kernel_rfl) rfl
  · injection h with h; subst h; exact Z1 (zv := .pointer none) (by kernel_rfl) (by kernel_rfl) rfl
  · injection h with h; subst h; exact Z1 (zv := .agg #[.pointer none]) (by kernel_rfl) (by kernel_rfl) rfl
  · injection h with h; subst h; exact Z1 (zv := .agg #[.pointer none]) (by kernel_rfl) (by kernel_rfl) rfl
  · injection h with h; subst h; exact Z1 (zv := .int .i32 0) (by kernel_rfl) (by kernel_rfl) rfl
  · injection h with h; subst h; exact Z1 (zv := .slice none 0 0) (by kernel_rfl) (by kernel_rfl) rfl
  · injection h with h; subst h; exact Z1 (zv := .agg #[.int .i64 0, .slice none 0 0]) (by kernel_rfl) (by kernel_rfl) rfl
  · injection h with h; subst h; exact Z1 (zv := .slice none 0 0) (by kernel_rfl) (by kernel_rfl) rfl
  · injection h with h; subst h; exact Z1 (zv := .agg #[.int .i64 0, .slice none 0 0, .slice none 0 0, .slice none 0 0]) (by kernel_rfl) (by kernel_rfl) rfl
  · injection h with h; subst h; exact Z1 (zv := .agg #[.int .i64 0, .slice none 0 0, .slice none 0 0, .slice none 0 0]) (by kernel_rfl) (by kernel_rfl) rfl
  · injection h with h; subst h; exact Z1 (zv := .agg #[.int .i64 0, .slice none 0 0]) (by kernel_rfl) (by kernel_rfl) rfl
  · injection h with h; subst h; exact Z1 (zv := .agg #[.int .i64 0, .slice none 0 0]) (by kernel_rfl) (by kernel_rfl) rfl
  · injection h with h; subst h; exact Z1 (zv := .nilFunc) (by kernel_rfl) (by kernel_rfl) rfl
  · injection h with h; subst h; exact Z1 (zv := .nilFunc) (by kernel_rfl) (by kernel_rfl) rfl
  · injection h with h; subst h; exact Z1 (zv := .int .i64 0) (by kernel_rfl) (by kernel_rfl) rfl
  · injection h with h; subst h; exact Z1 (zv := .nilFunc) (by kernel_rfl) (by kernel_rfl) rfl
  · injection h with h; subst h; exact Z1 (zv := .nilFunc) (by kernel_rfl) (by kernel_rfl) rfl
  · injection h with h; subst h; exact Z1 (zv := .nilFunc) (by kernel_rfl) (by kernel_rfl) rfl
  · injection h with h; subst h; exact Z1 (zv := .nilFunc) (by kernel_rfl) (by kernel_rfl) rfl
  · injection h with h; subst h; exact Z1 (zv := .nilFunc) (by kernel_rfl) (by kernel_rfl) rfl
  · injection h with h; subst h; exact Z1 (zv := .nilFunc) (by kernel_rfl) (by kernel_rfl) rfl
  · injection h with h; subst h; exact Z1 (zv := .nilFunc) (by kernel_rfl) (by kernel_rfl) rfl
  · injection h with h; subst h; exact Z1 (zv := .slice none 0 0) (by kernel_rfl) (by kernel_rfl) rfl
  · injection h with h; subst h; exact Z1 (zv := .map none) (by kernel_rfl) (by kernel_rfl) rfl
  · injection h with h; subst h; exact Z1 (zv := .nilFunc) (by kernel_rfl) (by kernel_rfl) rfl
  · injection h with h; subst h; exact Z1 (zv := .nilFunc) (by kernel_rfl) (by kernel_rfl) rfl
  · injection h with h; subst h; exact Z1 (zv := .nilFunc) (by kernel_rfl) (by kernel_rfl) rfl
  · injection h with h; subst h; exact Z1 (zv := .nilFunc) (by kernel_rfl) (by kernel_rfl) rfl
  · injection h with h; subst h; exact Z1 (zv := .nilFunc) (by kernel_rfl) (by kernel_rfl) rfl
  · injection h with h; subst h; exact Z1 (zv := .nilFunc) (by kernel_rfl) (by kernel_rfl) rfl
  · injection h with h; subst h; exact Z1 (zv := .nilFunc) (by kernel_rfl) (by kernel_rfl) rfl
  · injection h with h; subst h; exact Z1 (zv := .nilFunc) (by kernel_rfl) (by kernel_rfl) rfl
  · injection h with h; subst h; exact Z1 (zv := .nilFunc) (by kernel_rfl) (by kernel_rfl) rfl
  · injection h with h; subst h; exact Z1 (zv := .nilFunc) (by kernel_rfl) (by kernel_rfl) rfl
  · injection h with h; subst h; exact Z1 (zv := .agg #[.int .i64 0, .string ⟨#[]⟩]) (by kernel_rfl) (by kernel_rfl) rfl
  · injection h with h; subst h; exact Z7r (zv := .agg #[.int .i64 0, .string ⟨#[]⟩]) (by kernel_rfl) (by kernel_rfl) rfl (fun _ => ⟨by kernel_rfl, by kernel_rfl, by kernel_rfl⟩)
  · injection h with h; subst h; exact Z1 (zv := .slice none 0 0) (by kernel_rfl) (by kernel_rfl) rfl
  · injection h with h; subst h; exact Z1 (zv := .nilFunc) (by kernel_rfl) (by kernel_rfl) rfl
  · injection h with h; subst h; exact Z1 (zv := .int .u64 0) (by kernel_rfl) (by kernel_rfl) rfl
  · injection h with h; subst h; exact Z1 (zv := .nilFunc) (by kernel_rfl) (by kernel_rfl) rfl
  · injection h with h; subst h; exact Z1 (zv := .nilFunc) (by kernel_rfl) (by kernel_rfl) rfl
  · injection h with h; subst h; exact Z1 (zv := .nilFunc) (by kernel_rfl) (by kernel_rfl) rfl
  · injection h with h; subst h; exact Z1 (zv := .nilFunc) (by kernel_rfl) (by kernel_rfl) rfl
  · injection h with h; subst h; exact Z1 (zv := .map none) (by kernel_rfl) (by kernel_rfl) rfl
  · injection h with h; subst h; exact Z1 (zv := .nilFunc) (by kernel_rfl) (by kernel_rfl) rfl
  · injection h with h; subst h; exact Z1 (zv := .nilFunc) (by kernel_rfl) (by kernel_rfl) rfl
  · injection h with h; subst h; exact Z1 (zv := .int .i64 0) (by kernel_rfl) (by kernel_rfl) rfl
  · injection h with h; subst h; exact Z1 (zv := .int .u32 0) (by kernel_rfl) (by kernel_rfl) rfl
  · injection h with h; subst h; exact Z1 (zv := .int .u64 0) (by kernel_rfl) (by kernel_rfl) rfl
  · injection h with h; subst h; exact Z1 (zv := .nilFunc) (by kernel_rfl) (by kernel_rfl) rfl
  · injection h with h; subst h; exact Z1 (zv := .nilFunc) (by kernel_rfl) (by kernel_rfl) rfl
  · injection h with h; subst h; exact Z1 (zv := .nilFunc) (by kernel_rfl) (by kernel_rfl) rfl
  · injection h with h; subst h; exact Z1 (zv := .int .u64 0) (by kernel_rfl) (by kernel_rfl) rfl
  · injection h with h; subst h; exact Z1 (zv := .nilFunc) (by kernel_rfl) (by kernel_rfl) rfl
  · injection h with h; subst h; exact Z1 (zv := .nilFunc) (by kernel_rfl) (by kernel_rfl) rfl
  · injection h with h; subst h; exact Z1 (zv := .pointer none) (by kernel_rfl) (by kernel_rfl) rfl
  · injection h with h; subst h; exact Z1 (zv := .nilFunc) (by kernel_rfl) (by kernel_rfl) rfl
  · injection h with h; subst h; exact Z1 (zv := .nilFunc) (by kernel_rfl) (by kernel_rfl) rfl
  · injection h with h; subst h; exact Z1 (zv := .agg #[.int .u8 0, .int .u8 0, .int .u8 0, .int .u8 0, .int .u8 0, .int .u8 0, .int .u8 0, .int .u8 0, .int .u8 0, .int .u8 0, .int .u8 0, .int .u8 0, .int .u8 0, .int .u8 0, .int .u8 0, .int .u8 0, .int .u8 0, .int .u8 0, .int .u8 0, .int .u8 0, .int .u8 0, .int .u8 0, .int .u8 0, .int .u8 0, .int .u8 0, .int .u8 0, .int .u8 0, .int .u8 0, .int .u8 0, .int .u8 0, .int .u8 0, .int .u8 0]) (by kernel_rfl) (by kernel_rfl) rfl
  · injection h with h; subst h; exact Z1 (zv := .agg #[.int .u8 0, .int .u8 0, .int .u8 0, .int .u8 0, .int .u8 0, .int .u8 0, .int .u8 0, .int .u8 0, .int .u8 0, .int .u8 0, .int .u8 0, .int .u8 0, .int .u8 0, .int .u8 0, .int .u8 0, .int .u8 0, .int .u8 0, .int .u8 0, .int .u8 0, .int .u8 0, .int .u8 0, .int .u8 0, .int .u8 0, .int .u8 0, .int .u8 0, .int .u8 0, .int .u8 0, .int .u8 0, .int .u8 0, .int .u8 0, .int .u8 0, .int .u8 0, .int .u8 0, .int .u8 0, .int .u8 0, .int .u8 0, .int .u8 0, .int .u8 0, .int .u8 0, .int .u8 0, .int .u8 0, .int .u8 0, .int .u8 0, .int .u8 0, .int .u8 0, .int .u8 0, .int .u8 0, .int .u8 0, .int .u8 0, .int .u8 0, .int .u8 0, .int .u8 0, .int .u8 0, .int .u8 0, .int .u8 0, .int .u8 0, .int .u8 0, .int .u8 0, .int .u8 0, .int .u8 0, .int .u8 0, .int .u8 0, .int .u8 0, .int .u8 0]) (by kernel_rfl) (by kernel_rfl) rfl
  · injection h with h; subst h; exact Z1 (zv := .pointer none) (by kernel_rfl) (by kernel_rfl) rfl
  · injection h with h; subst h; exact Z1 (zv := .nilFunc) (by kernel_rfl) (by kernel_rfl) rfl
  · injection h with h; subst h; exact Z1 (zv := .nilFunc) (by kernel_rfl) (by kernel_rfl) rfl
  · injection h with h; subst h; exact Z1 (zv := .nilFunc) (by kernel_rfl) (by kernel_rfl) rfl
  · injection h with h; subst h; exact Z1 (zv := .int .u8 0) (by kernel_rfl) (by kernel_rfl) rfl
  · injection h with h; subst h; exact Z1 (zv := .int .u8 0) (by kernel_rfl) (by kernel_rfl) rfl
  · injection h with h; subst h; exact Z1 (zv := .nilFunc) (by kernel_rfl) (by kernel_rfl) rfl
  · injection h with h; subst h; exact Z1 (zv := .pointer none) (by kernel_rfl) (by kernel_rfl) rfl
  · injection h with h; subst h; exact Z1 (zv := .int .i32 0) (by kernel_rfl) (by kernel_rfl) rfl
  · injection h with h; subst h; exact Z1 (zv := .int .i32 0) (by kernel_rfl) (by kernel_rfl) rfl
  · injection h with h; subst h; exact Z1 (zv := .agg #[.int .u64 0, .int .u64 0, .int .u32 0, .int .u8 0, .int .u8 0, .int .u8 0, .int .u8 0, .nilFunc, .pointer none, .int .i32 0, .int .i32 0]) (by kernel_rfl) (by kernel_rfl) rfl
  · cases h
theorem y3 (f : TE → Prop) : tyAt Γ 3 f = f ⟨.int .i64, 1, 8, some (.p (.int .i64 0)), false, false⟩ := Zh g3 f
theorem y4 (f : TE → Prop) : tyAt Γ 4 f = f ⟨.bool, 1, 1, some (.p (.bool false)), false, false⟩ := Zh g4 f
theorem y9 (f : TE → Prop) : tyAt Γ 9 f = f ⟨.str, 1, 16, some (.p (.str [])), false, false⟩ := Zh g9 f
theorem y22 (f : TE → Prop) : tyAt Γ 22 f = f ⟨.slice 9, 1, 24, some (.full []), false, false⟩ := Zh g22 f
theorem y24 (f : TE → Prop) : tyAt Γ 24 f = f ⟨.struct [(0, 3), (1, 22)], 2, 32, some (.agg [.p (.int .i64 0), .full []]), true, false⟩ := Zh g24 f
theorem y25 (f : TE → Prop) : tyAt Γ 25 f = f ⟨.slice 53, 1, 24, some (.full []), false, false⟩ := Zh g25 f
theorem y27 (f : TE → Prop) : tyAt Γ 27 f = f ⟨.struct [(0, 3), (1, 22), (2, 25), (3, 25)], 4, 80, some (.agg [.p (.int .i64 0), .full [], .full [], .full []]), true, false⟩ := Zh g27 f
theorem y29 (f : TE → Prop) : tyAt Γ 29 f = f ⟨.struct [(0, 3), (1, 25)], 2, 32, some (.agg [.p (.int .i64 0), .full []]), true, false⟩ := Zh g29 f
theorem y53 (f : TE → Prop) : tyAt Γ 53 f = f ⟨.slice 3, 1, 24, some (.full []), false, false⟩ := Zh g53 f
theorem y54 (f : TE → Prop) : tyAt Γ 54 f = f ⟨.map 3 4, 1, 8, some (.cell), false, false⟩ := Zh g54 f
theorem y68 (f : TE → Prop) : tyAt Γ 68 f = f ⟨.struct [(0, 3), (1, 9)], 2, 24, some (.agg [.p (.int .i64 0), .p (.str [])]), true, true⟩ := Zh g68 f
theorem y69 (f : TE → Prop) : tyAt Γ 69 f = f ⟨.slice 68, 1, 24, some (.full []), false, false⟩ := Zh g69 f
theorem y73 (f : TE → Prop) : tyAt Γ 73 f = f ⟨.int .u64, 1, 8, some (.p (.int .u64 0)), false, false⟩ := Zh g73 f
theorem y81 (f : TE → Prop) : tyAt Γ 81 f = f ⟨.map 9 3, 1, 8, some (.cell), false, false⟩ := Zh g81 f
attribute [go_sem] g3 y3 g4 y4 g9 y9 g22 y22 g24 y24 g25 y25 g27 y27 g29 y29 g53 y53 g54 y54 g68 y68 g69 y69 g73 y73 g81 y81 g99
theorem hmix : Tryd.prog.follows .mixedOrders = true := by kernel_rfl
theorem Wd {n0 : Nat} {ks : List Nat} {r : Option Nat} {c : Code} {Q : Exit → St → Prop} {st : St} (l : List (Nat × Nat)) (h : awpD ⟨Tryd.prog, Γ, n0, ks⟩ r l c Q st) (hd : Z0z l c = true := by kernel_rfl) : AWp ⟨Tryd.prog, Γ, n0, ks⟩ r c Q st := AWp.of_awpD l hΓ hmix hd h

def Zv (q : Int) (ws : List (List UInt8)) : PV := .agg [.int .i64 q, .sl (ws.map .str)]
def Zi (q : Int) (ws : List (List UInt8)) : AObj := .box [.p (.int .i64 q), .p (.sl (ws.map .str))]
def Z0k (w : List UInt8) : Bool := (decide (8 < w.length) && decide (w.length ≤ 32)) || decide (33 < w.length)

def Z2s (ws : List (List UInt8)) : Bool := (decide (8 < ws.length) && decide (ws.length ≤ 64)) || decide (65 < ws.length)
theorem t11 (q : Int) (ws : List (List UInt8)) (hl : ws.length ≤ 9223372036854775807) : PFn Tryd.prog 12 [Zv q ws] [.bool (Z2s ws || ws.any Z0k)] := by
  refine PFn.of_body hΓ Tryd.func12 (by kernel_rfl) rfl (Wd [] ?_); have big : ∀ b, (8 < ws.length ∧ ws.length ≤ 64 ∨ 65 < ws.length) → true = (Z2s ws || b) := fun b h => by
    have : Z2s ws = true := by simp only [Z2s, Bool.or_eq_true, Bool.and_eq_true, decide_eq_true_eq]; exact h
    rw [this]; rfl
  have small : ¬ (8 < ws.length ∧ ws.length ≤ 64 ∨ 65 < ws.length) → Z2s ws = false := fun h => by
    simp only [Z2s, Bool.or_eq_false_iff, Bool.and_eq_false_iff, decide_eq_false_iff_not]; omega
  have hc : ((8 : Int) < ws.length ∧ (ws.length : Int) ≤ 64) ∨ ((8 : Int) < ws.length ∧ ¬ (ws.length : Int) ≤ 64 ∧ (65 : Int) < ws.length) ∨ ((8 : Int) < ws.length ∧ ¬ (ws.length : Int) ≤ 64 ∧ ¬ (65 : Int) < ws.length) ∨ (¬ (8 : Int) < ws.length ∧ ¬ (65 : Int) < ws.length) := by omega
  rcases hc with ⟨h1, h2⟩ | ⟨h1, h2, h3⟩ | hc
  · simp -implicitDefEqProofs only [Tryd.ntmps12, Tryd.results12, Nat.reduceSub, Zv, h1, h2, go_sem]
    exact big _ (by omega)
  · simp -implicitDefEqProofs only [Tryd.ntmps12, Tryd.results12, Nat.reduceSub, Zv, h1, h2, h3, go_sem]
    exact big _ (by omega)
  have hsm := small (by omega); rw [hsm]; rcases hc with ⟨h1, h2, h3⟩ | ⟨h1, h2⟩
  simp -implicitDefEqProofs only [Tryd.ntmps12, Tryd.results12, Nat.reduceSub, Zv, h1, h2, h3, go_sem]
  rotate_left
  simp -implicitDefEqProofs only [Tryd.ntmps12, Tryd.results12, Nat.reduceSub, Zv, h1, h2, go_sem]
  all_goals (
    clear big small hsm
    refine AWp.loopI (fun k : Nat => ⟨mkF 52 [(1, .ptr 0 0), (2, .p (.bool false)), (3, .p (.int .i64 k))], [Zi q ws]⟩)
      (fun k => k ≤ ws.length ∧ (ws.take k).any Z0k = false) (fun k => ws.length - k) 0 (by simp [go_sem, Zi]) (by simp) ?_
    rintro k ⟨hk, hno⟩; refine Wd [] ?_; simp +contextual -implicitDefEqProofs only [go_sem, Z3, ↓reduceIte, Zi]; have key : ∀ h : k < ws.length, Z0k ws[k] = true → ws.any Z0k = true := fun h h' => List.any_eq_true.2 ⟨_, List.getElem_mem h, h'⟩
    have step : ∀ h : k < ws.length, Z0k ws[k] = false → InR IntKind.i64 (↑k + 1) ∧ ∃ y : Nat, (↑y : Int) = ↑k + 1 ∧ (y ≤ ws.length ∧ (List.take y ws).any Z0k = false) ∧ ws.length - y < ws.length - k := fun h h' =>
      ⟨by simp only [InR]; omega, k + 1, by simp, ⟨h, by rw [List.take_succ_eq_append_getElem h, List.any_append, hno]; simp [h']⟩, by omega⟩
    have yes : ∀ (h : k < ws.length), Z0k ws[k] = true → true = (false || ws.any Z0k) := fun h h' => by rw [key h h']; rfl
    have fin : ¬ k < ws.length → ws.any Z0k = false := fun h => by rw [List.take_of_length_le (by omega)] at hno; exact hno
    refine ⟨fun h => ⟨fun h1 => ⟨fun h2 => yes h ?_, fun h2 => ⟨fun h3 => yes h ?_, fun h3 => step h ?_⟩⟩, fun h1 => ⟨fun h3 => yes h ?_, fun h3 => step h ?_⟩⟩, fun h => ?_⟩
    · simp only [Z0k, Bool.or_eq_true, Bool.and_eq_true, decide_eq_true_eq]; omega
    · simp only [Z0k, Bool.or_eq_true, Bool.and_eq_true, decide_eq_true_eq]; omega
    · simp only [Z0k, Bool.or_eq_false_iff, Bool.and_eq_false_iff, decide_eq_false_iff_not]; omega
    · simp only [Z0k, Bool.or_eq_true, Bool.and_eq_true, decide_eq_true_eq]; omega
    · simp only [Z0k, Bool.or_eq_false_iff, Bool.and_eq_false_iff, decide_eq_false_iff_not]; omega
    · rw [fin h]; rfl)

def axT : FuncId → List AV → Option AV := fun f args => match f, args with
  | 81, [.p (.str s), .p (.int .u8 c)] => some (.p (.int .i64 (ixB c.toNat.toUInt8 s 0)))
  | 93, [.p (.str a), .p (.str b)] => some (.p (.int .i64 (cmpB a b)))
  | _, _ => none

theorem Zcx : ∀ f args v, axT f args = some v → AX Tryd.prog f args v := by
  intro f args v h; unfold axT at h
  split at h
  · injection h with h; subst h
    exact Zbz Tryd.func81 (by kernel_rfl) (by kernel_rfl) (by kernel_rfl) (by kernel_rfl) _ _
  · injection h with h; subst h
    exact Z90 Tryd.func93 (by kernel_rfl) (by kernel_rfl) (by kernel_rfl) (by kernel_rfl) _ _
  · cases h


theorem x126 (s : List UInt8) (c : Int) : AX Tryd.prog 81 [.p (.str s), .p (.int .u8 c)] (.p (.int .i64 (ixB c.toNat.toUInt8 s 0))) := Zcx _ _ _ rfl
theorem x127 (s t : List UInt8) : AX Tryd.prog 93 [.p (.str s), .p (.str t)] (.p (.int .i64 (cmpB s t))) := Zcx _ _ _ rfl

theorem t113 (s : List UInt8) (c : Int) : PFn Tryd.prog 66 [.str s, .int .u8 c] [.int .i64 (ixB c.toNat.toUInt8 s 0)] := by
  refine PFn.of_body hΓ Tryd.func66 (by kernel_rfl) rfl (Wd [] ?_); simp +contextual -implicitDefEqProofs only [Tryd.ntmps66, Tryd.results66, Nat.reduceAdd, Nat.reduceSub, go_sem]; refine Z8f (x126 s c) ?_; simp +contextual -implicitDefEqProofs only [go_sem]

theorem t101 (s : List UInt8) (c : Int) : PFn Tryd.prog 38 [.str s, .int .u8 c] [.int .i64 (ixB c.toNat.toUInt8 s 0)] := by
  refine PFn.of_body hΓ Tryd.func38 (by kernel_rfl) rfl (Wd [] ?_); simp +contextual -implicitDefEqProofs only [Tryd.ntmps38, Tryd.results38, Nat.reduceAdd, Nat.reduceSub, go_sem]; refine Z0 (t113 s c) (.pures rfl) ?_; simp +contextual -implicitDefEqProofs only [go_sem]

theorem t115 (s t : List UInt8) : PFn Tryd.prog 82 [.str s, .str t] [.int .i64 (cmpB s t)] := by
  refine PFn.of_body hΓ Tryd.func82 (by kernel_rfl) rfl (Wd [] ?_); simp +contextual -implicitDefEqProofs only [Tryd.ntmps82, Tryd.results82, Nat.reduceAdd, Nat.reduceSub, go_sem]; refine Z8f (x127 s t) ?_; simp +contextual -implicitDefEqProofs only [go_sem]

theorem t104 (s t : List UInt8) : PFn Tryd.prog 68 [.str s, .str t] [.int .i64 (cmpB s t)] := by
  refine PFn.of_body hΓ Tryd.func68 (by kernel_rfl) rfl (Wd [] ?_); simp +contextual -implicitDefEqProofs only [Tryd.ntmps68, Tryd.results68, Nat.reduceAdd, Nat.reduceSub, go_sem]; refine Z0 (t115 s t) (.pures rfl) ?_; simp +contextual -implicitDefEqProofs only [go_sem]

theorem t114 (x : Int) : PFn Tryd.prog 72 [.int .i64 x] [.bool false] := by
  refine PFn.of_body hΓ Tryd.func72 (by kernel_rfl) rfl (Wd [] ?_); simp +contextual -implicitDefEqProofs only [Tryd.ntmps72, Tryd.results72, Nat.reduceAdd, Nat.reduceSub, go_sem]

def cmpI (x y : Int) : Int := if x < y then -1 else if y < x then 1 else 0
theorem t103 (x y : Int) : PFn Tryd.prog 48 [.int .i64 x, .int .i64 y] [.int .i64 (cmpI x y)] := by
  refine PFn.of_body hΓ Tryd.func48 (by kernel_rfl) rfl (Wd [] ?_); simp +contextual -implicitDefEqProofs only [Tryd.ntmps48, Tryd.results48, Nat.reduceAdd, Nat.reduceSub, go_sem]; refine Z0 (t114 x) (.pures rfl) ?_; simp +contextual -implicitDefEqProofs only [go_sem]; refine Z0 (t114 y) (.pures rfl) ?_; simp +contextual -implicitDefEqProofs only [go_sem]; unfold cmpI; exact ⟨fun h => by rw [if_pos h], fun h => ⟨fun h' => by rw [if_neg h, if_pos h'], fun h' => by rw [if_neg h, if_neg h']⟩⟩

theorem t100 (x : Int) : PFn Tryd.prog 67 [.int .i64 x] [.bool (decide (1 ≤ x) && decide (x ≤ 16))] := by
  refine PFn.of_body hΓ Tryd.func67 (by kernel_rfl) rfl (Wd [] ?_); simp +contextual -implicitDefEqProofs only [Tryd.ntmps67, Tryd.results67, Nat.reduceAdd, Nat.reduceSub, go_sem]; intro _; rfl

def Z16 (l : List Int) : Int := (l.find? fun x => decide (x ≠ 0)).getD 0
theorem Z4z {l : List Int} {k : Nat} (hk : k < l.length) (h0 : ∀ x ∈ l.take k, x = 0) (h1 : l[k] ≠ 0) : Z16 l = l[k] := by
  have e : l = l.take k ++ l[k] :: l.drop (k + 1) := by rw [← List.drop_eq_getElem_cons hk, List.take_append_drop]
  unfold Z16; have e2 : l.find? (fun x => decide (x ≠ 0)) = some l[k] := by
    conv => lhs; rw [e]
    rw [List.find?_append, List.find?_eq_none.2 (fun x hx => by simpa using h0 x hx), List.find?_cons, decide_eq_true h1]; rfl
  rw [e2]; rfl
theorem Z39 {l : List Int} (h0 : ∀ x ∈ l, x = 0) : Z16 l = 0 := by
  unfold Z16; rw [List.find?_eq_none.2 (fun x hx => by simpa using h0 x hx)]; rfl

theorem t102 (l : List Int) (hl : l.length ≤ 9223372036854775807) : PFn Tryd.prog 47 [.sl (l.map (.int .i64))] [.int .i64 (Z16 l)] := by
  refine PFn.of_body hΓ Tryd.func47 (by kernel_rfl) rfl (Wd [] ?_); simp +contextual -implicitDefEqProofs only [Tryd.ntmps47, Tryd.results47, Nat.reduceAdd, Nat.reduceSub, go_sem]
  refine AWp.loopI (fun k : Nat => ⟨mkF 18 [(0, .p (.sl (l.map (.int .i64)))), (2, .p (.int .i64 0)), (3, .p (.int .i64 0)), (6, .p (.sl (l.map (.int .i64)))), (7, .p (.int .i64 l.length)), (8, .p (.int .i64 k))], []⟩)
    (fun k => k ≤ l.length ∧ ∀ x ∈ l.take k, x = 0) (fun k => l.length - k) 0 (by simp [go_sem]) (by simp) ?_
  rintro k ⟨hk, h0⟩; refine Wd [] ?_; simp +contextual -implicitDefEqProofs only [Z3, ↓reduceIte, go_sem]; refine ⟨fun hlt => ⟨fun he => ⟨by simp only [InR]; omega, k + 1, by simp, ⟨hlt, ?_⟩, by omega⟩, fun hne => (Z4z hlt h0 hne).symm⟩, fun hge => ?_⟩
  · rw [List.take_succ_eq_append_getElem hlt]
    intro x hx; rcases List.mem_append.1 hx with h | h
    · exact h0 x h
    · simp only [List.mem_singleton] at h; rw [h, he]
  · rw [List.take_of_length_le (by omega)] at h0
    exact (Z39 h0).symm

def cmpW (a b : List UInt8) : Int := if a.length < b.length then -1 else if b.length < a.length then 1 else cmpB a b
theorem t81 (a b : List UInt8) : PFn Tryd.prog 43 [.str a, .str b] [.int .i64 (cmpW a b)] := by
  refine PFn.of_body hΓ Tryd.func43 (by kernel_rfl) rfl (Wd [] ?_); simp +contextual -implicitDefEqProofs only [Tryd.ntmps43, Tryd.results43, Nat.reduceAdd, Nat.reduceSub, go_sem]; refine Z0 (t103 a.length b.length) (.pures rfl) ?_; simp +contextual -implicitDefEqProofs only [go_sem]; refine Z0 (t104 a b) (.pures rfl) ?_; simp +contextual -implicitDefEqProofs only [go_sem]; refine ⟨⟨by simp [Zp, PV.cells], by omega⟩, Z0 (t102 [cmpI a.length b.length, cmpB a b] (by simp)) (.still rfl) ?_⟩; simp +contextual -implicitDefEqProofs only [go_sem]
  congr 2
  unfold Z16 cmpI cmpW; by_cases h1 : a.length < b.length
  · simp [h1]
  · by_cases h2 : b.length < a.length
    · simp [h1, h2]
    · simp [h1, h2]
      by_cases h3 : cmpB a b = 0 <;> simp [h3]

def L16 : List UInt8 := [48, 49, 50, 51, 52, 53, 54, 55, 56, 57, 97, 98, 99, 100, 101, 102]

def okB (q : Int) (b : UInt8) : Bool := decide (0 ≤ ixB b L16 0) && decide (ixB b L16 0 < q)
def okW (q : Int) (w : List UInt8) : Bool := w.all (okB q)
def Ze (q : Int) (w : List UInt8) : Int := if q < 1 ∨ 16 < q then 12 else if 65536 < w.length then 4 else if okW q w then 0 else 13

theorem Zbl {q : Int} {w : List UInt8} {k : Nat} (hk : k < w.length) (h0 : okW q (w.take k) = true) (h1 : okB q (w.getD k 0) = true) : okW q (w.take (k + 1)) = true := by
  rw [List.getD_eq_getElem?_getD, List.getElem?_eq_getElem hk, Option.getD_some] at h1; rw [List.take_succ_eq_append_getElem hk]; unfold okW at h0 ⊢; rw [List.all_append, h0]; simp [h1]
theorem Z53 {q : Int} {w : List UInt8} {k : Nat} (hq : ¬ q < 1) (hq2 : ¬ 16 < q) (hl : ¬ 65536 < w.length) (hk : k < w.length) (h1 : okB q (w.getD k 0) = false) : Ze q w = 13 := by
  rw [List.getD_eq_getElem?_getD, List.getElem?_eq_getElem hk, Option.getD_some] at h1; unfold Ze; rw [if_neg (by omega), if_neg hl, if_neg]; intro h; have := List.all_eq_true.1 h _ (List.getElem_mem hk); rw [h1] at this; cases this
theorem Z23 {q : Int} {w : List UInt8} (hq : ¬ q < 1) (hq2 : ¬ 16 < q) (hl : ¬ 65536 < w.length) (h1 : okW q w = true) : Ze q w = 0 := by
  unfold Ze; rw [if_neg (by omega), if_neg hl, if_pos h1]
theorem Z5q {q : Int} {w : List UInt8} (hq : q < 1 ∨ 16 < q) : Ze q w = 12 := by unfold Ze; rw [if_pos hq]
theorem Z6u {q : Int} {w : List UInt8} (hq : ¬ q < 1) (hq2 : ¬ 16 < q) (hl : 65536 < w.length) : Ze q w = 4 := by unfold Ze; rw [if_neg (by omega), if_pos hl]

theorem Z86 (c : UInt8) : ∀ (l : List UInt8) (k m : Nat), decide (ixB c (l.take m) k < 0) = !(decide (0 ≤ ixB c l k) && decide (ixB c l k < k + m))
  | [], k, m => by simp [ixB]
  | a :: l, k, 0 => by
    have := Za6 c (a :: l) k; have hge := Lib.indexByte_ge (a :: l) c; rw [List.take_zero, this]; simp only [ixB]
    split <;> simp <;> omega
  | a :: l, k, m + 1 => by
    have ih := Z86 c l (k + 1) m; rw [List.take_succ_cons]; unfold ixB
    cases h : Nat.beq a.toNat c.toNat
    · simp only [h]
      rw [ih]
      congr 3
      push_cast; exact propext ⟨fun h => by omega, fun h => by omega⟩
    · simp only [h]
      rw [decide_eq_false (by omega), decide_eq_true (by omega), decide_eq_true (by omega)]; rfl

theorem t80 (q : Int) (w : List UInt8) : PFn Tryd.prog 40 [.int .i64 q, .str w] [.int .i64 (Ze q w)] := by
  refine PFn.of_body hΓ Tryd.func40 (by kernel_rfl) rfl (Wd [(8, 7)] ?_); simp +contextual -implicitDefEqProofs only [Tryd.ntmps40, Tryd.results40, Nat.reduceAdd, Nat.reduceSub, go_sem]; refine Z0 (t100 q) (.pures rfl) ?_
  cases hq : (decide (1 ≤ q) && decide (q ≤ 16))
  · simp -implicitDefEqProofs only [go_sem]
    simp only [Bool.and_eq_false_iff, decide_eq_false_iff_not] at hq; exact (Z5q (by omega)).symm
  simp -implicitDefEqProofs only [go_sem]; simp only [Bool.and_eq_true, decide_eq_true_eq] at hq; refine ⟨fun h3 => (Z6u (by omega) (by omega) (by omega)).symm, fun h3 => ?_⟩; have h1 : ¬ q < 1 := by omega
  have h2 : ¬ 16 < q := by omega
  have h3' : ¬ 65536 < w.length := by omega
  refine AWp.loopI (fun k : Nat => ⟨mkF 27 [(0, .p (.int .i64 q)), (1, .p (.str w)), (4, .p (.int .i64 0)), (15, .p (.int .i64 w.length)), (16, .p (.int .i64 k))], []⟩)
    (fun k => k ≤ w.length ∧ okW q (w.take k) = true) (fun k => w.length - k) 0 (by simp [go_sem]) (by simp [okW]) ?_
  rintro k ⟨hk, h0⟩; refine Wd [(8, 7)] ?_; simp +contextual -implicitDefEqProofs only [Z3, ↓reduceIte, go_sem]; refine ⟨fun hlt => ⟨by omega, Zb (t101 _ (w.getD k 0).toNat) (.pures rfl) ?_⟩, fun hge => ?_⟩
  · simp +contextual -implicitDefEqProofs only [hlt, ↓reduceIte, go_sem]
    have good : okB q (w.getD k 0) = true → InR .i64 ((k : Int) + 1) ∧ ∃ y : Nat, (y : Int) = (k : Int) + 1 ∧ (y ≤ w.length ∧ okW q (w.take y) = true) ∧ w.length - y < w.length - k := fun h => ⟨by simp only [InR]; omega, k + 1, by simp, ⟨hlt, Zbl hlt h0 h⟩, by omega⟩
    have bad : okB q (w.getD k 0) = false → (13 : Int) = Ze q w := fun h => (Z53 h1 h2 h3' hlt h).symm
    have key : decide (ixB (w.getD k 0) (L16.take q.toNat) 0 < 0) = !okB q (w.getD k 0) := by
      rw [Z86, okB, show ((0 : Nat) : Int) + (q.toNat : Nat) = q by omega]
    have e : (w.getD k 0).toNat.toUInt8 = w.getD k 0 := by simp
    rw [e]; refine ⟨fun e1 => bad ?_, fun e1 => good ?_⟩
    · have := decide_eq_true e1
      rw [show ixB (w.getD k 0) (List.take q.toNat [48, 49, 50, 51, 52, 53, 54, 55, 56, 57, 97, 98, 99, 100, 101, 102]) 0 = ixB (w.getD k 0) (L16.take q.toNat) 0 from rfl, key] at this
      simpa using this
    · have := decide_eq_false e1
      rw [show ixB (w.getD k 0) (List.take q.toNat [48, 49, 50, 51, 52, 53, 54, 55, 56, 57, 97, 98, 99, 100, 101, 102]) 0 = ixB (w.getD k 0) (L16.take q.toNat) 0 from rfl, key] at this
      simpa using this
  · rw [List.take_of_length_le (by omega)] at h0
    exact (Z23 h1 h2 h3' h0).symm

def Zs (q : Int) (ws : List (List UInt8)) (i : Nat) : Int :=
  let w := ws.getD i []
  if w = [] then 5 else if 32 < w.length then 4 else if Ze q w ≠ 0 then 13 else if 0 < i ∧ 0 ≤ cmpW (ws.getD (i - 1) []) w then 10 else 0
def Z4 (q : Int) (ws : List (List UInt8)) : Int :=
  if q < 2 ∨ 16 < q then 12 else if ws.length = 0 then 5 else if 64 < ws.length then 4 else Z16 ((List.range ws.length).map (Zs q ws))

theorem Z3c {q : Int} {ws : List (List UInt8)} (h : q < 2 ∨ 16 < q) : Z4 q ws = 12 := by unfold Z4; rw [if_pos h]
theorem Z7i {q : Int} {ws : List (List UInt8)} (h : ¬ (q < 2 ∨ 16 < q)) (h1 : ws.length = 0) : Z4 q ws = 5 := by unfold Z4; rw [if_neg h, if_pos h1]
theorem Z7j {q : Int} {ws : List (List UInt8)} (h : ¬ (q < 2 ∨ 16 < q)) (h1 : ¬ ws.length = 0) (h2 : 64 < ws.length) : Z4 q ws = 4 := by unfold Z4; rw [if_neg h, if_neg h1, if_pos h2]
theorem Z6m {q : Int} {ws : List (List UInt8)} (h : ¬ (q < 2 ∨ 16 < q)) (h2 : ¬ 64 < ws.length) {k : Nat} (hk : k < ws.length) (h0 : ∀ j, j < k → Zs q ws j = 0) (h1 : Zs q ws k ≠ 0) :
    Z4 q ws = Zs q ws k := by
  unfold Z4; rw [if_neg h, if_neg (by omega), if_neg h2, Z4z (k := k) (by simpa using hk) (fun x hx => ?_) (by simpa using h1)]
  · simp
  · rw [← List.map_take, List.take_range] at hx
    obtain ⟨j, hj, rfl⟩ := List.mem_map.1 hx; exact h0 j (by have := List.mem_range.1 hj; omega)
theorem Z7k {q : Int} {ws : List (List UInt8)} (h : ¬ (q < 2 ∨ 16 < q)) (h1 : ¬ ws.length = 0) (h2 : ¬ 64 < ws.length) (h0 : ∀ j, j < ws.length → Zs q ws j = 0) : Z4 q ws = 0 := by
  unfold Z4; rw [if_neg h, if_neg h1, if_neg h2, Z39]; intro x hx; obtain ⟨j, hj, rfl⟩ := List.mem_map.1 hx; exact h0 j (List.mem_range.1 hj)

theorem t45 (q : Int) (ws : List (List UInt8)) : PFn Tryd.prog 28 [Zv q ws] [.int .i64 (Z4 q ws)] := by
  refine PFn.of_body hΓ Tryd.func28 (by kernel_rfl) rfl (Wd [] ?_); simp +contextual -implicitDefEqProofs only [Zv, Tryd.ntmps28, Tryd.results28, Nat.reduceAdd, Nat.reduceSub, go_sem]; refine ⟨fun h => (Z3c (.inl h)).symm, fun h1 => ⟨fun h => (Z3c (.inr h)).symm, fun h2 => ⟨fun h => (Z7i (by omega) (by omega)).symm, fun h3 => ⟨fun h => (Z7j (by omega) (by omega) (by omega)).symm, fun h4 => ?_⟩⟩⟩⟩; have hq : ¬ (q < 2 ∨ 16 < q) := by omega
  have hn : ¬ ws.length = 0 := by omega
  have hl : ¬ 64 < ws.length := by omega
  refine AWp.loopI (fun k : Nat => ⟨mkF 60 [(1, .ptr 0 0), (2, .p (.int .i64 0)), (25, .p (.sl (ws.map .str))), (26, .p (.int .i64 ws.length)), (27, .p (.int .i64 k))], [Zi q ws]⟩)
    (fun k => k ≤ ws.length ∧ ∀ j, j < k → Zs q ws j = 0) (fun k => ws.length - k) 0 (by simp [go_sem, Zi]) (by simp) ?_
  rintro k ⟨hk, h0⟩; refine Wd [] ?_; simp +contextual -implicitDefEqProofs only [Z3, ↓reduceIte, Zi, go_sem]; refine ⟨fun hlt => ?_, fun hge => (Z7k hq hn hl (fun j hj => h0 j (by omega))).symm⟩; have bad : Zs q ws k ≠ 0 → Zs q ws k = Z4 q ws := fun h => (Z6m hq hl hlt h0 h).symm
  have hw : ws.getD k [] = ws[k] := by rw [List.getD_eq_getElem?_getD, List.getElem?_eq_getElem hlt, Option.getD_some]
  have good : Zs q ws k = 0 → InR .i64 ((k : Int) + 1) ∧ ∃ y : Nat, (y : Int) = (k : Int) + 1 ∧ (y ≤ ws.length ∧ ∀ j, j < y → Zs q ws j = 0) ∧ ws.length - y < ws.length - k :=
    fun h => ⟨by simp only [InR]; omega, k + 1, by simp, ⟨hlt, fun j hj => by by_cases h' : j = k; · subst h'; exact h
                                                                              · exact h0 j (by omega)⟩, by omega⟩
  have e5 : ws[k] = [] → Zs q ws k = 5 := fun h => by unfold Zs; rw [hw, if_pos h]
  have e4 : ¬ ws[k] = [] → 32 < ws[k].length → Zs q ws k = 4 := fun h h' => by unfold Zs; rw [hw, if_neg h, if_pos h']
  have e13 : ¬ ws[k] = [] → ¬ 32 < ws[k].length → Ze q ws[k] ≠ 0 → Zs q ws k = 13 := fun h h' h'' => by unfold Zs; rw [hw, if_neg h, if_neg h', if_pos h'']
  have eL : ¬ ws[k] = [] → ¬ 32 < ws[k].length → Ze q ws[k] = 0 → Zs q ws k = if 0 < k ∧ 0 ≤ cmpW (ws.getD (k - 1) []) ws[k] then 10 else 0 := fun h h' h'' => by unfold Zs; rw [hw, if_neg h, if_neg h', if_neg (by omega)]
  refine ⟨fun h => by have := e5 h; rw [← bad (by omega)]; omega, fun n5 => ⟨fun h => by have := e4 n5 (by omega); rw [← bad (by omega)]; omega, fun n4 => Z0 (t80 q ws[k]) (.pures rfl) ?_⟩⟩; simp +contextual -implicitDefEqProofs only [Z3, ↓reduceIte, Zi, hlt, go_sem]; refine ⟨fun h => ⟨fun hp => ?_, fun hp => good (by rw [eL n5 (by omega) h, if_neg (by omega)])⟩, fun n13 => by have := e13 n5 (by omega) n13; rw [← bad (by omega)]; omega⟩; have hk1 : ((k : Int) - 1).toNat = k - 1 := by omega
  have hlt1 : k - 1 < ws.length := by omega
  have hw1 : ws.getD (k - 1) [] = ws[k - 1] := by rw [List.getD_eq_getElem?_getD, List.getElem?_eq_getElem hlt1, Option.getD_some]
  rw [hw1] at eL; simp +contextual -implicitDefEqProofs only [hk1, Z3, hlt1, ↓reduceIte, Zi, go_sem]; refine ⟨by simp only [InR]; omega, by omega, ?_⟩; refine Z0 (t81 ws[k - 1] ws[k]) (.pures rfl) ?_; simp +contextual -implicitDefEqProofs only [Z3, ↓reduceIte, Zi, hlt, go_sem]; refine ⟨fun hc => ?_, fun hc => good (by rw [eL n5 (by omega) h, if_neg (fun e => hc e.2)])⟩; have := eL n5 (by omega) h; rw [if_pos ⟨by omega, hc⟩] at this; rw [← bad (by omega)]; omega


theorem t85 (w x : List UInt8) : PFn Tryd.prog 83 [.str w, .str x] [.bool (x.isPrefixOf w)] := by
  refine PFn.of_body hΓ Tryd.func83 (by kernel_rfl) rfl (Wd [] ?_); simp +contextual -implicitDefEqProofs only [Tryd.ntmps83, Tryd.results83, Nat.reduceAdd, Nat.reduceSub, go_sem]; refine ⟨fun h => ?_, fun h => ?_⟩
  · rw [Bool.eq_iff_iff, List.isPrefixOf_iff_prefix, List.prefix_iff_eq_take, decide_eq_true_eq]; exact eq_comm
  · rw [Bool.eq_iff_iff, List.isPrefixOf_iff_prefix]
    exact ⟨fun h => by simp at h, fun h' => absurd h'.length_le (by omega)⟩

theorem t69 (w x : List UInt8) : PFn Tryd.prog 70 [.str w, .str x] [.bool (x.isPrefixOf w)] := by
  refine PFn.of_body hΓ Tryd.func70 (by kernel_rfl) rfl (Wd [] ?_); simp +contextual -implicitDefEqProofs only [Tryd.ntmps70, Tryd.results70, Nat.reduceAdd, Nat.reduceSub, go_sem]; refine Z0 (t85 w x) (.pures rfl) ?_; simp +contextual -implicitDefEqProofs only [go_sem]

end Go.Proofs.YtnilegembmcelaaDoor
end

section
namespace Go.Proofs.YtnilegembmcelaaDoor
open Go Go.AM Go.RowKit Go.ChangeShapes

theorem own : ownKnob Tryd.prog.godebug = none := by kernel_rfl
theorem Ze8 : laidOutB Tryd.prog = true := by kernel_rfl

def Zcu : Sh := .agg [.int .i64, .sl .str]

theorem Zd3 {l : List PV} (h : ∀ i, i < l.length → Fit .str (l.getD i default)) : ∃ ws : List (List UInt8), l = ws.map .str ∧ ∀ w ∈ ws, w.length ≤ maxLen := by
  induction l with
  | nil => exact ⟨[], rfl, by simp⟩
  | cons x l ih =>
    obtain ⟨ws, h1, h2⟩ := ih (fun i hi => h (i + 1) (by simpa using hi)); have h0 := h 0 (by simp); simp only [List.getD_cons_zero] at h0
    cases h0 with
    | str s hs => exact ⟨s :: ws, by rw [h1]; rfl, fun w hw => by
        rcases List.mem_cons.1 hw with rfl | hw
        · exact hs
        · exact h2 w hw⟩
theorem Zb4 {p : PV} (h : Fit (.sl .str) p) : ∃ ws : List (List UInt8), p = .sl (ws.map .str) ∧ ws.length ≤ maxLen ∧ ∀ w ∈ ws, w.length ≤ maxLen := by
  cases h with
  | sl _ l h1 h2 =>
    obtain ⟨ws, rfl, h3⟩ := Zd3 h2; exact ⟨ws, rfl, by simpa using h1, h3⟩
theorem Zek {p : PV} (h : Fit Zcu p) : ∃ (q : Int) (ws : List (List UInt8)), p = Zv q ws ∧ InR .i64 q ∧ ws.length ≤ maxLen ∧ ∀ w ∈ ws, w.length ≤ maxLen := by
  cases h with
  | agg _ l h1 h2 =>
    match l, h1 with
    | [x, y], _ =>
      have h3 := h2 0 (by simp); have h4 := h2 1 (by simp); simp only [List.getD_cons_zero, List.getD_cons_succ] at h3 h4; obtain ⟨ws, rfl, h5⟩ := Zb4 h4
      cases h3 with
      | int _ n hn => exact ⟨n, ws, rfl, hn, h5⟩
end Go.Proofs.YtnilegembmcelaaDoor
end

section
namespace Go.Proofs.YtnilegembmcelaaDoor
open Go Go.AM Go.RowKit

def Zbp : List (String × DataW Unit) := [("math/bits.deBruijn32tab", Rows.laid_math_bits_deBruijn32tab), ("math/bits.deBruijn64tab", Rows.laid_math_bits_deBruijn64tab)]
theorem gTabA : Tryd.prog.globalNamed "math/bits.deBruijn32tab" = some 0 := by kernel_rfl
theorem gTabB : Tryd.prog.globalNamed "math/bits.deBruijn64tab" = some 1 := by kernel_rfl
theorem tTabA : (Tryd.prog.globals[0]?).map (·.type) = some 115 := by kernel_rfl
theorem tTabB : (Tryd.prog.globals[1]?).map (·.type) = some 116 := by kernel_rfl
theorem Zj9 : Tryd.prog.cellsOf 5 = 1 := by kernel_rfl

theorem Zbv (os : Os) (args : Array Value) : laidMetH Tryd.prog Zbp ((World.doorLaid Tryd.prog 2000 os).forCall (fun _ _ => 0) ⟨#[], args, []⟩).memory :=
  laidMetH_of_parts3 (fuel := 8) (laidMet_of_run' 8 (by kernel_rfl) (by kernel_rfl)) (by kernel_rfl) (by kernel_rfl)

theorem Ze7 {W : World} (h : laidMetH Tryd.prog Zbp W) : Laid (fun g => g < W.heap.size) W := by
  rw [MakeChecks.laidMetH_plain _ _ _ (by kernel_rfl)] at h; obtain ⟨ps, ⟨g0, t0, cs0, f0, p0, q0, hg0, ht0, hv0, hd0, ⟨g1, t1, cs1, f1, p1, q1, hg1, ht1, hv1, hd1, _, _⟩, _⟩, _, _⟩ := h; obtain rfl := Option.some.inj (gTabA.symm.trans hg0); obtain rfl := Option.some.inj (gTabB.symm.trans hg1); obtain rfl := Option.some.inj (tTabA.symm.trans ht0); obtain rfl := Option.some.inj (tTabB.symm.trans ht1); intro x hx; unfold tabs at hx; rcases List.mem_cons.1 hx with rfl | hx
  · exact Z7s (nums := [0, 1, 28, 2, 29, 14, 24, 3, 30, 22, 20, 15, 25, 17, 4, 8, 31, 27, 13, 23, 21, 19, 16, 7, 26, 12, 18, 6, 11, 5, 10, 9]) hg0 hv0 Tryd.underlying115 Tryd.underlying5 Zj9 hd0 (by decide)
  · rcases List.mem_cons.1 hx with rfl | hx
    · exact Z7s (nums := [0, 1, 56, 2, 57, 49, 28, 3, 61, 58, 42, 50, 38, 29, 17, 4, 62, 47, 59, 36, 45, 43, 51, 22, 53, 39, 33, 30, 24, 18, 12, 5,
        63, 55, 48, 27, 60, 41, 37, 16, 46, 35, 44, 21, 52, 32, 23, 11, 54, 26, 40, 15, 34, 20, 31, 10, 25, 14, 19, 9, 13, 8, 7, 6]) hg1 hv1 Tryd.underlying116 Tryd.underlying5 Zj9 hd1 (by decide)
    · cases hx
end Go.Proofs.YtnilegembmcelaaDoor
end

