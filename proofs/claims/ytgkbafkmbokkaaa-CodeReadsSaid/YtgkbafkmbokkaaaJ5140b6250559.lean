/-
  The types of the seat's translation, as the walks want them. Printed by wip/gen_ty.py.
  The reference's small functions: what they compute.
  The chapter's examples, reckoned.
  Words and codes: the small functions, of the program and of the reference: what they compute.
  Words: the checks of the program and of the reference.
  Codes: the checks of the program and of the reference.
  Prefixes.
-/
import Derived.Test.YtgkbafkmbokkaaaJcd7c54fe1a4b
import Derived.Test.YtgkbafkmbokkaaaProg
import Derived.KernelRfl
import Derived.Test.YtgkbafkmbokkaaaJ16a1c712b009
import Derived.Test.YtgkbafkmbokkaaaJd118725a0559

section
namespace Go.Proofs.Ytgkbafkmbokkaaa
open Go Go.AM

def Γ : Gam := fun t => match t with
  | 1 => some { td := .other, cells := 1, bytes := 8, zero := some (.cell), isAgg := false }
  | 2 => some { td := .int .i64, cells := 1, bytes := 8, zero := some (.p (.int .i64 0)), isAgg := false }
  | 3 => some { td := .int .i64, cells := 1, bytes := 8, zero := some (.p (.int .i64 0)), isAgg := false }
  | 4 => some { td := .bool, cells := 1, bytes := 1, zero := some (.p (.bool false)), isAgg := false }
  | 5 => some { td := .int .u8, cells := 1, bytes := 1, zero := some (.p (.int .u8 0)), isAgg := false }
  | 6 => some { td := .int .u8, cells := 1, bytes := 1, zero := some (.p (.int .u8 0)), isAgg := false }
  | 7 => some { td := .struct [(0, 2), (1, 3), (2, 4), (3, 6)], cells := 4, bytes := 24, zero := some (.agg [.p (.int .i64 0), .p (.int .i64 0), .p (.bool false), .p (.int .u8 0)]), isAgg := true }
  | 8 => some { td := .struct [(0, 2), (1, 3), (2, 4), (3, 6)], cells := 4, bytes := 24, zero := some (.agg [.p (.int .i64 0), .p (.int .i64 0), .p (.bool false), .p (.int .u8 0)]), isAgg := true }
  | 9 => some { td := .str, cells := 1, bytes := 16, zero := some (.p (.str [])), isAgg := false }
  | 10 => some { td := .str, cells := 1, bytes := 16, zero := some (.p (.str [])), isAgg := false }
  | 11 => some { td := .str, cells := 1, bytes := 16, zero := some (.p (.str [])), isAgg := false }
  | 12 => some { td := .int .u64, cells := 1, bytes := 8, zero := some (.p (.int .u64 0)), isAgg := false }
  | 13 => some { td := .struct [(0, 9), (1, 12)], cells := 2, bytes := 24, zero := some (.agg [.p (.str []), .p (.int .u64 0)]), isAgg := true }
  | 14 => some { td := .struct [(0, 9), (1, 12)], cells := 2, bytes := 24, zero := some (.agg [.p (.str []), .p (.int .u64 0)]), isAgg := true }
  | 15 => some { td := .other, cells := 1, bytes := 8, zero := some (.cell), isAgg := false }
  | 16 => some { td := .other, cells := 1, bytes := 8, zero := some (.cell), isAgg := false }
  | 17 => some { td := .other, cells := 1, bytes := 8, zero := some (.cell), isAgg := false }
  | 18 => some { td := .struct [(0, 17)], cells := 1, bytes := 8, zero := some (.agg [.cell]), isAgg := true }
  | 19 => some { td := .struct [(0, 17)], cells := 1, bytes := 8, zero := some (.agg [.cell]), isAgg := true }
  | 21 => some { td := .int .i32, cells := 1, bytes := 4, zero := some (.p (.int .i32 0)), isAgg := false }
  | 22 => some { td := .slice 9, cells := 1, bytes := 24, zero := some (.full []), isAgg := false }
  | 23 => some { td := .struct [(0, 3), (1, 22)], cells := 2, bytes := 32, zero := some (.agg [.p (.int .i64 0), .full []]), isAgg := true }
  | 24 => some { td := .struct [(0, 3), (1, 22)], cells := 2, bytes := 32, zero := some (.agg [.p (.int .i64 0), .full []]), isAgg := true }
  | 25 => some { td := .other, cells := 1, bytes := 8, zero := some (.cell), isAgg := false }
  | 26 => some { td := .other, cells := 1, bytes := 8, zero := some (.cell), isAgg := false }
  | 27 => some { td := .int .i64, cells := 1, bytes := 8, zero := some (.p (.int .i64 0)), isAgg := false }
  | 29 => some { td := .other, cells := 1, bytes := 8, zero := some (.cell), isAgg := false }
  | 31 => some { td := .other, cells := 1, bytes := 8, zero := some (.cell), isAgg := false }
  | 33 => some { td := .other, cells := 1, bytes := 8, zero := some (.cell), isAgg := false }
  | 34 => some { td := .other, cells := 1, bytes := 8, zero := some (.cell), isAgg := false }
  | 35 => some { td := .other, cells := 1, bytes := 8, zero := some (.cell), isAgg := false }
  | 36 => some { td := .other, cells := 1, bytes := 8, zero := some (.cell), isAgg := false }
  | 37 => some { td := .other, cells := 1, bytes := 8, zero := some (.cell), isAgg := false }
  | 38 => some { td := .other, cells := 1, bytes := 8, zero := some (.cell), isAgg := false }
  | 39 => some { td := .other, cells := 1, bytes := 8, zero := some (.cell), isAgg := false }
  | 40 => some { td := .other, cells := 1, bytes := 8, zero := some (.cell), isAgg := false }
  | 41 => some { td := .other, cells := 1, bytes := 8, zero := some (.cell), isAgg := false }
  | 42 => some { td := .other, cells := 1, bytes := 8, zero := some (.cell), isAgg := false }
  | 43 => some { td := .struct [(0, 4), (1, 9)], cells := 2, bytes := 24, zero := some (.agg [.p (.bool false), .p (.str [])]), isAgg := true }
  | 44 => some { td := .struct [(0, 4), (1, 9)], cells := 2, bytes := 24, zero := some (.agg [.p (.bool false), .p (.str [])]), isAgg := true, eqs := true }
  | 46 => some { td := .other, cells := 1, bytes := 8, zero := some (.cell), isAgg := false }
  | 47 => some { td := .other, cells := 1, bytes := 8, zero := some (.cell), isAgg := false }
  | 48 => some { td := .other, cells := 1, bytes := 8, zero := some (.cell), isAgg := false }
  | 49 => some { td := .other, cells := 1, bytes := 8, zero := some (.cell), isAgg := false }
  | 50 => some { td := .other, cells := 1, bytes := 8, zero := some (.cell), isAgg := false }
  | 51 => some { td := .other, cells := 1, bytes := 8, zero := some (.cell), isAgg := false }
  | 52 => some { td := .other, cells := 1, bytes := 8, zero := some (.cell), isAgg := false }
  | 53 => some { td := .slice 3, cells := 1, bytes := 24, zero := some (.full []), isAgg := false }
  | 55 => some { td := .other, cells := 1, bytes := 8, zero := some (.cell), isAgg := false }
  | 56 => some { td := .slice 53, cells := 1, bytes := 24, zero := some (.full []), isAgg := false }
  | 58 => some { td := .other, cells := 1, bytes := 8, zero := some (.cell), isAgg := false }
  | 59 => some { td := .other, cells := 1, bytes := 8, zero := some (.cell), isAgg := false }
  | 60 => some { td := .other, cells := 1, bytes := 8, zero := some (.cell), isAgg := false }
  | 61 => some { td := .slice 5, cells := 1, bytes := 24, zero := some (.full []), isAgg := false }
  | 62 => some { td := .other, cells := 1, bytes := 8, zero := some (.cell), isAgg := false }
  | 63 => some { td := .other, cells := 1, bytes := 8, zero := some (.cell), isAgg := false }
  | 64 => some { td := .other, cells := 1, bytes := 8, zero := some (.cell), isAgg := false }
  | 65 => some { td := .other, cells := 1, bytes := 8, zero := some (.cell), isAgg := false }
  | 66 => some { td := .other, cells := 1, bytes := 8, zero := some (.cell), isAgg := false }
  | 67 => some { td := .other, cells := 1, bytes := 8, zero := some (.cell), isAgg := false }
  | 68 => some { td := .other, cells := 1, bytes := 8, zero := some (.cell), isAgg := false }
  | 69 => some { td := .other, cells := 1, bytes := 8, zero := some (.cell), isAgg := false }
  | 70 => some { td := .other, cells := 1, bytes := 8, zero := some (.cell), isAgg := false }
  | 71 => some { td := .other, cells := 1, bytes := 8, zero := some (.cell), isAgg := false }
  | 72 => some { td := .other, cells := 1, bytes := 8, zero := some (.cell), isAgg := false }
  | 73 => some { td := .other, cells := 1, bytes := 8, zero := some (.cell), isAgg := false }
  | 74 => some { td := .slice 22, cells := 1, bytes := 24, zero := some (.full []), isAgg := false }
  | 75 => some { td := .other, cells := 1, bytes := 8, zero := some (.cell), isAgg := false }
  | 76 => some { td := .other, cells := 1, bytes := 8, zero := some (.cell), isAgg := false }
  | 77 => some { td := .slice 44, cells := 1, bytes := 24, zero := some (.full []), isAgg := false }
  | 78 => some { td := .other, cells := 1, bytes := 8, zero := some (.cell), isAgg := false }
  | 79 => some { td := .int .u64, cells := 1, bytes := 8, zero := some (.p (.int .u64 0)), isAgg := false }
  | 80 => some { td := .other, cells := 1, bytes := 8, zero := some (.cell), isAgg := false }
  | 81 => some { td := .int .u32, cells := 1, bytes := 4, zero := some (.p (.int .u32 0)), isAgg := false }
  | 82 => some { td := .int .u64, cells := 1, bytes := 8, zero := some (.p (.int .u64 0)), isAgg := false }
  | 83 => some { td := .slice 81, cells := 1, bytes := 24, zero := some (.full []), isAgg := false }
  | 84 => some { td := .slice 81, cells := 1, bytes := 24, zero := some (.full []), isAgg := false }
  | 85 => some { td := .other, cells := 1, bytes := 8, zero := some (.cell), isAgg := false }
  | 86 => some { td := .other, cells := 1, bytes := 8, zero := some (.cell), isAgg := false }
  | 87 => some { td := .other, cells := 1, bytes := 8, zero := some (.cell), isAgg := false }
  | 88 => some { td := .other, cells := 1, bytes := 8, zero := some (.cell), isAgg := false }
  | 89 => some { td := .struct [(0, 88), (1, 61)], cells := 2, bytes := 32, zero := some (.agg [.cell, .full []]), isAgg := true }
  | 90 => some { td := .struct [(0, 88), (1, 61)], cells := 2, bytes := 32, zero := some (.agg [.cell, .full []]), isAgg := true }
  | 94 => some { td := .other, cells := 1, bytes := 8, zero := some (.cell), isAgg := false }
  | 95 => some { td := .other, cells := 1, bytes := 8, zero := some (.cell), isAgg := false }
  | 96 => some { td := .other, cells := 1, bytes := 8, zero := some (.cell), isAgg := false }
  | 97 => some { td := .other, cells := 1, bytes := 8, zero := some (.cell), isAgg := false }
  | 98 => some { td := .other, cells := 1, bytes := 8, zero := some (.cell), isAgg := false }
  | 99 => some { td := .other, cells := 1, bytes := 8, zero := some (.cell), isAgg := false }
  | 100 => some { td := .other, cells := 1, bytes := 8, zero := some (.cell), isAgg := false }
  | 101 => some { td := .other, cells := 1, bytes := 8, zero := some (.cell), isAgg := false }
  | 102 => some { td := .other, cells := 1, bytes := 8, zero := some (.cell), isAgg := false }
  | 103 => some { td := .other, cells := 1, bytes := 8, zero := some (.cell), isAgg := false }
  | 104 => some { td := .other, cells := 1, bytes := 8, zero := some (.cell), isAgg := false }
  | 105 => some { td := .other, cells := 1, bytes := 8, zero := some (.cell), isAgg := false }
  | 106 => some { td := .other, cells := 1, bytes := 8, zero := some (.cell), isAgg := false }
  | 107 => some { td := .other, cells := 1, bytes := 8, zero := some (.cell), isAgg := false }
  | 108 => some { td := .other, cells := 1, bytes := 8, zero := some (.cell), isAgg := false }
  | 109 => some { td := .other, cells := 1, bytes := 8, zero := some (.cell), isAgg := false }
  | 110 => some { td := .other, cells := 1, bytes := 8, zero := some (.cell), isAgg := false }
  | 111 => some { td := .other, cells := 1, bytes := 8, zero := some (.cell), isAgg := false }
  | 112 => some { td := .other, cells := 1, bytes := 8, zero := some (.cell), isAgg := false }
  | 113 => some { td := .other, cells := 1, bytes := 8, zero := some (.cell), isAgg := false }
  | 115 => some { td := .other, cells := 1, bytes := 8, zero := some (.cell), isAgg := false }
  | 116 => some { td := .other, cells := 1, bytes := 8, zero := some (.cell), isAgg := false }
  | 117 => some { td := .other, cells := 1, bytes := 8, zero := some (.cell), isAgg := false }
  | 119 => some { td := .other, cells := 1, bytes := 8, zero := some (.cell), isAgg := false }
  | 120 => some { td := .int .i64, cells := 1, bytes := 8, zero := some (.p (.int .i64 0)), isAgg := false }
  | 122 => some { td := .other, cells := 1, bytes := 8, zero := some (.cell), isAgg := false }
  | 123 => some { td := .other, cells := 1, bytes := 8, zero := some (.cell), isAgg := false }
  | 124 => some { td := .other, cells := 1, bytes := 8, zero := some (.cell), isAgg := false }
  | 126 => some { td := .other, cells := 1, bytes := 8, zero := some (.cell), isAgg := false }
  | 127 => some { td := .other, cells := 1, bytes := 8, zero := some (.cell), isAgg := false }
  | 128 => some { td := .other, cells := 1, bytes := 8, zero := some (.cell), isAgg := false }
  | 129 => some { td := .other, cells := 1, bytes := 8, zero := some (.cell), isAgg := false }
  | 130 => some { td := .int .u64, cells := 1, bytes := 8, zero := some (.p (.int .u64 0)), isAgg := false }
  | 131 => some { td := .other, cells := 1, bytes := 8, zero := some (.cell), isAgg := false }
  | 132 => some { td := .other, cells := 1, bytes := 8, zero := some (.cell), isAgg := false }
  | 133 => some { td := .other, cells := 1, bytes := 8, zero := some (.cell), isAgg := false }
  | 134 => some { td := .other, cells := 1, bytes := 8, zero := some (.cell), isAgg := false }
  | 135 => some { td := .other, cells := 1, bytes := 8, zero := some (.cell), isAgg := false }
  | 136 => some { td := .other, cells := 1, bytes := 8, zero := some (.cell), isAgg := false }
  | 138 => some { td := .other, cells := 1, bytes := 8, zero := some (.cell), isAgg := false }
  | 139 => some { td := .struct [(0, 17), (1, 17), (2, 17), (3, 9)], cells := 4, bytes := 40, zero := some (.agg [.cell, .cell, .cell, .p (.str [])]), isAgg := true }
  | 140 => some { td := .struct [(0, 17), (1, 17), (2, 17), (3, 9)], cells := 4, bytes := 40, zero := some (.agg [.cell, .cell, .cell, .p (.str [])]), isAgg := true }
  | 142 => some { td := .struct [(0, 141)], cells := 0, bytes := 0, zero := some (.agg []), isAgg := true }
  | 143 => some { td := .struct [(0, 141)], cells := 0, bytes := 0, zero := some (.agg []), isAgg := true }
  | 144 => some { td := .other, cells := 1, bytes := 8, zero := some (.cell), isAgg := false }
  | 145 => some { td := .int .u8, cells := 1, bytes := 1, zero := some (.p (.int .u8 0)), isAgg := false }
  | 146 => some { td := .int .u8, cells := 1, bytes := 1, zero := some (.p (.int .u8 0)), isAgg := false }
  | 147 => some { td := .other, cells := 1, bytes := 8, zero := some (.cell), isAgg := false }
  | 148 => some { td := .int .i32, cells := 1, bytes := 4, zero := some (.p (.int .i32 0)), isAgg := false }
  | 149 => some { td := .int .i32, cells := 1, bytes := 4, zero := some (.p (.int .i32 0)), isAgg := false }
  | 150 => some { td := .struct [(0, 12), (1, 12), (2, 81), (3, 145), (4, 5), (5, 5), (6, 146), (7, 147), (8, 107), (9, 148), (10, 149)], cells := 11, bytes := 48, zero := some (.agg [.p (.int .u64 0), .p (.int .u64 0), .p (.int .u32 0), .p (.int .u8 0), .p (.int .u8 0), .p (.int .u8 0), .p (.int .u8 0), .cell, .cell, .p (.int .i32 0), .p (.int .i32 0)]), isAgg := true }
  | 151 => some { td := .struct [(0, 12), (1, 12), (2, 81), (3, 145), (4, 5), (5, 5), (6, 146), (7, 147), (8, 107), (9, 148), (10, 149)], cells := 11, bytes := 48, zero := some (.agg [.p (.int .u64 0), .p (.int .u64 0), .p (.int .u32 0), .p (.int .u8 0), .p (.int .u8 0), .p (.int .u8 0), .p (.int .u8 0), .cell, .cell, .p (.int .i32 0), .p (.int .i32 0)]), isAgg := true }
  | _ => none

theorem g1 : Γ 1 = some { td := .other, cells := 1, bytes := 8, zero := some (.cell), isAgg := false } := rfl
theorem ty1 : TyOK Try.prog 1 { td := .other, cells := 1, bytes := 8, zero := some (.cell), isAgg := false } :=
  tyOK_of (zv := .nilFunc) (by kernel_rfl) (by kernel_rfl) rfl
theorem g2 : Γ 2 = some { td := .int .i64, cells := 1, bytes := 8, zero := some (.p (.int .i64 0)), isAgg := false } := rfl
theorem ty2 : TyOK Try.prog 2 { td := .int .i64, cells := 1, bytes := 8, zero := some (.p (.int .i64 0)), isAgg := false } :=
  tyOK_of (zv := .int .i64 0) (by kernel_rfl) (by kernel_rfl) rfl
theorem g3 : Γ 3 = some { td := .int .i64, cells := 1, bytes := 8, zero := some (.p (.int .i64 0)), isAgg := false } := rfl
theorem ty3 : TyOK Try.prog 3 { td := .int .i64, cells := 1, bytes := 8, zero := some (.p (.int .i64 0)), isAgg := false } :=
  tyOK_of (zv := .int .i64 0) (by kernel_rfl) (by kernel_rfl) rfl
theorem g4 : Γ 4 = some { td := .bool, cells := 1, bytes := 1, zero := some (.p (.bool false)), isAgg := false } := rfl
theorem ty4 : TyOK Try.prog 4 { td := .bool, cells := 1, bytes := 1, zero := some (.p (.bool false)), isAgg := false } :=
  tyOK_of (zv := .bool false) (by kernel_rfl) (by kernel_rfl) rfl
theorem g5 : Γ 5 = some { td := .int .u8, cells := 1, bytes := 1, zero := some (.p (.int .u8 0)), isAgg := false } := rfl
theorem ty5 : TyOK Try.prog 5 { td := .int .u8, cells := 1, bytes := 1, zero := some (.p (.int .u8 0)), isAgg := false } :=
  tyOK_of (zv := .int .u8 0) (by kernel_rfl) (by kernel_rfl) rfl
theorem g6 : Γ 6 = some { td := .int .u8, cells := 1, bytes := 1, zero := some (.p (.int .u8 0)), isAgg := false } := rfl
theorem ty6 : TyOK Try.prog 6 { td := .int .u8, cells := 1, bytes := 1, zero := some (.p (.int .u8 0)), isAgg := false } :=
  tyOK_of (zv := .int .u8 0) (by kernel_rfl) (by kernel_rfl) rfl
theorem g7 : Γ 7 = some { td := .struct [(0, 2), (1, 3), (2, 4), (3, 6)], cells := 4, bytes := 24, zero := some (.agg [.p (.int .i64 0), .p (.int .i64 0), .p (.bool false), .p (.int .u8 0)]), isAgg := true } := rfl
theorem ty7 : TyOK Try.prog 7 { td := .struct [(0, 2), (1, 3), (2, 4), (3, 6)], cells := 4, bytes := 24, zero := some (.agg [.p (.int .i64 0), .p (.int .i64 0), .p (.bool false), .p (.int .u8 0)]), isAgg := true } :=
  tyOK_of (zv := .agg #[.int .i64 0, .int .i64 0, .bool false, .int .u8 0]) (by kernel_rfl) (by kernel_rfl) rfl
theorem g8 : Γ 8 = some { td := .struct [(0, 2), (1, 3), (2, 4), (3, 6)], cells := 4, bytes := 24, zero := some (.agg [.p (.int .i64 0), .p (.int .i64 0), .p (.bool false), .p (.int .u8 0)]), isAgg := true } := rfl
theorem ty8 : TyOK Try.prog 8 { td := .struct [(0, 2), (1, 3), (2, 4), (3, 6)], cells := 4, bytes := 24, zero := some (.agg [.p (.int .i64 0), .p (.int .i64 0), .p (.bool false), .p (.int .u8 0)]), isAgg := true } :=
  tyOK_of (zv := .agg #[.int .i64 0, .int .i64 0, .bool false, .int .u8 0]) (by kernel_rfl) (by kernel_rfl) rfl
theorem g9 : Γ 9 = some { td := .str, cells := 1, bytes := 16, zero := some (.p (.str [])), isAgg := false } := rfl
theorem ty9 : TyOK Try.prog 9 { td := .str, cells := 1, bytes := 16, zero := some (.p (.str [])), isAgg := false } :=
  tyOK_of (zv := .string ⟨#[]⟩) (by kernel_rfl) (by kernel_rfl) rfl
theorem g10 : Γ 10 = some { td := .str, cells := 1, bytes := 16, zero := some (.p (.str [])), isAgg := false } := rfl
theorem ty10 : TyOK Try.prog 10 { td := .str, cells := 1, bytes := 16, zero := some (.p (.str [])), isAgg := false } :=
  tyOK_of (zv := .string ⟨#[]⟩) (by kernel_rfl) (by kernel_rfl) rfl
theorem g11 : Γ 11 = some { td := .str, cells := 1, bytes := 16, zero := some (.p (.str [])), isAgg := false } := rfl
theorem ty11 : TyOK Try.prog 11 { td := .str, cells := 1, bytes := 16, zero := some (.p (.str [])), isAgg := false } :=
  tyOK_of (zv := .string ⟨#[]⟩) (by kernel_rfl) (by kernel_rfl) rfl
theorem g12 : Γ 12 = some { td := .int .u64, cells := 1, bytes := 8, zero := some (.p (.int .u64 0)), isAgg := false } := rfl
theorem ty12 : TyOK Try.prog 12 { td := .int .u64, cells := 1, bytes := 8, zero := some (.p (.int .u64 0)), isAgg := false } :=
  tyOK_of (zv := .int .u64 0) (by kernel_rfl) (by kernel_rfl) rfl
theorem g13 : Γ 13 = some { td := .struct [(0, 9), (1, 12)], cells := 2, bytes := 24, zero := some (.agg [.p (.str []), .p (.int .u64 0)]), isAgg := true } := rfl
theorem ty13 : TyOK Try.prog 13 { td := .struct [(0, 9), (1, 12)], cells := 2, bytes := 24, zero := some (.agg [.p (.str []), .p (.int .u64 0)]), isAgg := true } :=
  tyOK_of (zv := .agg #[.string ⟨#[]⟩, .int .u64 0]) (by kernel_rfl) (by kernel_rfl) rfl
theorem g14 : Γ 14 = some { td := .struct [(0, 9), (1, 12)], cells := 2, bytes := 24, zero := some (.agg [.p (.str []), .p (.int .u64 0)]), isAgg := true } := rfl
theorem ty14 : TyOK Try.prog 14 { td := .struct [(0, 9), (1, 12)], cells := 2, bytes := 24, zero := some (.agg [.p (.str []), .p (.int .u64 0)]), isAgg := true } :=
  tyOK_of (zv := .agg #[.string ⟨#[]⟩, .int .u64 0]) (by kernel_rfl) (by kernel_rfl) rfl
theorem g15 : Γ 15 = some { td := .other, cells := 1, bytes := 8, zero := some (.cell), isAgg := false } := rfl
theorem ty15 : TyOK Try.prog 15 { td := .other, cells := 1, bytes := 8, zero := some (.cell), isAgg := false } :=
  tyOK_of (zv := .pointer none) (by kernel_rfl) (by kernel_rfl) rfl
theorem g16 : Γ 16 = some { td := .other, cells := 1, bytes := 8, zero := some (.cell), isAgg := false } := rfl
theorem ty16 : TyOK Try.prog 16 { td := .other, cells := 1, bytes := 8, zero := some (.cell), isAgg := false } :=
  tyOK_of (zv := .pointer none) (by kernel_rfl) (by kernel_rfl) rfl
theorem g17 : Γ 17 = some { td := .other, cells := 1, bytes := 8, zero := some (.cell), isAgg := false } := rfl
theorem ty17 : TyOK Try.prog 17 { td := .other, cells := 1, bytes := 8, zero := some (.cell), isAgg := false } :=
  tyOK_of (zv := .pointer none) (by kernel_rfl) (by kernel_rfl) rfl
theorem g18 : Γ 18 = some { td := .struct [(0, 17)], cells := 1, bytes := 8, zero := some (.agg [.cell]), isAgg := true } := rfl
theorem ty18 : TyOK Try.prog 18 { td := .struct [(0, 17)], cells := 1, bytes := 8, zero := some (.agg [.cell]), isAgg := true } :=
  tyOK_of (zv := .agg #[.pointer none]) (by kernel_rfl) (by kernel_rfl) rfl
theorem g19 : Γ 19 = some { td := .struct [(0, 17)], cells := 1, bytes := 8, zero := some (.agg [.cell]), isAgg := true } := rfl
theorem ty19 : TyOK Try.prog 19 { td := .struct [(0, 17)], cells := 1, bytes := 8, zero := some (.agg [.cell]), isAgg := true } :=
  tyOK_of (zv := .agg #[.pointer none]) (by kernel_rfl) (by kernel_rfl) rfl
theorem g21 : Γ 21 = some { td := .int .i32, cells := 1, bytes := 4, zero := some (.p (.int .i32 0)), isAgg := false } := rfl
theorem ty21 : TyOK Try.prog 21 { td := .int .i32, cells := 1, bytes := 4, zero := some (.p (.int .i32 0)), isAgg := false } :=
  tyOK_of (zv := .int .i32 0) (by kernel_rfl) (by kernel_rfl) rfl
theorem g22 : Γ 22 = some { td := .slice 9, cells := 1, bytes := 24, zero := some (.full []), isAgg := false } := rfl
theorem ty22 : TyOK Try.prog 22 { td := .slice 9, cells := 1, bytes := 24, zero := some (.full []), isAgg := false } :=
  tyOK_of (zv := .slice none 0 0) (by kernel_rfl) (by kernel_rfl) rfl
theorem g23 : Γ 23 = some { td := .struct [(0, 3), (1, 22)], cells := 2, bytes := 32, zero := some (.agg [.p (.int .i64 0), .full []]), isAgg := true } := rfl
theorem ty23 : TyOK Try.prog 23 { td := .struct [(0, 3), (1, 22)], cells := 2, bytes := 32, zero := some (.agg [.p (.int .i64 0), .full []]), isAgg := true } :=
  tyOK_of (zv := .agg #[.int .i64 0, .slice none 0 0]) (by kernel_rfl) (by kernel_rfl) rfl
theorem g24 : Γ 24 = some { td := .struct [(0, 3), (1, 22)], cells := 2, bytes := 32, zero := some (.agg [.p (.int .i64 0), .full []]), isAgg := true } := rfl
theorem ty24 : TyOK Try.prog 24 { td := .struct [(0, 3), (1, 22)], cells := 2, bytes := 32, zero := some (.agg [.p (.int .i64 0), .full []]), isAgg := true } :=
  tyOK_of (zv := .agg #[.int .i64 0, .slice none 0 0]) (by kernel_rfl) (by kernel_rfl) rfl
theorem g25 : Γ 25 = some { td := .other, cells := 1, bytes := 8, zero := some (.cell), isAgg := false } := rfl
theorem ty25 : TyOK Try.prog 25 { td := .other, cells := 1, bytes := 8, zero := some (.cell), isAgg := false } :=
  tyOK_of (zv := .nilFunc) (by kernel_rfl) (by kernel_rfl) rfl
theorem g26 : Γ 26 = some { td := .other, cells := 1, bytes := 8, zero := some (.cell), isAgg := false } := rfl
theorem ty26 : TyOK Try.prog 26 { td := .other, cells := 1, bytes := 8, zero := some (.cell), isAgg := false } :=
  tyOK_of (zv := .nilFunc) (by kernel_rfl) (by kernel_rfl) rfl
theorem g27 : Γ 27 = some { td := .int .i64, cells := 1, bytes := 8, zero := some (.p (.int .i64 0)), isAgg := false } := rfl
theorem ty27 : TyOK Try.prog 27 { td := .int .i64, cells := 1, bytes := 8, zero := some (.p (.int .i64 0)), isAgg := false } :=
  tyOK_of (zv := .int .i64 0) (by kernel_rfl) (by kernel_rfl) rfl
theorem g29 : Γ 29 = some { td := .other, cells := 1, bytes := 8, zero := some (.cell), isAgg := false } := rfl
theorem ty29 : TyOK Try.prog 29 { td := .other, cells := 1, bytes := 8, zero := some (.cell), isAgg := false } :=
  tyOK_of (zv := .nilFunc) (by kernel_rfl) (by kernel_rfl) rfl
theorem g31 : Γ 31 = some { td := .other, cells := 1, bytes := 8, zero := some (.cell), isAgg := false } := rfl
theorem ty31 : TyOK Try.prog 31 { td := .other, cells := 1, bytes := 8, zero := some (.cell), isAgg := false } :=
  tyOK_of (zv := .nilFunc) (by kernel_rfl) (by kernel_rfl) rfl
theorem g33 : Γ 33 = some { td := .other, cells := 1, bytes := 8, zero := some (.cell), isAgg := false } := rfl
theorem ty33 : TyOK Try.prog 33 { td := .other, cells := 1, bytes := 8, zero := some (.cell), isAgg := false } :=
  tyOK_of (zv := .nilFunc) (by kernel_rfl) (by kernel_rfl) rfl
theorem g34 : Γ 34 = some { td := .other, cells := 1, bytes := 8, zero := some (.cell), isAgg := false } := rfl
theorem ty34 : TyOK Try.prog 34 { td := .other, cells := 1, bytes := 8, zero := some (.cell), isAgg := false } :=
  tyOK_of (zv := .nilFunc) (by kernel_rfl) (by kernel_rfl) rfl
theorem g35 : Γ 35 = some { td := .other, cells := 1, bytes := 8, zero := some (.cell), isAgg := false } := rfl
theorem ty35 : TyOK Try.prog 35 { td := .other, cells := 1, bytes := 8, zero := some (.cell), isAgg := false } :=
  tyOK_of (zv := .nilFunc) (by kernel_rfl) (by kernel_rfl) rfl
theorem g36 : Γ 36 = some { td := .other, cells := 1, bytes := 8, zero := some (.cell), isAgg := false } := rfl
theorem ty36 : TyOK Try.prog 36 { td := .other, cells := 1, bytes := 8, zero := some (.cell), isAgg := false } :=
  tyOK_of (zv := .nilFunc) (by kernel_rfl) (by kernel_rfl) rfl
theorem g37 : Γ 37 = some { td := .other, cells := 1, bytes := 8, zero := some (.cell), isAgg := false } := rfl
theorem ty37 : TyOK Try.prog 37 { td := .other, cells := 1, bytes := 8, zero := some (.cell), isAgg := false } :=
  tyOK_of (zv := .nilFunc) (by kernel_rfl) (by kernel_rfl) rfl
theorem g38 : Γ 38 = some { td := .other, cells := 1, bytes := 8, zero := some (.cell), isAgg := false } := rfl
theorem ty38 : TyOK Try.prog 38 { td := .other, cells := 1, bytes := 8, zero := some (.cell), isAgg := false } :=
  tyOK_of (zv := .nilFunc) (by kernel_rfl) (by kernel_rfl) rfl
theorem g39 : Γ 39 = some { td := .other, cells := 1, bytes := 8, zero := some (.cell), isAgg := false } := rfl
theorem ty39 : TyOK Try.prog 39 { td := .other, cells := 1, bytes := 8, zero := some (.cell), isAgg := false } :=
  tyOK_of (zv := .nilFunc) (by kernel_rfl) (by kernel_rfl) rfl
theorem g40 : Γ 40 = some { td := .other, cells := 1, bytes := 8, zero := some (.cell), isAgg := false } := rfl
theorem ty40 : TyOK Try.prog 40 { td := .other, cells := 1, bytes := 8, zero := some (.cell), isAgg := false } :=
  tyOK_of (zv := .nilFunc) (by kernel_rfl) (by kernel_rfl) rfl
theorem g41 : Γ 41 = some { td := .other, cells := 1, bytes := 8, zero := some (.cell), isAgg := false } := rfl
theorem ty41 : TyOK Try.prog 41 { td := .other, cells := 1, bytes := 8, zero := some (.cell), isAgg := false } :=
  tyOK_of (zv := .nilFunc) (by kernel_rfl) (by kernel_rfl) rfl
theorem g42 : Γ 42 = some { td := .other, cells := 1, bytes := 8, zero := some (.cell), isAgg := false } := rfl
theorem ty42 : TyOK Try.prog 42 { td := .other, cells := 1, bytes := 8, zero := some (.cell), isAgg := false } :=
  tyOK_of (zv := .nilFunc) (by kernel_rfl) (by kernel_rfl) rfl
theorem g43 : Γ 43 = some { td := .struct [(0, 4), (1, 9)], cells := 2, bytes := 24, zero := some (.agg [.p (.bool false), .p (.str [])]), isAgg := true } := rfl
theorem ty43 : TyOK Try.prog 43 { td := .struct [(0, 4), (1, 9)], cells := 2, bytes := 24, zero := some (.agg [.p (.bool false), .p (.str [])]), isAgg := true } :=
  tyOK_of (zv := .agg #[.bool false, .string ⟨#[]⟩]) (by kernel_rfl) (by kernel_rfl) rfl
theorem g44 : Γ 44 = some { td := .struct [(0, 4), (1, 9)], cells := 2, bytes := 24, zero := some (.agg [.p (.bool false), .p (.str [])]), isAgg := true, eqs := true } := rfl
theorem ty44 : TyOK Try.prog 44 { td := .struct [(0, 4), (1, 9)], cells := 2, bytes := 24, zero := some (.agg [.p (.bool false), .p (.str [])]), isAgg := true, eqs := true } :=
  tyOK_ofE (zv := .agg #[.bool false, .string ⟨#[]⟩]) (by kernel_rfl) (by kernel_rfl) rfl (fun _ => ⟨by kernel_rfl, by kernel_rfl, by kernel_rfl⟩)
theorem g46 : Γ 46 = some { td := .other, cells := 1, bytes := 8, zero := some (.cell), isAgg := false } := rfl
theorem ty46 : TyOK Try.prog 46 { td := .other, cells := 1, bytes := 8, zero := some (.cell), isAgg := false } :=
  tyOK_of (zv := .nilFunc) (by kernel_rfl) (by kernel_rfl) rfl
theorem g47 : Γ 47 = some { td := .other, cells := 1, bytes := 8, zero := some (.cell), isAgg := false } := rfl
theorem ty47 : TyOK Try.prog 47 { td := .other, cells := 1, bytes := 8, zero := some (.cell), isAgg := false } :=
  tyOK_of (zv := .nilFunc) (by kernel_rfl) (by kernel_rfl) rfl
theorem g48 : Γ 48 = some { td := .other, cells := 1, bytes := 8, zero := some (.cell), isAgg := false } := rfl
theorem ty48 : TyOK Try.prog 48 { td := .other, cells := 1, bytes := 8, zero := some (.cell), isAgg := false } :=
  tyOK_of (zv := .nilFunc) (by kernel_rfl) (by kernel_rfl) rfl
theorem g49 : Γ 49 = some { td := .other, cells := 1, bytes := 8, zero := some (.cell), isAgg := false } := rfl
theorem ty49 : TyOK Try.prog 49 { td := .other, cells := 1, bytes := 8, zero := some (.cell), isAgg := false } :=
  tyOK_of (zv := .nilFunc) (by kernel_rfl) (by kernel_rfl) rfl
theorem g50 : Γ 50 = some { td := .other, cells := 1, bytes := 8, zero := some (.cell), isAgg := false } := rfl
theorem ty50 : TyOK Try.prog 50 { td := .other, cells := 1, bytes := 8, zero := some (.cell), isAgg := false } :=
  tyOK_of (zv := .nilFunc) (by kernel_rfl) (by kernel_rfl) rfl
theorem g51 : Γ 51 = some { td := .other, cells := 1, bytes := 8, zero := some (.cell), isAgg := false } := rfl
theorem ty51 : TyOK Try.prog 51 { td := .other, cells := 1, bytes := 8, zero := some (.cell), isAgg := false } :=
  tyOK_of (zv := .nilFunc) (by kernel_rfl) (by kernel_rfl) rfl
theorem g52 : Γ 52 = some { td := .other, cells := 1, bytes := 8, zero := some (.cell), isAgg := false } := rfl
theorem ty52 : TyOK Try.prog 52 { td := .other, cells := 1, bytes := 8, zero := some (.cell), isAgg := false } :=
  tyOK_of (zv := .nilFunc) (by kernel_rfl) (by kernel_rfl) rfl
theorem g53 : Γ 53 = some { td := .slice 3, cells := 1, bytes := 24, zero := some (.full []), isAgg := false } := rfl
theorem ty53 : TyOK Try.prog 53 { td := .slice 3, cells := 1, bytes := 24, zero := some (.full []), isAgg := false } :=
  tyOK_of (zv := .slice none 0 0) (by kernel_rfl) (by kernel_rfl) rfl
theorem g55 : Γ 55 = some { td := .other, cells := 1, bytes := 8, zero := some (.cell), isAgg := false } := rfl
theorem ty55 : TyOK Try.prog 55 { td := .other, cells := 1, bytes := 8, zero := some (.cell), isAgg := false } :=
  tyOK_of (zv := .nilFunc) (by kernel_rfl) (by kernel_rfl) rfl
theorem g56 : Γ 56 = some { td := .slice 53, cells := 1, bytes := 24, zero := some (.full []), isAgg := false } := rfl
theorem ty56 : TyOK Try.prog 56 { td := .slice 53, cells := 1, bytes := 24, zero := some (.full []), isAgg := false } :=
  tyOK_of (zv := .slice none 0 0) (by kernel_rfl) (by kernel_rfl) rfl
theorem g58 : Γ 58 = some { td := .other, cells := 1, bytes := 8, zero := some (.cell), isAgg := false } := rfl
theorem ty58 : TyOK Try.prog 58 { td := .other, cells := 1, bytes := 8, zero := some (.cell), isAgg := false } :=
  tyOK_of (zv := .nilFunc) (by kernel_rfl) (by kernel_rfl) rfl
theorem g59 : Γ 59 = some { td := .other, cells := 1, bytes := 8, zero := some (.cell), isAgg := false } := rfl
theorem ty59 : TyOK Try.prog 59 { td := .other, cells := 1, bytes := 8, zero := some (.cell), isAgg := false } :=
  tyOK_of (zv := .nilFunc) (by kernel_rfl) (by kernel_rfl) rfl
theorem g60 : Γ 60 = some { td := .other, cells := 1, bytes := 8, zero := some (.cell), isAgg := false } := rfl
theorem ty60 : TyOK Try.prog 60 { td := .other, cells := 1, bytes := 8, zero := some (.cell), isAgg := false } :=
  tyOK_of (zv := .nilFunc) (by kernel_rfl) (by kernel_rfl) rfl
theorem g61 : Γ 61 = some { td := .slice 5, cells := 1, bytes := 24, zero := some (.full []), isAgg := false } := rfl
theorem ty61 : TyOK Try.prog 61 { td := .slice 5, cells := 1, bytes := 24, zero := some (.full []), isAgg := false } :=
  tyOK_of (zv := .slice none 0 0) (by kernel_rfl) (by kernel_rfl) rfl
theorem g62 : Γ 62 = some { td := .other, cells := 1, bytes := 8, zero := some (.cell), isAgg := false } := rfl
theorem ty62 : TyOK Try.prog 62 { td := .other, cells := 1, bytes := 8, zero := some (.cell), isAgg := false } :=
  tyOK_of (zv := .nilFunc) (by kernel_rfl) (by kernel_rfl) rfl
theorem g63 : Γ 63 = some { td := .other, cells := 1, bytes := 8, zero := some (.cell), isAgg := false } := rfl
theorem ty63 : TyOK Try.prog 63 { td := .other, cells := 1, bytes := 8, zero := some (.cell), isAgg := false } :=
  tyOK_of (zv := .nilFunc) (by kernel_rfl) (by kernel_rfl) rfl
theorem g64 : Γ 64 = some { td := .other, cells := 1, bytes := 8, zero := some (.cell), isAgg := false } := rfl
theorem ty64 : TyOK Try.prog 64 { td := .other, cells := 1, bytes := 8, zero := some (.cell), isAgg := false } :=
  tyOK_of (zv := .nilFunc) (by kernel_rfl) (by kernel_rfl) rfl
theorem g65 : Γ 65 = some { td := .other, cells := 1, bytes := 8, zero := some (.cell), isAgg := false } := rfl
theorem ty65 : TyOK Try.prog 65 { td := .other, cells := 1, bytes := 8, zero := some (.cell), isAgg := false } :=
  tyOK_of (zv := .nilFunc) (by kernel_rfl) (by kernel_rfl) rfl
theorem g66 : Γ 66 = some { td := .other, cells := 1, bytes := 8, zero := some (.cell), isAgg := false } := rfl
theorem ty66 : TyOK Try.prog 66 { td := .other, cells := 1, bytes := 8, zero := some (.cell), isAgg := false } :=
  tyOK_of (zv := .nilFunc) (by kernel_rfl) (by kernel_rfl) rfl
theorem g67 : Γ 67 = some { td := .other, cells := 1, bytes := 8, zero := some (.cell), isAgg := false } := rfl
theorem ty67 : TyOK Try.prog 67 { td := .other, cells := 1, bytes := 8, zero := some (.cell), isAgg := false } :=
  tyOK_of (zv := .nilFunc) (by kernel_rfl) (by kernel_rfl) rfl
theorem g68 : Γ 68 = some { td := .other, cells := 1, bytes := 8, zero := some (.cell), isAgg := false } := rfl
theorem ty68 : TyOK Try.prog 68 { td := .other, cells := 1, bytes := 8, zero := some (.cell), isAgg := false } :=
  tyOK_of (zv := .nilFunc) (by kernel_rfl) (by kernel_rfl) rfl
theorem g69 : Γ 69 = some { td := .other, cells := 1, bytes := 8, zero := some (.cell), isAgg := false } := rfl
theorem ty69 : TyOK Try.prog 69 { td := .other, cells := 1, bytes := 8, zero := some (.cell), isAgg := false } :=
  tyOK_of (zv := .nilFunc) (by kernel_rfl) (by kernel_rfl) rfl
theorem g70 : Γ 70 = some { td := .other, cells := 1, bytes := 8, zero := some (.cell), isAgg := false } := rfl
theorem ty70 : TyOK Try.prog 70 { td := .other, cells := 1, bytes := 8, zero := some (.cell), isAgg := false } :=
  tyOK_of (zv := .nilFunc) (by kernel_rfl) (by kernel_rfl) rfl
theorem g71 : Γ 71 = some { td := .other, cells := 1, bytes := 8, zero := some (.cell), isAgg := false } := rfl
theorem ty71 : TyOK Try.prog 71 { td := .other, cells := 1, bytes := 8, zero := some (.cell), isAgg := false } :=
  tyOK_of (zv := .nilFunc) (by kernel_rfl) (by kernel_rfl) rfl
theorem g72 : Γ 72 = some { td := .other, cells := 1, bytes := 8, zero := some (.cell), isAgg := false } := rfl
theorem ty72 : TyOK Try.prog 72 { td := .other, cells := 1, bytes := 8, zero := some (.cell), isAgg := false } :=
  tyOK_of (zv := .nilFunc) (by kernel_rfl) (by kernel_rfl) rfl
theorem g73 : Γ 73 = some { td := .other, cells := 1, bytes := 8, zero := some (.cell), isAgg := false } := rfl
theorem ty73 : TyOK Try.prog 73 { td := .other, cells := 1, bytes := 8, zero := some (.cell), isAgg := false } :=
  tyOK_of (zv := .nilFunc) (by kernel_rfl) (by kernel_rfl) rfl
theorem g74 : Γ 74 = some { td := .slice 22, cells := 1, bytes := 24, zero := some (.full []), isAgg := false } := rfl
theorem ty74 : TyOK Try.prog 74 { td := .slice 22, cells := 1, bytes := 24, zero := some (.full []), isAgg := false } :=
  tyOK_of (zv := .slice none 0 0) (by kernel_rfl) (by kernel_rfl) rfl
theorem g75 : Γ 75 = some { td := .other, cells := 1, bytes := 8, zero := some (.cell), isAgg := false } := rfl
theorem ty75 : TyOK Try.prog 75 { td := .other, cells := 1, bytes := 8, zero := some (.cell), isAgg := false } :=
  tyOK_of (zv := .nilFunc) (by kernel_rfl) (by kernel_rfl) rfl
theorem g76 : Γ 76 = some { td := .other, cells := 1, bytes := 8, zero := some (.cell), isAgg := false } := rfl
theorem ty76 : TyOK Try.prog 76 { td := .other, cells := 1, bytes := 8, zero := some (.cell), isAgg := false } :=
  tyOK_of (zv := .nilFunc) (by kernel_rfl) (by kernel_rfl) rfl
theorem g77 : Γ 77 = some { td := .slice 44, cells := 1, bytes := 24, zero := some (.full []), isAgg := false } := rfl
theorem ty77 : TyOK Try.prog 77 { td := .slice 44, cells := 1, bytes := 24, zero := some (.full []), isAgg := false } :=
  tyOK_of (zv := .slice none 0 0) (by kernel_rfl) (by kernel_rfl) rfl
theorem g78 : Γ 78 = some { td := .other, cells := 1, bytes := 8, zero := some (.cell), isAgg := false } := rfl
theorem ty78 : TyOK Try.prog 78 { td := .other, cells := 1, bytes := 8, zero := some (.cell), isAgg := false } :=
  tyOK_of (zv := .nilFunc) (by kernel_rfl) (by kernel_rfl) rfl
theorem g79 : Γ 79 = some { td := .int .u64, cells := 1, bytes := 8, zero := some (.p (.int .u64 0)), isAgg := false } := rfl
theorem ty79 : TyOK Try.prog 79 { td := .int .u64, cells := 1, bytes := 8, zero := some (.p (.int .u64 0)), isAgg := false } :=
  tyOK_of (zv := .int .u64 0) (by kernel_rfl) (by kernel_rfl) rfl
theorem g80 : Γ 80 = some { td := .other, cells := 1, bytes := 8, zero := some (.cell), isAgg := false } := rfl
theorem ty80 : TyOK Try.prog 80 { td := .other, cells := 1, bytes := 8, zero := some (.cell), isAgg := false } :=
  tyOK_of (zv := .nilFunc) (by kernel_rfl) (by kernel_rfl) rfl
theorem g81 : Γ 81 = some { td := .int .u32, cells := 1, bytes := 4, zero := some (.p (.int .u32 0)), isAgg := false } := rfl
theorem ty81 : TyOK Try.prog 81 { td := .int .u32, cells := 1, bytes := 4, zero := some (.p (.int .u32 0)), isAgg := false } :=
  tyOK_of (zv := .int .u32 0) (by kernel_rfl) (by kernel_rfl) rfl
theorem g82 : Γ 82 = some { td := .int .u64, cells := 1, bytes := 8, zero := some (.p (.int .u64 0)), isAgg := false } := rfl
theorem ty82 : TyOK Try.prog 82 { td := .int .u64, cells := 1, bytes := 8, zero := some (.p (.int .u64 0)), isAgg := false } :=
  tyOK_of (zv := .int .u64 0) (by kernel_rfl) (by kernel_rfl) rfl
theorem g83 : Γ 83 = some { td := .slice 81, cells := 1, bytes := 24, zero := some (.full []), isAgg := false } := rfl
theorem ty83 : TyOK Try.prog 83 { td := .slice 81, cells := 1, bytes := 24, zero := some (.full []), isAgg := false } :=
  tyOK_of (zv := .slice none 0 0) (by kernel_rfl) (by kernel_rfl) rfl
theorem g84 : Γ 84 = some { td := .slice 81, cells := 1, bytes := 24, zero := some (.full []), isAgg := false } := rfl
theorem ty84 : TyOK Try.prog 84 { td := .slice 81, cells := 1, bytes := 24, zero := some (.full []), isAgg := false } :=
  tyOK_of (zv := .slice none 0 0) (by kernel_rfl) (by kernel_rfl) rfl
theorem g85 : Γ 85 = some { td := .other, cells := 1, bytes := 8, zero := some (.cell), isAgg := false } := rfl
theorem ty85 : TyOK Try.prog 85 { td := .other, cells := 1, bytes := 8, zero := some (.cell), isAgg := false } :=
  tyOK_of (zv := .nilFunc) (by kernel_rfl) (by kernel_rfl) rfl
theorem g86 : Γ 86 = some { td := .other, cells := 1, bytes := 8, zero := some (.cell), isAgg := false } := rfl
theorem ty86 : TyOK Try.prog 86 { td := .other, cells := 1, bytes := 8, zero := some (.cell), isAgg := false } :=
  tyOK_of (zv := .nilFunc) (by kernel_rfl) (by kernel_rfl) rfl
theorem g87 : Γ 87 = some { td := .other, cells := 1, bytes := 8, zero := some (.cell), isAgg := false } := rfl
theorem ty87 : TyOK Try.prog 87 { td := .other, cells := 1, bytes := 8, zero := some (.cell), isAgg := false } :=
  tyOK_of (zv := .nilFunc) (by kernel_rfl) (by kernel_rfl) rfl
theorem g88 : Γ 88 = some { td := .other, cells := 1, bytes := 8, zero := some (.cell), isAgg := false } := rfl
theorem ty88 : TyOK Try.prog 88 { td := .other, cells := 1, bytes := 8, zero := some (.cell), isAgg := false } :=
  tyOK_of (zv := .pointer none) (by kernel_rfl) (by kernel_rfl) rfl
theorem g89 : Γ 89 = some { td := .struct [(0, 88), (1, 61)], cells := 2, bytes := 32, zero := some (.agg [.cell, .full []]), isAgg := true } := rfl
theorem ty89 : TyOK Try.prog 89 { td := .struct [(0, 88), (1, 61)], cells := 2, bytes := 32, zero := some (.agg [.cell, .full []]), isAgg := true } :=
  tyOK_of (zv := .agg #[.pointer none, .slice none 0 0]) (by kernel_rfl) (by kernel_rfl) rfl
theorem g90 : Γ 90 = some { td := .struct [(0, 88), (1, 61)], cells := 2, bytes := 32, zero := some (.agg [.cell, .full []]), isAgg := true } := rfl
theorem ty90 : TyOK Try.prog 90 { td := .struct [(0, 88), (1, 61)], cells := 2, bytes := 32, zero := some (.agg [.cell, .full []]), isAgg := true } :=
  tyOK_of (zv := .agg #[.pointer none, .slice none 0 0]) (by kernel_rfl) (by kernel_rfl) rfl
theorem g94 : Γ 94 = some { td := .other, cells := 1, bytes := 8, zero := some (.cell), isAgg := false } := rfl
theorem ty94 : TyOK Try.prog 94 { td := .other, cells := 1, bytes := 8, zero := some (.cell), isAgg := false } :=
  tyOK_of (zv := .nilFunc) (by kernel_rfl) (by kernel_rfl) rfl
theorem g95 : Γ 95 = some { td := .other, cells := 1, bytes := 8, zero := some (.cell), isAgg := false } := rfl
theorem ty95 : TyOK Try.prog 95 { td := .other, cells := 1, bytes := 8, zero := some (.cell), isAgg := false } :=
  tyOK_of (zv := .nilFunc) (by kernel_rfl) (by kernel_rfl) rfl
theorem g96 : Γ 96 = some { td := .other, cells := 1, bytes := 8, zero := some (.cell), isAgg := false } := rfl
theorem ty96 : TyOK Try.prog 96 { td := .other, cells := 1, bytes := 8, zero := some (.cell), isAgg := false } :=
  tyOK_of (zv := .nilFunc) (by kernel_rfl) (by kernel_rfl) rfl
theorem g97 : Γ 97 = some { td := .other, cells := 1, bytes := 8, zero := some (.cell), isAgg := false } := rfl
theorem ty97 : TyOK Try.prog 97 { td := .other, cells := 1, bytes := 8, zero := some (.cell), isAgg := false } :=
  tyOK_of (zv := .nilFunc) (by kernel_rfl) (by kernel_rfl) rfl
theorem g98 : Γ 98 = some { td := .other, cells := 1, bytes := 8, zero := some (.cell), isAgg := false } := rfl
theorem ty98 : TyOK Try.prog 98 { td := .other, cells := 1, bytes := 8, zero := some (.cell), isAgg := false } :=
  tyOK_of (zv := .nilFunc) (by kernel_rfl) (by kernel_rfl) rfl
theorem g99 : Γ 99 = some { td := .other, cells := 1, bytes := 8, zero := some (.cell), isAgg := false } := rfl
theorem ty99 : TyOK Try.prog 99 { td := .other, cells := 1, bytes := 8, zero := some (.cell), isAgg := false } :=
  tyOK_of (zv := .nilFunc) (by kernel_rfl) (by kernel_rfl) rfl
theorem g100 : Γ 100 = some { td := .other, cells := 1, bytes := 8, zero := some (.cell), isAgg := false } := rfl
theorem ty100 : TyOK Try.prog 100 { td := .other, cells := 1, bytes := 8, zero := some (.cell), isAgg := false } :=
  tyOK_of (zv := .nilFunc) (by kernel_rfl) (by kernel_rfl) rfl
theorem g101 : Γ 101 = some { td := .other, cells := 1, bytes := 8, zero := some (.cell), isAgg := false } := rfl
theorem ty101 : TyOK Try.prog 101 { td := .other, cells := 1, bytes := 8, zero := some (.cell), isAgg := false } :=
  tyOK_of (zv := .nilFunc) (by kernel_rfl) (by kernel_rfl) rfl
theorem g102 : Γ 102 = some { td := .other, cells := 1, bytes := 8, zero := some (.cell), isAgg := false } := rfl
theorem ty102 : TyOK Try.prog 102 { td := .other, cells := 1, bytes := 8, zero := some (.cell), isAgg := false } :=
  tyOK_of (zv := .nilFunc) (by kernel_rfl) (by kernel_rfl) rfl
theorem g103 : Γ 103 = some { td := .other, cells := 1, bytes := 8, zero := some (.cell), isAgg := false } := rfl
theorem ty103 : TyOK Try.prog 103 { td := .other, cells := 1, bytes := 8, zero := some (.cell), isAgg := false } :=
  tyOK_of (zv := .nilFunc) (by kernel_rfl) (by kernel_rfl) rfl
theorem g104 : Γ 104 = some { td := .other, cells := 1, bytes := 8, zero := some (.cell), isAgg := false } := rfl
theorem ty104 : TyOK Try.prog 104 { td := .other, cells := 1, bytes := 8, zero := some (.cell), isAgg := false } :=
  tyOK_of (zv := .nilFunc) (by kernel_rfl) (by kernel_rfl) rfl
theorem g105 : Γ 105 = some { td := .other, cells := 1, bytes := 8, zero := some (.cell), isAgg := false } := rfl
theorem ty105 : TyOK Try.prog 105 { td := .other, cells := 1, bytes := 8, zero := some (.cell), isAgg := false } :=
  tyOK_of (zv := .nilFunc) (by kernel_rfl) (by kernel_rfl) rfl
theorem g106 : Γ 106 = some { td := .other, cells := 1, bytes := 8, zero := some (.cell), isAgg := false } := rfl
theorem ty106 : TyOK Try.prog 106 { td := .other, cells := 1, bytes := 8, zero := some (.cell), isAgg := false } :=
  tyOK_of (zv := .nilFunc) (by kernel_rfl) (by kernel_rfl) rfl
theorem g107 : Γ 107 = some { td := .other, cells := 1, bytes := 8, zero := some (.cell), isAgg := false } := rfl
theorem ty107 : TyOK Try.prog 107 { td := .other, cells := 1, bytes := 8, zero := some (.cell), isAgg := false } :=
  tyOK_of (zv := .pointer none) (by kernel_rfl) (by kernel_rfl) rfl
theorem g108 : Γ 108 = some { td := .other, cells := 1, bytes := 8, zero := some (.cell), isAgg := false } := rfl
theorem ty108 : TyOK Try.prog 108 { td := .other, cells := 1, bytes := 8, zero := some (.cell), isAgg := false } :=
  tyOK_of (zv := .nilFunc) (by kernel_rfl) (by kernel_rfl) rfl
theorem g109 : Γ 109 = some { td := .other, cells := 1, bytes := 8, zero := some (.cell), isAgg := false } := rfl
theorem ty109 : TyOK Try.prog 109 { td := .other, cells := 1, bytes := 8, zero := some (.cell), isAgg := false } :=
  tyOK_of (zv := .nilFunc) (by kernel_rfl) (by kernel_rfl) rfl
theorem g110 : Γ 110 = some { td := .other, cells := 1, bytes := 8, zero := some (.cell), isAgg := false } := rfl
theorem ty110 : TyOK Try.prog 110 { td := .other, cells := 1, bytes := 8, zero := some (.cell), isAgg := false } :=
  tyOK_of (zv := .nilFunc) (by kernel_rfl) (by kernel_rfl) rfl
theorem g111 : Γ 111 = some { td := .other, cells := 1, bytes := 8, zero := some (.cell), isAgg := false } := rfl
theorem ty111 : TyOK Try.prog 111 { td := .other, cells := 1, bytes := 8, zero := some (.cell), isAgg := false } :=
  tyOK_of (zv := .nilFunc) (by kernel_rfl) (by kernel_rfl) rfl
theorem g112 : Γ 112 = some { td := .other, cells := 1, bytes := 8, zero := some (.cell), isAgg := false } := rfl
theorem ty112 : TyOK Try.prog 112 { td := .other, cells := 1, bytes := 8, zero := some (.cell), isAgg := false } :=
  tyOK_of (zv := .nilFunc) (by kernel_rfl) (by kernel_rfl) rfl
theorem g113 : Γ 113 = some { td := .other, cells := 1, bytes := 8, zero := some (.cell), isAgg := false } := rfl
theorem ty113 : TyOK Try.prog 113 { td := .other, cells := 1, bytes := 8, zero := some (.cell), isAgg := false } :=
  tyOK_of (zv := .nilFunc) (by kernel_rfl) (by kernel_rfl) rfl
theorem g115 : Γ 115 = some { td := .other, cells := 1, bytes := 8, zero := some (.cell), isAgg := false } := rfl
theorem ty115 : TyOK Try.prog 115 { td := .other, cells := 1, bytes := 8, zero := some (.cell), isAgg := false } :=
  tyOK_of (zv := .nilFunc) (by kernel_rfl) (by kernel_rfl) rfl
theorem g116 : Γ 116 = some { td := .other, cells := 1, bytes := 8, zero := some (.cell), isAgg := false } := rfl
theorem ty116 : TyOK Try.prog 116 { td := .other, cells := 1, bytes := 8, zero := some (.cell), isAgg := false } :=
  tyOK_of (zv := .nilFunc) (by kernel_rfl) (by kernel_rfl) rfl
theorem g117 : Γ 117 = some { td := .other, cells := 1, bytes := 8, zero := some (.cell), isAgg := false } := rfl
theorem ty117 : TyOK Try.prog 117 { td := .other, cells := 1, bytes := 8, zero := some (.cell), isAgg := false } :=
  tyOK_of (zv := .nilFunc) (by kernel_rfl) (by kernel_rfl) rfl
theorem g119 : Γ 119 = some { td := .other, cells := 1, bytes := 8, zero := some (.cell), isAgg := false } := rfl
theorem ty119 : TyOK Try.prog 119 { td := .other, cells := 1, bytes := 8, zero := some (.cell), isAgg := false } :=
  tyOK_of (zv := .nilFunc) (by kernel_rfl) (by kernel_rfl) rfl
theorem g120 : Γ 120 = some { td := .int .i64, cells := 1, bytes := 8, zero := some (.p (.int .i64 0)), isAgg := false } := rfl
theorem ty120 : TyOK Try.prog 120 { td := .int .i64, cells := 1, bytes := 8, zero := some (.p (.int .i64 0)), isAgg := false } :=
  tyOK_of (zv := .int .i64 0) (by kernel_rfl) (by kernel_rfl) rfl
theorem g122 : Γ 122 = some { td := .other, cells := 1, bytes := 8, zero := some (.cell), isAgg := false } := rfl
theorem ty122 : TyOK Try.prog 122 { td := .other, cells := 1, bytes := 8, zero := some (.cell), isAgg := false } :=
  tyOK_of (zv := .nilFunc) (by kernel_rfl) (by kernel_rfl) rfl
theorem g123 : Γ 123 = some { td := .other, cells := 1, bytes := 8, zero := some (.cell), isAgg := false } := rfl
theorem ty123 : TyOK Try.prog 123 { td := .other, cells := 1, bytes := 8, zero := some (.cell), isAgg := false } :=
  tyOK_of (zv := .nilFunc) (by kernel_rfl) (by kernel_rfl) rfl
theorem g124 : Γ 124 = some { td := .other, cells := 1, bytes := 8, zero := some (.cell), isAgg := false } := rfl
theorem ty124 : TyOK Try.prog 124 { td := .other, cells := 1, bytes := 8, zero := some (.cell), isAgg := false } :=
  tyOK_of (zv := .nilFunc) (by kernel_rfl) (by kernel_rfl) rfl
theorem g126 : Γ 126 = some { td := .other, cells := 1, bytes := 8, zero := some (.cell), isAgg := false } := rfl
theorem ty126 : TyOK Try.prog 126 { td := .other, cells := 1, bytes := 8, zero := some (.cell), isAgg := false } :=
  tyOK_of (zv := .nilFunc) (by kernel_rfl) (by kernel_rfl) rfl
theorem g127 : Γ 127 = some { td := .other, cells := 1, bytes := 8, zero := some (.cell), isAgg := false } := rfl
theorem ty127 : TyOK Try.prog 127 { td := .other, cells := 1, bytes := 8, zero := some (.cell), isAgg := false } :=
  tyOK_of (zv := .nilFunc) (by kernel_rfl) (by kernel_rfl) rfl
theorem g128 : Γ 128 = some { td := .other, cells := 1, bytes := 8, zero := some (.cell), isAgg := false } := rfl
theorem ty128 : TyOK Try.prog 128 { td := .other, cells := 1, bytes := 8, zero := some (.cell), isAgg := false } :=
  tyOK_of (zv := .nilFunc) (by kernel_rfl) (by kernel_rfl) rfl
theorem g129 : Γ 129 = some { td := .other, cells := 1, bytes := 8, zero := some (.cell), isAgg := false } := rfl
theorem ty129 : TyOK Try.prog 129 { td := .other, cells := 1, bytes := 8, zero := some (.cell), isAgg := false } :=
  tyOK_of (zv := .nilFunc) (by kernel_rfl) (by kernel_rfl) rfl
theorem g130 : Γ 130 = some { td := .int .u64, cells := 1, bytes := 8, zero := some (.p (.int .u64 0)), isAgg := false } := rfl
theorem ty130 : TyOK Try.prog 130 { td := .int .u64, cells := 1, bytes := 8, zero := some (.p (.int .u64 0)), isAgg := false } :=
  tyOK_of (zv := .int .u64 0) (by kernel_rfl) (by kernel_rfl) rfl
theorem g131 : Γ 131 = some { td := .other, cells := 1, bytes := 8, zero := some (.cell), isAgg := false } := rfl
theorem ty131 : TyOK Try.prog 131 { td := .other, cells := 1, bytes := 8, zero := some (.cell), isAgg := false } :=
  tyOK_of (zv := .nilFunc) (by kernel_rfl) (by kernel_rfl) rfl
theorem g132 : Γ 132 = some { td := .other, cells := 1, bytes := 8, zero := some (.cell), isAgg := false } := rfl
theorem ty132 : TyOK Try.prog 132 { td := .other, cells := 1, bytes := 8, zero := some (.cell), isAgg := false } :=
  tyOK_of (zv := .nilFunc) (by kernel_rfl) (by kernel_rfl) rfl
theorem g133 : Γ 133 = some { td := .other, cells := 1, bytes := 8, zero := some (.cell), isAgg := false } := rfl
theorem ty133 : TyOK Try.prog 133 { td := .other, cells := 1, bytes := 8, zero := some (.cell), isAgg := false } :=
  tyOK_of (zv := .nilFunc) (by kernel_rfl) (by kernel_rfl) rfl
theorem g134 : Γ 134 = some { td := .other, cells := 1, bytes := 8, zero := some (.cell), isAgg := false } := rfl
theorem ty134 : TyOK Try.prog 134 { td := .other, cells := 1, bytes := 8, zero := some (.cell), isAgg := false } :=
  tyOK_of (zv := .pointer none) (by kernel_rfl) (by kernel_rfl) rfl
theorem g135 : Γ 135 = some { td := .other, cells := 1, bytes := 8, zero := some (.cell), isAgg := false } := rfl
theorem ty135 : TyOK Try.prog 135 { td := .other, cells := 1, bytes := 8, zero := some (.cell), isAgg := false } :=
  tyOK_of (zv := .nilFunc) (by kernel_rfl) (by kernel_rfl) rfl
theorem g136 : Γ 136 = some { td := .other, cells := 1, bytes := 8, zero := some (.cell), isAgg := false } := rfl
theorem ty136 : TyOK Try.prog 136 { td := .other, cells := 1, bytes := 8, zero := some (.cell), isAgg := false } :=
  tyOK_of (zv := .pointer none) (by kernel_rfl) (by kernel_rfl) rfl
theorem g138 : Γ 138 = some { td := .other, cells := 1, bytes := 8, zero := some (.cell), isAgg := false } := rfl
theorem ty138 : TyOK Try.prog 138 { td := .other, cells := 1, bytes := 8, zero := some (.cell), isAgg := false } :=
  tyOK_of (zv := .nilFunc) (by kernel_rfl) (by kernel_rfl) rfl
theorem g139 : Γ 139 = some { td := .struct [(0, 17), (1, 17), (2, 17), (3, 9)], cells := 4, bytes := 40, zero := some (.agg [.cell, .cell, .cell, .p (.str [])]), isAgg := true } := rfl
theorem ty139 : TyOK Try.prog 139 { td := .struct [(0, 17), (1, 17), (2, 17), (3, 9)], cells := 4, bytes := 40, zero := some (.agg [.cell, .cell, .cell, .p (.str [])]), isAgg := true } :=
  tyOK_of (zv := .agg #[.pointer none, .pointer none, .pointer none, .string ⟨#[]⟩]) (by kernel_rfl) (by kernel_rfl) rfl
theorem g140 : Γ 140 = some { td := .struct [(0, 17), (1, 17), (2, 17), (3, 9)], cells := 4, bytes := 40, zero := some (.agg [.cell, .cell, .cell, .p (.str [])]), isAgg := true } := rfl
theorem ty140 : TyOK Try.prog 140 { td := .struct [(0, 17), (1, 17), (2, 17), (3, 9)], cells := 4, bytes := 40, zero := some (.agg [.cell, .cell, .cell, .p (.str [])]), isAgg := true } :=
  tyOK_of (zv := .agg #[.pointer none, .pointer none, .pointer none, .string ⟨#[]⟩]) (by kernel_rfl) (by kernel_rfl) rfl
theorem g142 : Γ 142 = some { td := .struct [(0, 141)], cells := 0, bytes := 0, zero := some (.agg []), isAgg := true } := rfl
theorem ty142 : TyOK Try.prog 142 { td := .struct [(0, 141)], cells := 0, bytes := 0, zero := some (.agg []), isAgg := true } :=
  tyOK_of (zv := .agg #[]) (by kernel_rfl) (by kernel_rfl) rfl
theorem g143 : Γ 143 = some { td := .struct [(0, 141)], cells := 0, bytes := 0, zero := some (.agg []), isAgg := true } := rfl
theorem ty143 : TyOK Try.prog 143 { td := .struct [(0, 141)], cells := 0, bytes := 0, zero := some (.agg []), isAgg := true } :=
  tyOK_of (zv := .agg #[]) (by kernel_rfl) (by kernel_rfl) rfl
theorem g144 : Γ 144 = some { td := .other, cells := 1, bytes := 8, zero := some (.cell), isAgg := false } := rfl
theorem ty144 : TyOK Try.prog 144 { td := .other, cells := 1, bytes := 8, zero := some (.cell), isAgg := false } :=
  tyOK_of (zv := .nilFunc) (by kernel_rfl) (by kernel_rfl) rfl
theorem g145 : Γ 145 = some { td := .int .u8, cells := 1, bytes := 1, zero := some (.p (.int .u8 0)), isAgg := false } := rfl
theorem ty145 : TyOK Try.prog 145 { td := .int .u8, cells := 1, bytes := 1, zero := some (.p (.int .u8 0)), isAgg := false } :=
  tyOK_of (zv := .int .u8 0) (by kernel_rfl) (by kernel_rfl) rfl
theorem g146 : Γ 146 = some { td := .int .u8, cells := 1, bytes := 1, zero := some (.p (.int .u8 0)), isAgg := false } := rfl
theorem ty146 : TyOK Try.prog 146 { td := .int .u8, cells := 1, bytes := 1, zero := some (.p (.int .u8 0)), isAgg := false } :=
  tyOK_of (zv := .int .u8 0) (by kernel_rfl) (by kernel_rfl) rfl
theorem g147 : Γ 147 = some { td := .other, cells := 1, bytes := 8, zero := some (.cell), isAgg := false } := rfl
theorem ty147 : TyOK Try.prog 147 { td := .other, cells := 1, bytes := 8, zero := some (.cell), isAgg := false } :=
  tyOK_of (zv := .nilFunc) (by kernel_rfl) (by kernel_rfl) rfl
theorem g148 : Γ 148 = some { td := .int .i32, cells := 1, bytes := 4, zero := some (.p (.int .i32 0)), isAgg := false } := rfl
theorem ty148 : TyOK Try.prog 148 { td := .int .i32, cells := 1, bytes := 4, zero := some (.p (.int .i32 0)), isAgg := false } :=
  tyOK_of (zv := .int .i32 0) (by kernel_rfl) (by kernel_rfl) rfl
theorem g149 : Γ 149 = some { td := .int .i32, cells := 1, bytes := 4, zero := some (.p (.int .i32 0)), isAgg := false } := rfl
theorem ty149 : TyOK Try.prog 149 { td := .int .i32, cells := 1, bytes := 4, zero := some (.p (.int .i32 0)), isAgg := false } :=
  tyOK_of (zv := .int .i32 0) (by kernel_rfl) (by kernel_rfl) rfl
theorem g150 : Γ 150 = some { td := .struct [(0, 12), (1, 12), (2, 81), (3, 145), (4, 5), (5, 5), (6, 146), (7, 147), (8, 107), (9, 148), (10, 149)], cells := 11, bytes := 48, zero := some (.agg [.p (.int .u64 0), .p (.int .u64 0), .p (.int .u32 0), .p (.int .u8 0), .p (.int .u8 0), .p (.int .u8 0), .p (.int .u8 0), .cell, .cell, .p (.int .i32 0), .p (.int .i32 0)]), isAgg := true } := rfl
theorem ty150 : TyOK Try.prog 150 { td := .struct [(0, 12), (1, 12), (2, 81), (3, 145), (4, 5), (5, 5), (6, 146), (7, 147), (8, 107), (9, 148), (10, 149)], cells := 11, bytes := 48, zero := some (.agg [.p (.int .u64 0), .p (.int .u64 0), .p (.int .u32 0), .p (.int .u8 0), .p (.int .u8 0), .p (.int .u8 0), .p (.int .u8 0), .cell, .cell, .p (.int .i32 0), .p (.int .i32 0)]), isAgg := true } :=
  tyOK_of (zv := .agg #[.int .u64 0, .int .u64 0, .int .u32 0, .int .u8 0, .int .u8 0, .int .u8 0, .int .u8 0, .nilFunc, .pointer none, .int .i32 0, .int .i32 0]) (by kernel_rfl) (by kernel_rfl) rfl
theorem g151 : Γ 151 = some { td := .struct [(0, 12), (1, 12), (2, 81), (3, 145), (4, 5), (5, 5), (6, 146), (7, 147), (8, 107), (9, 148), (10, 149)], cells := 11, bytes := 48, zero := some (.agg [.p (.int .u64 0), .p (.int .u64 0), .p (.int .u32 0), .p (.int .u8 0), .p (.int .u8 0), .p (.int .u8 0), .p (.int .u8 0), .cell, .cell, .p (.int .i32 0), .p (.int .i32 0)]), isAgg := true } := rfl
theorem ty151 : TyOK Try.prog 151 { td := .struct [(0, 12), (1, 12), (2, 81), (3, 145), (4, 5), (5, 5), (6, 146), (7, 147), (8, 107), (9, 148), (10, 149)], cells := 11, bytes := 48, zero := some (.agg [.p (.int .u64 0), .p (.int .u64 0), .p (.int .u32 0), .p (.int .u8 0), .p (.int .u8 0), .p (.int .u8 0), .p (.int .u8 0), .cell, .cell, .p (.int .i32 0), .p (.int .i32 0)]), isAgg := true } :=
  tyOK_of (zv := .agg #[.int .u64 0, .int .u64 0, .int .u32 0, .int .u8 0, .int .u8 0, .int .u8 0, .int .u8 0, .nilFunc, .pointer none, .int .i32 0, .int .i32 0]) (by kernel_rfl) (by kernel_rfl) rfl

theorem hΓ : GamOK Try.prog Γ := by
  intro t te h
  unfold Γ at h
  split at h
  · injection h with h; subst h; exact ty1
  · injection h with h; subst h; exact ty2
  · injection h with h; subst h; exact ty3
  · injection h with h; subst h; exact ty4
  · injection h with h; subst h; exact ty5
  · injection h with h; subst h; exact ty6
  · injection h with h; subst h; exact ty7
  · injection h with h; subst h; exact ty8
  · injection h with h; subst h; exact ty9
  · injection h with h; subst h; exact ty10
  · injection h with h; subst h; exact ty11
  · injection h with h; subst h; exact ty12
  · injection h with h; subst h; exact ty13
  · injection h with h; subst h; exact ty14
  · injection h with h; subst h; exact ty15
  · injection h with h; subst h; exact ty16
  · injection h with h; subst h; exact ty17
  · injection h with h; subst h; exact ty18
  · injection h with h; subst h; exact ty19
  · injection h with h; subst h; exact ty21
  · injection h with h; subst h; exact ty22
  · injection h with h; subst h; exact ty23
  · injection h with h; subst h; exact ty24
  · injection h with h; subst h; exact ty25
  · injection h with h; subst h; exact ty26
  · injection h with h; subst h; exact ty27
  · injection h with h; subst h; exact ty29
  · injection h with h; subst h; exact ty31
  · injection h with h; subst h; exact ty33
  · injection h with h; subst h; exact ty34
  · injection h with h; subst h; exact ty35
  · injection h with h; subst h; exact ty36
  · injection h with h; subst h; exact ty37
  · injection h with h; subst h; exact ty38
  · injection h with h; subst h; exact ty39
  · injection h with h; subst h; exact ty40
  · injection h with h; subst h; exact ty41
  · injection h with h; subst h; exact ty42
  · injection h with h; subst h; exact ty43
  · injection h with h; subst h; exact ty44
  · injection h with h; subst h; exact ty46
  · injection h with h; subst h; exact ty47
  · injection h with h; subst h; exact ty48
  · injection h with h; subst h; exact ty49
  · injection h with h; subst h; exact ty50
  · injection h with h; subst h; exact ty51
  · injection h with h; subst h; exact ty52
  · injection h with h; subst h; exact ty53
  · injection h with h; subst h; exact ty55
  · injection h with h; subst h; exact ty56
  · injection h with h; subst h; exact ty58
  · injection h with h; subst h; exact ty59
  · injection h with h; subst h; exact ty60
  · injection h with h; subst h; exact ty61
  · injection h with h; subst h; exact ty62
  · injection h with h; subst h; exact ty63
  · injection h with h; subst h; exact ty64
  · injection h with h; subst h; exact ty65
  · injection h with h; subst h; exact ty66
  · injection h with h; subst h; exact ty67
  · injection h with h; subst h; exact ty68
  · injection h with h; subst h; exact ty69
  · injection h with h; subst h; exact ty70
  · injection h with h; subst h; exact ty71
  · injection h with h; subst h; exact ty72
  · injection h with h; subst h; exact ty73
  · injection h with h; subst h; exact ty74
  · injection h with h; subst h; exact ty75
  · injection h with h; subst h; exact ty76
  · injection h with h; subst h; exact ty77
  · injection h with h; subst h; exact ty78
  · injection h with h; subst h; exact ty79
  · injection h with h; subst h; exact ty80
  · injection h with h; subst h; exact ty81
  · injection h with h; subst h; exact ty82
  · injection h with h; subst h; exact ty83
  · injection h with h; subst h; exact ty84
  · injection h with h; subst h; exact ty85
  · injection h with h; subst h; exact ty86
  · injection h with h; subst h; exact ty87
  · injection h with h; subst h; exact ty88
  · injection h with h; subst h; exact ty89
  · injection h with h; subst h; exact ty90
  · injection h with h; subst h; exact ty94
  · injection h with h; subst h; exact ty95
  · injection h with h; subst h; exact ty96
  · injection h with h; subst h; exact ty97
  · injection h with h; subst h; exact ty98
  · injection h with h; subst h; exact ty99
  · injection h with h; subst h; exact ty100
  · injection h with h; subst h; exact ty101
  · injection h with h; subst h; exact ty102
  · injection h with h; subst h; exact ty103
  · injection h with h; subst h; exact ty104
  · injection h with h; subst h; exact ty105
  · injection h with h; subst h; exact ty106
  · injection h with h; subst h; exact ty107
  · injection h with h; subst h; exact ty108
  · injection h with h; subst h; exact ty109
  · injection h with h; subst h; exact ty110
  · injection h with h; subst h; exact ty111
  · injection h with h; subst h; exact ty112
  · injection h with h; subst h; exact ty113
  · injection h with h; subst h; exact ty115
  · injection h with h; subst h; exact ty116
  · injection h with h; subst h; exact ty117
  · injection h with h; subst h; exact ty119
  · injection h with h; subst h; exact ty120
  · injection h with h; subst h; exact ty122
  · injection h with h; subst h; exact ty123
  · injection h with h; subst h; exact ty124
  · injection h with h; subst h; exact ty126
  · injection h with h; subst h; exact ty127
  · injection h with h; subst h; exact ty128
  · injection h with h; subst h; exact ty129
  · injection h with h; subst h; exact ty130
  · injection h with h; subst h; exact ty131
  · injection h with h; subst h; exact ty132
  · injection h with h; subst h; exact ty133
  · injection h with h; subst h; exact ty134
  · injection h with h; subst h; exact ty135
  · injection h with h; subst h; exact ty136
  · injection h with h; subst h; exact ty138
  · injection h with h; subst h; exact ty139
  · injection h with h; subst h; exact ty140
  · injection h with h; subst h; exact ty142
  · injection h with h; subst h; exact ty143
  · injection h with h; subst h; exact ty144
  · injection h with h; subst h; exact ty145
  · injection h with h; subst h; exact ty146
  · injection h with h; subst h; exact ty147
  · injection h with h; subst h; exact ty148
  · injection h with h; subst h; exact ty149
  · injection h with h; subst h; exact ty150
  · injection h with h; subst h; exact ty151
  · cases h
theorem y1 (f : TE → Prop) : tyAt Γ 1 f = f { td := .other, cells := 1, bytes := 8, zero := some (.cell), isAgg := false } := tyAt_of g1 f
theorem y2 (f : TE → Prop) : tyAt Γ 2 f = f { td := .int .i64, cells := 1, bytes := 8, zero := some (.p (.int .i64 0)), isAgg := false } := tyAt_of g2 f
theorem y3 (f : TE → Prop) : tyAt Γ 3 f = f { td := .int .i64, cells := 1, bytes := 8, zero := some (.p (.int .i64 0)), isAgg := false } := tyAt_of g3 f
theorem y4 (f : TE → Prop) : tyAt Γ 4 f = f { td := .bool, cells := 1, bytes := 1, zero := some (.p (.bool false)), isAgg := false } := tyAt_of g4 f
theorem y5 (f : TE → Prop) : tyAt Γ 5 f = f { td := .int .u8, cells := 1, bytes := 1, zero := some (.p (.int .u8 0)), isAgg := false } := tyAt_of g5 f
theorem y6 (f : TE → Prop) : tyAt Γ 6 f = f { td := .int .u8, cells := 1, bytes := 1, zero := some (.p (.int .u8 0)), isAgg := false } := tyAt_of g6 f
theorem y7 (f : TE → Prop) : tyAt Γ 7 f = f { td := .struct [(0, 2), (1, 3), (2, 4), (3, 6)], cells := 4, bytes := 24, zero := some (.agg [.p (.int .i64 0), .p (.int .i64 0), .p (.bool false), .p (.int .u8 0)]), isAgg := true } := tyAt_of g7 f
theorem y8 (f : TE → Prop) : tyAt Γ 8 f = f { td := .struct [(0, 2), (1, 3), (2, 4), (3, 6)], cells := 4, bytes := 24, zero := some (.agg [.p (.int .i64 0), .p (.int .i64 0), .p (.bool false), .p (.int .u8 0)]), isAgg := true } := tyAt_of g8 f
theorem y9 (f : TE → Prop) : tyAt Γ 9 f = f { td := .str, cells := 1, bytes := 16, zero := some (.p (.str [])), isAgg := false } := tyAt_of g9 f
theorem y10 (f : TE → Prop) : tyAt Γ 10 f = f { td := .str, cells := 1, bytes := 16, zero := some (.p (.str [])), isAgg := false } := tyAt_of g10 f
theorem y11 (f : TE → Prop) : tyAt Γ 11 f = f { td := .str, cells := 1, bytes := 16, zero := some (.p (.str [])), isAgg := false } := tyAt_of g11 f
theorem y12 (f : TE → Prop) : tyAt Γ 12 f = f { td := .int .u64, cells := 1, bytes := 8, zero := some (.p (.int .u64 0)), isAgg := false } := tyAt_of g12 f
theorem y13 (f : TE → Prop) : tyAt Γ 13 f = f { td := .struct [(0, 9), (1, 12)], cells := 2, bytes := 24, zero := some (.agg [.p (.str []), .p (.int .u64 0)]), isAgg := true } := tyAt_of g13 f
theorem y14 (f : TE → Prop) : tyAt Γ 14 f = f { td := .struct [(0, 9), (1, 12)], cells := 2, bytes := 24, zero := some (.agg [.p (.str []), .p (.int .u64 0)]), isAgg := true } := tyAt_of g14 f
theorem y15 (f : TE → Prop) : tyAt Γ 15 f = f { td := .other, cells := 1, bytes := 8, zero := some (.cell), isAgg := false } := tyAt_of g15 f
theorem y16 (f : TE → Prop) : tyAt Γ 16 f = f { td := .other, cells := 1, bytes := 8, zero := some (.cell), isAgg := false } := tyAt_of g16 f
theorem y17 (f : TE → Prop) : tyAt Γ 17 f = f { td := .other, cells := 1, bytes := 8, zero := some (.cell), isAgg := false } := tyAt_of g17 f
theorem y18 (f : TE → Prop) : tyAt Γ 18 f = f { td := .struct [(0, 17)], cells := 1, bytes := 8, zero := some (.agg [.cell]), isAgg := true } := tyAt_of g18 f
theorem y19 (f : TE → Prop) : tyAt Γ 19 f = f { td := .struct [(0, 17)], cells := 1, bytes := 8, zero := some (.agg [.cell]), isAgg := true } := tyAt_of g19 f
theorem y21 (f : TE → Prop) : tyAt Γ 21 f = f { td := .int .i32, cells := 1, bytes := 4, zero := some (.p (.int .i32 0)), isAgg := false } := tyAt_of g21 f
theorem y22 (f : TE → Prop) : tyAt Γ 22 f = f { td := .slice 9, cells := 1, bytes := 24, zero := some (.full []), isAgg := false } := tyAt_of g22 f
theorem y23 (f : TE → Prop) : tyAt Γ 23 f = f { td := .struct [(0, 3), (1, 22)], cells := 2, bytes := 32, zero := some (.agg [.p (.int .i64 0), .full []]), isAgg := true } := tyAt_of g23 f
theorem y24 (f : TE → Prop) : tyAt Γ 24 f = f { td := .struct [(0, 3), (1, 22)], cells := 2, bytes := 32, zero := some (.agg [.p (.int .i64 0), .full []]), isAgg := true } := tyAt_of g24 f
theorem y25 (f : TE → Prop) : tyAt Γ 25 f = f { td := .other, cells := 1, bytes := 8, zero := some (.cell), isAgg := false } := tyAt_of g25 f
theorem y26 (f : TE → Prop) : tyAt Γ 26 f = f { td := .other, cells := 1, bytes := 8, zero := some (.cell), isAgg := false } := tyAt_of g26 f
theorem y27 (f : TE → Prop) : tyAt Γ 27 f = f { td := .int .i64, cells := 1, bytes := 8, zero := some (.p (.int .i64 0)), isAgg := false } := tyAt_of g27 f
theorem y29 (f : TE → Prop) : tyAt Γ 29 f = f { td := .other, cells := 1, bytes := 8, zero := some (.cell), isAgg := false } := tyAt_of g29 f
theorem y31 (f : TE → Prop) : tyAt Γ 31 f = f { td := .other, cells := 1, bytes := 8, zero := some (.cell), isAgg := false } := tyAt_of g31 f
theorem y33 (f : TE → Prop) : tyAt Γ 33 f = f { td := .other, cells := 1, bytes := 8, zero := some (.cell), isAgg := false } := tyAt_of g33 f
theorem y34 (f : TE → Prop) : tyAt Γ 34 f = f { td := .other, cells := 1, bytes := 8, zero := some (.cell), isAgg := false } := tyAt_of g34 f
theorem y35 (f : TE → Prop) : tyAt Γ 35 f = f { td := .other, cells := 1, bytes := 8, zero := some (.cell), isAgg := false } := tyAt_of g35 f
theorem y36 (f : TE → Prop) : tyAt Γ 36 f = f { td := .other, cells := 1, bytes := 8, zero := some (.cell), isAgg := false } := tyAt_of g36 f
theorem y37 (f : TE → Prop) : tyAt Γ 37 f = f { td := .other, cells := 1, bytes := 8, zero := some (.cell), isAgg := false } := tyAt_of g37 f
theorem y38 (f : TE → Prop) : tyAt Γ 38 f = f { td := .other, cells := 1, bytes := 8, zero := some (.cell), isAgg := false } := tyAt_of g38 f
theorem y39 (f : TE → Prop) : tyAt Γ 39 f = f { td := .other, cells := 1, bytes := 8, zero := some (.cell), isAgg := false } := tyAt_of g39 f
theorem y40 (f : TE → Prop) : tyAt Γ 40 f = f { td := .other, cells := 1, bytes := 8, zero := some (.cell), isAgg := false } := tyAt_of g40 f
theorem y41 (f : TE → Prop) : tyAt Γ 41 f = f { td := .other, cells := 1, bytes := 8, zero := some (.cell), isAgg := false } := tyAt_of g41 f
theorem y42 (f : TE → Prop) : tyAt Γ 42 f = f { td := .other, cells := 1, bytes := 8, zero := some (.cell), isAgg := false } := tyAt_of g42 f
theorem y43 (f : TE → Prop) : tyAt Γ 43 f = f { td := .struct [(0, 4), (1, 9)], cells := 2, bytes := 24, zero := some (.agg [.p (.bool false), .p (.str [])]), isAgg := true } := tyAt_of g43 f
theorem y44 (f : TE → Prop) : tyAt Γ 44 f = f { td := .struct [(0, 4), (1, 9)], cells := 2, bytes := 24, zero := some (.agg [.p (.bool false), .p (.str [])]), isAgg := true, eqs := true } := tyAt_of g44 f
theorem y46 (f : TE → Prop) : tyAt Γ 46 f = f { td := .other, cells := 1, bytes := 8, zero := some (.cell), isAgg := false } := tyAt_of g46 f
theorem y47 (f : TE → Prop) : tyAt Γ 47 f = f { td := .other, cells := 1, bytes := 8, zero := some (.cell), isAgg := false } := tyAt_of g47 f
theorem y48 (f : TE → Prop) : tyAt Γ 48 f = f { td := .other, cells := 1, bytes := 8, zero := some (.cell), isAgg := false } := tyAt_of g48 f
theorem y49 (f : TE → Prop) : tyAt Γ 49 f = f { td := .other, cells := 1, bytes := 8, zero := some (.cell), isAgg := false } := tyAt_of g49 f
theorem y50 (f : TE → Prop) : tyAt Γ 50 f = f { td := .other, cells := 1, bytes := 8, zero := some (.cell), isAgg := false } := tyAt_of g50 f
theorem y51 (f : TE → Prop) : tyAt Γ 51 f = f { td := .other, cells := 1, bytes := 8, zero := some (.cell), isAgg := false } := tyAt_of g51 f
theorem y52 (f : TE → Prop) : tyAt Γ 52 f = f { td := .other, cells := 1, bytes := 8, zero := some (.cell), isAgg := false } := tyAt_of g52 f
theorem y53 (f : TE → Prop) : tyAt Γ 53 f = f { td := .slice 3, cells := 1, bytes := 24, zero := some (.full []), isAgg := false } := tyAt_of g53 f
theorem y55 (f : TE → Prop) : tyAt Γ 55 f = f { td := .other, cells := 1, bytes := 8, zero := some (.cell), isAgg := false } := tyAt_of g55 f
theorem y56 (f : TE → Prop) : tyAt Γ 56 f = f { td := .slice 53, cells := 1, bytes := 24, zero := some (.full []), isAgg := false } := tyAt_of g56 f
theorem y58 (f : TE → Prop) : tyAt Γ 58 f = f { td := .other, cells := 1, bytes := 8, zero := some (.cell), isAgg := false } := tyAt_of g58 f
theorem y59 (f : TE → Prop) : tyAt Γ 59 f = f { td := .other, cells := 1, bytes := 8, zero := some (.cell), isAgg := false } := tyAt_of g59 f
theorem y60 (f : TE → Prop) : tyAt Γ 60 f = f { td := .other, cells := 1, bytes := 8, zero := some (.cell), isAgg := false } := tyAt_of g60 f
theorem y61 (f : TE → Prop) : tyAt Γ 61 f = f { td := .slice 5, cells := 1, bytes := 24, zero := some (.full []), isAgg := false } := tyAt_of g61 f
theorem y62 (f : TE → Prop) : tyAt Γ 62 f = f { td := .other, cells := 1, bytes := 8, zero := some (.cell), isAgg := false } := tyAt_of g62 f
theorem y63 (f : TE → Prop) : tyAt Γ 63 f = f { td := .other, cells := 1, bytes := 8, zero := some (.cell), isAgg := false } := tyAt_of g63 f
theorem y64 (f : TE → Prop) : tyAt Γ 64 f = f { td := .other, cells := 1, bytes := 8, zero := some (.cell), isAgg := false } := tyAt_of g64 f
theorem y65 (f : TE → Prop) : tyAt Γ 65 f = f { td := .other, cells := 1, bytes := 8, zero := some (.cell), isAgg := false } := tyAt_of g65 f
theorem y66 (f : TE → Prop) : tyAt Γ 66 f = f { td := .other, cells := 1, bytes := 8, zero := some (.cell), isAgg := false } := tyAt_of g66 f
theorem y67 (f : TE → Prop) : tyAt Γ 67 f = f { td := .other, cells := 1, bytes := 8, zero := some (.cell), isAgg := false } := tyAt_of g67 f
theorem y68 (f : TE → Prop) : tyAt Γ 68 f = f { td := .other, cells := 1, bytes := 8, zero := some (.cell), isAgg := false } := tyAt_of g68 f
theorem y69 (f : TE → Prop) : tyAt Γ 69 f = f { td := .other, cells := 1, bytes := 8, zero := some (.cell), isAgg := false } := tyAt_of g69 f
theorem y70 (f : TE → Prop) : tyAt Γ 70 f = f { td := .other, cells := 1, bytes := 8, zero := some (.cell), isAgg := false } := tyAt_of g70 f
theorem y71 (f : TE → Prop) : tyAt Γ 71 f = f { td := .other, cells := 1, bytes := 8, zero := some (.cell), isAgg := false } := tyAt_of g71 f
theorem y72 (f : TE → Prop) : tyAt Γ 72 f = f { td := .other, cells := 1, bytes := 8, zero := some (.cell), isAgg := false } := tyAt_of g72 f
theorem y73 (f : TE → Prop) : tyAt Γ 73 f = f { td := .other, cells := 1, bytes := 8, zero := some (.cell), isAgg := false } := tyAt_of g73 f
theorem y74 (f : TE → Prop) : tyAt Γ 74 f = f { td := .slice 22, cells := 1, bytes := 24, zero := some (.full []), isAgg := false } := tyAt_of g74 f
theorem y75 (f : TE → Prop) : tyAt Γ 75 f = f { td := .other, cells := 1, bytes := 8, zero := some (.cell), isAgg := false } := tyAt_of g75 f
theorem y76 (f : TE → Prop) : tyAt Γ 76 f = f { td := .other, cells := 1, bytes := 8, zero := some (.cell), isAgg := false } := tyAt_of g76 f
theorem y77 (f : TE → Prop) : tyAt Γ 77 f = f { td := .slice 44, cells := 1, bytes := 24, zero := some (.full []), isAgg := false } := tyAt_of g77 f
theorem y78 (f : TE → Prop) : tyAt Γ 78 f = f { td := .other, cells := 1, bytes := 8, zero := some (.cell), isAgg := false } := tyAt_of g78 f
theorem y79 (f : TE → Prop) : tyAt Γ 79 f = f { td := .int .u64, cells := 1, bytes := 8, zero := some (.p (.int .u64 0)), isAgg := false } := tyAt_of g79 f
theorem y80 (f : TE → Prop) : tyAt Γ 80 f = f { td := .other, cells := 1, bytes := 8, zero := some (.cell), isAgg := false } := tyAt_of g80 f
theorem y81 (f : TE → Prop) : tyAt Γ 81 f = f { td := .int .u32, cells := 1, bytes := 4, zero := some (.p (.int .u32 0)), isAgg := false } := tyAt_of g81 f
theorem y82 (f : TE → Prop) : tyAt Γ 82 f = f { td := .int .u64, cells := 1, bytes := 8, zero := some (.p (.int .u64 0)), isAgg := false } := tyAt_of g82 f
theorem y83 (f : TE → Prop) : tyAt Γ 83 f = f { td := .slice 81, cells := 1, bytes := 24, zero := some (.full []), isAgg := false } := tyAt_of g83 f
theorem y84 (f : TE → Prop) : tyAt Γ 84 f = f { td := .slice 81, cells := 1, bytes := 24, zero := some (.full []), isAgg := false } := tyAt_of g84 f
theorem y85 (f : TE → Prop) : tyAt Γ 85 f = f { td := .other, cells := 1, bytes := 8, zero := some (.cell), isAgg := false } := tyAt_of g85 f
theorem y86 (f : TE → Prop) : tyAt Γ 86 f = f { td := .other, cells := 1, bytes := 8, zero := some (.cell), isAgg := false } := tyAt_of g86 f
theorem y87 (f : TE → Prop) : tyAt Γ 87 f = f { td := .other, cells := 1, bytes := 8, zero := some (.cell), isAgg := false } := tyAt_of g87 f
theorem y88 (f : TE → Prop) : tyAt Γ 88 f = f { td := .other, cells := 1, bytes := 8, zero := some (.cell), isAgg := false } := tyAt_of g88 f
theorem y89 (f : TE → Prop) : tyAt Γ 89 f = f { td := .struct [(0, 88), (1, 61)], cells := 2, bytes := 32, zero := some (.agg [.cell, .full []]), isAgg := true } := tyAt_of g89 f
theorem y90 (f : TE → Prop) : tyAt Γ 90 f = f { td := .struct [(0, 88), (1, 61)], cells := 2, bytes := 32, zero := some (.agg [.cell, .full []]), isAgg := true } := tyAt_of g90 f
theorem y94 (f : TE → Prop) : tyAt Γ 94 f = f { td := .other, cells := 1, bytes := 8, zero := some (.cell), isAgg := false } := tyAt_of g94 f
theorem y95 (f : TE → Prop) : tyAt Γ 95 f = f { td := .other, cells := 1, bytes := 8, zero := some (.cell), isAgg := false } := tyAt_of g95 f
theorem y96 (f : TE → Prop) : tyAt Γ 96 f = f { td := .other, cells := 1, bytes := 8, zero := some (.cell), isAgg := false } := tyAt_of g96 f
theorem y97 (f : TE → Prop) : tyAt Γ 97 f = f { td := .other, cells := 1, bytes := 8, zero := some (.cell), isAgg := false } := tyAt_of g97 f
theorem y98 (f : TE → Prop) : tyAt Γ 98 f = f { td := .other, cells := 1, bytes := 8, zero := some (.cell), isAgg := false } := tyAt_of g98 f
theorem y99 (f : TE → Prop) : tyAt Γ 99 f = f { td := .other, cells := 1, bytes := 8, zero := some (.cell), isAgg := false } := tyAt_of g99 f
theorem y100 (f : TE → Prop) : tyAt Γ 100 f = f { td := .other, cells := 1, bytes := 8, zero := some (.cell), isAgg := false } := tyAt_of g100 f
theorem y101 (f : TE → Prop) : tyAt Γ 101 f = f { td := .other, cells := 1, bytes := 8, zero := some (.cell), isAgg := false } := tyAt_of g101 f
theorem y102 (f : TE → Prop) : tyAt Γ 102 f = f { td := .other, cells := 1, bytes := 8, zero := some (.cell), isAgg := false } := tyAt_of g102 f
theorem y103 (f : TE → Prop) : tyAt Γ 103 f = f { td := .other, cells := 1, bytes := 8, zero := some (.cell), isAgg := false } := tyAt_of g103 f
theorem y104 (f : TE → Prop) : tyAt Γ 104 f = f { td := .other, cells := 1, bytes := 8, zero := some (.cell), isAgg := false } := tyAt_of g104 f
theorem y105 (f : TE → Prop) : tyAt Γ 105 f = f { td := .other, cells := 1, bytes := 8, zero := some (.cell), isAgg := false } := tyAt_of g105 f
theorem y106 (f : TE → Prop) : tyAt Γ 106 f = f { td := .other, cells := 1, bytes := 8, zero := some (.cell), isAgg := false } := tyAt_of g106 f
theorem y107 (f : TE → Prop) : tyAt Γ 107 f = f { td := .other, cells := 1, bytes := 8, zero := some (.cell), isAgg := false } := tyAt_of g107 f
theorem y108 (f : TE → Prop) : tyAt Γ 108 f = f { td := .other, cells := 1, bytes := 8, zero := some (.cell), isAgg := false } := tyAt_of g108 f
theorem y109 (f : TE → Prop) : tyAt Γ 109 f = f { td := .other, cells := 1, bytes := 8, zero := some (.cell), isAgg := false } := tyAt_of g109 f
theorem y110 (f : TE → Prop) : tyAt Γ 110 f = f { td := .other, cells := 1, bytes := 8, zero := some (.cell), isAgg := false } := tyAt_of g110 f
theorem y111 (f : TE → Prop) : tyAt Γ 111 f = f { td := .other, cells := 1, bytes := 8, zero := some (.cell), isAgg := false } := tyAt_of g111 f
theorem y112 (f : TE → Prop) : tyAt Γ 112 f = f { td := .other, cells := 1, bytes := 8, zero := some (.cell), isAgg := false } := tyAt_of g112 f
theorem y113 (f : TE → Prop) : tyAt Γ 113 f = f { td := .other, cells := 1, bytes := 8, zero := some (.cell), isAgg := false } := tyAt_of g113 f
theorem y115 (f : TE → Prop) : tyAt Γ 115 f = f { td := .other, cells := 1, bytes := 8, zero := some (.cell), isAgg := false } := tyAt_of g115 f
theorem y116 (f : TE → Prop) : tyAt Γ 116 f = f { td := .other, cells := 1, bytes := 8, zero := some (.cell), isAgg := false } := tyAt_of g116 f
theorem y117 (f : TE → Prop) : tyAt Γ 117 f = f { td := .other, cells := 1, bytes := 8, zero := some (.cell), isAgg := false } := tyAt_of g117 f
theorem y119 (f : TE → Prop) : tyAt Γ 119 f = f { td := .other, cells := 1, bytes := 8, zero := some (.cell), isAgg := false } := tyAt_of g119 f
theorem y120 (f : TE → Prop) : tyAt Γ 120 f = f { td := .int .i64, cells := 1, bytes := 8, zero := some (.p (.int .i64 0)), isAgg := false } := tyAt_of g120 f
theorem y122 (f : TE → Prop) : tyAt Γ 122 f = f { td := .other, cells := 1, bytes := 8, zero := some (.cell), isAgg := false } := tyAt_of g122 f
theorem y123 (f : TE → Prop) : tyAt Γ 123 f = f { td := .other, cells := 1, bytes := 8, zero := some (.cell), isAgg := false } := tyAt_of g123 f
theorem y124 (f : TE → Prop) : tyAt Γ 124 f = f { td := .other, cells := 1, bytes := 8, zero := some (.cell), isAgg := false } := tyAt_of g124 f
theorem y126 (f : TE → Prop) : tyAt Γ 126 f = f { td := .other, cells := 1, bytes := 8, zero := some (.cell), isAgg := false } := tyAt_of g126 f
theorem y127 (f : TE → Prop) : tyAt Γ 127 f = f { td := .other, cells := 1, bytes := 8, zero := some (.cell), isAgg := false } := tyAt_of g127 f
theorem y128 (f : TE → Prop) : tyAt Γ 128 f = f { td := .other, cells := 1, bytes := 8, zero := some (.cell), isAgg := false } := tyAt_of g128 f
theorem y129 (f : TE → Prop) : tyAt Γ 129 f = f { td := .other, cells := 1, bytes := 8, zero := some (.cell), isAgg := false } := tyAt_of g129 f
theorem y130 (f : TE → Prop) : tyAt Γ 130 f = f { td := .int .u64, cells := 1, bytes := 8, zero := some (.p (.int .u64 0)), isAgg := false } := tyAt_of g130 f
theorem y131 (f : TE → Prop) : tyAt Γ 131 f = f { td := .other, cells := 1, bytes := 8, zero := some (.cell), isAgg := false } := tyAt_of g131 f
theorem y132 (f : TE → Prop) : tyAt Γ 132 f = f { td := .other, cells := 1, bytes := 8, zero := some (.cell), isAgg := false } := tyAt_of g132 f
theorem y133 (f : TE → Prop) : tyAt Γ 133 f = f { td := .other, cells := 1, bytes := 8, zero := some (.cell), isAgg := false } := tyAt_of g133 f
theorem y134 (f : TE → Prop) : tyAt Γ 134 f = f { td := .other, cells := 1, bytes := 8, zero := some (.cell), isAgg := false } := tyAt_of g134 f
theorem y135 (f : TE → Prop) : tyAt Γ 135 f = f { td := .other, cells := 1, bytes := 8, zero := some (.cell), isAgg := false } := tyAt_of g135 f
theorem y136 (f : TE → Prop) : tyAt Γ 136 f = f { td := .other, cells := 1, bytes := 8, zero := some (.cell), isAgg := false } := tyAt_of g136 f
theorem y138 (f : TE → Prop) : tyAt Γ 138 f = f { td := .other, cells := 1, bytes := 8, zero := some (.cell), isAgg := false } := tyAt_of g138 f
theorem y139 (f : TE → Prop) : tyAt Γ 139 f = f { td := .struct [(0, 17), (1, 17), (2, 17), (3, 9)], cells := 4, bytes := 40, zero := some (.agg [.cell, .cell, .cell, .p (.str [])]), isAgg := true } := tyAt_of g139 f
theorem y140 (f : TE → Prop) : tyAt Γ 140 f = f { td := .struct [(0, 17), (1, 17), (2, 17), (3, 9)], cells := 4, bytes := 40, zero := some (.agg [.cell, .cell, .cell, .p (.str [])]), isAgg := true } := tyAt_of g140 f
theorem y142 (f : TE → Prop) : tyAt Γ 142 f = f { td := .struct [(0, 141)], cells := 0, bytes := 0, zero := some (.agg []), isAgg := true } := tyAt_of g142 f
theorem y143 (f : TE → Prop) : tyAt Γ 143 f = f { td := .struct [(0, 141)], cells := 0, bytes := 0, zero := some (.agg []), isAgg := true } := tyAt_of g143 f
theorem y144 (f : TE → Prop) : tyAt Γ 144 f = f { td := .other, cells := 1, bytes := 8, zero := some (.cell), isAgg := false } := tyAt_of g144 f
theorem y145 (f : TE → Prop) : tyAt Γ 145 f = f { td := .int .u8, cells := 1, bytes := 1, zero := some (.p (.int .u8 0)), isAgg := false } := tyAt_of g145 f
theorem y146 (f : TE → Prop) : tyAt Γ 146 f = f { td := .int .u8, cells := 1, bytes := 1, zero := some (.p (.int .u8 0)), isAgg := false } := tyAt_of g146 f
theorem y147 (f : TE → Prop) : tyAt Γ 147 f = f { td := .other, cells := 1, bytes := 8, zero := some (.cell), isAgg := false } := tyAt_of g147 f
theorem y148 (f : TE → Prop) : tyAt Γ 148 f = f { td := .int .i32, cells := 1, bytes := 4, zero := some (.p (.int .i32 0)), isAgg := false } := tyAt_of g148 f
theorem y149 (f : TE → Prop) : tyAt Γ 149 f = f { td := .int .i32, cells := 1, bytes := 4, zero := some (.p (.int .i32 0)), isAgg := false } := tyAt_of g149 f
theorem y150 (f : TE → Prop) : tyAt Γ 150 f = f { td := .struct [(0, 12), (1, 12), (2, 81), (3, 145), (4, 5), (5, 5), (6, 146), (7, 147), (8, 107), (9, 148), (10, 149)], cells := 11, bytes := 48, zero := some (.agg [.p (.int .u64 0), .p (.int .u64 0), .p (.int .u32 0), .p (.int .u8 0), .p (.int .u8 0), .p (.int .u8 0), .p (.int .u8 0), .cell, .cell, .p (.int .i32 0), .p (.int .i32 0)]), isAgg := true } := tyAt_of g150 f
theorem y151 (f : TE → Prop) : tyAt Γ 151 f = f { td := .struct [(0, 12), (1, 12), (2, 81), (3, 145), (4, 5), (5, 5), (6, 146), (7, 147), (8, 107), (9, 148), (10, 149)], cells := 11, bytes := 48, zero := some (.agg [.p (.int .u64 0), .p (.int .u64 0), .p (.int .u32 0), .p (.int .u8 0), .p (.int .u8 0), .p (.int .u8 0), .p (.int .u8 0), .cell, .cell, .p (.int .i32 0), .p (.int .i32 0)]), isAgg := true } := tyAt_of g151 f
attribute [go_sem] g1 y1 g2 y2 g3 y3 g4 y4 g5 y5 g6 y6 g7 y7 g8 y8 g9 y9 g10 y10 g11 y11 g12 y12 g13 y13 g14 y14 g15 y15 g16 y16 g17 y17 g18 y18 g19 y19 g21 y21 g22 y22 g23 y23 g24 y24 g25 y25 g26 y26 g27 y27 g29 y29 g31 y31 g33 y33 g34 y34 g35 y35 g36 y36 g37 y37 g38 y38 g39 y39 g40 y40 g41 y41 g42 y42 g43 y43 g44 y44 g46 y46 g47 y47 g48 y48 g49 y49 g50 y50 g51 y51 g52 y52 g53 y53 g55 y55 g56 y56 g58 y58 g59 y59 g60 y60 g61 y61 g62 y62 g63 y63 g64 y64 g65 y65 g66 y66 g67 y67 g68 y68 g69 y69 g70 y70 g71 y71 g72 y72 g73 y73 g74 y74 g75 y75 g76 y76 g77 y77 g78 y78 g79 y79 g80 y80 g81 y81 g82 y82 g83 y83 g84 y84 g85 y85 g86 y86 g87 y87 g88 y88 g89 y89 g90 y90 g94 y94 g95 y95 g96 y96 g97 y97 g98 y98 g99 y99 g100 y100 g101 y101 g102 y102 g103 y103 g104 y104 g105 y105 g106 y106 g107 y107 g108 y108 g109 y109 g110 y110 g111 y111 g112 y112 g113 y113 g115 y115 g116 y116 g117 y117 g119 y119 g120 y120 g122 y122 g123 y123 g124 y124 g126 y126 g127 y127 g128 y128 g129 y129 g130 y130 g131 y131 g132 y132 g133 y133 g134 y134 g135 y135 g136 y136 g138 y138 g139 y139 g140 y140 g142 y142 g143 y143 g144 y144 g145 y145 g146 y146 g147 y147 g148 y148 g149 y149 g150 y150 g151 y151
theorem hmix : Try.prog.follows .mixedOrders = true := by kernel_rfl
end Go.Proofs.Ytgkbafkmbokkaaa
end

section
namespace Go.Proofs.Ytgkbafkmbokkaaa
open Go Go.AM
set_option maxRecDepth 100000

/-- A code as a value. -/
def codeV (q : Int) (ws : List (List UInt8)) : PV := .agg [.int .i64 q, .sl (ws.map .str)]
def codeB (q : Int) (ws : List (List UInt8)) : AObj := .box [.p (.int .i64 q), .p (.sl (ws.map .str))]
def greatW (w : List UInt8) : Bool := (decide (8 < w.length) && decide (w.length ≤ 32)) || decide (33 < w.length)

def greatC (ws : List (List UInt8)) : Bool := (decide (8 < ws.length) && decide (ws.length ≤ 64)) || decide (65 < ws.length)
theorem t11 (q : Int) (ws : List (List UInt8)) (hl : ws.length ≤ 9223372036854775807) : PFn Try.prog 11 [codeV q ws] [.bool (greatC ws || ws.any greatW)] := by
  refine PFn.of_body hΓ Try.func11 (by kernel_rfl) rfl (AWp.of_awpD [] hΓ hmix (by kernel_rfl) ?_)
  have big : ∀ b, (8 < ws.length ∧ ws.length ≤ 64 ∨ 65 < ws.length) → true = (greatC ws || b) := fun b h => by
    have : greatC ws = true := by simp only [greatC, Bool.or_eq_true, Bool.and_eq_true, decide_eq_true_eq]; exact h
    rw [this]; rfl
  have small : ¬ (8 < ws.length ∧ ws.length ≤ 64 ∨ 65 < ws.length) → greatC ws = false := fun h => by
    simp only [greatC, Bool.or_eq_false_iff, Bool.and_eq_false_iff, decide_eq_false_iff_not]; omega
  have hc : ((8 : Int) < ws.length ∧ (ws.length : Int) ≤ 64) ∨ ((8 : Int) < ws.length ∧ ¬ (ws.length : Int) ≤ 64 ∧ (65 : Int) < ws.length) ∨ ((8 : Int) < ws.length ∧ ¬ (ws.length : Int) ≤ 64 ∧ ¬ (65 : Int) < ws.length) ∨ (¬ (8 : Int) < ws.length ∧ ¬ (65 : Int) < ws.length) := by omega
  rcases hc with ⟨h1, h2⟩ | ⟨h1, h2, h3⟩ | hc
  · simp -implicitDefEqProofs only [Try.ntmps11, Try.results11, Nat.reduceSub, codeV, h1, h2, go_sem]
    exact big _ (by omega)
  · simp -implicitDefEqProofs only [Try.ntmps11, Try.results11, Nat.reduceSub, codeV, h1, h2, h3, go_sem]
    exact big _ (by omega)
  have hsm := small (by omega)
  rw [hsm]
  rcases hc with ⟨h1, h2, h3⟩ | ⟨h1, h2⟩
  simp -implicitDefEqProofs only [Try.ntmps11, Try.results11, Nat.reduceSub, codeV, h1, h2, h3, go_sem]
  rotate_left
  simp -implicitDefEqProofs only [Try.ntmps11, Try.results11, Nat.reduceSub, codeV, h1, h2, go_sem]
  all_goals (
    clear big small hsm
    refine AWp.loopI (fun k : Nat => ⟨mkF 52 [(1, .ptr 0 0), (2, .p (.bool false)), (3, .p (.int .i64 k))], [codeB q ws]⟩)
      (fun k => k ≤ ws.length ∧ (ws.take k).any greatW = false) (fun k => ws.length - k) 0 (by simp [go_sem, codeB]) (by simp) ?_
    rintro k ⟨hk, hno⟩
    refine AWp.of_awpD [] hΓ hmix (by kernel_rfl) ?_
    simp +contextual -implicitDefEqProofs only [go_sem, getD_map_lt, ↓reduceIte, codeB]
    have key : ∀ h : k < ws.length, greatW ws[k] = true → ws.any greatW = true := fun h h' => List.any_eq_true.2 ⟨_, List.getElem_mem h, h'⟩
    have step : ∀ h : k < ws.length, greatW ws[k] = false → InR IntKind.i64 (↑k + 1) ∧ ∃ y : Nat, (↑y : Int) = ↑k + 1 ∧ (y ≤ ws.length ∧ (List.take y ws).any greatW = false) ∧ ws.length - y < ws.length - k := fun h h' =>
      ⟨by simp only [InR]; omega, k + 1, by simp, ⟨h, by rw [List.take_succ_eq_append_getElem h, List.any_append, hno]; simp [h']⟩, by omega⟩
    have yes : ∀ (h : k < ws.length), greatW ws[k] = true → true = (false || ws.any greatW) := fun h h' => by rw [key h h']; rfl
    have fin : ¬ k < ws.length → ws.any greatW = false := fun h => by rw [List.take_of_length_le (by omega)] at hno; exact hno
    refine ⟨fun h => ⟨fun h1 => ⟨fun h2 => yes h ?_, fun h2 => ⟨fun h3 => yes h ?_, fun h3 => step h ?_⟩⟩, fun h1 => ⟨fun h3 => yes h ?_, fun h3 => step h ?_⟩⟩, fun h => ?_⟩
    · simp only [greatW, Bool.or_eq_true, Bool.and_eq_true, decide_eq_true_eq]; omega
    · simp only [greatW, Bool.or_eq_true, Bool.and_eq_true, decide_eq_true_eq]; omega
    · simp only [greatW, Bool.or_eq_false_iff, Bool.and_eq_false_iff, decide_eq_false_iff_not]; omega
    · simp only [greatW, Bool.or_eq_true, Bool.and_eq_true, decide_eq_true_eq]; omega
    · simp only [greatW, Bool.or_eq_false_iff, Bool.and_eq_false_iff, decide_eq_false_iff_not]; omega
    · rw [fin h]; rfl)
end Go.Proofs.Ytgkbafkmbokkaaa
end

section
namespace Go.Proofs.Ytgkbafkmbokkaaa
open Go Go.AM
set_option maxRecDepth 1000000

/-- The model's own functions of this seat, as the reckoner takes them. -/
def axT : FuncId → List AV → Option AV := fun f args => match f, args with
  | 100, [.p (.str s), .p (.int .u8 c)] => some (.p (.int .i64 (ixB c.toNat.toUInt8 s 0)))
  | 123, [.p (.str a), .p (.str b)] => some (.p (.int .i64 (cmpB a b)))
  | _, _ => none

theorem axT_ok : ∀ f args v, axT f args = some v → AX Try.prog f args v := by
  intro f args v h
  unfold axT at h
  split at h
  · injection h with h; subst h
    exact ax_index Try.func100 (by kernel_rfl) (by kernel_rfl) (by kernel_rfl) (by kernel_rfl) _ _
  · injection h with h; subst h
    exact ax_compare Try.func123 (by kernel_rfl) (by kernel_rfl) (by kernel_rfl) (by kernel_rfl) _ _
  · cases h

theorem hEC : ECOK ⟨Try.prog, Γ, axT⟩ := ⟨hΓ, hmix, names_ok (by kernel_rfl), axT_ok⟩

def cS : PV := .agg [.int .i64 2, .sl [.str [48], .str [48, 49], .str [49, 48]]]

end Go.Proofs.Ytgkbafkmbokkaaa
end

section
namespace Go.Proofs.Ytgkbafkmbokkaaa
open Go Go.AM
set_option maxRecDepth 100000
set_option linter.unusedSimpArgs false

theorem x126 (s : List UInt8) (c : Int) : AX Try.prog 100 [.p (.str s), .p (.int .u8 c)] (.p (.int .i64 (ixB c.toNat.toUInt8 s 0))) := axT_ok _ _ _ rfl
theorem x127 (s t : List UInt8) : AX Try.prog 123 [.p (.str s), .p (.str t)] (.p (.int .i64 (cmpB s t))) := axT_ok _ _ _ rfl

theorem t113 (s : List UInt8) (c : Int) : PFn Try.prog 78 [.str s, .int .u8 c] [.int .i64 (ixB c.toNat.toUInt8 s 0)] := by
  refine PFn.of_body hΓ Try.func78 (by kernel_rfl) rfl (AWp.of_awpD [] hΓ hmix (by kernel_rfl) ?_)
  simp +contextual -implicitDefEqProofs only [Try.ntmps78, Try.results78, Nat.reduceAdd, Nat.reduceSub, go_sem]
  refine callK_ax (x126 s c) ?_
  simp +contextual -implicitDefEqProofs only [go_sem]

theorem t101 (s : List UInt8) (c : Int) : PFn Try.prog 43 [.str s, .int .u8 c] [.int .i64 (ixB c.toNat.toUInt8 s 0)] := by
  refine PFn.of_body hΓ Try.func43 (by kernel_rfl) rfl (AWp.of_awpD [] hΓ hmix (by kernel_rfl) ?_)
  simp +contextual -implicitDefEqProofs only [Try.ntmps43, Try.results43, Nat.reduceAdd, Nat.reduceSub, go_sem]
  refine callK_fn (t113 s c) (.pures rfl) ?_
  simp +contextual -implicitDefEqProofs only [go_sem]

theorem t115 (s t : List UInt8) : PFn Try.prog 104 [.str s, .str t] [.int .i64 (cmpB s t)] := by
  refine PFn.of_body hΓ Try.func104 (by kernel_rfl) rfl (AWp.of_awpD [] hΓ hmix (by kernel_rfl) ?_)
  simp +contextual -implicitDefEqProofs only [Try.ntmps104, Try.results104, Nat.reduceAdd, Nat.reduceSub, go_sem]
  refine callK_ax (x127 s t) ?_
  simp +contextual -implicitDefEqProofs only [go_sem]

theorem t104 (s t : List UInt8) : PFn Try.prog 85 [.str s, .str t] [.int .i64 (cmpB s t)] := by
  refine PFn.of_body hΓ Try.func85 (by kernel_rfl) rfl (AWp.of_awpD [] hΓ hmix (by kernel_rfl) ?_)
  simp +contextual -implicitDefEqProofs only [Try.ntmps85, Try.results85, Nat.reduceAdd, Nat.reduceSub, go_sem]
  refine callK_fn (t115 s t) (.pures rfl) ?_
  simp +contextual -implicitDefEqProofs only [go_sem]

theorem t114 (x : Int) : PFn Try.prog 101 [.int .i64 x] [.bool false] := by
  refine PFn.of_body hΓ Try.func101 (by kernel_rfl) rfl (AWp.of_awpD [] hΓ hmix (by kernel_rfl) ?_)
  simp +contextual -implicitDefEqProofs only [Try.ntmps101, Try.results101, Nat.reduceAdd, Nat.reduceSub, go_sem]

def cmpI (x y : Int) : Int := if x < y then -1 else if y < x then 1 else 0
theorem t103 (x y : Int) : PFn Try.prog 80 [.int .i64 x, .int .i64 y] [.int .i64 (cmpI x y)] := by
  refine PFn.of_body hΓ Try.func80 (by kernel_rfl) rfl (AWp.of_awpD [] hΓ hmix (by kernel_rfl) ?_)
  simp +contextual -implicitDefEqProofs only [Try.ntmps80, Try.results80, Nat.reduceAdd, Nat.reduceSub, go_sem]
  refine callK_fn (t114 x) (.pures rfl) ?_
  simp +contextual -implicitDefEqProofs only [go_sem]
  refine callK_fn (t114 y) (.pures rfl) ?_
  simp +contextual -implicitDefEqProofs only [go_sem]
  unfold cmpI
  exact ⟨fun h => by rw [if_pos h], fun h => ⟨fun h' => by rw [if_neg h, if_pos h'], fun h' => by rw [if_neg h, if_neg h']⟩⟩

theorem t100 (x : Int) : PFn Try.prog 87 [.int .i64 x] [.bool (decide (1 ≤ x) && decide (x ≤ 16))] := by
  refine PFn.of_body hΓ Try.func87 (by kernel_rfl) rfl (AWp.of_awpD [] hΓ hmix (by kernel_rfl) ?_)
  simp +contextual -implicitDefEqProofs only [Try.ntmps87, Try.results87, Nat.reduceAdd, Nat.reduceSub, go_sem]
  intro _; rfl

/-- The first that is not zero. -/
def firstNZ (l : List Int) : Int := (l.find? fun x => decide (x ≠ 0)).getD 0
theorem firstNZ_at {l : List Int} {k : Nat} (hk : k < l.length) (h0 : ∀ x ∈ l.take k, x = 0) (h1 : l[k] ≠ 0) : firstNZ l = l[k] := by
  have e : l = l.take k ++ l[k] :: l.drop (k + 1) := by rw [← List.drop_eq_getElem_cons hk, List.take_append_drop]
  unfold firstNZ
  have e2 : l.find? (fun x => decide (x ≠ 0)) = some l[k] := by
    conv => lhs; rw [e]
    rw [List.find?_append, List.find?_eq_none.2 (fun x hx => by simpa using h0 x hx), List.find?_cons, decide_eq_true h1]; rfl
  rw [e2]; rfl
theorem firstNZ_none {l : List Int} (h0 : ∀ x ∈ l, x = 0) : firstNZ l = 0 := by
  unfold firstNZ
  rw [List.find?_eq_none.2 (fun x hx => by simpa using h0 x hx)]; rfl

theorem t102 (l : List Int) (hl : l.length ≤ 9223372036854775807) : PFn Try.prog 84 [.sl (l.map (.int .i64))] [.int .i64 (firstNZ l)] := by
  refine PFn.of_body hΓ Try.func84 (by kernel_rfl) rfl (AWp.of_awpD [] hΓ hmix (by kernel_rfl) ?_)
  simp +contextual -implicitDefEqProofs only [Try.ntmps84, Try.results84, Nat.reduceAdd, Nat.reduceSub, go_sem]
  refine AWp.loopI (fun k : Nat => ⟨mkF 18 [(0, .p (.sl (l.map (.int .i64)))), (2, .p (.int .i64 0)), (3, .p (.int .i64 0)), (6, .p (.sl (l.map (.int .i64)))), (7, .p (.int .i64 l.length)), (8, .p (.int .i64 k))], []⟩)
    (fun k => k ≤ l.length ∧ ∀ x ∈ l.take k, x = 0) (fun k => l.length - k) 0 (by simp [go_sem]) (by simp) ?_
  rintro k ⟨hk, h0⟩
  refine AWp.of_awpD [] hΓ hmix (by kernel_rfl) ?_
  simp +contextual -implicitDefEqProofs only [getD_map_lt, ↓reduceIte, go_sem]
  refine ⟨fun hlt => ⟨fun he => ⟨by simp only [InR]; omega, k + 1, by simp, ⟨hlt, ?_⟩, by omega⟩, fun hne => (firstNZ_at hlt h0 hne).symm⟩, fun hge => ?_⟩
  · rw [List.take_succ_eq_append_getElem hlt]
    intro x hx
    rcases List.mem_append.1 hx with h | h
    · exact h0 x h
    · simp only [List.mem_singleton] at h; rw [h, he]
  · rw [List.take_of_length_le (by omega)] at h0
    exact (firstNZ_none h0).symm

/-- By length, then lexicographically: -1, 0, 1. -/
def cmpW (a b : List UInt8) : Int := if a.length < b.length then -1 else if b.length < a.length then 1 else cmpB a b
theorem t81 (a b : List UInt8) : PFn Try.prog 49 [.str a, .str b] [.int .i64 (cmpW a b)] := by
  refine PFn.of_body hΓ Try.func49 (by kernel_rfl) rfl (AWp.of_awpD [] hΓ hmix (by kernel_rfl) ?_)
  simp +contextual -implicitDefEqProofs only [Try.ntmps49, Try.results49, Nat.reduceAdd, Nat.reduceSub, go_sem]
  refine callK_fn (t103 a.length b.length) (.pures rfl) ?_
  simp +contextual -implicitDefEqProofs only [go_sem]
  refine callK_fn (t104 a b) (.pures rfl) ?_
  simp +contextual -implicitDefEqProofs only [go_sem]
  refine ⟨⟨by simp [sizeOK, PV.cells], by omega⟩, callK_fn (t102 [cmpI a.length b.length, cmpB a b] (by simp)) (.still rfl) ?_⟩
  simp +contextual -implicitDefEqProofs only [go_sem]
  congr 2
  unfold firstNZ cmpI cmpW
  by_cases h1 : a.length < b.length
  · simp [h1]
  · by_cases h2 : b.length < a.length
    · simp [h1, h2]
    · simp [h1, h2]
      by_cases h3 : cmpB a b = 0 <;> simp [h3]
end Go.Proofs.Ytgkbafkmbokkaaa
end

section
namespace Go.Proofs.Ytgkbafkmbokkaaa
open Go Go.AM
set_option maxRecDepth 100000
set_option linter.unusedSimpArgs false

def L16 : List UInt8 := [48, 49, 50, 51, 52, 53, 54, 55, 56, 57, 97, 98, 99, 100, 101, 102]

theorem ixB_at (c : UInt8) : ∀ (l : List UInt8) (n k : Nat) (hk : k < l.length), (∀ j (hj : j < k), l[j] ≠ c) → l[k] = c → ixB c l n = ((n + k : Nat) : Int)
  | [], n, k, hk, _, _ => absurd hk (Nat.not_lt_zero k)
  | a :: l, n, 0, _, _, h => by
    have : a = c := h
    subst this; unfold ixB; simp
  | a :: l, n, k + 1, hk, h0, h => by
    have h1 : a ≠ c := h0 0 (by omega)
    have h2 : Nat.beq a.toNat c.toNat = false := Bool.eq_false_iff.2 fun e => h1 (UInt8.toNat_inj.1 (Nat.eq_of_beq_eq_true e))
    unfold ixB
    rw [h2]
    refine (ixB_at c l (n + 1) k (by simpa using hk) (fun j hj => h0 (j + 1) (by omega)) h).trans ?_
    congr 1; omega
theorem ixB_none (c : UInt8) : ∀ (l : List UInt8) (n : Nat), (∀ j (hj : j < l.length), l[j] ≠ c) → ixB c l n = -1
  | [], _, _ => rfl
  | a :: l, n, h0 => by
    have h1 : a ≠ c := h0 0 (by simp)
    have h2 : Nat.beq a.toNat c.toNat = false := Bool.eq_false_iff.2 fun e => h1 (UInt8.toNat_inj.1 (Nat.eq_of_beq_eq_true e))
    unfold ixB
    rw [h2]
    exact ixB_none c l (n + 1) (fun j hj => h0 (j + 1) (by simpa using hj))

theorem t99 (b : UInt8) : PFn Try.prog 88 [.int .u8 b.toNat] [.int .i64 (ixB b L16 0)] := by
  refine PFn.of_body hΓ Try.func88 (by kernel_rfl) rfl (AWp.of_awpD [] hΓ hmix (by kernel_rfl) ?_)
  simp +contextual -implicitDefEqProofs only [Try.ntmps88, Try.results88, Nat.reduceAdd, Nat.reduceSub, go_sem]
  refine AWp.loopI (fun k : Nat => ⟨mkF 13 [(0, .p (.int .u8 b.toNat)), (2, .p (.int .i64 0)), (3, .p (.int .i64 k))], []⟩)
    (fun k => k ≤ 16 ∧ ∀ j (hj : j < 16), j < k → L16[j]'hj ≠ b) (fun k => 16 - k) 0 (by simp [go_sem]) (by simp) ?_
  rintro k ⟨hk, h0⟩
  refine AWp.of_awpD [] hΓ hmix (by kernel_rfl) ?_
  simp +contextual -implicitDefEqProofs only [getD_map_lt, ↓reduceIte, go_sem]
  refine ⟨fun hlt => ⟨by omega, fun he => ?_, fun hne => ⟨by simp only [InR]; omega, k + 1, by simp, ⟨by omega, ?_⟩, by omega⟩⟩, fun hge => ?_⟩
  · have hk' : k < L16.length := by simp [L16]; omega
    have e : L16[k] = b := by
      rw [← UInt8.toNat_inj, ← he]
      show _ = (L16.getD k 0).toNat
      rw [List.getD_eq_getElem?_getD, List.getElem?_eq_getElem hk', Option.getD_some]
    rw [ixB_at b L16 0 k hk' (fun j hj => h0 j (by omega) hj) e]; simp
  · intro j hj hjk e
    by_cases hjk' : j < k
    · exact h0 j hj hjk' e
    · have : j = k := by omega
      subst this
      apply hne
      rw [← e]
      show (L16.getD j 0).toNat = _
      rw [List.getD_eq_getElem?_getD, List.getElem?_eq_getElem (by simpa [L16] using hj), Option.getD_some]; rfl
  · exact (ixB_none b L16 0 (fun j hj => h0 j (by simpa [L16] using hj) (by simp [L16] at hj; omega))).symm

theorem t79 (a b : List UInt8) : PFn Try.prog 57 [.str a, .str b] [.bool (if a.length ≠ b.length then decide (a.length < b.length) else Op.bytesLess a b)] := by
  refine PFn.of_body hΓ Try.func57 (by kernel_rfl) rfl (AWp.of_awpD [] hΓ hmix (by kernel_rfl) ?_)
  simp +contextual -implicitDefEqProofs only [Try.ntmps57, Try.results57, Nat.reduceAdd, Nat.reduceSub, go_sem]

def okB (q : Int) (b : UInt8) : Bool := decide (0 ≤ ixB b L16 0) && decide (ixB b L16 0 < q)
def okW (q : Int) (w : List UInt8) : Bool := w.all (okB q)
def wordCheck (q : Int) (w : List UInt8) : Int := if q < 1 ∨ 16 < q then 12 else if 65536 < w.length then 4 else if okW q w then 0 else 13

theorem okW_step {q : Int} {w : List UInt8} {k : Nat} (hk : k < w.length) (h0 : okW q (w.take k) = true) (h1 : okB q (w.getD k 0) = true) : okW q (w.take (k + 1)) = true := by
  rw [List.getD_eq_getElem?_getD, List.getElem?_eq_getElem hk, Option.getD_some] at h1
  rw [List.take_succ_eq_append_getElem hk]
  unfold okW at h0 ⊢
  rw [List.all_append, h0]; simp [h1]
theorem wordCheck_bad {q : Int} {w : List UInt8} {k : Nat} (hq : ¬ q < 1) (hq2 : ¬ 16 < q) (hl : ¬ 65536 < w.length) (hk : k < w.length) (h1 : okB q (w.getD k 0) = false) : wordCheck q w = 13 := by
  rw [List.getD_eq_getElem?_getD, List.getElem?_eq_getElem hk, Option.getD_some] at h1
  unfold wordCheck
  rw [if_neg (by omega), if_neg hl, if_neg]
  intro h
  have := List.all_eq_true.1 h _ (List.getElem_mem hk)
  rw [h1] at this; cases this
theorem wordCheck_good {q : Int} {w : List UInt8} (hq : ¬ q < 1) (hq2 : ¬ 16 < q) (hl : ¬ 65536 < w.length) (h1 : okW q w = true) : wordCheck q w = 0 := by
  unfold wordCheck
  rw [if_neg (by omega), if_neg hl, if_pos h1]
theorem wordCheck_12 {q : Int} {w : List UInt8} (hq : q < 1 ∨ 16 < q) : wordCheck q w = 12 := by unfold wordCheck; rw [if_pos hq]
theorem wordCheck_4 {q : Int} {w : List UInt8} (hq : ¬ q < 1) (hq2 : ¬ 16 < q) (hl : 65536 < w.length) : wordCheck q w = 4 := by unfold wordCheck; rw [if_neg (by omega), if_pos hl]

theorem t78 (q : Int) (w : List UInt8) : PFn Try.prog 56 [.int .i64 q, .str w] [.int .i64 (wordCheck q w)] := by
  refine PFn.of_body hΓ Try.func56 (by kernel_rfl) rfl (AWp.of_awpD [] hΓ hmix (by kernel_rfl) ?_)
  simp +contextual -implicitDefEqProofs only [Try.ntmps56, Try.results56, Nat.reduceAdd, Nat.reduceSub, go_sem]
  refine ⟨fun h => (wordCheck_12 (.inl h)).symm, fun h1 => ⟨fun h => (wordCheck_12 (.inr h)).symm, fun h2 => ⟨fun h => (wordCheck_4 h1 h2 (by omega)).symm, fun h3 => ?_⟩⟩⟩
  have h3' : ¬ 65536 < w.length := by omega
  refine AWp.loopI (fun k : Nat => ⟨mkF 33 [(0, .p (.int .i64 q)), (1, .p (.str w)), (4, .p (.int .i64 0)), (5, .p (.int .i64 k))], []⟩)
    (fun k => k ≤ w.length ∧ okW q (w.take k) = true) (fun k => w.length - k) 0 (by simp [go_sem]) (by simp [okW]) ?_
  rintro k ⟨hk, h0⟩
  refine AWp.of_awpD [] hΓ hmix (by kernel_rfl) ?_
  simp +contextual -implicitDefEqProofs only [getD_map_lt, ↓reduceIte, go_sem]
  refine ⟨fun hlt => callK_fn (t99 (w.getD k 0)) (.pures rfl) ?_, fun hge => ?_⟩
  · simp +contextual -implicitDefEqProofs only [hlt, ↓reduceIte, go_sem]
    have good : okB q (w.getD k 0) = true → InR .i64 ((k : Int) + 1) ∧ ∃ y : Nat, (y : Int) = (k : Int) + 1 ∧ (y ≤ w.length ∧ okW q (w.take y) = true) ∧ w.length - y < w.length - k := fun h => ⟨by simp only [InR]; omega, k + 1, by simp, ⟨hlt, okW_step hlt h0 h⟩, by omega⟩
    have bad : okB q (w.getD k 0) = false → (13 : Int) = wordCheck q w := fun h => (wordCheck_bad h1 h2 h3' hlt h).symm
    refine ⟨fun e1 => bad ?_, fun e1 => ⟨fun e2 => bad ?_, fun e2 => good ?_⟩⟩
    · unfold okB; rw [decide_eq_false (by omega)]; rfl
    · unfold okB; rw [decide_eq_false (p := ixB (w.getD k 0) L16 0 < q) (by omega), Bool.and_false]
    · unfold okB; rw [decide_eq_true (by omega), decide_eq_true (by omega)]; rfl
  · rw [List.take_of_length_le (by omega)] at h0
    exact (wordCheck_good h1 h2 h3' h0).symm

theorem ixB_take (c : UInt8) : ∀ (l : List UInt8) (k m : Nat), decide (ixB c (l.take m) k < 0) = !(decide (0 ≤ ixB c l k) && decide (ixB c l k < k + m))
  | [], k, m => by simp [ixB]
  | a :: l, k, 0 => by
    have := ixB_eq c (a :: l) k
    have hge := Lib.indexByte_ge (a :: l) c
    rw [List.take_zero, this]
    simp only [ixB]
    split <;> simp <;> omega
  | a :: l, k, m + 1 => by
    have ih := ixB_take c l (k + 1) m
    rw [List.take_succ_cons]
    unfold ixB
    cases h : Nat.beq a.toNat c.toNat
    · simp only [h]
      rw [ih]
      congr 3
      push_cast; exact propext ⟨fun h => by omega, fun h => by omega⟩
    · simp only [h]
      rw [decide_eq_false (by omega), decide_eq_true (by omega), decide_eq_true (by omega)]; rfl

theorem t80 (q : Int) (w : List UInt8) : PFn Try.prog 55 [.int .i64 q, .str w] [.int .i64 (wordCheck q w)] := by
  refine PFn.of_body hΓ Try.func55 (by kernel_rfl) rfl (AWp.of_awpD [(8, 7)] hΓ hmix (by kernel_rfl) ?_)
  simp +contextual -implicitDefEqProofs only [Try.ntmps55, Try.results55, Nat.reduceAdd, Nat.reduceSub, go_sem]
  refine callK_fn (t100 q) (.pures rfl) ?_
  cases hq : (decide (1 ≤ q) && decide (q ≤ 16))
  · simp -implicitDefEqProofs only [go_sem]
    simp only [Bool.and_eq_false_iff, decide_eq_false_iff_not] at hq
    exact (wordCheck_12 (by omega)).symm
  simp -implicitDefEqProofs only [go_sem]
  simp only [Bool.and_eq_true, decide_eq_true_eq] at hq
  refine ⟨fun h3 => (wordCheck_4 (by omega) (by omega) (by omega)).symm, fun h3 => ?_⟩
  have h1 : ¬ q < 1 := by omega
  have h2 : ¬ 16 < q := by omega
  have h3' : ¬ 65536 < w.length := by omega
  refine AWp.loopI (fun k : Nat => ⟨mkF 27 [(0, .p (.int .i64 q)), (1, .p (.str w)), (4, .p (.int .i64 0)), (15, .p (.int .i64 w.length)), (16, .p (.int .i64 k))], []⟩)
    (fun k => k ≤ w.length ∧ okW q (w.take k) = true) (fun k => w.length - k) 0 (by simp [go_sem]) (by simp [okW]) ?_
  rintro k ⟨hk, h0⟩
  refine AWp.of_awpD [(8, 7)] hΓ hmix (by kernel_rfl) ?_
  simp +contextual -implicitDefEqProofs only [getD_map_lt, ↓reduceIte, go_sem]
  refine ⟨fun hlt => ⟨by omega, callVPK_fn (t101 _ (w.getD k 0).toNat) (.pures rfl) ?_⟩, fun hge => ?_⟩
  · simp +contextual -implicitDefEqProofs only [hlt, ↓reduceIte, go_sem]
    have good : okB q (w.getD k 0) = true → InR .i64 ((k : Int) + 1) ∧ ∃ y : Nat, (y : Int) = (k : Int) + 1 ∧ (y ≤ w.length ∧ okW q (w.take y) = true) ∧ w.length - y < w.length - k := fun h => ⟨by simp only [InR]; omega, k + 1, by simp, ⟨hlt, okW_step hlt h0 h⟩, by omega⟩
    have bad : okB q (w.getD k 0) = false → (13 : Int) = wordCheck q w := fun h => (wordCheck_bad h1 h2 h3' hlt h).symm
    have key : decide (ixB (w.getD k 0) (L16.take q.toNat) 0 < 0) = !okB q (w.getD k 0) := by
      rw [ixB_take, okB, show ((0 : Nat) : Int) + (q.toNat : Nat) = q by omega]
    have e : (w.getD k 0).toNat.toUInt8 = w.getD k 0 := by simp
    rw [e]
    refine ⟨fun e1 => bad ?_, fun e1 => good ?_⟩
    · have := decide_eq_true e1
      rw [show ixB (w.getD k 0) (List.take q.toNat [48, 49, 50, 51, 52, 53, 54, 55, 56, 57, 97, 98, 99, 100, 101, 102]) 0 = ixB (w.getD k 0) (L16.take q.toNat) 0 from rfl, key] at this
      simpa using this
    · have := decide_eq_false e1
      rw [show ixB (w.getD k 0) (List.take q.toNat [48, 49, 50, 51, 52, 53, 54, 55, 56, 57, 97, 98, 99, 100, 101, 102]) 0 = ixB (w.getD k 0) (L16.take q.toNat) 0 from rfl, key] at this
      simpa using this
  · rw [List.take_of_length_le (by omega)] at h0
    exact (wordCheck_good h1 h2 h3' h0).symm
end Go.Proofs.Ytgkbafkmbokkaaa
end

section
namespace Go.Proofs.Ytgkbafkmbokkaaa
open Go Go.AM
set_option maxRecDepth 100000
set_option linter.unusedSimpArgs false

/-- What is wrong with the word at i. -/
def wordErr (q : Int) (ws : List (List UInt8)) (i : Nat) : Int :=
  let w := ws.getD i []
  if w = [] then 5 else if 32 < w.length then 4 else if wordCheck q w ≠ 0 then 13 else if 0 < i ∧ 0 ≤ cmpW (ws.getD (i - 1) []) w then 10 else 0
/-- What is wrong with a code: 0 if nothing is. -/
def codeCheck (q : Int) (ws : List (List UInt8)) : Int :=
  if q < 2 ∨ 16 < q then 12 else if ws.length = 0 then 5 else if 64 < ws.length then 4 else firstNZ ((List.range ws.length).map (wordErr q ws))

theorem codeCheck_12 {q : Int} {ws : List (List UInt8)} (h : q < 2 ∨ 16 < q) : codeCheck q ws = 12 := by unfold codeCheck; rw [if_pos h]
theorem codeCheck_5 {q : Int} {ws : List (List UInt8)} (h : ¬ (q < 2 ∨ 16 < q)) (h1 : ws.length = 0) : codeCheck q ws = 5 := by unfold codeCheck; rw [if_neg h, if_pos h1]
theorem codeCheck_4 {q : Int} {ws : List (List UInt8)} (h : ¬ (q < 2 ∨ 16 < q)) (h1 : ¬ ws.length = 0) (h2 : 64 < ws.length) : codeCheck q ws = 4 := by unfold codeCheck; rw [if_neg h, if_neg h1, if_pos h2]
theorem codeCheck_at {q : Int} {ws : List (List UInt8)} (h : ¬ (q < 2 ∨ 16 < q)) (h2 : ¬ 64 < ws.length) {k : Nat} (hk : k < ws.length) (h0 : ∀ j, j < k → wordErr q ws j = 0) (h1 : wordErr q ws k ≠ 0) :
    codeCheck q ws = wordErr q ws k := by
  unfold codeCheck
  rw [if_neg h, if_neg (by omega), if_neg h2, firstNZ_at (k := k) (by simpa using hk) (fun x hx => ?_) (by simpa using h1)]
  · simp
  · rw [← List.map_take, List.take_range] at hx
    obtain ⟨j, hj, rfl⟩ := List.mem_map.1 hx
    exact h0 j (by have := List.mem_range.1 hj; omega)
theorem codeCheck_0 {q : Int} {ws : List (List UInt8)} (h : ¬ (q < 2 ∨ 16 < q)) (h1 : ¬ ws.length = 0) (h2 : ¬ 64 < ws.length) (h0 : ∀ j, j < ws.length → wordErr q ws j = 0) : codeCheck q ws = 0 := by
  unfold codeCheck
  rw [if_neg h, if_neg h1, if_neg h2, firstNZ_none]
  intro x hx
  obtain ⟨j, hj, rfl⟩ := List.mem_map.1 hx
  exact h0 j (List.mem_range.1 hj)

theorem t45 (q : Int) (ws : List (List UInt8)) : PFn Try.prog 21 [codeV q ws] [.int .i64 (codeCheck q ws)] := by
  refine PFn.of_body hΓ Try.func21 (by kernel_rfl) rfl (AWp.of_awpD [] hΓ hmix (by kernel_rfl) ?_)
  simp +contextual -implicitDefEqProofs only [codeV, Try.ntmps21, Try.results21, Nat.reduceAdd, Nat.reduceSub, go_sem]
  refine ⟨fun h => (codeCheck_12 (.inl h)).symm, fun h1 => ⟨fun h => (codeCheck_12 (.inr h)).symm, fun h2 => ⟨fun h => (codeCheck_5 (by omega) (by omega)).symm, fun h3 => ⟨fun h => (codeCheck_4 (by omega) (by omega) (by omega)).symm, fun h4 => ?_⟩⟩⟩⟩
  have hq : ¬ (q < 2 ∨ 16 < q) := by omega
  have hn : ¬ ws.length = 0 := by omega
  have hl : ¬ 64 < ws.length := by omega
  refine AWp.loopI (fun k : Nat => ⟨mkF 60 [(1, .ptr 0 0), (2, .p (.int .i64 0)), (25, .p (.sl (ws.map .str))), (26, .p (.int .i64 ws.length)), (27, .p (.int .i64 k))], [codeB q ws]⟩)
    (fun k => k ≤ ws.length ∧ ∀ j, j < k → wordErr q ws j = 0) (fun k => ws.length - k) 0 (by simp [go_sem, codeB]) (by simp) ?_
  rintro k ⟨hk, h0⟩
  refine AWp.of_awpD [] hΓ hmix (by kernel_rfl) ?_
  simp +contextual -implicitDefEqProofs only [getD_map_lt, ↓reduceIte, codeB, go_sem]
  refine ⟨fun hlt => ?_, fun hge => (codeCheck_0 hq hn hl (fun j hj => h0 j (by omega))).symm⟩
  have bad : wordErr q ws k ≠ 0 → wordErr q ws k = codeCheck q ws := fun h => (codeCheck_at hq hl hlt h0 h).symm
  have hw : ws.getD k [] = ws[k] := by rw [List.getD_eq_getElem?_getD, List.getElem?_eq_getElem hlt, Option.getD_some]
  have good : wordErr q ws k = 0 → InR .i64 ((k : Int) + 1) ∧ ∃ y : Nat, (y : Int) = (k : Int) + 1 ∧ (y ≤ ws.length ∧ ∀ j, j < y → wordErr q ws j = 0) ∧ ws.length - y < ws.length - k :=
    fun h => ⟨by simp only [InR]; omega, k + 1, by simp, ⟨hlt, fun j hj => by by_cases h' : j = k; · subst h'; exact h
                                                                              · exact h0 j (by omega)⟩, by omega⟩
  have e5 : ws[k] = [] → wordErr q ws k = 5 := fun h => by unfold wordErr; rw [hw, if_pos h]
  have e4 : ¬ ws[k] = [] → 32 < ws[k].length → wordErr q ws k = 4 := fun h h' => by unfold wordErr; rw [hw, if_neg h, if_pos h']
  have e13 : ¬ ws[k] = [] → ¬ 32 < ws[k].length → wordCheck q ws[k] ≠ 0 → wordErr q ws k = 13 := fun h h' h'' => by unfold wordErr; rw [hw, if_neg h, if_neg h', if_pos h'']
  have eL : ¬ ws[k] = [] → ¬ 32 < ws[k].length → wordCheck q ws[k] = 0 → wordErr q ws k = if 0 < k ∧ 0 ≤ cmpW (ws.getD (k - 1) []) ws[k] then 10 else 0 := fun h h' h'' => by unfold wordErr; rw [hw, if_neg h, if_neg h', if_neg (by omega)]
  refine ⟨fun h => by have := e5 h; rw [← bad (by omega)]; omega, fun n5 => ⟨fun h => by have := e4 n5 (by omega); rw [← bad (by omega)]; omega, fun n4 => callK_fn (t80 q ws[k]) (.pures rfl) ?_⟩⟩
  simp +contextual -implicitDefEqProofs only [getD_map_lt, ↓reduceIte, codeB, hlt, go_sem]
  refine ⟨fun h => ⟨fun hp => ?_, fun hp => good (by rw [eL n5 (by omega) h, if_neg (by omega)])⟩, fun n13 => by have := e13 n5 (by omega) n13; rw [← bad (by omega)]; omega⟩
  have hk1 : ((k : Int) - 1).toNat = k - 1 := by omega
  have hlt1 : k - 1 < ws.length := by omega
  have hw1 : ws.getD (k - 1) [] = ws[k - 1] := by rw [List.getD_eq_getElem?_getD, List.getElem?_eq_getElem hlt1, Option.getD_some]
  rw [hw1] at eL
  simp +contextual -implicitDefEqProofs only [hk1, getD_map_lt, hlt1, ↓reduceIte, codeB, go_sem]
  refine ⟨by simp only [InR]; omega, by omega, ?_⟩
  refine callK_fn (t81 ws[k - 1] ws[k]) (.pures rfl) ?_
  simp +contextual -implicitDefEqProofs only [getD_map_lt, ↓reduceIte, codeB, hlt, go_sem]
  refine ⟨fun hc => ?_, fun hc => good (by rw [eL n5 (by omega) h, if_neg (fun e => hc e.2)])⟩
  have := eL n5 (by omega) h
  rw [if_pos ⟨by omega, hc⟩] at this
  rw [← bad (by omega)]; omega

theorem less_eq (a b : List UInt8) : (if a.length ≠ b.length then decide (a.length < b.length) else Op.bytesLess a b) = decide (cmpW a b < 0) := by
  unfold cmpW
  by_cases h1 : a.length < b.length
  · rw [if_pos (by omega), if_pos h1]; simp [h1]
  · by_cases h2 : b.length < a.length
    · rw [if_pos (by omega), if_neg h1, if_pos h2]; simp [h1]
    · rw [if_neg (by omega), if_neg h1, if_neg h2, ← bLt_eq]
      unfold cmpB
      cases bLt a b
      · cases bEq a b <;> rfl
      · rfl
theorem t79' (a b : List UInt8) : PFn Try.prog 57 [.str a, .str b] [.bool (decide (cmpW a b < 0))] := by rw [← less_eq]; exact t79 a b

theorem t44 (q : Int) (ws : List (List UInt8)) : PFn Try.prog 22 [codeV q ws] [.int .i64 (codeCheck q ws)] := by
  refine PFn.of_body hΓ Try.func22 (by kernel_rfl) rfl (AWp.of_awpD [] hΓ hmix (by kernel_rfl) ?_)
  simp +contextual -implicitDefEqProofs only [codeV, Try.ntmps22, Try.results22, Nat.reduceAdd, Nat.reduceSub, go_sem]
  refine ⟨fun h => (codeCheck_12 (.inl h)).symm, fun h1 => ⟨fun h => (codeCheck_12 (.inr h)).symm, fun h2 => ⟨fun h => (codeCheck_5 (by omega) (by omega)).symm, fun h3 => ⟨fun h => (codeCheck_4 (by omega) (by omega) (by omega)).symm, fun h4 => ?_⟩⟩⟩⟩
  have hq : ¬ (q < 2 ∨ 16 < q) := by omega
  have hn : ¬ ws.length = 0 := by omega
  have hl : ¬ 64 < ws.length := by omega
  refine AWp.loopI (fun k : Nat => ⟨mkF 56 [(1, .ptr 0 0), (2, .p (.int .i64 0)), (3, .p (.int .i64 k))], [codeB q ws]⟩)
    (fun k => k ≤ ws.length ∧ ∀ j, j < k → wordErr q ws j = 0) (fun k => ws.length - k) 0 (by simp [go_sem, codeB]) (by simp) ?_
  rintro k ⟨hk, h0⟩
  refine AWp.of_awpD [] hΓ hmix (by kernel_rfl) ?_
  simp +contextual -implicitDefEqProofs only [getD_map_lt, ↓reduceIte, codeB, go_sem]
  refine ⟨fun hlt => ?_, fun hge => (codeCheck_0 hq hn hl (fun j hj => h0 j (by omega))).symm⟩
  have bad : wordErr q ws k ≠ 0 → wordErr q ws k = codeCheck q ws := fun h => (codeCheck_at hq hl hlt h0 h).symm
  have hw : ws.getD k [] = ws[k] := by rw [List.getD_eq_getElem?_getD, List.getElem?_eq_getElem hlt, Option.getD_some]
  have good : wordErr q ws k = 0 → InR .i64 ((k : Int) + 1) ∧ ∃ y : Nat, (y : Int) = (k : Int) + 1 ∧ (y ≤ ws.length ∧ ∀ j, j < y → wordErr q ws j = 0) ∧ ws.length - y < ws.length - k :=
    fun h => ⟨by simp only [InR]; omega, k + 1, by simp, ⟨hlt, fun j hj => by by_cases h' : j = k; · subst h'; exact h
                                                                              · exact h0 j (by omega)⟩, by omega⟩
  have e5 : ws[k] = [] → wordErr q ws k = 5 := fun h => by unfold wordErr; rw [hw, if_pos h]
  have e4 : ¬ ws[k] = [] → 32 < ws[k].length → wordErr q ws k = 4 := fun h h' => by unfold wordErr; rw [hw, if_neg h, if_pos h']
  have e13 : ¬ ws[k] = [] → ¬ 32 < ws[k].length → wordCheck q ws[k] ≠ 0 → wordErr q ws k = 13 := fun h h' h'' => by unfold wordErr; rw [hw, if_neg h, if_neg h', if_pos h'']
  have eL : ¬ ws[k] = [] → ¬ 32 < ws[k].length → wordCheck q ws[k] = 0 → wordErr q ws k = if 0 < k ∧ 0 ≤ cmpW (ws.getD (k - 1) []) ws[k] then 10 else 0 := fun h h' h'' => by unfold wordErr; rw [hw, if_neg h, if_neg h', if_neg (by omega)]
  refine ⟨fun h => by have := e5 h; rw [← bad (by omega)]; omega, fun n5 => ⟨fun h => by have := e4 n5 (by omega); rw [← bad (by omega)]; omega, fun n4 => callK_fn (t78 q ws[k]) (.pures rfl) ?_⟩⟩
  simp +contextual -implicitDefEqProofs only [getD_map_lt, ↓reduceIte, codeB, hlt, go_sem]
  refine ⟨fun h => ⟨fun hp => ?_, fun hp => good (by rw [eL n5 (by omega) h, if_neg (by omega)])⟩, fun n13 => by have := e13 n5 (by omega) n13; rw [← bad (by omega)]; omega⟩
  have hk1 : ((k : Int) - 1).toNat = k - 1 := by omega
  have hlt1 : k - 1 < ws.length := by omega
  have hw1 : ws.getD (k - 1) [] = ws[k - 1] := by rw [List.getD_eq_getElem?_getD, List.getElem?_eq_getElem hlt1, Option.getD_some]
  rw [hw1] at eL
  simp +contextual -implicitDefEqProofs only [hk1, getD_map_lt, hlt1, ↓reduceIte, codeB, go_sem]
  refine ⟨by simp only [InR]; omega, by omega, ?_⟩
  refine callK_fn (t79' ws[k - 1] ws[k]) (.pures rfl) ?_
  simp +contextual -implicitDefEqProofs only [getD_map_lt, ↓reduceIte, codeB, hlt, go_sem]
  refine ⟨fun hc => good (by rw [eL n5 (by omega) h, if_neg (fun e => by omega)]), fun hc => ?_⟩
  have := eL n5 (by omega) h
  rw [if_pos ⟨by omega, by omega⟩] at this
  rw [← bad (by omega)]; omega
end Go.Proofs.Ytgkbafkmbokkaaa
end

section
namespace Go.Proofs.Ytgkbafkmbokkaaa
open Go Go.AM
set_option maxRecDepth 100000
set_option linter.unusedSimpArgs false

theorem t85 (w x : List UInt8) : PFn Try.prog 62 [.str w, .str x] [.bool (x.isPrefixOf w)] := by
  refine PFn.of_body hΓ Try.func62 (by kernel_rfl) rfl (AWp.of_awpD [] hΓ hmix (by kernel_rfl) ?_)
  simp +contextual -implicitDefEqProofs only [Try.ntmps62, Try.results62, Nat.reduceAdd, Nat.reduceSub, go_sem]
  refine ⟨fun h => ?_, fun h => ?_⟩
  · rw [Bool.eq_iff_iff, List.isPrefixOf_iff_prefix, List.prefix_iff_eq_take, decide_eq_true_eq]; exact eq_comm
  · rw [Bool.eq_iff_iff, List.isPrefixOf_iff_prefix]
    exact ⟨fun h => by simp at h, fun h' => absurd h'.length_le (by omega)⟩

theorem t69 (w x : List UInt8) : PFn Try.prog 31 [.str w, .str x] [.bool (x.isPrefixOf w)] := by
  refine PFn.of_body hΓ Try.func31 (by kernel_rfl) rfl (AWp.of_awpD [] hΓ hmix (by kernel_rfl) ?_)
  simp +contextual -implicitDefEqProofs only [Try.ntmps31, Try.results31, Nat.reduceAdd, Nat.reduceSub, go_sem]
  refine callK_fn (t85 w x) (.pures rfl) ?_
  simp +contextual -implicitDefEqProofs only [go_sem]

end Go.Proofs.Ytgkbafkmbokkaaa
end

