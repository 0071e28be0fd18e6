/-
  The types of the seat's translation, as the walks want them. Printed by wip/gen_ty.py.
  The reference's small functions: what they compute.
  The model's own functions of this seat; the examples' proof stands later (Awk), out of contracts.
  Words and codes: the small functions, of the program and of the reference: what they compute.
-/
import Derived.Test.YtpljmccnfmkmfaaGreatJ5a643a652e40
import Derived.Test.YtpljmccnfmkmfaaGreatProg
import Derived.KernelRfl
import Derived.Test.YtpljmccnfmkmfaaGreatJe44492cbafb2
import Derived.Test.YtpljmccnfmkmfaaGreatJ275b6b48883e

section
namespace Go.Proofs.YtpljmccnfmkmfaaGreat
open Go Go.AM
set_option maxRecDepth 100000
set_option maxHeartbeats 4000000

def Γ : Gam := fun t => match t with
  | 1 => some { td := .other, cells := 1, bytes := 8, zero := some (.cell), isAgg := false }
  | 2 => some { td := .int .i64, cells := 1, bytes := 8, zero := some (.p (.int .i64 0)), isAgg := false }
  | 3 => some { td := .int .i64, cells := 1, bytes := 8, zero := some (.p (.int .i64 0)), isAgg := false }
  | 4 => some { td := .bool, cells := 1, bytes := 1, zero := some (.p (.bool false)), isAgg := false }
  | 5 => some { td := .int .u8, cells := 1, bytes := 1, zero := some (.p (.int .u8 0)), isAgg := false }
  | 6 => some { td := .int .u8, cells := 1, bytes := 1, zero := some (.p (.int .u8 0)), isAgg := false }
  | 7 => some { td := .struct [(0, 2), (1, 3), (2, 4), (3, 6)], cells := 4, bytes := 24, zero := some (.agg [.p (.int .i64 0), .p (.int .i64 0), .p (.bool false), .p (.int .u8 0)]), isAgg := true }
  | 8 => some { td := .struct [(0, 2), (1, 3), (2, 4), (3, 6)], cells := 4, bytes := 24, zero := some (.agg [.p (.int .i64 0), .p (.int .i64 0), .p (.bool false), .p (.int .u8 0)]), isAgg := true }
  | 9 => some { td := .str, cells := 1, bytes := 16, zero := some (.p (.str [])), isAgg := false }
  | 10 => some { td := .str, cells := 1, bytes := 16, zero := some (.p (.str [])), isAgg := false }
  | 11 => some { td := .str, cells := 1, bytes := 16, zero := some (.p (.str [])), isAgg := false }
  | 12 => some { td := .int .u64, cells := 1, bytes := 8, zero := some (.p (.int .u64 0)), isAgg := false }
  | 13 => some { td := .struct [(0, 9), (1, 12)], cells := 2, bytes := 24, zero := some (.agg [.p (.str []), .p (.int .u64 0)]), isAgg := true }
  | 14 => some { td := .struct [(0, 9), (1, 12)], cells := 2, bytes := 24, zero := some (.agg [.p (.str []), .p (.int .u64 0)]), isAgg := true }
  | 15 => some { td := .other, cells := 1, bytes := 8, zero := some (.cell), isAgg := false }
  | 16 => some { td := .other, cells := 1, bytes := 8, zero := some (.cell), isAgg := false }
  | 17 => some { td := .other, cells := 1, bytes := 8, zero := some (.cell), isAgg := false }
  | 18 => some { td := .struct [(0, 17)], cells := 1, bytes := 8, zero := some (.agg [.cell]), isAgg := true }
  | 19 => some { td := .struct [(0, 17)], cells := 1, bytes := 8, zero := some (.agg [.cell]), isAgg := true }
  | 21 => some { td := .int .i32, cells := 1, bytes := 4, zero := some (.p (.int .i32 0)), isAgg := false }
  | 22 => some { td := .slice 9, cells := 1, bytes := 24, zero := some (.full []), isAgg := false }
  | 23 => some { td := .struct [(0, 3), (1, 22)], cells := 2, bytes := 32, zero := some (.agg [.p (.int .i64 0), .full []]), isAgg := true }
  | 24 => some { td := .struct [(0, 3), (1, 22)], cells := 2, bytes := 32, zero := some (.agg [.p (.int .i64 0), .full []]), isAgg := true }
  | 25 => some { td := .other, cells := 1, bytes := 8, zero := some (.cell), isAgg := false }
  | 26 => some { td := .other, cells := 1, bytes := 8, zero := some (.cell), isAgg := false }
  | 27 => some { td := .int .i64, cells := 1, bytes := 8, zero := some (.p (.int .i64 0)), isAgg := false }
  | 29 => some { td := .other, cells := 1, bytes := 8, zero := some (.cell), isAgg := false }
  | 31 => some { td := .other, cells := 1, bytes := 8, zero := some (.cell), isAgg := false }
  | 32 => some { td := .other, cells := 1, bytes := 8, zero := some (.cell), isAgg := false }
  | 33 => some { td := .other, cells := 1, bytes := 8, zero := some (.cell), isAgg := false }
  | 34 => some { td := .other, cells := 1, bytes := 8, zero := some (.cell), isAgg := false }
  | 35 => some { td := .other, cells := 1, bytes := 8, zero := some (.cell), isAgg := false }
  | 36 => some { td := .slice 3, cells := 1, bytes := 24, zero := some (.full []), isAgg := false }
  | 37 => some { td := .other, cells := 1, bytes := 8, zero := some (.cell), isAgg := false }
  | 39 => some { td := .other, cells := 1, bytes := 8, zero := some (.cell), isAgg := false }
  | 40 => some { td := .other, cells := 1, bytes := 8, zero := some (.cell), isAgg := false }
  | 41 => some { td := .other, cells := 1, bytes := 8, zero := some (.cell), isAgg := false }
  | 43 => some { td := .other, cells := 1, bytes := 8, zero := some (.cell), isAgg := false }
  | 44 => some { td := .other, cells := 1, bytes := 8, zero := some (.cell), isAgg := false }
  | 46 => some { td := .other, cells := 1, bytes := 8, zero := some (.cell), isAgg := false }
  | 47 => some { td := .other, cells := 1, bytes := 8, zero := some (.cell), isAgg := false }
  | 48 => some { td := .other, cells := 1, bytes := 8, zero := some (.cell), isAgg := false }
  | 49 => some { td := .other, cells := 1, bytes := 8, zero := some (.cell), isAgg := false }
  | 50 => some { td := .other, cells := 1, bytes := 8, zero := some (.cell), isAgg := false }
  | 51 => some { td := .other, cells := 1, bytes := 8, zero := some (.cell), isAgg := false }
  | 52 => some { td := .struct [(0, 4), (1, 9)], cells := 2, bytes := 24, zero := some (.agg [.p (.bool false), .p (.str [])]), isAgg := true }
  | 53 => some { td := .struct [(0, 4), (1, 9)], cells := 2, bytes := 24, zero := some (.agg [.p (.bool false), .p (.str [])]), isAgg := true, eqs := true }
  | 54 => some { td := .struct [(0, 53), (2, 53)], cells := 4, bytes := 48, zero := some (.agg [.p (.bool false), .p (.str []), .p (.bool false), .p (.str [])]), isAgg := true }
  | 55 => some { td := .struct [(0, 53), (2, 53)], cells := 4, bytes := 48, zero := some (.agg [.p (.bool false), .p (.str []), .p (.bool false), .p (.str [])]), isAgg := true, eqs := true }
  | 57 => some { td := .other, cells := 1, bytes := 8, zero := some (.cell), isAgg := false }
  | 58 => some { td := .other, cells := 1, bytes := 8, zero := some (.cell), isAgg := false }
  | 59 => some { td := .other, cells := 1, bytes := 8, zero := some (.cell), isAgg := false }
  | 60 => some { td := .other, cells := 1, bytes := 8, zero := some (.cell), isAgg := false }
  | 61 => some { td := .other, cells := 1, bytes := 8, zero := some (.cell), isAgg := false }
  | 62 => some { td := .slice 55, cells := 1, bytes := 24, zero := some (.full []), isAgg := false }
  | 63 => some { td := .other, cells := 1, bytes := 8, zero := some (.cell), isAgg := false }
  | 64 => some { td := .other, cells := 1, bytes := 8, zero := some (.cell), isAgg := false }
  | 65 => some { td := .slice 5, cells := 1, bytes := 24, zero := some (.full []), isAgg := false }
  | 66 => some { td := .other, cells := 1, bytes := 8, zero := some (.cell), isAgg := false }
  | 67 => some { td := .other, cells := 1, bytes := 8, zero := some (.cell), isAgg := false }
  | 68 => some { td := .other, cells := 1, bytes := 8, zero := some (.cell), isAgg := false }
  | 70 => some { td := .other, cells := 1, bytes := 8, zero := some (.cell), isAgg := false }
  | 71 => some { td := .other, cells := 1, bytes := 8, zero := some (.cell), isAgg := false }
  | 72 => some { td := .other, cells := 1, bytes := 8, zero := some (.cell), isAgg := false }
  | 73 => some { td := .other, cells := 1, bytes := 8, zero := some (.cell), isAgg := false }
  | 74 => some { td := .other, cells := 1, bytes := 8, zero := some (.cell), isAgg := false }
  | 75 => some { td := .other, cells := 1, bytes := 8, zero := some (.cell), isAgg := false }
  | 76 => some { td := .other, cells := 1, bytes := 8, zero := some (.cell), isAgg := false }
  | 77 => some { td := .other, cells := 1, bytes := 8, zero := some (.cell), isAgg := false }
  | 78 => some { td := .other, cells := 1, bytes := 8, zero := some (.cell), isAgg := false }
  | 79 => some { td := .other, cells := 1, bytes := 8, zero := some (.cell), isAgg := false }
  | 80 => some { td := .other, cells := 1, bytes := 8, zero := some (.cell), isAgg := false }
  | 81 => some { td := .other, cells := 1, bytes := 8, zero := some (.cell), isAgg := false }
  | 82 => some { td := .other, cells := 1, bytes := 8, zero := some (.cell), isAgg := false }
  | 83 => some { td := .other, cells := 1, bytes := 8, zero := some (.cell), isAgg := false }
  | 84 => some { td := .other, cells := 1, bytes := 8, zero := some (.cell), isAgg := false }
  | 85 => some { td := .slice 87, cells := 1, bytes := 24, zero := some (.full []), isAgg := false }
  | 86 => some { td := .struct [(0, 3), (1, 3)], cells := 2, bytes := 16, zero := some (.agg [.p (.int .i64 0), .p (.int .i64 0)]), isAgg := true }
  | 87 => some { td := .struct [(0, 3), (1, 3)], cells := 2, bytes := 16, zero := some (.agg [.p (.int .i64 0), .p (.int .i64 0)]), isAgg := true, eqs := true }
  | 88 => some { td := .other, cells := 1, bytes := 8, zero := some (.cell), isAgg := false }
  | 89 => some { td := .other, cells := 1, bytes := 8, zero := some (.cell), isAgg := false }
  | 90 => some { td := .other, cells := 1, bytes := 8, zero := some (.cell), isAgg := false }
  | 91 => some { td := .other, cells := 1, bytes := 8, zero := some (.cell), isAgg := false }
  | 92 => some { td := .other, cells := 1, bytes := 8, zero := some (.cell), isAgg := false }
  | 93 => some { td := .other, cells := 1, bytes := 8, zero := some (.cell), isAgg := false }
  | 94 => some { td := .other, cells := 1, bytes := 8, zero := some (.cell), isAgg := false }
  | 95 => some { td := .slice 9, cells := 1, bytes := 24, zero := some (.full []), isAgg := false }
  | 96 => some { td := .other, cells := 1, bytes := 8, zero := some (.cell), isAgg := false }
  | 97 => some { td := .other, cells := 1, bytes := 8, zero := some (.cell), isAgg := false }
  | 98 => some { td := .other, cells := 1, bytes := 8, zero := some (.cell), isAgg := false }
  | 99 => some { td := .other, cells := 1, bytes := 8, zero := some (.cell), isAgg := false }
  | 100 => some { td := .other, cells := 1, bytes := 8, zero := some (.cell), isAgg := false }
  | 101 => some { td := .other, cells := 1, bytes := 8, zero := some (.cell), isAgg := false }
  | 103 => some { td := .other, cells := 1, bytes := 8, zero := some (.cell), isAgg := false }
  | 104 => some { td := .other, cells := 1, bytes := 8, zero := some (.cell), isAgg := false }
  | 105 => some { td := .other, cells := 1, bytes := 8, zero := some (.cell), isAgg := false }
  | 106 => some { td := .other, cells := 1, bytes := 8, zero := some (.cell), isAgg := false }
  | 107 => some { td := .other, cells := 1, bytes := 8, zero := some (.cell), isAgg := false }
  | 108 => some { td := .other, cells := 1, bytes := 8, zero := some (.cell), isAgg := false }
  | 109 => some { td := .other, cells := 1, bytes := 8, zero := some (.cell), isAgg := false }
  | 110 => some { td := .other, cells := 1, bytes := 8, zero := some (.cell), isAgg := false }
  | 111 => some { td := .other, cells := 1, bytes := 8, zero := some (.cell), isAgg := false }
  | 112 => some { td := .other, cells := 1, bytes := 8, zero := some (.cell), isAgg := false }
  | 113 => some { td := .other, cells := 1, bytes := 8, zero := some (.cell), isAgg := false }
  | 114 => some { td := .other, cells := 1, bytes := 8, zero := some (.cell), isAgg := false }
  | 115 => some { td := .other, cells := 1, bytes := 8, zero := some (.cell), isAgg := false }
  | 116 => some { td := .other, cells := 1, bytes := 8, zero := some (.cell), isAgg := false }
  | 117 => some { td := .struct [(0, 116), (1, 65)], cells := 2, bytes := 32, zero := some (.agg [.cell, .full []]), isAgg := true }
  | 118 => some { td := .struct [(0, 116), (1, 65)], cells := 2, bytes := 32, zero := some (.agg [.cell, .full []]), isAgg := true }
  | 122 => some { td := .other, cells := 1, bytes := 8, zero := some (.cell), isAgg := false }
  | 123 => some { td := .other, cells := 1, bytes := 8, zero := some (.cell), isAgg := false }
  | 124 => some { td := .other, cells := 1, bytes := 8, zero := some (.cell), isAgg := false }
  | 125 => some { td := .other, cells := 1, bytes := 8, zero := some (.cell), isAgg := false }
  | 126 => some { td := .other, cells := 1, bytes := 8, zero := some (.cell), isAgg := false }
  | 127 => some { td := .other, cells := 1, bytes := 8, zero := some (.cell), isAgg := false }
  | 128 => some { td := .other, cells := 1, bytes := 8, zero := some (.cell), isAgg := false }
  | 129 => some { td := .slice 22, cells := 1, bytes := 24, zero := some (.full []), isAgg := false }
  | 130 => some { td := .other, cells := 1, bytes := 8, zero := some (.cell), isAgg := false }
  | 131 => some { td := .other, cells := 1, bytes := 8, zero := some (.cell), isAgg := false }
  | 132 => some { td := .other, cells := 1, bytes := 8, zero := some (.cell), isAgg := false }
  | 133 => some { td := .other, cells := 1, bytes := 8, zero := some (.cell), isAgg := false }
  | 134 => some { td := .int .u64, cells := 1, bytes := 8, zero := some (.p (.int .u64 0)), isAgg := false }
  | 135 => some { td := .other, cells := 1, bytes := 8, zero := some (.cell), isAgg := false }
  | 136 => some { td := .int .u32, cells := 1, bytes := 4, zero := some (.p (.int .u32 0)), isAgg := false }
  | 137 => some { td := .int .u64, cells := 1, bytes := 8, zero := some (.p (.int .u64 0)), isAgg := false }
  | 138 => some { td := .slice 136, cells := 1, bytes := 24, zero := some (.full []), isAgg := false }
  | 139 => some { td := .slice 136, cells := 1, bytes := 24, zero := some (.full []), isAgg := false }
  | 140 => some { td := .other, cells := 1, bytes := 8, zero := some (.cell), isAgg := false }
  | 141 => some { td := .other, cells := 1, bytes := 8, zero := some (.cell), isAgg := false }
  | 142 => some { td := .struct [(0, 95), (1, 9)], cells := 2, bytes := 40, zero := some (.agg [.full [], .p (.str [])]), isAgg := true }
  | 143 => some { td := .struct [(0, 95), (1, 9)], cells := 2, bytes := 40, zero := some (.agg [.full [], .p (.str [])]), isAgg := true }
  | 144 => some { td := .slice 143, cells := 1, bytes := 24, zero := some (.full []), isAgg := false }
  | 145 => some { td := .map 9 4, cells := 1, bytes := 8, zero := some (.cell), isAgg := false }
  | 146 => some { td := .other, cells := 1, bytes := 8, zero := some (.cell), isAgg := false }
  | 147 => some { td := .other, cells := 1, bytes := 8, zero := some (.cell), isAgg := false }
  | 148 => some { td := .other, cells := 1, bytes := 8, zero := some (.cell), isAgg := false }
  | 149 => some { td := .other, cells := 1, bytes := 8, zero := some (.cell), isAgg := false }
  | 150 => some { td := .other, cells := 1, bytes := 8, zero := some (.cell), isAgg := false }
  | 151 => some { td := .other, cells := 1, bytes := 8, zero := some (.cell), isAgg := false }
  | 152 => some { td := .other, cells := 1, bytes := 8, zero := some (.cell), isAgg := false }
  | 153 => some { td := .other, cells := 1, bytes := 8, zero := some (.cell), isAgg := false }
  | 154 => some { td := .other, cells := 1, bytes := 8, zero := some (.cell), isAgg := false }
  | 155 => some { td := .other, cells := 1, bytes := 8, zero := some (.cell), isAgg := false }
  | 156 => some { td := .other, cells := 1, bytes := 8, zero := some (.cell), isAgg := false }
  | 157 => some { td := .other, cells := 1, bytes := 8, zero := some (.cell), isAgg := false }
  | 158 => some { td := .other, cells := 1, bytes := 8, zero := some (.cell), isAgg := false }
  | 159 => some { td := .other, cells := 1, bytes := 8, zero := some (.cell), isAgg := false }
  | 160 => some { td := .other, cells := 1, bytes := 8, zero := some (.cell), isAgg := false }
  | 161 => some { td := .other, cells := 1, bytes := 8, zero := some (.cell), isAgg := false }
  | 162 => some { td := .other, cells := 1, bytes := 8, zero := some (.cell), isAgg := false }
  | 163 => some { td := .other, cells := 1, bytes := 8, zero := some (.cell), isAgg := false }
  | 164 => some { td := .other, cells := 1, bytes := 8, zero := some (.cell), isAgg := false }
  | 165 => some { td := .other, cells := 1, bytes := 8, zero := some (.cell), isAgg := false }
  | 167 => some { td := .other, cells := 1, bytes := 8, zero := some (.cell), isAgg := false }
  | 168 => some { td := .other, cells := 1, bytes := 8, zero := some (.cell), isAgg := false }
  | 169 => some { td := .other, cells := 1, bytes := 8, zero := some (.cell), isAgg := false }
  | 170 => some { td := .other, cells := 1, bytes := 8, zero := some (.cell), isAgg := false }
  | 171 => some { td := .other, cells := 1, bytes := 8, zero := some (.cell), isAgg := false }
  | 172 => some { td := .other, cells := 1, bytes := 8, zero := some (.cell), isAgg := false }
  | 173 => some { td := .other, cells := 1, bytes := 8, zero := some (.cell), isAgg := false }
  | 174 => some { td := .other, cells := 1, bytes := 8, zero := some (.cell), isAgg := false }
  | 175 => some { td := .other, cells := 1, bytes := 8, zero := some (.cell), isAgg := false }
  | 176 => some { td := .other, cells := 1, bytes := 8, zero := some (.cell), isAgg := false }
  | 178 => some { td := .other, cells := 1, bytes := 8, zero := some (.cell), isAgg := false }
  | 179 => some { td := .struct [(0, 178)], cells := 1, bytes := 8, zero := some (.agg [.cell]), isAgg := true }
  | 180 => some { td := .struct [(0, 178)], cells := 1, bytes := 8, zero := some (.agg [.cell]), isAgg := true }
  | 181 => some { td := .array 4 180, cells := 4, bytes := 32, zero := some (.agg [.cell, .cell, .cell, .cell]), isAgg := true }
  | 182 => some { td := .other, cells := 1, bytes := 8, zero := some (.cell), isAgg := false }
  | 183 => some { td := .other, cells := 1, bytes := 8, zero := some (.cell), isAgg := false }
  | 184 => some { td := .other, cells := 1, bytes := 8, zero := some (.cell), isAgg := false }
  | 185 => some { td := .other, cells := 1, bytes := 8, zero := some (.cell), isAgg := false }
  | 186 => some { td := .other, cells := 1, bytes := 8, zero := some (.cell), isAgg := false }
  | 187 => some { td := .other, cells := 1, bytes := 8, zero := some (.cell), isAgg := false }
  | 188 => some { td := .other, cells := 1, bytes := 8, zero := some (.cell), isAgg := false }
  | 189 => some { td := .other, cells := 1, bytes := 8, zero := some (.cell), isAgg := false }
  | 190 => some { td := .other, cells := 1, bytes := 8, zero := some (.cell), isAgg := false }
  | 192 => some { td := .other, cells := 1, bytes := 8, zero := some (.cell), isAgg := false }
  | 193 => some { td := .other, cells := 1, bytes := 8, zero := some (.cell), isAgg := false }
  | 194 => some { td := .other, cells := 1, bytes := 8, zero := some (.cell), isAgg := false }
  | 195 => some { td := .int .i64, cells := 1, bytes := 8, zero := some (.p (.int .i64 0)), isAgg := false }
  | 197 => some { td := .other, cells := 1, bytes := 8, zero := some (.cell), isAgg := false }
  | 198 => some { td := .other, cells := 1, bytes := 8, zero := some (.cell), isAgg := false }
  | 199 => some { td := .other, cells := 1, bytes := 8, zero := some (.cell), isAgg := false }
  | 201 => some { td := .other, cells := 1, bytes := 8, zero := some (.cell), isAgg := false }
  | 202 => some { td := .other, cells := 1, bytes := 8, zero := some (.cell), isAgg := false }
  | 203 => some { td := .other, cells := 1, bytes := 8, zero := some (.cell), isAgg := false }
  | 204 => some { td := .other, cells := 1, bytes := 8, zero := some (.cell), isAgg := false }
  | 205 => some { td := .other, cells := 1, bytes := 8, zero := some (.cell), isAgg := false }
  | 207 => some { td := .other, cells := 1, bytes := 8, zero := some (.cell), isAgg := false }
  | 208 => some { td := .other, cells := 1, bytes := 8, zero := some (.cell), isAgg := false }
  | 209 => some { td := .other, cells := 1, bytes := 8, zero := some (.cell), isAgg := false }
  | 210 => some { td := .other, cells := 1, bytes := 8, zero := some (.cell), isAgg := false }
  | 212 => some { td := .other, cells := 1, bytes := 8, zero := some (.cell), isAgg := false }
  | 214 => some { td := .other, cells := 1, bytes := 8, zero := some (.cell), isAgg := false }
  | 215 => some { td := .other, cells := 1, bytes := 8, zero := some (.cell), isAgg := false }
  | 216 => some { td := .array 8 5, cells := 8, bytes := 8, zero := some (.agg [.p (.int .u8 0), .p (.int .u8 0), .p (.int .u8 0), .p (.int .u8 0), .p (.int .u8 0), .p (.int .u8 0), .p (.int .u8 0), .p (.int .u8 0)]), isAgg := true }
  | 217 => some { td := .int .u64, cells := 1, bytes := 8, zero := some (.p (.int .u64 0)), isAgg := false }
  | 218 => some { td := .other, cells := 1, bytes := 8, zero := some (.cell), isAgg := false }
  | 219 => some { td := .other, cells := 1, bytes := 8, zero := some (.cell), isAgg := false }
  | 220 => some { td := .other, cells := 1, bytes := 8, zero := some (.cell), isAgg := false }
  | 221 => some { td := .other, cells := 1, bytes := 8, zero := some (.cell), isAgg := false }
  | 222 => some { td := .other, cells := 1, bytes := 8, zero := some (.cell), isAgg := false }
  | 223 => some { td := .other, cells := 1, bytes := 8, zero := some (.cell), isAgg := false }
  | 225 => some { td := .other, cells := 1, bytes := 8, zero := some (.cell), isAgg := false }
  | 226 => some { td := .other, cells := 1, bytes := 8, zero := some (.cell), isAgg := false }
  | 227 => some { td := .other, cells := 1, bytes := 8, zero := some (.cell), isAgg := false }
  | 228 => some { td := .other, cells := 1, bytes := 8, zero := some (.cell), isAgg := false }
  | 229 => some { td := .other, cells := 1, bytes := 8, zero := some (.cell), isAgg := false }
  | 230 => some { td := .other, cells := 1, bytes := 8, zero := some (.cell), isAgg := false }
  | 231 => some { td := .array 8 9, cells := 8, bytes := 128, zero := some (.agg [.p (.str []), .p (.str []), .p (.str []), .p (.str []), .p (.str []), .p (.str []), .p (.str []), .p (.str [])]), isAgg := true }
  | 232 => some { td := .other, cells := 1, bytes := 8, zero := some (.cell), isAgg := false }
  | 234 => some { td := .other, cells := 1, bytes := 8, zero := some (.cell), isAgg := false }
  | 235 => some { td := .other, cells := 1, bytes := 8, zero := some (.cell), isAgg := false }
  | 236 => some { td := .other, cells := 1, bytes := 8, zero := some (.cell), isAgg := false }
  | 237 => some { td := .other, cells := 1, bytes := 8, zero := some (.cell), isAgg := false }
  | 238 => some { td := .other, cells := 1, bytes := 8, zero := some (.cell), isAgg := false }
  | 239 => some { td := .struct [(0, 17), (1, 17), (2, 17), (3, 9)], cells := 4, bytes := 40, zero := some (.agg [.cell, .cell, .cell, .p (.str [])]), isAgg := true }
  | 240 => some { td := .struct [(0, 17), (1, 17), (2, 17), (3, 9)], cells := 4, bytes := 40, zero := some (.agg [.cell, .cell, .cell, .p (.str [])]), isAgg := true }
  | 242 => some { td := .struct [(0, 241)], cells := 0, bytes := 0, zero := some (.agg []), isAgg := true }
  | 243 => some { td := .struct [(0, 241)], cells := 0, bytes := 0, zero := some (.agg []), isAgg := true }
  | 244 => some { td := .other, cells := 1, bytes := 8, zero := some (.cell), isAgg := false }
  | 245 => some { td := .int .u8, cells := 1, bytes := 1, zero := some (.p (.int .u8 0)), isAgg := false }
  | 246 => some { td := .int .u8, cells := 1, bytes := 1, zero := some (.p (.int .u8 0)), isAgg := false }
  | 247 => some { td := .other, cells := 1, bytes := 8, zero := some (.cell), isAgg := false }
  | 248 => some { td := .int .i32, cells := 1, bytes := 4, zero := some (.p (.int .i32 0)), isAgg := false }
  | 249 => some { td := .int .i32, cells := 1, bytes := 4, zero := some (.p (.int .i32 0)), isAgg := false }
  | 250 => some { td := .struct [(0, 12), (1, 12), (2, 136), (3, 245), (4, 5), (5, 5), (6, 246), (7, 247), (8, 160), (9, 248), (10, 249)], cells := 11, bytes := 48, zero := some (.agg [.p (.int .u64 0), .p (.int .u64 0), .p (.int .u32 0), .p (.int .u8 0), .p (.int .u8 0), .p (.int .u8 0), .p (.int .u8 0), .cell, .cell, .p (.int .i32 0), .p (.int .i32 0)]), isAgg := true }
  | 251 => some { td := .struct [(0, 12), (1, 12), (2, 136), (3, 245), (4, 5), (5, 5), (6, 246), (7, 247), (8, 160), (9, 248), (10, 249)], cells := 11, bytes := 48, zero := some (.agg [.p (.int .u64 0), .p (.int .u64 0), .p (.int .u32 0), .p (.int .u8 0), .p (.int .u8 0), .p (.int .u8 0), .p (.int .u8 0), .cell, .cell, .p (.int .i32 0), .p (.int .i32 0)]), isAgg := true }
  | _ => none

theorem g1 : Γ 1 = some { td := .other, cells := 1, bytes := 8, zero := some (.cell), isAgg := false } := rfl
theorem g2 : Γ 2 = some { td := .int .i64, cells := 1, bytes := 8, zero := some (.p (.int .i64 0)), isAgg := false } := rfl
theorem g3 : Γ 3 = some { td := .int .i64, cells := 1, bytes := 8, zero := some (.p (.int .i64 0)), isAgg := false } := rfl
theorem g4 : Γ 4 = some { td := .bool, cells := 1, bytes := 1, zero := some (.p (.bool false)), isAgg := false } := rfl
theorem g5 : Γ 5 = some { td := .int .u8, cells := 1, bytes := 1, zero := some (.p (.int .u8 0)), isAgg := false } := rfl
theorem g6 : Γ 6 = some { td := .int .u8, cells := 1, bytes := 1, zero := some (.p (.int .u8 0)), isAgg := false } := rfl
theorem g7 : Γ 7 = some { td := .struct [(0, 2), (1, 3), (2, 4), (3, 6)], cells := 4, bytes := 24, zero := some (.agg [.p (.int .i64 0), .p (.int .i64 0), .p (.bool false), .p (.int .u8 0)]), isAgg := true } := rfl
theorem g8 : Γ 8 = some { td := .struct [(0, 2), (1, 3), (2, 4), (3, 6)], cells := 4, bytes := 24, zero := some (.agg [.p (.int .i64 0), .p (.int .i64 0), .p (.bool false), .p (.int .u8 0)]), isAgg := true } := rfl
theorem g9 : Γ 9 = some { td := .str, cells := 1, bytes := 16, zero := some (.p (.str [])), isAgg := false } := rfl
theorem g10 : Γ 10 = some { td := .str, cells := 1, bytes := 16, zero := some (.p (.str [])), isAgg := false } := rfl
theorem g11 : Γ 11 = some { td := .str, cells := 1, bytes := 16, zero := some (.p (.str [])), isAgg := false } := rfl
theorem g12 : Γ 12 = some { td := .int .u64, cells := 1, bytes := 8, zero := some (.p (.int .u64 0)), isAgg := false } := rfl
theorem g13 : Γ 13 = some { td := .struct [(0, 9), (1, 12)], cells := 2, bytes := 24, zero := some (.agg [.p (.str []), .p (.int .u64 0)]), isAgg := true } := rfl
theorem g14 : Γ 14 = some { td := .struct [(0, 9), (1, 12)], cells := 2, bytes := 24, zero := some (.agg [.p (.str []), .p (.int .u64 0)]), isAgg := true } := rfl
theorem g15 : Γ 15 = some { td := .other, cells := 1, bytes := 8, zero := some (.cell), isAgg := false } := rfl
theorem g16 : Γ 16 = some { td := .other, cells := 1, bytes := 8, zero := some (.cell), isAgg := false } := rfl
theorem g17 : Γ 17 = some { td := .other, cells := 1, bytes := 8, zero := some (.cell), isAgg := false } := rfl
theorem g18 : Γ 18 = some { td := .struct [(0, 17)], cells := 1, bytes := 8, zero := some (.agg [.cell]), isAgg := true } := rfl
theorem g19 : Γ 19 = some { td := .struct [(0, 17)], cells := 1, bytes := 8, zero := some (.agg [.cell]), isAgg := true } := rfl
theorem g21 : Γ 21 = some { td := .int .i32, cells := 1, bytes := 4, zero := some (.p (.int .i32 0)), isAgg := false } := rfl
theorem g22 : Γ 22 = some { td := .slice 9, cells := 1, bytes := 24, zero := some (.full []), isAgg := false } := rfl
theorem g23 : Γ 23 = some { td := .struct [(0, 3), (1, 22)], cells := 2, bytes := 32, zero := some (.agg [.p (.int .i64 0), .full []]), isAgg := true } := rfl
theorem g24 : Γ 24 = some { td := .struct [(0, 3), (1, 22)], cells := 2, bytes := 32, zero := some (.agg [.p (.int .i64 0), .full []]), isAgg := true } := rfl
theorem g25 : Γ 25 = some { td := .other, cells := 1, bytes := 8, zero := some (.cell), isAgg := false } := rfl
theorem g26 : Γ 26 = some { td := .other, cells := 1, bytes := 8, zero := some (.cell), isAgg := false } := rfl
theorem g27 : Γ 27 = some { td := .int .i64, cells := 1, bytes := 8, zero := some (.p (.int .i64 0)), isAgg := false } := rfl
theorem g29 : Γ 29 = some { td := .other, cells := 1, bytes := 8, zero := some (.cell), isAgg := false } := rfl
theorem g31 : Γ 31 = some { td := .other, cells := 1, bytes := 8, zero := some (.cell), isAgg := false } := rfl
theorem g32 : Γ 32 = some { td := .other, cells := 1, bytes := 8, zero := some (.cell), isAgg := false } := rfl
theorem g33 : Γ 33 = some { td := .other, cells := 1, bytes := 8, zero := some (.cell), isAgg := false } := rfl
theorem g34 : Γ 34 = some { td := .other, cells := 1, bytes := 8, zero := some (.cell), isAgg := false } := rfl
theorem g35 : Γ 35 = some { td := .other, cells := 1, bytes := 8, zero := some (.cell), isAgg := false } := rfl
theorem g36 : Γ 36 = some { td := .slice 3, cells := 1, bytes := 24, zero := some (.full []), isAgg := false } := rfl
theorem g37 : Γ 37 = some { td := .other, cells := 1, bytes := 8, zero := some (.cell), isAgg := false } := rfl
theorem g39 : Γ 39 = some { td := .other, cells := 1, bytes := 8, zero := some (.cell), isAgg := false } := rfl
theorem g40 : Γ 40 = some { td := .other, cells := 1, bytes := 8, zero := some (.cell), isAgg := false } := rfl
theorem g41 : Γ 41 = some { td := .other, cells := 1, bytes := 8, zero := some (.cell), isAgg := false } := rfl
theorem g43 : Γ 43 = some { td := .other, cells := 1, bytes := 8, zero := some (.cell), isAgg := false } := rfl
theorem g44 : Γ 44 = some { td := .other, cells := 1, bytes := 8, zero := some (.cell), isAgg := false } := rfl
theorem g46 : Γ 46 = some { td := .other, cells := 1, bytes := 8, zero := some (.cell), isAgg := false } := rfl
theorem g47 : Γ 47 = some { td := .other, cells := 1, bytes := 8, zero := some (.cell), isAgg := false } := rfl
theorem g48 : Γ 48 = some { td := .other, cells := 1, bytes := 8, zero := some (.cell), isAgg := false } := rfl
theorem g49 : Γ 49 = some { td := .other, cells := 1, bytes := 8, zero := some (.cell), isAgg := false } := rfl
theorem g50 : Γ 50 = some { td := .other, cells := 1, bytes := 8, zero := some (.cell), isAgg := false } := rfl
theorem g51 : Γ 51 = some { td := .other, cells := 1, bytes := 8, zero := some (.cell), isAgg := false } := rfl
theorem g52 : Γ 52 = some { td := .struct [(0, 4), (1, 9)], cells := 2, bytes := 24, zero := some (.agg [.p (.bool false), .p (.str [])]), isAgg := true } := rfl
theorem g53 : Γ 53 = some { td := .struct [(0, 4), (1, 9)], cells := 2, bytes := 24, zero := some (.agg [.p (.bool false), .p (.str [])]), isAgg := true, eqs := true } := rfl
theorem g54 : Γ 54 = some { td := .struct [(0, 53), (2, 53)], cells := 4, bytes := 48, zero := some (.agg [.p (.bool false), .p (.str []), .p (.bool false), .p (.str [])]), isAgg := true } := rfl
theorem g55 : Γ 55 = some { td := .struct [(0, 53), (2, 53)], cells := 4, bytes := 48, zero := some (.agg [.p (.bool false), .p (.str []), .p (.bool false), .p (.str [])]), isAgg := true, eqs := true } := rfl
theorem g57 : Γ 57 = some { td := .other, cells := 1, bytes := 8, zero := some (.cell), isAgg := false } := rfl
theorem g58 : Γ 58 = some { td := .other, cells := 1, bytes := 8, zero := some (.cell), isAgg := false } := rfl
theorem g59 : Γ 59 = some { td := .other, cells := 1, bytes := 8, zero := some (.cell), isAgg := false } := rfl
theorem g60 : Γ 60 = some { td := .other, cells := 1, bytes := 8, zero := some (.cell), isAgg := false } := rfl
theorem g61 : Γ 61 = some { td := .other, cells := 1, bytes := 8, zero := some (.cell), isAgg := false } := rfl
theorem g62 : Γ 62 = some { td := .slice 55, cells := 1, bytes := 24, zero := some (.full []), isAgg := false } := rfl
theorem g63 : Γ 63 = some { td := .other, cells := 1, bytes := 8, zero := some (.cell), isAgg := false } := rfl
theorem g64 : Γ 64 = some { td := .other, cells := 1, bytes := 8, zero := some (.cell), isAgg := false } := rfl
theorem g65 : Γ 65 = some { td := .slice 5, cells := 1, bytes := 24, zero := some (.full []), isAgg := false } := rfl
theorem g66 : Γ 66 = some { td := .other, cells := 1, bytes := 8, zero := some (.cell), isAgg := false } := rfl
theorem g67 : Γ 67 = some { td := .other, cells := 1, bytes := 8, zero := some (.cell), isAgg := false } := rfl
theorem g68 : Γ 68 = some { td := .other, cells := 1, bytes := 8, zero := some (.cell), isAgg := false } := rfl
theorem g70 : Γ 70 = some { td := .other, cells := 1, bytes := 8, zero := some (.cell), isAgg := false } := rfl
theorem g71 : Γ 71 = some { td := .other, cells := 1, bytes := 8, zero := some (.cell), isAgg := false } := rfl
theorem g72 : Γ 72 = some { td := .other, cells := 1, bytes := 8, zero := some (.cell), isAgg := false } := rfl
theorem g73 : Γ 73 = some { td := .other, cells := 1, bytes := 8, zero := some (.cell), isAgg := false } := rfl
theorem g74 : Γ 74 = some { td := .other, cells := 1, bytes := 8, zero := some (.cell), isAgg := false } := rfl
theorem g75 : Γ 75 = some { td := .other, cells := 1, bytes := 8, zero := some (.cell), isAgg := false } := rfl
theorem g76 : Γ 76 = some { td := .other, cells := 1, bytes := 8, zero := some (.cell), isAgg := false } := rfl
theorem g77 : Γ 77 = some { td := .other, cells := 1, bytes := 8, zero := some (.cell), isAgg := false } := rfl
theorem g78 : Γ 78 = some { td := .other, cells := 1, bytes := 8, zero := some (.cell), isAgg := false } := rfl
theorem g79 : Γ 79 = some { td := .other, cells := 1, bytes := 8, zero := some (.cell), isAgg := false } := rfl
theorem g80 : Γ 80 = some { td := .other, cells := 1, bytes := 8, zero := some (.cell), isAgg := false } := rfl
theorem g81 : Γ 81 = some { td := .other, cells := 1, bytes := 8, zero := some (.cell), isAgg := false } := rfl
theorem g82 : Γ 82 = some { td := .other, cells := 1, bytes := 8, zero := some (.cell), isAgg := false } := rfl
theorem g83 : Γ 83 = some { td := .other, cells := 1, bytes := 8, zero := some (.cell), isAgg := false } := rfl
theorem g84 : Γ 84 = some { td := .other, cells := 1, bytes := 8, zero := some (.cell), isAgg := false } := rfl
theorem g85 : Γ 85 = some { td := .slice 87, cells := 1, bytes := 24, zero := some (.full []), isAgg := false } := rfl
theorem g86 : Γ 86 = some { td := .struct [(0, 3), (1, 3)], cells := 2, bytes := 16, zero := some (.agg [.p (.int .i64 0), .p (.int .i64 0)]), isAgg := true } := rfl
theorem g87 : Γ 87 = some { td := .struct [(0, 3), (1, 3)], cells := 2, bytes := 16, zero := some (.agg [.p (.int .i64 0), .p (.int .i64 0)]), isAgg := true, eqs := true } := rfl
theorem g88 : Γ 88 = some { td := .other, cells := 1, bytes := 8, zero := some (.cell), isAgg := false } := rfl
theorem g89 : Γ 89 = some { td := .other, cells := 1, bytes := 8, zero := some (.cell), isAgg := false } := rfl
theorem g90 : Γ 90 = some { td := .other, cells := 1, bytes := 8, zero := some (.cell), isAgg := false } := rfl
theorem g91 : Γ 91 = some { td := .other, cells := 1, bytes := 8, zero := some (.cell), isAgg := false } := rfl
theorem g92 : Γ 92 = some { td := .other, cells := 1, bytes := 8, zero := some (.cell), isAgg := false } := rfl
theorem g93 : Γ 93 = some { td := .other, cells := 1, bytes := 8, zero := some (.cell), isAgg := false } := rfl
theorem g94 : Γ 94 = some { td := .other, cells := 1, bytes := 8, zero := some (.cell), isAgg := false } := rfl
theorem g95 : Γ 95 = some { td := .slice 9, cells := 1, bytes := 24, zero := some (.full []), isAgg := false } := rfl
theorem g96 : Γ 96 = some { td := .other, cells := 1, bytes := 8, zero := some (.cell), isAgg := false } := rfl
theorem g97 : Γ 97 = some { td := .other, cells := 1, bytes := 8, zero := some (.cell), isAgg := false } := rfl
theorem g98 : Γ 98 = some { td := .other, cells := 1, bytes := 8, zero := some (.cell), isAgg := false } := rfl
theorem g99 : Γ 99 = some { td := .other, cells := 1, bytes := 8, zero := some (.cell), isAgg := false } := rfl
theorem g100 : Γ 100 = some { td := .other, cells := 1, bytes := 8, zero := some (.cell), isAgg := false } := rfl
theorem g101 : Γ 101 = some { td := .other, cells := 1, bytes := 8, zero := some (.cell), isAgg := false } := rfl
theorem g103 : Γ 103 = some { td := .other, cells := 1, bytes := 8, zero := some (.cell), isAgg := false } := rfl
theorem g104 : Γ 104 = some { td := .other, cells := 1, bytes := 8, zero := some (.cell), isAgg := false } := rfl
theorem g105 : Γ 105 = some { td := .other, cells := 1, bytes := 8, zero := some (.cell), isAgg := false } := rfl
theorem g106 : Γ 106 = some { td := .other, cells := 1, bytes := 8, zero := some (.cell), isAgg := false } := rfl
theorem g107 : Γ 107 = some { td := .other, cells := 1, bytes := 8, zero := some (.cell), isAgg := false } := rfl
theorem g108 : Γ 108 = some { td := .other, cells := 1, bytes := 8, zero := some (.cell), isAgg := false } := rfl
theorem g109 : Γ 109 = some { td := .other, cells := 1, bytes := 8, zero := some (.cell), isAgg := false } := rfl
theorem g110 : Γ 110 = some { td := .other, cells := 1, bytes := 8, zero := some (.cell), isAgg := false } := rfl
theorem g111 : Γ 111 = some { td := .other, cells := 1, bytes := 8, zero := some (.cell), isAgg := false } := rfl
theorem g112 : Γ 112 = some { td := .other, cells := 1, bytes := 8, zero := some (.cell), isAgg := false } := rfl
theorem g113 : Γ 113 = some { td := .other, cells := 1, bytes := 8, zero := some (.cell), isAgg := false } := rfl
theorem g114 : Γ 114 = some { td := .other, cells := 1, bytes := 8, zero := some (.cell), isAgg := false } := rfl
theorem g115 : Γ 115 = some { td := .other, cells := 1, bytes := 8, zero := some (.cell), isAgg := false } := rfl
theorem g116 : Γ 116 = some { td := .other, cells := 1, bytes := 8, zero := some (.cell), isAgg := false } := rfl
theorem g117 : Γ 117 = some { td := .struct [(0, 116), (1, 65)], cells := 2, bytes := 32, zero := some (.agg [.cell, .full []]), isAgg := true } := rfl
theorem g118 : Γ 118 = some { td := .struct [(0, 116), (1, 65)], cells := 2, bytes := 32, zero := some (.agg [.cell, .full []]), isAgg := true } := rfl
theorem g122 : Γ 122 = some { td := .other, cells := 1, bytes := 8, zero := some (.cell), isAgg := false } := rfl
theorem g123 : Γ 123 = some { td := .other, cells := 1, bytes := 8, zero := some (.cell), isAgg := false } := rfl
theorem g124 : Γ 124 = some { td := .other, cells := 1, bytes := 8, zero := some (.cell), isAgg := false } := rfl
theorem g125 : Γ 125 = some { td := .other, cells := 1, bytes := 8, zero := some (.cell), isAgg := false } := rfl
theorem g126 : Γ 126 = some { td := .other, cells := 1, bytes := 8, zero := some (.cell), isAgg := false } := rfl
theorem g127 : Γ 127 = some { td := .other, cells := 1, bytes := 8, zero := some (.cell), isAgg := false } := rfl
theorem g128 : Γ 128 = some { td := .other, cells := 1, bytes := 8, zero := some (.cell), isAgg := false } := rfl
theorem g129 : Γ 129 = some { td := .slice 22, cells := 1, bytes := 24, zero := some (.full []), isAgg := false } := rfl
theorem g130 : Γ 130 = some { td := .other, cells := 1, bytes := 8, zero := some (.cell), isAgg := false } := rfl
theorem g131 : Γ 131 = some { td := .other, cells := 1, bytes := 8, zero := some (.cell), isAgg := false } := rfl
theorem g132 : Γ 132 = some { td := .other, cells := 1, bytes := 8, zero := some (.cell), isAgg := false } := rfl
theorem g133 : Γ 133 = some { td := .other, cells := 1, bytes := 8, zero := some (.cell), isAgg := false } := rfl
theorem g134 : Γ 134 = some { td := .int .u64, cells := 1, bytes := 8, zero := some (.p (.int .u64 0)), isAgg := false } := rfl
theorem g135 : Γ 135 = some { td := .other, cells := 1, bytes := 8, zero := some (.cell), isAgg := false } := rfl
theorem g136 : Γ 136 = some { td := .int .u32, cells := 1, bytes := 4, zero := some (.p (.int .u32 0)), isAgg := false } := rfl
theorem g137 : Γ 137 = some { td := .int .u64, cells := 1, bytes := 8, zero := some (.p (.int .u64 0)), isAgg := false } := rfl
theorem g138 : Γ 138 = some { td := .slice 136, cells := 1, bytes := 24, zero := some (.full []), isAgg := false } := rfl
theorem g139 : Γ 139 = some { td := .slice 136, cells := 1, bytes := 24, zero := some (.full []), isAgg := false } := rfl
theorem g140 : Γ 140 = some { td := .other, cells := 1, bytes := 8, zero := some (.cell), isAgg := false } := rfl
theorem g141 : Γ 141 = some { td := .other, cells := 1, bytes := 8, zero := some (.cell), isAgg := false } := rfl
theorem g142 : Γ 142 = some { td := .struct [(0, 95), (1, 9)], cells := 2, bytes := 40, zero := some (.agg [.full [], .p (.str [])]), isAgg := true } := rfl
theorem g143 : Γ 143 = some { td := .struct [(0, 95), (1, 9)], cells := 2, bytes := 40, zero := some (.agg [.full [], .p (.str [])]), isAgg := true } := rfl
theorem g144 : Γ 144 = some { td := .slice 143, cells := 1, bytes := 24, zero := some (.full []), isAgg := false } := rfl
theorem g145 : Γ 145 = some { td := .map 9 4, cells := 1, bytes := 8, zero := some (.cell), isAgg := false } := rfl
theorem g146 : Γ 146 = some { td := .other, cells := 1, bytes := 8, zero := some (.cell), isAgg := false } := rfl
theorem g147 : Γ 147 = some { td := .other, cells := 1, bytes := 8, zero := some (.cell), isAgg := false } := rfl
theorem g148 : Γ 148 = some { td := .other, cells := 1, bytes := 8, zero := some (.cell), isAgg := false } := rfl
theorem g149 : Γ 149 = some { td := .other, cells := 1, bytes := 8, zero := some (.cell), isAgg := false } := rfl
theorem g150 : Γ 150 = some { td := .other, cells := 1, bytes := 8, zero := some (.cell), isAgg := false } := rfl
theorem g151 : Γ 151 = some { td := .other, cells := 1, bytes := 8, zero := some (.cell), isAgg := false } := rfl
theorem g152 : Γ 152 = some { td := .other, cells := 1, bytes := 8, zero := some (.cell), isAgg := false } := rfl
theorem g153 : Γ 153 = some { td := .other, cells := 1, bytes := 8, zero := some (.cell), isAgg := false } := rfl
theorem g154 : Γ 154 = some { td := .other, cells := 1, bytes := 8, zero := some (.cell), isAgg := false } := rfl
theorem g155 : Γ 155 = some { td := .other, cells := 1, bytes := 8, zero := some (.cell), isAgg := false } := rfl
theorem g156 : Γ 156 = some { td := .other, cells := 1, bytes := 8, zero := some (.cell), isAgg := false } := rfl
theorem g157 : Γ 157 = some { td := .other, cells := 1, bytes := 8, zero := some (.cell), isAgg := false } := rfl
theorem g158 : Γ 158 = some { td := .other, cells := 1, bytes := 8, zero := some (.cell), isAgg := false } := rfl
theorem g159 : Γ 159 = some { td := .other, cells := 1, bytes := 8, zero := some (.cell), isAgg := false } := rfl
theorem g160 : Γ 160 = some { td := .other, cells := 1, bytes := 8, zero := some (.cell), isAgg := false } := rfl
theorem g161 : Γ 161 = some { td := .other, cells := 1, bytes := 8, zero := some (.cell), isAgg := false } := rfl
theorem g162 : Γ 162 = some { td := .other, cells := 1, bytes := 8, zero := some (.cell), isAgg := false } := rfl
theorem g163 : Γ 163 = some { td := .other, cells := 1, bytes := 8, zero := some (.cell), isAgg := false } := rfl
theorem g164 : Γ 164 = some { td := .other, cells := 1, bytes := 8, zero := some (.cell), isAgg := false } := rfl
theorem g165 : Γ 165 = some { td := .other, cells := 1, bytes := 8, zero := some (.cell), isAgg := false } := rfl
theorem g167 : Γ 167 = some { td := .other, cells := 1, bytes := 8, zero := some (.cell), isAgg := false } := rfl
theorem g168 : Γ 168 = some { td := .other, cells := 1, bytes := 8, zero := some (.cell), isAgg := false } := rfl
theorem g169 : Γ 169 = some { td := .other, cells := 1, bytes := 8, zero := some (.cell), isAgg := false } := rfl
theorem g170 : Γ 170 = some { td := .other, cells := 1, bytes := 8, zero := some (.cell), isAgg := false } := rfl
theorem g171 : Γ 171 = some { td := .other, cells := 1, bytes := 8, zero := some (.cell), isAgg := false } := rfl
theorem g172 : Γ 172 = some { td := .other, cells := 1, bytes := 8, zero := some (.cell), isAgg := false } := rfl
theorem g173 : Γ 173 = some { td := .other, cells := 1, bytes := 8, zero := some (.cell), isAgg := false } := rfl
theorem g174 : Γ 174 = some { td := .other, cells := 1, bytes := 8, zero := some (.cell), isAgg := false } := rfl
theorem g175 : Γ 175 = some { td := .other, cells := 1, bytes := 8, zero := some (.cell), isAgg := false } := rfl
theorem g176 : Γ 176 = some { td := .other, cells := 1, bytes := 8, zero := some (.cell), isAgg := false } := rfl
theorem g178 : Γ 178 = some { td := .other, cells := 1, bytes := 8, zero := some (.cell), isAgg := false } := rfl
theorem g179 : Γ 179 = some { td := .struct [(0, 178)], cells := 1, bytes := 8, zero := some (.agg [.cell]), isAgg := true } := rfl
theorem g180 : Γ 180 = some { td := .struct [(0, 178)], cells := 1, bytes := 8, zero := some (.agg [.cell]), isAgg := true } := rfl
theorem g181 : Γ 181 = some { td := .array 4 180, cells := 4, bytes := 32, zero := some (.agg [.cell, .cell, .cell, .cell]), isAgg := true } := rfl
theorem g182 : Γ 182 = some { td := .other, cells := 1, bytes := 8, zero := some (.cell), isAgg := false } := rfl
theorem g183 : Γ 183 = some { td := .other, cells := 1, bytes := 8, zero := some (.cell), isAgg := false } := rfl
theorem g184 : Γ 184 = some { td := .other, cells := 1, bytes := 8, zero := some (.cell), isAgg := false } := rfl
theorem g185 : Γ 185 = some { td := .other, cells := 1, bytes := 8, zero := some (.cell), isAgg := false } := rfl
theorem g186 : Γ 186 = some { td := .other, cells := 1, bytes := 8, zero := some (.cell), isAgg := false } := rfl
theorem g187 : Γ 187 = some { td := .other, cells := 1, bytes := 8, zero := some (.cell), isAgg := false } := rfl
theorem g188 : Γ 188 = some { td := .other, cells := 1, bytes := 8, zero := some (.cell), isAgg := false } := rfl
theorem g189 : Γ 189 = some { td := .other, cells := 1, bytes := 8, zero := some (.cell), isAgg := false } := rfl
theorem g190 : Γ 190 = some { td := .other, cells := 1, bytes := 8, zero := some (.cell), isAgg := false } := rfl
theorem g192 : Γ 192 = some { td := .other, cells := 1, bytes := 8, zero := some (.cell), isAgg := false } := rfl
theorem g193 : Γ 193 = some { td := .other, cells := 1, bytes := 8, zero := some (.cell), isAgg := false } := rfl
theorem g194 : Γ 194 = some { td := .other, cells := 1, bytes := 8, zero := some (.cell), isAgg := false } := rfl
theorem g195 : Γ 195 = some { td := .int .i64, cells := 1, bytes := 8, zero := some (.p (.int .i64 0)), isAgg := false } := rfl
theorem g197 : Γ 197 = some { td := .other, cells := 1, bytes := 8, zero := some (.cell), isAgg := false } := rfl
theorem g198 : Γ 198 = some { td := .other, cells := 1, bytes := 8, zero := some (.cell), isAgg := false } := rfl
theorem g199 : Γ 199 = some { td := .other, cells := 1, bytes := 8, zero := some (.cell), isAgg := false } := rfl
theorem g201 : Γ 201 = some { td := .other, cells := 1, bytes := 8, zero := some (.cell), isAgg := false } := rfl
theorem g202 : Γ 202 = some { td := .other, cells := 1, bytes := 8, zero := some (.cell), isAgg := false } := rfl
theorem g203 : Γ 203 = some { td := .other, cells := 1, bytes := 8, zero := some (.cell), isAgg := false } := rfl
theorem g204 : Γ 204 = some { td := .other, cells := 1, bytes := 8, zero := some (.cell), isAgg := false } := rfl
theorem g205 : Γ 205 = some { td := .other, cells := 1, bytes := 8, zero := some (.cell), isAgg := false } := rfl
theorem g207 : Γ 207 = some { td := .other, cells := 1, bytes := 8, zero := some (.cell), isAgg := false } := rfl
theorem g208 : Γ 208 = some { td := .other, cells := 1, bytes := 8, zero := some (.cell), isAgg := false } := rfl
theorem g209 : Γ 209 = some { td := .other, cells := 1, bytes := 8, zero := some (.cell), isAgg := false } := rfl
theorem g210 : Γ 210 = some { td := .other, cells := 1, bytes := 8, zero := some (.cell), isAgg := false } := rfl
theorem g212 : Γ 212 = some { td := .other, cells := 1, bytes := 8, zero := some (.cell), isAgg := false } := rfl
theorem g214 : Γ 214 = some { td := .other, cells := 1, bytes := 8, zero := some (.cell), isAgg := false } := rfl
theorem g215 : Γ 215 = some { td := .other, cells := 1, bytes := 8, zero := some (.cell), isAgg := false } := rfl
theorem g216 : Γ 216 = some { td := .array 8 5, cells := 8, bytes := 8, zero := some (.agg [.p (.int .u8 0), .p (.int .u8 0), .p (.int .u8 0), .p (.int .u8 0), .p (.int .u8 0), .p (.int .u8 0), .p (.int .u8 0), .p (.int .u8 0)]), isAgg := true } := rfl
theorem g217 : Γ 217 = some { td := .int .u64, cells := 1, bytes := 8, zero := some (.p (.int .u64 0)), isAgg := false } := rfl
theorem g218 : Γ 218 = some { td := .other, cells := 1, bytes := 8, zero := some (.cell), isAgg := false } := rfl
theorem g219 : Γ 219 = some { td := .other, cells := 1, bytes := 8, zero := some (.cell), isAgg := false } := rfl
theorem g220 : Γ 220 = some { td := .other, cells := 1, bytes := 8, zero := some (.cell), isAgg := false } := rfl
theorem g221 : Γ 221 = some { td := .other, cells := 1, bytes := 8, zero := some (.cell), isAgg := false } := rfl
theorem g222 : Γ 222 = some { td := .other, cells := 1, bytes := 8, zero := some (.cell), isAgg := false } := rfl
theorem g223 : Γ 223 = some { td := .other, cells := 1, bytes := 8, zero := some (.cell), isAgg := false } := rfl
theorem g225 : Γ 225 = some { td := .other, cells := 1, bytes := 8, zero := some (.cell), isAgg := false } := rfl
theorem g226 : Γ 226 = some { td := .other, cells := 1, bytes := 8, zero := some (.cell), isAgg := false } := rfl
theorem g227 : Γ 227 = some { td := .other, cells := 1, bytes := 8, zero := some (.cell), isAgg := false } := rfl
theorem g228 : Γ 228 = some { td := .other, cells := 1, bytes := 8, zero := some (.cell), isAgg := false } := rfl
theorem g229 : Γ 229 = some { td := .other, cells := 1, bytes := 8, zero := some (.cell), isAgg := false } := rfl
theorem g230 : Γ 230 = some { td := .other, cells := 1, bytes := 8, zero := some (.cell), isAgg := false } := rfl
theorem g231 : Γ 231 = some { td := .array 8 9, cells := 8, bytes := 128, zero := some (.agg [.p (.str []), .p (.str []), .p (.str []), .p (.str []), .p (.str []), .p (.str []), .p (.str []), .p (.str [])]), isAgg := true } := rfl
theorem g232 : Γ 232 = some { td := .other, cells := 1, bytes := 8, zero := some (.cell), isAgg := false } := rfl
theorem g234 : Γ 234 = some { td := .other, cells := 1, bytes := 8, zero := some (.cell), isAgg := false } := rfl
theorem g235 : Γ 235 = some { td := .other, cells := 1, bytes := 8, zero := some (.cell), isAgg := false } := rfl
theorem g236 : Γ 236 = some { td := .other, cells := 1, bytes := 8, zero := some (.cell), isAgg := false } := rfl
theorem g237 : Γ 237 = some { td := .other, cells := 1, bytes := 8, zero := some (.cell), isAgg := false } := rfl
theorem g238 : Γ 238 = some { td := .other, cells := 1, bytes := 8, zero := some (.cell), isAgg := false } := rfl
theorem g239 : Γ 239 = some { td := .struct [(0, 17), (1, 17), (2, 17), (3, 9)], cells := 4, bytes := 40, zero := some (.agg [.cell, .cell, .cell, .p (.str [])]), isAgg := true } := rfl
theorem g240 : Γ 240 = some { td := .struct [(0, 17), (1, 17), (2, 17), (3, 9)], cells := 4, bytes := 40, zero := some (.agg [.cell, .cell, .cell, .p (.str [])]), isAgg := true } := rfl
theorem g242 : Γ 242 = some { td := .struct [(0, 241)], cells := 0, bytes := 0, zero := some (.agg []), isAgg := true } := rfl
theorem g243 : Γ 243 = some { td := .struct [(0, 241)], cells := 0, bytes := 0, zero := some (.agg []), isAgg := true } := rfl
theorem g244 : Γ 244 = some { td := .other, cells := 1, bytes := 8, zero := some (.cell), isAgg := false } := rfl
theorem g245 : Γ 245 = some { td := .int .u8, cells := 1, bytes := 1, zero := some (.p (.int .u8 0)), isAgg := false } := rfl
theorem g246 : Γ 246 = some { td := .int .u8, cells := 1, bytes := 1, zero := some (.p (.int .u8 0)), isAgg := false } := rfl
theorem g247 : Γ 247 = some { td := .other, cells := 1, bytes := 8, zero := some (.cell), isAgg := false } := rfl
theorem g248 : Γ 248 = some { td := .int .i32, cells := 1, bytes := 4, zero := some (.p (.int .i32 0)), isAgg := false } := rfl
theorem g249 : Γ 249 = some { td := .int .i32, cells := 1, bytes := 4, zero := some (.p (.int .i32 0)), isAgg := false } := rfl
theorem g250 : Γ 250 = some { td := .struct [(0, 12), (1, 12), (2, 136), (3, 245), (4, 5), (5, 5), (6, 246), (7, 247), (8, 160), (9, 248), (10, 249)], cells := 11, bytes := 48, zero := some (.agg [.p (.int .u64 0), .p (.int .u64 0), .p (.int .u32 0), .p (.int .u8 0), .p (.int .u8 0), .p (.int .u8 0), .p (.int .u8 0), .cell, .cell, .p (.int .i32 0), .p (.int .i32 0)]), isAgg := true } := rfl
theorem g251 : Γ 251 = some { td := .struct [(0, 12), (1, 12), (2, 136), (3, 245), (4, 5), (5, 5), (6, 246), (7, 247), (8, 160), (9, 248), (10, 249)], cells := 11, bytes := 48, zero := some (.agg [.p (.int .u64 0), .p (.int .u64 0), .p (.int .u32 0), .p (.int .u8 0), .p (.int .u8 0), .p (.int .u8 0), .p (.int .u8 0), .cell, .cell, .p (.int .i32 0), .p (.int .i32 0)]), isAgg := true } := rfl

theorem hΓ : GamOK Tryz.prog Γ := by
  intro t te h
  unfold Γ at h
  split at h
  · injection h with h; subst h; exact tyOK_of (zv := .nilFunc) (by kernel_rfl) (by kernel_rfl) rfl
  · injection h with h; subst h; exact tyOK_of (zv := .int .i64 0) (by kernel_rfl) (by kernel_rfl) rfl
  · injection h with h; subst h; exact tyOK_of (zv := .int .i64 0) (by kernel_rfl) (by kernel_rfl) rfl
  · injection h with h; subst h; exact tyOK_of (zv := .bool false) (by kernel_rfl) (by kernel_rfl) rfl
  · injection h with h; subst h; exact tyOK_of (zv := .int .u8 0) (by kernel_rfl) (by kernel_rfl) rfl
  · injection h with h; subst h; exact tyOK_of (zv := .int .u8 0) (by kernel_rfl) (by kernel_rfl) rfl
  · injection h with h; subst h; exact tyOK_of (zv := .agg #[.int .i64 0, .int .i64 0, .bool false, .int .u8 0]) (by kernel_rfl) (by kernel_rfl) rfl
  · injection h with h; subst h; exact tyOK_of (zv := .agg #[.int .i64 0, .int .i64 0, .bool false, .int .u8 0]) (by kernel_rfl) (by kernel_rfl) rfl
  · injection h with h; subst h; exact tyOK_of (zv := .string ⟨#[]⟩) (by kernel_rfl) (by kernel_rfl) rfl
  · injection h with h; subst h; exact tyOK_of (zv := .string ⟨#[]⟩) (by kernel_rfl) (by kernel_rfl) rfl
  · injection h with h; subst h; exact tyOK_of (zv := .string ⟨#[]⟩) (by kernel_rfl) (by kernel_rfl) rfl
  · injection h with h; subst h; exact tyOK_of (zv := .int .u64 0) (by kernel_rfl) (by kernel_rfl) rfl
  · injection h with h; subst h; exact tyOK_of (zv := .agg #[.string ⟨#[]⟩, .int .u64 0]) (by kernel_rfl) (by kernel_rfl) rfl
  · injection h with h; subst h; exact tyOK_of (zv := .agg #[.string ⟨#[]⟩, .int .u64 0]) (by kernel_rfl) (by kernel_rfl) rfl
  · injection h with h; subst h; exact tyOK_of (zv := .pointer none) (by kernel_rfl) (by kernel_rfl) rfl
  · injection h with h; subst h; exact tyOK_of (zv := .pointer none) (by kernel_rfl) (by kernel_rfl) rfl
  · injection h with h; subst h; exact tyOK_of (zv := .pointer none) (by kernel_rfl) (by kernel_rfl) rfl
  · injection h with h; subst h; exact tyOK_of (zv := .agg #[.pointer none]) (by kernel_rfl) (by kernel_rfl) rfl
  · injection h with h; subst h; exact tyOK_of (zv := .agg #[.pointer none]) (by kernel_rfl) (by kernel_rfl) rfl
  · injection h with h; subst h; exact tyOK_of (zv := .int .i32 0) (by kernel_rfl) (by kernel_rfl) rfl
  · injection h with h; subst h; exact tyOK_of (zv := .slice none 0 0) (by kernel_rfl) (by kernel_rfl) rfl
  · injection h with h; subst h; exact tyOK_of (zv := .agg #[.int .i64 0, .slice none 0 0]) (by kernel_rfl) (by kernel_rfl) rfl
  · injection h with h; subst h; exact tyOK_of (zv := .agg #[.int .i64 0, .slice none 0 0]) (by kernel_rfl) (by kernel_rfl) rfl
  · injection h with h; subst h; exact tyOK_of (zv := .nilFunc) (by kernel_rfl) (by kernel_rfl) rfl
  · injection h with h; subst h; exact tyOK_of (zv := .nilFunc) (by kernel_rfl) (by kernel_rfl) rfl
  · injection h with h; subst h; exact tyOK_of (zv := .int .i64 0) (by kernel_rfl) (by kernel_rfl) rfl
  · injection h with h; subst h; exact tyOK_of (zv := .nilFunc) (by kernel_rfl) (by kernel_rfl) rfl
  · injection h with h; subst h; exact tyOK_of (zv := .nilFunc) (by kernel_rfl) (by kernel_rfl) rfl
  · injection h with h; subst h; exact tyOK_of (zv := .nilFunc) (by kernel_rfl) (by kernel_rfl) rfl
  · injection h with h; subst h; exact tyOK_of (zv := .nilFunc) (by kernel_rfl) (by kernel_rfl) rfl
  · injection h with h; subst h; exact tyOK_of (zv := .nilFunc) (by kernel_rfl) (by kernel_rfl) rfl
  · injection h with h; subst h; exact tyOK_of (zv := .nilFunc) (by kernel_rfl) (by kernel_rfl) rfl
  · injection h with h; subst h; exact tyOK_of (zv := .slice none 0 0) (by kernel_rfl) (by kernel_rfl) rfl
  · injection h with h; subst h; exact tyOK_of (zv := .nilFunc) (by kernel_rfl) (by kernel_rfl) rfl
  · injection h with h; subst h; exact tyOK_of (zv := .nilFunc) (by kernel_rfl) (by kernel_rfl) rfl
  · injection h with h; subst h; exact tyOK_of (zv := .nilFunc) (by kernel_rfl) (by kernel_rfl) rfl
  · injection h with h; subst h; exact tyOK_of (zv := .nilFunc) (by kernel_rfl) (by kernel_rfl) rfl
  · injection h with h; subst h; exact tyOK_of (zv := .nilFunc) (by kernel_rfl) (by kernel_rfl) rfl
  · injection h with h; subst h; exact tyOK_of (zv := .nilFunc) (by kernel_rfl) (by kernel_rfl) rfl
  · injection h with h; subst h; exact tyOK_of (zv := .nilFunc) (by kernel_rfl) (by kernel_rfl) rfl
  · injection h with h; subst h; exact tyOK_of (zv := .nilFunc) (by kernel_rfl) (by kernel_rfl) rfl
  · injection h with h; subst h; exact tyOK_of (zv := .nilFunc) (by kernel_rfl) (by kernel_rfl) rfl
  · injection h with h; subst h; exact tyOK_of (zv := .nilFunc) (by kernel_rfl) (by kernel_rfl) rfl
  · injection h with h; subst h; exact tyOK_of (zv := .nilFunc) (by kernel_rfl) (by kernel_rfl) rfl
  · injection h with h; subst h; exact tyOK_of (zv := .nilFunc) (by kernel_rfl) (by kernel_rfl) rfl
  · injection h with h; subst h; exact tyOK_of (zv := .agg #[.bool false, .string ⟨#[]⟩]) (by kernel_rfl) (by kernel_rfl) rfl
  · injection h with h; subst h; exact tyOK_ofE (zv := .agg #[.bool false, .string ⟨#[]⟩]) (by kernel_rfl) (by kernel_rfl) rfl (fun _ => ⟨by kernel_rfl, by kernel_rfl, by kernel_rfl⟩)
  · injection h with h; subst h; exact tyOK_of (zv := .agg #[.bool false, .string ⟨#[]⟩, .bool false, .string ⟨#[]⟩]) (by kernel_rfl) (by kernel_rfl) rfl
  · injection h with h; subst h; exact tyOK_ofE (zv := .agg #[.bool false, .string ⟨#[]⟩, .bool false, .string ⟨#[]⟩]) (by kernel_rfl) (by kernel_rfl) rfl (fun _ => ⟨by kernel_rfl, by kernel_rfl, by kernel_rfl⟩)
  · injection h with h; subst h; exact tyOK_of (zv := .nilFunc) (by kernel_rfl) (by kernel_rfl) rfl
  · injection h with h; subst h; exact tyOK_of (zv := .nilFunc) (by kernel_rfl) (by kernel_rfl) rfl
  · injection h with h; subst h; exact tyOK_of (zv := .nilFunc) (by kernel_rfl) (by kernel_rfl) rfl
  · injection h with h; subst h; exact tyOK_of (zv := .nilFunc) (by kernel_rfl) (by kernel_rfl) rfl
  · injection h with h; subst h; exact tyOK_of (zv := .nilFunc) (by kernel_rfl) (by kernel_rfl) rfl
  · injection h with h; subst h; exact tyOK_of (zv := .slice none 0 0) (by kernel_rfl) (by kernel_rfl) rfl
  · injection h with h; subst h; exact tyOK_of (zv := .nilFunc) (by kernel_rfl) (by kernel_rfl) rfl
  · injection h with h; subst h; exact tyOK_of (zv := .nilFunc) (by kernel_rfl) (by kernel_rfl) rfl
  · injection h with h; subst h; exact tyOK_of (zv := .slice none 0 0) (by kernel_rfl) (by kernel_rfl) rfl
  · injection h with h; subst h; exact tyOK_of (zv := .nilFunc) (by kernel_rfl) (by kernel_rfl) rfl
  · injection h with h; subst h; exact tyOK_of (zv := .nilFunc) (by kernel_rfl) (by kernel_rfl) rfl
  · injection h with h; subst h; exact tyOK_of (zv := .nilFunc) (by kernel_rfl) (by kernel_rfl) rfl
  · injection h with h; subst h; exact tyOK_of (zv := .nilFunc) (by kernel_rfl) (by kernel_rfl) rfl
  · injection h with h; subst h; exact tyOK_of (zv := .nilFunc) (by kernel_rfl) (by kernel_rfl) rfl
  · injection h with h; subst h; exact tyOK_of (zv := .nilFunc) (by kernel_rfl) (by kernel_rfl) rfl
  · injection h with h; subst h; exact tyOK_of (zv := .nilFunc) (by kernel_rfl) (by kernel_rfl) rfl
  · injection h with h; subst h; exact tyOK_of (zv := .nilFunc) (by kernel_rfl) (by kernel_rfl) rfl
  · injection h with h; subst h; exact tyOK_of (zv := .nilFunc) (by kernel_rfl) (by kernel_rfl) rfl
  · injection h with h; subst h; exact tyOK_of (zv := .nilFunc) (by kernel_rfl) (by kernel_rfl) rfl
  · injection h with h; subst h; exact tyOK_of (zv := .nilFunc) (by kernel_rfl) (by kernel_rfl) rfl
  · injection h with h; subst h; exact tyOK_of (zv := .nilFunc) (by kernel_rfl) (by kernel_rfl) rfl
  · injection h with h; subst h; exact tyOK_of (zv := .nilFunc) (by kernel_rfl) (by kernel_rfl) rfl
  · injection h with h; subst h; exact tyOK_of (zv := .nilFunc) (by kernel_rfl) (by kernel_rfl) rfl
  · injection h with h; subst h; exact tyOK_of (zv := .nilFunc) (by kernel_rfl) (by kernel_rfl) rfl
  · injection h with h; subst h; exact tyOK_of (zv := .nilFunc) (by kernel_rfl) (by kernel_rfl) rfl
  · injection h with h; subst h; exact tyOK_of (zv := .nilFunc) (by kernel_rfl) (by kernel_rfl) rfl
  · injection h with h; subst h; exact tyOK_of (zv := .nilFunc) (by kernel_rfl) (by kernel_rfl) rfl
  · injection h with h; subst h; exact tyOK_of (zv := .slice none 0 0) (by kernel_rfl) (by kernel_rfl) rfl
  · injection h with h; subst h; exact tyOK_of (zv := .agg #[.int .i64 0, .int .i64 0]) (by kernel_rfl) (by kernel_rfl) rfl
  · injection h with h; subst h; exact tyOK_ofE (zv := .agg #[.int .i64 0, .int .i64 0]) (by kernel_rfl) (by kernel_rfl) rfl (fun _ => ⟨by kernel_rfl, by kernel_rfl, by kernel_rfl⟩)
  · injection h with h; subst h; exact tyOK_of (zv := .nilFunc) (by kernel_rfl) (by kernel_rfl) rfl
  · injection h with h; subst h; exact tyOK_of (zv := .nilFunc) (by kernel_rfl) (by kernel_rfl) rfl
  · injection h with h; subst h; exact tyOK_of (zv := .nilFunc) (by kernel_rfl) (by kernel_rfl) rfl
  · injection h with h; subst h; exact tyOK_of (zv := .nilFunc) (by kernel_rfl) (by kernel_rfl) rfl
  · injection h with h; subst h; exact tyOK_of (zv := .nilFunc) (by kernel_rfl) (by kernel_rfl) rfl
  · injection h with h; subst h; exact tyOK_of (zv := .nilFunc) (by kernel_rfl) (by kernel_rfl) rfl
  · injection h with h; subst h; exact tyOK_of (zv := .nilFunc) (by kernel_rfl) (by kernel_rfl) rfl
  · injection h with h; subst h; exact tyOK_of (zv := .slice none 0 0) (by kernel_rfl) (by kernel_rfl) rfl
  · injection h with h; subst h; exact tyOK_of (zv := .nilFunc) (by kernel_rfl) (by kernel_rfl) rfl
  · injection h with h; subst h; exact tyOK_of (zv := .nilFunc) (by kernel_rfl) (by kernel_rfl) rfl
  · injection h with h; subst h; exact tyOK_of (zv := .nilFunc) (by kernel_rfl) (by kernel_rfl) rfl
  · injection h with h; subst h; exact tyOK_of (zv := .nilFunc) (by kernel_rfl) (by kernel_rfl) rfl
  · injection h with h; subst h; exact tyOK_of (zv := .nilFunc) (by kernel_rfl) (by kernel_rfl) rfl
  · injection h with h; subst h; exact tyOK_of (zv := .nilFunc) (by kernel_rfl) (by kernel_rfl) rfl
  · injection h with h; subst h; exact tyOK_of (zv := .nilFunc) (by kernel_rfl) (by kernel_rfl) rfl
  · injection h with h; subst h; exact tyOK_of (zv := .nilFunc) (by kernel_rfl) (by kernel_rfl) rfl
  · injection h with h; subst h; exact tyOK_of (zv := .nilFunc) (by kernel_rfl) (by kernel_rfl) rfl
  · injection h with h; subst h; exact tyOK_of (zv := .nilFunc) (by kernel_rfl) (by kernel_rfl) rfl
  · injection h with h; subst h; exact tyOK_of (zv := .nilFunc) (by kernel_rfl) (by kernel_rfl) rfl
  · injection h with h; subst h; exact tyOK_of (zv := .nilFunc) (by kernel_rfl) (by kernel_rfl) rfl
  · injection h with h; subst h; exact tyOK_of (zv := .nilFunc) (by kernel_rfl) (by kernel_rfl) rfl
  · injection h with h; subst h; exact tyOK_of (zv := .nilFunc) (by kernel_rfl) (by kernel_rfl) rfl
  · injection h with h; subst h; exact tyOK_of (zv := .nilFunc) (by kernel_rfl) (by kernel_rfl) rfl
  · injection h with h; subst h; exact tyOK_of (zv := .nilFunc) (by kernel_rfl) (by kernel_rfl) rfl
  · injection h with h; subst h; exact tyOK_of (zv := .nilFunc) (by kernel_rfl) (by kernel_rfl) rfl
  · injection h with h; subst h; exact tyOK_of (zv := .nilFunc) (by kernel_rfl) (by kernel_rfl) rfl
  · injection h with h; subst h; exact tyOK_of (zv := .nilFunc) (by kernel_rfl) (by kernel_rfl) rfl
  · injection h with h; subst h; exact tyOK_of (zv := .pointer none) (by kernel_rfl) (by kernel_rfl) rfl
  · injection h with h; subst h; exact tyOK_of (zv := .agg #[.pointer none, .slice none 0 0]) (by kernel_rfl) (by kernel_rfl) rfl
  · injection h with h; subst h; exact tyOK_of (zv := .agg #[.pointer none, .slice none 0 0]) (by kernel_rfl) (by kernel_rfl) rfl
  · injection h with h; subst h; exact tyOK_of (zv := .nilFunc) (by kernel_rfl) (by kernel_rfl) rfl
  · injection h with h; subst h; exact tyOK_of (zv := .nilFunc) (by kernel_rfl) (by kernel_rfl) rfl
  · injection h with h; subst h; exact tyOK_of (zv := .nilFunc) (by kernel_rfl) (by kernel_rfl) rfl
  · injection h with h; subst h; exact tyOK_of (zv := .nilFunc) (by kernel_rfl) (by kernel_rfl) rfl
  · injection h with h; subst h; exact tyOK_of (zv := .nilFunc) (by kernel_rfl) (by kernel_rfl) rfl
  · injection h with h; subst h; exact tyOK_of (zv := .nilFunc) (by kernel_rfl) (by kernel_rfl) rfl
  · injection h with h; subst h; exact tyOK_of (zv := .nilFunc) (by kernel_rfl) (by kernel_rfl) rfl
  · injection h with h; subst h; exact tyOK_of (zv := .slice none 0 0) (by kernel_rfl) (by kernel_rfl) rfl
  · injection h with h; subst h; exact tyOK_of (zv := .nilFunc) (by kernel_rfl) (by kernel_rfl) rfl
  · injection h with h; subst h; exact tyOK_of (zv := .nilFunc) (by kernel_rfl) (by kernel_rfl) rfl
  · injection h with h; subst h; exact tyOK_of (zv := .nilFunc) (by kernel_rfl) (by kernel_rfl) rfl
  · injection h with h; subst h; exact tyOK_of (zv := .nilFunc) (by kernel_rfl) (by kernel_rfl) rfl
  · injection h with h; subst h; exact tyOK_of (zv := .int .u64 0) (by kernel_rfl) (by kernel_rfl) rfl
  · injection h with h; subst h; exact tyOK_of (zv := .nilFunc) (by kernel_rfl) (by kernel_rfl) rfl
  · injection h with h; subst h; exact tyOK_of (zv := .int .u32 0) (by kernel_rfl) (by kernel_rfl) rfl
  · injection h with h; subst h; exact tyOK_of (zv := .int .u64 0) (by kernel_rfl) (by kernel_rfl) rfl
  · injection h with h; subst h; exact tyOK_of (zv := .slice none 0 0) (by kernel_rfl) (by kernel_rfl) rfl
  · injection h with h; subst h; exact tyOK_of (zv := .slice none 0 0) (by kernel_rfl) (by kernel_rfl) rfl
  · injection h with h; subst h; exact tyOK_of (zv := .nilFunc) (by kernel_rfl) (by kernel_rfl) rfl
  · injection h with h; subst h; exact tyOK_of (zv := .nilFunc) (by kernel_rfl) (by kernel_rfl) rfl
  · injection h with h; subst h; exact tyOK_of (zv := .agg #[.slice none 0 0, .string ⟨#[]⟩]) (by kernel_rfl) (by kernel_rfl) rfl
  · injection h with h; subst h; exact tyOK_of (zv := .agg #[.slice none 0 0, .string ⟨#[]⟩]) (by kernel_rfl) (by kernel_rfl) rfl
  · injection h with h; subst h; exact tyOK_of (zv := .slice none 0 0) (by kernel_rfl) (by kernel_rfl) rfl
  · injection h with h; subst h; exact tyOK_of (zv := .map none) (by kernel_rfl) (by kernel_rfl) rfl
  · injection h with h; subst h; exact tyOK_of (zv := .nilFunc) (by kernel_rfl) (by kernel_rfl) rfl
  · injection h with h; subst h; exact tyOK_of (zv := .nilFunc) (by kernel_rfl) (by kernel_rfl) rfl
  · injection h with h; subst h; exact tyOK_of (zv := .nilFunc) (by kernel_rfl) (by kernel_rfl) rfl
  · injection h with h; subst h; exact tyOK_of (zv := .nilFunc) (by kernel_rfl) (by kernel_rfl) rfl
  · injection h with h; subst h; exact tyOK_of (zv := .nilFunc) (by kernel_rfl) (by kernel_rfl) rfl
  · injection h with h; subst h; exact tyOK_of (zv := .nilFunc) (by kernel_rfl) (by kernel_rfl) rfl
  · injection h with h; subst h; exact tyOK_of (zv := .nilFunc) (by kernel_rfl) (by kernel_rfl) rfl
  · injection h with h; subst h; exact tyOK_of (zv := .nilFunc) (by kernel_rfl) (by kernel_rfl) rfl
  · injection h with h; subst h; exact tyOK_of (zv := .nilFunc) (by kernel_rfl) (by kernel_rfl) rfl
  · injection h with h; subst h; exact tyOK_of (zv := .nilFunc) (by kernel_rfl) (by kernel_rfl) rfl
  · injection h with h; subst h; exact tyOK_of (zv := .nilFunc) (by kernel_rfl) (by kernel_rfl) rfl
  · injection h with h; subst h; exact tyOK_of (zv := .nilFunc) (by kernel_rfl) (by kernel_rfl) rfl
  · injection h with h; subst h; exact tyOK_of (zv := .nilFunc) (by kernel_rfl) (by kernel_rfl) rfl
  · injection h with h; subst h; exact tyOK_of (zv := .nilFunc) (by kernel_rfl) (by kernel_rfl) rfl
  · injection h with h; subst h; exact tyOK_of (zv := .pointer none) (by kernel_rfl) (by kernel_rfl) rfl
  · injection h with h; subst h; exact tyOK_of (zv := .nilFunc) (by kernel_rfl) (by kernel_rfl) rfl
  · injection h with h; subst h; exact tyOK_of (zv := .nilFunc) (by kernel_rfl) (by kernel_rfl) rfl
  · injection h with h; subst h; exact tyOK_of (zv := .nilFunc) (by kernel_rfl) (by kernel_rfl) rfl
  · injection h with h; subst h; exact tyOK_of (zv := .nilFunc) (by kernel_rfl) (by kernel_rfl) rfl
  · injection h with h; subst h; exact tyOK_of (zv := .nilFunc) (by kernel_rfl) (by kernel_rfl) rfl
  · injection h with h; subst h; exact tyOK_of (zv := .nilFunc) (by kernel_rfl) (by kernel_rfl) rfl
  · injection h with h; subst h; exact tyOK_of (zv := .nilFunc) (by kernel_rfl) (by kernel_rfl) rfl
  · injection h with h; subst h; exact tyOK_of (zv := .nilFunc) (by kernel_rfl) (by kernel_rfl) rfl
  · injection h with h; subst h; exact tyOK_of (zv := .nilFunc) (by kernel_rfl) (by kernel_rfl) rfl
  · injection h with h; subst h; exact tyOK_of (zv := .nilFunc) (by kernel_rfl) (by kernel_rfl) rfl
  · injection h with h; subst h; exact tyOK_of (zv := .nilFunc) (by kernel_rfl) (by kernel_rfl) rfl
  · injection h with h; subst h; exact tyOK_of (zv := .nilFunc) (by kernel_rfl) (by kernel_rfl) rfl
  · injection h with h; subst h; exact tyOK_of (zv := .nilFunc) (by kernel_rfl) (by kernel_rfl) rfl
  · injection h with h; subst h; exact tyOK_of (zv := .nilFunc) (by kernel_rfl) (by kernel_rfl) rfl
  · injection h with h; subst h; exact tyOK_of (zv := .nilFunc) (by kernel_rfl) (by kernel_rfl) rfl
  · injection h with h; subst h; exact tyOK_of (zv := .nilFunc) (by kernel_rfl) (by kernel_rfl) rfl
  · injection h with h; subst h; exact tyOK_of (zv := .agg #[.nilFunc]) (by kernel_rfl) (by kernel_rfl) rfl
  · injection h with h; subst h; exact tyOK_of (zv := .agg #[.nilFunc]) (by kernel_rfl) (by kernel_rfl) rfl
  · injection h with h; subst h; exact tyOK_of (zv := .agg #[.nilFunc, .nilFunc, .nilFunc, .nilFunc]) (by kernel_rfl) (by kernel_rfl) rfl
  · injection h with h; subst h; exact tyOK_of (zv := .nilFunc) (by kernel_rfl) (by kernel_rfl) rfl
  · injection h with h; subst h; exact tyOK_of (zv := .nilFunc) (by kernel_rfl) (by kernel_rfl) rfl
  · injection h with h; subst h; exact tyOK_of (zv := .nilFunc) (by kernel_rfl) (by kernel_rfl) rfl
  · injection h with h; subst h; exact tyOK_of (zv := .nilFunc) (by kernel_rfl) (by kernel_rfl) rfl
  · injection h with h; subst h; exact tyOK_of (zv := .nilFunc) (by kernel_rfl) (by kernel_rfl) rfl
  · injection h with h; subst h; exact tyOK_of (zv := .nilFunc) (by kernel_rfl) (by kernel_rfl) rfl
  · injection h with h; subst h; exact tyOK_of (zv := .nilFunc) (by kernel_rfl) (by kernel_rfl) rfl
  · injection h with h; subst h; exact tyOK_of (zv := .nilFunc) (by kernel_rfl) (by kernel_rfl) rfl
  · injection h with h; subst h; exact tyOK_of (zv := .nilFunc) (by kernel_rfl) (by kernel_rfl) rfl
  · injection h with h; subst h; exact tyOK_of (zv := .nilFunc) (by kernel_rfl) (by kernel_rfl) rfl
  · injection h with h; subst h; exact tyOK_of (zv := .nilFunc) (by kernel_rfl) (by kernel_rfl) rfl
  · injection h with h; subst h; exact tyOK_of (zv := .nilFunc) (by kernel_rfl) (by kernel_rfl) rfl
  · injection h with h; subst h; exact tyOK_of (zv := .int .i64 0) (by kernel_rfl) (by kernel_rfl) rfl
  · injection h with h; subst h; exact tyOK_of (zv := .nilFunc) (by kernel_rfl) (by kernel_rfl) rfl
  · injection h with h; subst h; exact tyOK_of (zv := .nilFunc) (by kernel_rfl) (by kernel_rfl) rfl
  · injection h with h; subst h; exact tyOK_of (zv := .nilFunc) (by kernel_rfl) (by kernel_rfl) rfl
  · injection h with h; subst h; exact tyOK_of (zv := .nilFunc) (by kernel_rfl) (by kernel_rfl) rfl
  · injection h with h; subst h; exact tyOK_of (zv := .nilFunc) (by kernel_rfl) (by kernel_rfl) rfl
  · injection h with h; subst h; exact tyOK_of (zv := .nilFunc) (by kernel_rfl) (by kernel_rfl) rfl
  · injection h with h; subst h; exact tyOK_of (zv := .nilFunc) (by kernel_rfl) (by kernel_rfl) rfl
  · injection h with h; subst h; exact tyOK_of (zv := .nilFunc) (by kernel_rfl) (by kernel_rfl) rfl
  · injection h with h; subst h; exact tyOK_of (zv := .nilFunc) (by kernel_rfl) (by kernel_rfl) rfl
  · injection h with h; subst h; exact tyOK_of (zv := .nilFunc) (by kernel_rfl) (by kernel_rfl) rfl
  · injection h with h; subst h; exact tyOK_of (zv := .nilFunc) (by kernel_rfl) (by kernel_rfl) rfl
  · injection h with h; subst h; exact tyOK_of (zv := .nilFunc) (by kernel_rfl) (by kernel_rfl) rfl
  · injection h with h; subst h; exact tyOK_of (zv := .nilFunc) (by kernel_rfl) (by kernel_rfl) rfl
  · injection h with h; subst h; exact tyOK_of (zv := .nilFunc) (by kernel_rfl) (by kernel_rfl) rfl
  · injection h with h; subst h; exact tyOK_of (zv := .nilFunc) (by kernel_rfl) (by kernel_rfl) rfl
  · injection h with h; subst h; exact tyOK_of (zv := .agg #[.int .u8 0, .int .u8 0, .int .u8 0, .int .u8 0, .int .u8 0, .int .u8 0, .int .u8 0, .int .u8 0]) (by kernel_rfl) (by kernel_rfl) rfl
  · injection h with h; subst h; exact tyOK_of (zv := .int .u64 0) (by kernel_rfl) (by kernel_rfl) rfl
  · injection h with h; subst h; exact tyOK_of (zv := .nilFunc) (by kernel_rfl) (by kernel_rfl) rfl
  · injection h with h; subst h; exact tyOK_of (zv := .nilFunc) (by kernel_rfl) (by kernel_rfl) rfl
  · injection h with h; subst h; exact tyOK_of (zv := .nilFunc) (by kernel_rfl) (by kernel_rfl) rfl
  · injection h with h; subst h; exact tyOK_of (zv := .pointer none) (by kernel_rfl) (by kernel_rfl) rfl
  · injection h with h; subst h; exact tyOK_of (zv := .nilFunc) (by kernel_rfl) (by kernel_rfl) rfl
  · injection h with h; subst h; exact tyOK_of (zv := .nilFunc) (by kernel_rfl) (by kernel_rfl) rfl
  · injection h with h; subst h; exact tyOK_of (zv := .nilFunc) (by kernel_rfl) (by kernel_rfl) rfl
  · injection h with h; subst h; exact tyOK_of (zv := .nilFunc) (by kernel_rfl) (by kernel_rfl) rfl
  · injection h with h; subst h; exact tyOK_of (zv := .nilFunc) (by kernel_rfl) (by kernel_rfl) rfl
  · injection h with h; subst h; exact tyOK_of (zv := .nilFunc) (by kernel_rfl) (by kernel_rfl) rfl
  · injection h with h; subst h; exact tyOK_of (zv := .nilFunc) (by kernel_rfl) (by kernel_rfl) rfl
  · injection h with h; subst h; exact tyOK_of (zv := .nilFunc) (by kernel_rfl) (by kernel_rfl) rfl
  · injection h with h; subst h; exact tyOK_of (zv := .agg #[.string ⟨#[]⟩, .string ⟨#[]⟩, .string ⟨#[]⟩, .string ⟨#[]⟩, .string ⟨#[]⟩, .string ⟨#[]⟩, .string ⟨#[]⟩, .string ⟨#[]⟩]) (by kernel_rfl) (by kernel_rfl) rfl
  · injection h with h; subst h; exact tyOK_of (zv := .pointer none) (by kernel_rfl) (by kernel_rfl) rfl
  · injection h with h; subst h; exact tyOK_of (zv := .nilFunc) (by kernel_rfl) (by kernel_rfl) rfl
  · injection h with h; subst h; exact tyOK_of (zv := .nilFunc) (by kernel_rfl) (by kernel_rfl) rfl
  · injection h with h; subst h; exact tyOK_of (zv := .nilFunc) (by kernel_rfl) (by kernel_rfl) rfl
  · injection h with h; subst h; exact tyOK_of (zv := .nilFunc) (by kernel_rfl) (by kernel_rfl) rfl
  · injection h with h; subst h; exact tyOK_of (zv := .nilFunc) (by kernel_rfl) (by kernel_rfl) rfl
  · injection h with h; subst h; exact tyOK_of (zv := .agg #[.pointer none, .pointer none, .pointer none, .string ⟨#[]⟩]) (by kernel_rfl) (by kernel_rfl) rfl
  · injection h with h; subst h; exact tyOK_of (zv := .agg #[.pointer none, .pointer none, .pointer none, .string ⟨#[]⟩]) (by kernel_rfl) (by kernel_rfl) rfl
  · injection h with h; subst h; exact tyOK_of (zv := .agg #[]) (by kernel_rfl) (by kernel_rfl) rfl
  · injection h with h; subst h; exact tyOK_of (zv := .agg #[]) (by kernel_rfl) (by kernel_rfl) rfl
  · injection h with h; subst h; exact tyOK_of (zv := .nilFunc) (by kernel_rfl) (by kernel_rfl) rfl
  · injection h with h; subst h; exact tyOK_of (zv := .int .u8 0) (by kernel_rfl) (by kernel_rfl) rfl
  · injection h with h; subst h; exact tyOK_of (zv := .int .u8 0) (by kernel_rfl) (by kernel_rfl) rfl
  · injection h with h; subst h; exact tyOK_of (zv := .nilFunc) (by kernel_rfl) (by kernel_rfl) rfl
  · injection h with h; subst h; exact tyOK_of (zv := .int .i32 0) (by kernel_rfl) (by kernel_rfl) rfl
  · injection h with h; subst h; exact tyOK_of (zv := .int .i32 0) (by kernel_rfl) (by kernel_rfl) rfl
  · injection h with h; subst h; exact tyOK_of (zv := .agg #[.int .u64 0, .int .u64 0, .int .u32 0, .int .u8 0, .int .u8 0, .int .u8 0, .int .u8 0, .nilFunc, .pointer none, .int .i32 0, .int .i32 0]) (by kernel_rfl) (by kernel_rfl) rfl
  · injection h with h; subst h; exact tyOK_of (zv := .agg #[.int .u64 0, .int .u64 0, .int .u32 0, .int .u8 0, .int .u8 0, .int .u8 0, .int .u8 0, .nilFunc, .pointer none, .int .i32 0, .int .i32 0]) (by kernel_rfl) (by kernel_rfl) rfl
  · cases h
theorem y1 (f : TE → Prop) : tyAt Γ 1 f = f { td := .other, cells := 1, bytes := 8, zero := some (.cell), isAgg := false } := tyAt_of g1 f
theorem y2 (f : TE → Prop) : tyAt Γ 2 f = f { td := .int .i64, cells := 1, bytes := 8, zero := some (.p (.int .i64 0)), isAgg := false } := tyAt_of g2 f
theorem y3 (f : TE → Prop) : tyAt Γ 3 f = f { td := .int .i64, cells := 1, bytes := 8, zero := some (.p (.int .i64 0)), isAgg := false } := tyAt_of g3 f
theorem y4 (f : TE → Prop) : tyAt Γ 4 f = f { td := .bool, cells := 1, bytes := 1, zero := some (.p (.bool false)), isAgg := false } := tyAt_of g4 f
theorem y5 (f : TE → Prop) : tyAt Γ 5 f = f { td := .int .u8, cells := 1, bytes := 1, zero := some (.p (.int .u8 0)), isAgg := false } := tyAt_of g5 f
theorem y6 (f : TE → Prop) : tyAt Γ 6 f = f { td := .int .u8, cells := 1, bytes := 1, zero := some (.p (.int .u8 0)), isAgg := false } := tyAt_of g6 f
theorem y7 (f : TE → Prop) : tyAt Γ 7 f = f { td := .struct [(0, 2), (1, 3), (2, 4), (3, 6)], cells := 4, bytes := 24, zero := some (.agg [.p (.int .i64 0), .p (.int .i64 0), .p (.bool false), .p (.int .u8 0)]), isAgg := true } := tyAt_of g7 f
theorem y8 (f : TE → Prop) : tyAt Γ 8 f = f { td := .struct [(0, 2), (1, 3), (2, 4), (3, 6)], cells := 4, bytes := 24, zero := some (.agg [.p (.int .i64 0), .p (.int .i64 0), .p (.bool false), .p (.int .u8 0)]), isAgg := true } := tyAt_of g8 f
theorem y9 (f : TE → Prop) : tyAt Γ 9 f = f { td := .str, cells := 1, bytes := 16, zero := some (.p (.str [])), isAgg := false } := tyAt_of g9 f
theorem y10 (f : TE → Prop) : tyAt Γ 10 f = f { td := .str, cells := 1, bytes := 16, zero := some (.p (.str [])), isAgg := false } := tyAt_of g10 f
theorem y11 (f : TE → Prop) : tyAt Γ 11 f = f { td := .str, cells := 1, bytes := 16, zero := some (.p (.str [])), isAgg := false } := tyAt_of g11 f
theorem y12 (f : TE → Prop) : tyAt Γ 12 f = f { td := .int .u64, cells := 1, bytes := 8, zero := some (.p (.int .u64 0)), isAgg := false } := tyAt_of g12 f
theorem y13 (f : TE → Prop) : tyAt Γ 13 f = f { td := .struct [(0, 9), (1, 12)], cells := 2, bytes := 24, zero := some (.agg [.p (.str []), .p (.int .u64 0)]), isAgg := true } := tyAt_of g13 f
theorem y14 (f : TE → Prop) : tyAt Γ 14 f = f { td := .struct [(0, 9), (1, 12)], cells := 2, bytes := 24, zero := some (.agg [.p (.str []), .p (.int .u64 0)]), isAgg := true } := tyAt_of g14 f
theorem y15 (f : TE → Prop) : tyAt Γ 15 f = f { td := .other, cells := 1, bytes := 8, zero := some (.cell), isAgg := false } := tyAt_of g15 f
theorem y16 (f : TE → Prop) : tyAt Γ 16 f = f { td := .other, cells := 1, bytes := 8, zero := some (.cell), isAgg := false } := tyAt_of g16 f
theorem y17 (f : TE → Prop) : tyAt Γ 17 f = f { td := .other, cells := 1, bytes := 8, zero := some (.cell), isAgg := false } := tyAt_of g17 f
theorem y18 (f : TE → Prop) : tyAt Γ 18 f = f { td := .struct [(0, 17)], cells := 1, bytes := 8, zero := some (.agg [.cell]), isAgg := true } := tyAt_of g18 f
theorem y19 (f : TE → Prop) : tyAt Γ 19 f = f { td := .struct [(0, 17)], cells := 1, bytes := 8, zero := some (.agg [.cell]), isAgg := true } := tyAt_of g19 f
theorem y21 (f : TE → Prop) : tyAt Γ 21 f = f { td := .int .i32, cells := 1, bytes := 4, zero := some (.p (.int .i32 0)), isAgg := false } := tyAt_of g21 f
theorem y22 (f : TE → Prop) : tyAt Γ 22 f = f { td := .slice 9, cells := 1, bytes := 24, zero := some (.full []), isAgg := false } := tyAt_of g22 f
theorem y23 (f : TE → Prop) : tyAt Γ 23 f = f { td := .struct [(0, 3), (1, 22)], cells := 2, bytes := 32, zero := some (.agg [.p (.int .i64 0), .full []]), isAgg := true } := tyAt_of g23 f
theorem y24 (f : TE → Prop) : tyAt Γ 24 f = f { td := .struct [(0, 3), (1, 22)], cells := 2, bytes := 32, zero := some (.agg [.p (.int .i64 0), .full []]), isAgg := true } := tyAt_of g24 f
theorem y25 (f : TE → Prop) : tyAt Γ 25 f = f { td := .other, cells := 1, bytes := 8, zero := some (.cell), isAgg := false } := tyAt_of g25 f
theorem y26 (f : TE → Prop) : tyAt Γ 26 f = f { td := .other, cells := 1, bytes := 8, zero := some (.cell), isAgg := false } := tyAt_of g26 f
theorem y27 (f : TE → Prop) : tyAt Γ 27 f = f { td := .int .i64, cells := 1, bytes := 8, zero := some (.p (.int .i64 0)), isAgg := false } := tyAt_of g27 f
theorem y29 (f : TE → Prop) : tyAt Γ 29 f = f { td := .other, cells := 1, bytes := 8, zero := some (.cell), isAgg := false } := tyAt_of g29 f
theorem y31 (f : TE → Prop) : tyAt Γ 31 f = f { td := .other, cells := 1, bytes := 8, zero := some (.cell), isAgg := false } := tyAt_of g31 f
theorem y32 (f : TE → Prop) : tyAt Γ 32 f = f { td := .other, cells := 1, bytes := 8, zero := some (.cell), isAgg := false } := tyAt_of g32 f
theorem y33 (f : TE → Prop) : tyAt Γ 33 f = f { td := .other, cells := 1, bytes := 8, zero := some (.cell), isAgg := false } := tyAt_of g33 f
theorem y34 (f : TE → Prop) : tyAt Γ 34 f = f { td := .other, cells := 1, bytes := 8, zero := some (.cell), isAgg := false } := tyAt_of g34 f
theorem y35 (f : TE → Prop) : tyAt Γ 35 f = f { td := .other, cells := 1, bytes := 8, zero := some (.cell), isAgg := false } := tyAt_of g35 f
theorem y36 (f : TE → Prop) : tyAt Γ 36 f = f { td := .slice 3, cells := 1, bytes := 24, zero := some (.full []), isAgg := false } := tyAt_of g36 f
theorem y37 (f : TE → Prop) : tyAt Γ 37 f = f { td := .other, cells := 1, bytes := 8, zero := some (.cell), isAgg := false } := tyAt_of g37 f
theorem y39 (f : TE → Prop) : tyAt Γ 39 f = f { td := .other, cells := 1, bytes := 8, zero := some (.cell), isAgg := false } := tyAt_of g39 f
theorem y40 (f : TE → Prop) : tyAt Γ 40 f = f { td := .other, cells := 1, bytes := 8, zero := some (.cell), isAgg := false } := tyAt_of g40 f
theorem y41 (f : TE → Prop) : tyAt Γ 41 f = f { td := .other, cells := 1, bytes := 8, zero := some (.cell), isAgg := false } := tyAt_of g41 f
theorem y43 (f : TE → Prop) : tyAt Γ 43 f = f { td := .other, cells := 1, bytes := 8, zero := some (.cell), isAgg := false } := tyAt_of g43 f
theorem y44 (f : TE → Prop) : tyAt Γ 44 f = f { td := .other, cells := 1, bytes := 8, zero := some (.cell), isAgg := false } := tyAt_of g44 f
theorem y46 (f : TE → Prop) : tyAt Γ 46 f = f { td := .other, cells := 1, bytes := 8, zero := some (.cell), isAgg := false } := tyAt_of g46 f
theorem y47 (f : TE → Prop) : tyAt Γ 47 f = f { td := .other, cells := 1, bytes := 8, zero := some (.cell), isAgg := false } := tyAt_of g47 f
theorem y48 (f : TE → Prop) : tyAt Γ 48 f = f { td := .other, cells := 1, bytes := 8, zero := some (.cell), isAgg := false } := tyAt_of g48 f
theorem y49 (f : TE → Prop) : tyAt Γ 49 f = f { td := .other, cells := 1, bytes := 8, zero := some (.cell), isAgg := false } := tyAt_of g49 f
theorem y50 (f : TE → Prop) : tyAt Γ 50 f = f { td := .other, cells := 1, bytes := 8, zero := some (.cell), isAgg := false } := tyAt_of g50 f
theorem y51 (f : TE → Prop) : tyAt Γ 51 f = f { td := .other, cells := 1, bytes := 8, zero := some (.cell), isAgg := false } := tyAt_of g51 f
theorem y52 (f : TE → Prop) : tyAt Γ 52 f = f { td := .struct [(0, 4), (1, 9)], cells := 2, bytes := 24, zero := some (.agg [.p (.bool false), .p (.str [])]), isAgg := true } := tyAt_of g52 f
theorem y53 (f : TE → Prop) : tyAt Γ 53 f = f { td := .struct [(0, 4), (1, 9)], cells := 2, bytes := 24, zero := some (.agg [.p (.bool false), .p (.str [])]), isAgg := true, eqs := true } := tyAt_of g53 f
theorem y54 (f : TE → Prop) : tyAt Γ 54 f = f { td := .struct [(0, 53), (2, 53)], cells := 4, bytes := 48, zero := some (.agg [.p (.bool false), .p (.str []), .p (.bool false), .p (.str [])]), isAgg := true } := tyAt_of g54 f
theorem y55 (f : TE → Prop) : tyAt Γ 55 f = f { td := .struct [(0, 53), (2, 53)], cells := 4, bytes := 48, zero := some (.agg [.p (.bool false), .p (.str []), .p (.bool false), .p (.str [])]), isAgg := true, eqs := true } := tyAt_of g55 f
theorem y57 (f : TE → Prop) : tyAt Γ 57 f = f { td := .other, cells := 1, bytes := 8, zero := some (.cell), isAgg := false } := tyAt_of g57 f
theorem y58 (f : TE → Prop) : tyAt Γ 58 f = f { td := .other, cells := 1, bytes := 8, zero := some (.cell), isAgg := false } := tyAt_of g58 f
theorem y59 (f : TE → Prop) : tyAt Γ 59 f = f { td := .other, cells := 1, bytes := 8, zero := some (.cell), isAgg := false } := tyAt_of g59 f
theorem y60 (f : TE → Prop) : tyAt Γ 60 f = f { td := .other, cells := 1, bytes := 8, zero := some (.cell), isAgg := false } := tyAt_of g60 f
theorem y61 (f : TE → Prop) : tyAt Γ 61 f = f { td := .other, cells := 1, bytes := 8, zero := some (.cell), isAgg := false } := tyAt_of g61 f
theorem y62 (f : TE → Prop) : tyAt Γ 62 f = f { td := .slice 55, cells := 1, bytes := 24, zero := some (.full []), isAgg := false } := tyAt_of g62 f
theorem y63 (f : TE → Prop) : tyAt Γ 63 f = f { td := .other, cells := 1, bytes := 8, zero := some (.cell), isAgg := false } := tyAt_of g63 f
theorem y64 (f : TE → Prop) : tyAt Γ 64 f = f { td := .other, cells := 1, bytes := 8, zero := some (.cell), isAgg := false } := tyAt_of g64 f
theorem y65 (f : TE → Prop) : tyAt Γ 65 f = f { td := .slice 5, cells := 1, bytes := 24, zero := some (.full []), isAgg := false } := tyAt_of g65 f
theorem y66 (f : TE → Prop) : tyAt Γ 66 f = f { td := .other, cells := 1, bytes := 8, zero := some (.cell), isAgg := false } := tyAt_of g66 f
theorem y67 (f : TE → Prop) : tyAt Γ 67 f = f { td := .other, cells := 1, bytes := 8, zero := some (.cell), isAgg := false } := tyAt_of g67 f
theorem y68 (f : TE → Prop) : tyAt Γ 68 f = f { td := .other, cells := 1, bytes := 8, zero := some (.cell), isAgg := false } := tyAt_of g68 f
theorem y70 (f : TE → Prop) : tyAt Γ 70 f = f { td := .other, cells := 1, bytes := 8, zero := some (.cell), isAgg := false } := tyAt_of g70 f
theorem y71 (f : TE → Prop) : tyAt Γ 71 f = f { td := .other, cells := 1, bytes := 8, zero := some (.cell), isAgg := false } := tyAt_of g71 f
theorem y72 (f : TE → Prop) : tyAt Γ 72 f = f { td := .other, cells := 1, bytes := 8, zero := some (.cell), isAgg := false } := tyAt_of g72 f
theorem y73 (f : TE → Prop) : tyAt Γ 73 f = f { td := .other, cells := 1, bytes := 8, zero := some (.cell), isAgg := false } := tyAt_of g73 f
theorem y74 (f : TE → Prop) : tyAt Γ 74 f = f { td := .other, cells := 1, bytes := 8, zero := some (.cell), isAgg := false } := tyAt_of g74 f
theorem y75 (f : TE → Prop) : tyAt Γ 75 f = f { td := .other, cells := 1, bytes := 8, zero := some (.cell), isAgg := false } := tyAt_of g75 f
theorem y76 (f : TE → Prop) : tyAt Γ 76 f = f { td := .other, cells := 1, bytes := 8, zero := some (.cell), isAgg := false } := tyAt_of g76 f
theorem y77 (f : TE → Prop) : tyAt Γ 77 f = f { td := .other, cells := 1, bytes := 8, zero := some (.cell), isAgg := false } := tyAt_of g77 f
theorem y78 (f : TE → Prop) : tyAt Γ 78 f = f { td := .other, cells := 1, bytes := 8, zero := some (.cell), isAgg := false } := tyAt_of g78 f
theorem y79 (f : TE → Prop) : tyAt Γ 79 f = f { td := .other, cells := 1, bytes := 8, zero := some (.cell), isAgg := false } := tyAt_of g79 f
theorem y80 (f : TE → Prop) : tyAt Γ 80 f = f { td := .other, cells := 1, bytes := 8, zero := some (.cell), isAgg := false } := tyAt_of g80 f
theorem y81 (f : TE → Prop) : tyAt Γ 81 f = f { td := .other, cells := 1, bytes := 8, zero := some (.cell), isAgg := false } := tyAt_of g81 f
theorem y82 (f : TE → Prop) : tyAt Γ 82 f = f { td := .other, cells := 1, bytes := 8, zero := some (.cell), isAgg := false } := tyAt_of g82 f
theorem y83 (f : TE → Prop) : tyAt Γ 83 f = f { td := .other, cells := 1, bytes := 8, zero := some (.cell), isAgg := false } := tyAt_of g83 f
theorem y84 (f : TE → Prop) : tyAt Γ 84 f = f { td := .other, cells := 1, bytes := 8, zero := some (.cell), isAgg := false } := tyAt_of g84 f
theorem y85 (f : TE → Prop) : tyAt Γ 85 f = f { td := .slice 87, cells := 1, bytes := 24, zero := some (.full []), isAgg := false } := tyAt_of g85 f
theorem y86 (f : TE → Prop) : tyAt Γ 86 f = f { td := .struct [(0, 3), (1, 3)], cells := 2, bytes := 16, zero := some (.agg [.p (.int .i64 0), .p (.int .i64 0)]), isAgg := true } := tyAt_of g86 f
theorem y87 (f : TE → Prop) : tyAt Γ 87 f = f { td := .struct [(0, 3), (1, 3)], cells := 2, bytes := 16, zero := some (.agg [.p (.int .i64 0), .p (.int .i64 0)]), isAgg := true, eqs := true } := tyAt_of g87 f
theorem y88 (f : TE → Prop) : tyAt Γ 88 f = f { td := .other, cells := 1, bytes := 8, zero := some (.cell), isAgg := false } := tyAt_of g88 f
theorem y89 (f : TE → Prop) : tyAt Γ 89 f = f { td := .other, cells := 1, bytes := 8, zero := some (.cell), isAgg := false } := tyAt_of g89 f
theorem y90 (f : TE → Prop) : tyAt Γ 90 f = f { td := .other, cells := 1, bytes := 8, zero := some (.cell), isAgg := false } := tyAt_of g90 f
theorem y91 (f : TE → Prop) : tyAt Γ 91 f = f { td := .other, cells := 1, bytes := 8, zero := some (.cell), isAgg := false } := tyAt_of g91 f
theorem y92 (f : TE → Prop) : tyAt Γ 92 f = f { td := .other, cells := 1, bytes := 8, zero := some (.cell), isAgg := false } := tyAt_of g92 f
theorem y93 (f : TE → Prop) : tyAt Γ 93 f = f { td := .other, cells := 1, bytes := 8, zero := some (.cell), isAgg := false } := tyAt_of g93 f
theorem y94 (f : TE → Prop) : tyAt Γ 94 f = f { td := .other, cells := 1, bytes := 8, zero := some (.cell), isAgg := false } := tyAt_of g94 f
theorem y95 (f : TE → Prop) : tyAt Γ 95 f = f { td := .slice 9, cells := 1, bytes := 24, zero := some (.full []), isAgg := false } := tyAt_of g95 f
theorem y96 (f : TE → Prop) : tyAt Γ 96 f = f { td := .other, cells := 1, bytes := 8, zero := some (.cell), isAgg := false } := tyAt_of g96 f
theorem y97 (f : TE → Prop) : tyAt Γ 97 f = f { td := .other, cells := 1, bytes := 8, zero := some (.cell), isAgg := false } := tyAt_of g97 f
theorem y98 (f : TE → Prop) : tyAt Γ 98 f = f { td := .other, cells := 1, bytes := 8, zero := some (.cell), isAgg := false } := tyAt_of g98 f
theorem y99 (f : TE → Prop) : tyAt Γ 99 f = f { td := .other, cells := 1, bytes := 8, zero := some (.cell), isAgg := false } := tyAt_of g99 f
theorem y100 (f : TE → Prop) : tyAt Γ 100 f = f { td := .other, cells := 1, bytes := 8, zero := some (.cell), isAgg := false } := tyAt_of g100 f
theorem y101 (f : TE → Prop) : tyAt Γ 101 f = f { td := .other, cells := 1, bytes := 8, zero := some (.cell), isAgg := false } := tyAt_of g101 f
theorem y103 (f : TE → Prop) : tyAt Γ 103 f = f { td := .other, cells := 1, bytes := 8, zero := some (.cell), isAgg := false } := tyAt_of g103 f
theorem y104 (f : TE → Prop) : tyAt Γ 104 f = f { td := .other, cells := 1, bytes := 8, zero := some (.cell), isAgg := false } := tyAt_of g104 f
theorem y105 (f : TE → Prop) : tyAt Γ 105 f = f { td := .other, cells := 1, bytes := 8, zero := some (.cell), isAgg := false } := tyAt_of g105 f
theorem y106 (f : TE → Prop) : tyAt Γ 106 f = f { td := .other, cells := 1, bytes := 8, zero := some (.cell), isAgg := false } := tyAt_of g106 f
theorem y107 (f : TE → Prop) : tyAt Γ 107 f = f { td := .other, cells := 1, bytes := 8, zero := some (.cell), isAgg := false } := tyAt_of g107 f
theorem y108 (f : TE → Prop) : tyAt Γ 108 f = f { td := .other, cells := 1, bytes := 8, zero := some (.cell), isAgg := false } := tyAt_of g108 f
theorem y109 (f : TE → Prop) : tyAt Γ 109 f = f { td := .other, cells := 1, bytes := 8, zero := some (.cell), isAgg := false } := tyAt_of g109 f
theorem y110 (f : TE → Prop) : tyAt Γ 110 f = f { td := .other, cells := 1, bytes := 8, zero := some (.cell), isAgg := false } := tyAt_of g110 f
theorem y111 (f : TE → Prop) : tyAt Γ 111 f = f { td := .other, cells := 1, bytes := 8, zero := some (.cell), isAgg := false } := tyAt_of g111 f
theorem y112 (f : TE → Prop) : tyAt Γ 112 f = f { td := .other, cells := 1, bytes := 8, zero := some (.cell), isAgg := false } := tyAt_of g112 f
theorem y113 (f : TE → Prop) : tyAt Γ 113 f = f { td := .other, cells := 1, bytes := 8, zero := some (.cell), isAgg := false } := tyAt_of g113 f
theorem y114 (f : TE → Prop) : tyAt Γ 114 f = f { td := .other, cells := 1, bytes := 8, zero := some (.cell), isAgg := false } := tyAt_of g114 f
theorem y115 (f : TE → Prop) : tyAt Γ 115 f = f { td := .other, cells := 1, bytes := 8, zero := some (.cell), isAgg := false } := tyAt_of g115 f
theorem y116 (f : TE → Prop) : tyAt Γ 116 f = f { td := .other, cells := 1, bytes := 8, zero := some (.cell), isAgg := false } := tyAt_of g116 f
theorem y117 (f : TE → Prop) : tyAt Γ 117 f = f { td := .struct [(0, 116), (1, 65)], cells := 2, bytes := 32, zero := some (.agg [.cell, .full []]), isAgg := true } := tyAt_of g117 f
theorem y118 (f : TE → Prop) : tyAt Γ 118 f = f { td := .struct [(0, 116), (1, 65)], cells := 2, bytes := 32, zero := some (.agg [.cell, .full []]), isAgg := true } := tyAt_of g118 f
theorem y122 (f : TE → Prop) : tyAt Γ 122 f = f { td := .other, cells := 1, bytes := 8, zero := some (.cell), isAgg := false } := tyAt_of g122 f
theorem y123 (f : TE → Prop) : tyAt Γ 123 f = f { td := .other, cells := 1, bytes := 8, zero := some (.cell), isAgg := false } := tyAt_of g123 f
theorem y124 (f : TE → Prop) : tyAt Γ 124 f = f { td := .other, cells := 1, bytes := 8, zero := some (.cell), isAgg := false } := tyAt_of g124 f
theorem y125 (f : TE → Prop) : tyAt Γ 125 f = f { td := .other, cells := 1, bytes := 8, zero := some (.cell), isAgg := false } := tyAt_of g125 f
theorem y126 (f : TE → Prop) : tyAt Γ 126 f = f { td := .other, cells := 1, bytes := 8, zero := some (.cell), isAgg := false } := tyAt_of g126 f
theorem y127 (f : TE → Prop) : tyAt Γ 127 f = f { td := .other, cells := 1, bytes := 8, zero := some (.cell), isAgg := false } := tyAt_of g127 f
theorem y128 (f : TE → Prop) : tyAt Γ 128 f = f { td := .other, cells := 1, bytes := 8, zero := some (.cell), isAgg := false } := tyAt_of g128 f
theorem y129 (f : TE → Prop) : tyAt Γ 129 f = f { td := .slice 22, cells := 1, bytes := 24, zero := some (.full []), isAgg := false } := tyAt_of g129 f
theorem y130 (f : TE → Prop) : tyAt Γ 130 f = f { td := .other, cells := 1, bytes := 8, zero := some (.cell), isAgg := false } := tyAt_of g130 f
theorem y131 (f : TE → Prop) : tyAt Γ 131 f = f { td := .other, cells := 1, bytes := 8, zero := some (.cell), isAgg := false } := tyAt_of g131 f
theorem y132 (f : TE → Prop) : tyAt Γ 132 f = f { td := .other, cells := 1, bytes := 8, zero := some (.cell), isAgg := false } := tyAt_of g132 f
theorem y133 (f : TE → Prop) : tyAt Γ 133 f = f { td := .other, cells := 1, bytes := 8, zero := some (.cell), isAgg := false } := tyAt_of g133 f
theorem y134 (f : TE → Prop) : tyAt Γ 134 f = f { td := .int .u64, cells := 1, bytes := 8, zero := some (.p (.int .u64 0)), isAgg := false } := tyAt_of g134 f
theorem y135 (f : TE → Prop) : tyAt Γ 135 f = f { td := .other, cells := 1, bytes := 8, zero := some (.cell), isAgg := false } := tyAt_of g135 f
theorem y136 (f : TE → Prop) : tyAt Γ 136 f = f { td := .int .u32, cells := 1, bytes := 4, zero := some (.p (.int .u32 0)), isAgg := false } := tyAt_of g136 f
theorem y137 (f : TE → Prop) : tyAt Γ 137 f = f { td := .int .u64, cells := 1, bytes := 8, zero := some (.p (.int .u64 0)), isAgg := false } := tyAt_of g137 f
theorem y138 (f : TE → Prop) : tyAt Γ 138 f = f { td := .slice 136, cells := 1, bytes := 24, zero := some (.full []), isAgg := false } := tyAt_of g138 f
theorem y139 (f : TE → Prop) : tyAt Γ 139 f = f { td := .slice 136, cells := 1, bytes := 24, zero := some (.full []), isAgg := false } := tyAt_of g139 f
theorem y140 (f : TE → Prop) : tyAt Γ 140 f = f { td := .other, cells := 1, bytes := 8, zero := some (.cell), isAgg := false } := tyAt_of g140 f
theorem y141 (f : TE → Prop) : tyAt Γ 141 f = f { td := .other, cells := 1, bytes := 8, zero := some (.cell), isAgg := false } := tyAt_of g141 f
theorem y142 (f : TE → Prop) : tyAt Γ 142 f = f { td := .struct [(0, 95), (1, 9)], cells := 2, bytes := 40, zero := some (.agg [.full [], .p (.str [])]), isAgg := true } := tyAt_of g142 f
theorem y143 (f : TE → Prop) : tyAt Γ 143 f = f { td := .struct [(0, 95), (1, 9)], cells := 2, bytes := 40, zero := some (.agg [.full [], .p (.str [])]), isAgg := true } := tyAt_of g143 f
theorem y144 (f : TE → Prop) : tyAt Γ 144 f = f { td := .slice 143, cells := 1, bytes := 24, zero := some (.full []), isAgg := false } := tyAt_of g144 f
theorem y145 (f : TE → Prop) : tyAt Γ 145 f = f { td := .map 9 4, cells := 1, bytes := 8, zero := some (.cell), isAgg := false } := tyAt_of g145 f
theorem y146 (f : TE → Prop) : tyAt Γ 146 f = f { td := .other, cells := 1, bytes := 8, zero := some (.cell), isAgg := false } := tyAt_of g146 f
theorem y147 (f : TE → Prop) : tyAt Γ 147 f = f { td := .other, cells := 1, bytes := 8, zero := some (.cell), isAgg := false } := tyAt_of g147 f
theorem y148 (f : TE → Prop) : tyAt Γ 148 f = f { td := .other, cells := 1, bytes := 8, zero := some (.cell), isAgg := false } := tyAt_of g148 f
theorem y149 (f : TE → Prop) : tyAt Γ 149 f = f { td := .other, cells := 1, bytes := 8, zero := some (.cell), isAgg := false } := tyAt_of g149 f
theorem y150 (f : TE → Prop) : tyAt Γ 150 f = f { td := .other, cells := 1, bytes := 8, zero := some (.cell), isAgg := false } := tyAt_of g150 f
theorem y151 (f : TE → Prop) : tyAt Γ 151 f = f { td := .other, cells := 1, bytes := 8, zero := some (.cell), isAgg := false } := tyAt_of g151 f
theorem y152 (f : TE → Prop) : tyAt Γ 152 f = f { td := .other, cells := 1, bytes := 8, zero := some (.cell), isAgg := false } := tyAt_of g152 f
theorem y153 (f : TE → Prop) : tyAt Γ 153 f = f { td := .other, cells := 1, bytes := 8, zero := some (.cell), isAgg := false } := tyAt_of g153 f
theorem y154 (f : TE → Prop) : tyAt Γ 154 f = f { td := .other, cells := 1, bytes := 8, zero := some (.cell), isAgg := false } := tyAt_of g154 f
theorem y155 (f : TE → Prop) : tyAt Γ 155 f = f { td := .other, cells := 1, bytes := 8, zero := some (.cell), isAgg := false } := tyAt_of g155 f
theorem y156 (f : TE → Prop) : tyAt Γ 156 f = f { td := .other, cells := 1, bytes := 8, zero := some (.cell), isAgg := false } := tyAt_of g156 f
theorem y157 (f : TE → Prop) : tyAt Γ 157 f = f { td := .other, cells := 1, bytes := 8, zero := some (.cell), isAgg := false } := tyAt_of g157 f
theorem y158 (f : TE → Prop) : tyAt Γ 158 f = f { td := .other, cells := 1, bytes := 8, zero := some (.cell), isAgg := false } := tyAt_of g158 f
theorem y159 (f : TE → Prop) : tyAt Γ 159 f = f { td := .other, cells := 1, bytes := 8, zero := some (.cell), isAgg := false } := tyAt_of g159 f
theorem y160 (f : TE → Prop) : tyAt Γ 160 f = f { td := .other, cells := 1, bytes := 8, zero := some (.cell), isAgg := false } := tyAt_of g160 f
theorem y161 (f : TE → Prop) : tyAt Γ 161 f = f { td := .other, cells := 1, bytes := 8, zero := some (.cell), isAgg := false } := tyAt_of g161 f
theorem y162 (f : TE → Prop) : tyAt Γ 162 f = f { td := .other, cells := 1, bytes := 8, zero := some (.cell), isAgg := false } := tyAt_of g162 f
theorem y163 (f : TE → Prop) : tyAt Γ 163 f = f { td := .other, cells := 1, bytes := 8, zero := some (.cell), isAgg := false } := tyAt_of g163 f
theorem y164 (f : TE → Prop) : tyAt Γ 164 f = f { td := .other, cells := 1, bytes := 8, zero := some (.cell), isAgg := false } := tyAt_of g164 f
theorem y165 (f : TE → Prop) : tyAt Γ 165 f = f { td := .other, cells := 1, bytes := 8, zero := some (.cell), isAgg := false } := tyAt_of g165 f
theorem y167 (f : TE → Prop) : tyAt Γ 167 f = f { td := .other, cells := 1, bytes := 8, zero := some (.cell), isAgg := false } := tyAt_of g167 f
theorem y168 (f : TE → Prop) : tyAt Γ 168 f = f { td := .other, cells := 1, bytes := 8, zero := some (.cell), isAgg := false } := tyAt_of g168 f
theorem y169 (f : TE → Prop) : tyAt Γ 169 f = f { td := .other, cells := 1, bytes := 8, zero := some (.cell), isAgg := false } := tyAt_of g169 f
theorem y170 (f : TE → Prop) : tyAt Γ 170 f = f { td := .other, cells := 1, bytes := 8, zero := some (.cell), isAgg := false } := tyAt_of g170 f
theorem y171 (f : TE → Prop) : tyAt Γ 171 f = f { td := .other, cells := 1, bytes := 8, zero := some (.cell), isAgg := false } := tyAt_of g171 f
theorem y172 (f : TE → Prop) : tyAt Γ 172 f = f { td := .other, cells := 1, bytes := 8, zero := some (.cell), isAgg := false } := tyAt_of g172 f
theorem y173 (f : TE → Prop) : tyAt Γ 173 f = f { td := .other, cells := 1, bytes := 8, zero := some (.cell), isAgg := false } := tyAt_of g173 f
theorem y174 (f : TE → Prop) : tyAt Γ 174 f = f { td := .other, cells := 1, bytes := 8, zero := some (.cell), isAgg := false } := tyAt_of g174 f
theorem y175 (f : TE → Prop) : tyAt Γ 175 f = f { td := .other, cells := 1, bytes := 8, zero := some (.cell), isAgg := false } := tyAt_of g175 f
theorem y176 (f : TE → Prop) : tyAt Γ 176 f = f { td := .other, cells := 1, bytes := 8, zero := some (.cell), isAgg := false } := tyAt_of g176 f
theorem y178 (f : TE → Prop) : tyAt Γ 178 f = f { td := .other, cells := 1, bytes := 8, zero := some (.cell), isAgg := false } := tyAt_of g178 f
theorem y179 (f : TE → Prop) : tyAt Γ 179 f = f { td := .struct [(0, 178)], cells := 1, bytes := 8, zero := some (.agg [.cell]), isAgg := true } := tyAt_of g179 f
theorem y180 (f : TE → Prop) : tyAt Γ 180 f = f { td := .struct [(0, 178)], cells := 1, bytes := 8, zero := some (.agg [.cell]), isAgg := true } := tyAt_of g180 f
theorem y181 (f : TE → Prop) : tyAt Γ 181 f = f { td := .array 4 180, cells := 4, bytes := 32, zero := some (.agg [.cell, .cell, .cell, .cell]), isAgg := true } := tyAt_of g181 f
theorem y182 (f : TE → Prop) : tyAt Γ 182 f = f { td := .other, cells := 1, bytes := 8, zero := some (.cell), isAgg := false } := tyAt_of g182 f
theorem y183 (f : TE → Prop) : tyAt Γ 183 f = f { td := .other, cells := 1, bytes := 8, zero := some (.cell), isAgg := false } := tyAt_of g183 f
theorem y184 (f : TE → Prop) : tyAt Γ 184 f = f { td := .other, cells := 1, bytes := 8, zero := some (.cell), isAgg := false } := tyAt_of g184 f
theorem y185 (f : TE → Prop) : tyAt Γ 185 f = f { td := .other, cells := 1, bytes := 8, zero := some (.cell), isAgg := false } := tyAt_of g185 f
theorem y186 (f : TE → Prop) : tyAt Γ 186 f = f { td := .other, cells := 1, bytes := 8, zero := some (.cell), isAgg := false } := tyAt_of g186 f
theorem y187 (f : TE → Prop) : tyAt Γ 187 f = f { td := .other, cells := 1, bytes := 8, zero := some (.cell), isAgg := false } := tyAt_of g187 f
theorem y188 (f : TE → Prop) : tyAt Γ 188 f = f { td := .other, cells := 1, bytes := 8, zero := some (.cell), isAgg := false } := tyAt_of g188 f
theorem y189 (f : TE → Prop) : tyAt Γ 189 f = f { td := .other, cells := 1, bytes := 8, zero := some (.cell), isAgg := false } := tyAt_of g189 f
theorem y190 (f : TE → Prop) : tyAt Γ 190 f = f { td := .other, cells := 1, bytes := 8, zero := some (.cell), isAgg := false } := tyAt_of g190 f
theorem y192 (f : TE → Prop) : tyAt Γ 192 f = f { td := .other, cells := 1, bytes := 8, zero := some (.cell), isAgg := false } := tyAt_of g192 f
theorem y193 (f : TE → Prop) : tyAt Γ 193 f = f { td := .other, cells := 1, bytes := 8, zero := some (.cell), isAgg := false } := tyAt_of g193 f
theorem y194 (f : TE → Prop) : tyAt Γ 194 f = f { td := .other, cells := 1, bytes := 8, zero := some (.cell), isAgg := false } := tyAt_of g194 f
theorem y195 (f : TE → Prop) : tyAt Γ 195 f = f { td := .int .i64, cells := 1, bytes := 8, zero := some (.p (.int .i64 0)), isAgg := false } := tyAt_of g195 f
theorem y197 (f : TE → Prop) : tyAt Γ 197 f = f { td := .other, cells := 1, bytes := 8, zero := some (.cell), isAgg := false } := tyAt_of g197 f
theorem y198 (f : TE → Prop) : tyAt Γ 198 f = f { td := .other, cells := 1, bytes := 8, zero := some (.cell), isAgg := false } := tyAt_of g198 f
theorem y199 (f : TE → Prop) : tyAt Γ 199 f = f { td := .other, cells := 1, bytes := 8, zero := some (.cell), isAgg := false } := tyAt_of g199 f
theorem y201 (f : TE → Prop) : tyAt Γ 201 f = f { td := .other, cells := 1, bytes := 8, zero := some (.cell), isAgg := false } := tyAt_of g201 f
theorem y202 (f : TE → Prop) : tyAt Γ 202 f = f { td := .other, cells := 1, bytes := 8, zero := some (.cell), isAgg := false } := tyAt_of g202 f
theorem y203 (f : TE → Prop) : tyAt Γ 203 f = f { td := .other, cells := 1, bytes := 8, zero := some (.cell), isAgg := false } := tyAt_of g203 f
theorem y204 (f : TE → Prop) : tyAt Γ 204 f = f { td := .other, cells := 1, bytes := 8, zero := some (.cell), isAgg := false } := tyAt_of g204 f
theorem y205 (f : TE → Prop) : tyAt Γ 205 f = f { td := .other, cells := 1, bytes := 8, zero := some (.cell), isAgg := false } := tyAt_of g205 f
theorem y207 (f : TE → Prop) : tyAt Γ 207 f = f { td := .other, cells := 1, bytes := 8, zero := some (.cell), isAgg := false } := tyAt_of g207 f
theorem y208 (f : TE → Prop) : tyAt Γ 208 f = f { td := .other, cells := 1, bytes := 8, zero := some (.cell), isAgg := false } := tyAt_of g208 f
theorem y209 (f : TE → Prop) : tyAt Γ 209 f = f { td := .other, cells := 1, bytes := 8, zero := some (.cell), isAgg := false } := tyAt_of g209 f
theorem y210 (f : TE → Prop) : tyAt Γ 210 f = f { td := .other, cells := 1, bytes := 8, zero := some (.cell), isAgg := false } := tyAt_of g210 f
theorem y212 (f : TE → Prop) : tyAt Γ 212 f = f { td := .other, cells := 1, bytes := 8, zero := some (.cell), isAgg := false } := tyAt_of g212 f
theorem y214 (f : TE → Prop) : tyAt Γ 214 f = f { td := .other, cells := 1, bytes := 8, zero := some (.cell), isAgg := false } := tyAt_of g214 f
theorem y215 (f : TE → Prop) : tyAt Γ 215 f = f { td := .other, cells := 1, bytes := 8, zero := some (.cell), isAgg := false } := tyAt_of g215 f
theorem y216 (f : TE → Prop) : tyAt Γ 216 f = f { td := .array 8 5, cells := 8, bytes := 8, zero := some (.agg [.p (.int .u8 0), .p (.int .u8 0), .p (.int .u8 0), .p (.int .u8 0), .p (.int .u8 0), .p (.int .u8 0), .p (.int .u8 0), .p (.int .u8 0)]), isAgg := true } := tyAt_of g216 f
theorem y217 (f : TE → Prop) : tyAt Γ 217 f = f { td := .int .u64, cells := 1, bytes := 8, zero := some (.p (.int .u64 0)), isAgg := false } := tyAt_of g217 f
theorem y218 (f : TE → Prop) : tyAt Γ 218 f = f { td := .other, cells := 1, bytes := 8, zero := some (.cell), isAgg := false } := tyAt_of g218 f
theorem y219 (f : TE → Prop) : tyAt Γ 219 f = f { td := .other, cells := 1, bytes := 8, zero := some (.cell), isAgg := false } := tyAt_of g219 f
theorem y220 (f : TE → Prop) : tyAt Γ 220 f = f { td := .other, cells := 1, bytes := 8, zero := some (.cell), isAgg := false } := tyAt_of g220 f
theorem y221 (f : TE → Prop) : tyAt Γ 221 f = f { td := .other, cells := 1, bytes := 8, zero := some (.cell), isAgg := false } := tyAt_of g221 f
theorem y222 (f : TE → Prop) : tyAt Γ 222 f = f { td := .other, cells := 1, bytes := 8, zero := some (.cell), isAgg := false } := tyAt_of g222 f
theorem y223 (f : TE → Prop) : tyAt Γ 223 f = f { td := .other, cells := 1, bytes := 8, zero := some (.cell), isAgg := false } := tyAt_of g223 f
theorem y225 (f : TE → Prop) : tyAt Γ 225 f = f { td := .other, cells := 1, bytes := 8, zero := some (.cell), isAgg := false } := tyAt_of g225 f
theorem y226 (f : TE → Prop) : tyAt Γ 226 f = f { td := .other, cells := 1, bytes := 8, zero := some (.cell), isAgg := false } := tyAt_of g226 f
theorem y227 (f : TE → Prop) : tyAt Γ 227 f = f { td := .other, cells := 1, bytes := 8, zero := some (.cell), isAgg := false } := tyAt_of g227 f
theorem y228 (f : TE → Prop) : tyAt Γ 228 f = f { td := .other, cells := 1, bytes := 8, zero := some (.cell), isAgg := false } := tyAt_of g228 f
theorem y229 (f : TE → Prop) : tyAt Γ 229 f = f { td := .other, cells := 1, bytes := 8, zero := some (.cell), isAgg := false } := tyAt_of g229 f
theorem y230 (f : TE → Prop) : tyAt Γ 230 f = f { td := .other, cells := 1, bytes := 8, zero := some (.cell), isAgg := false } := tyAt_of g230 f
theorem y231 (f : TE → Prop) : tyAt Γ 231 f = f { td := .array 8 9, cells := 8, bytes := 128, zero := some (.agg [.p (.str []), .p (.str []), .p (.str []), .p (.str []), .p (.str []), .p (.str []), .p (.str []), .p (.str [])]), isAgg := true } := tyAt_of g231 f
theorem y232 (f : TE → Prop) : tyAt Γ 232 f = f { td := .other, cells := 1, bytes := 8, zero := some (.cell), isAgg := false } := tyAt_of g232 f
theorem y234 (f : TE → Prop) : tyAt Γ 234 f = f { td := .other, cells := 1, bytes := 8, zero := some (.cell), isAgg := false } := tyAt_of g234 f
theorem y235 (f : TE → Prop) : tyAt Γ 235 f = f { td := .other, cells := 1, bytes := 8, zero := some (.cell), isAgg := false } := tyAt_of g235 f
theorem y236 (f : TE → Prop) : tyAt Γ 236 f = f { td := .other, cells := 1, bytes := 8, zero := some (.cell), isAgg := false } := tyAt_of g236 f
theorem y237 (f : TE → Prop) : tyAt Γ 237 f = f { td := .other, cells := 1, bytes := 8, zero := some (.cell), isAgg := false } := tyAt_of g237 f
theorem y238 (f : TE → Prop) : tyAt Γ 238 f = f { td := .other, cells := 1, bytes := 8, zero := some (.cell), isAgg := false } := tyAt_of g238 f
theorem y239 (f : TE → Prop) : tyAt Γ 239 f = f { td := .struct [(0, 17), (1, 17), (2, 17), (3, 9)], cells := 4, bytes := 40, zero := some (.agg [.cell, .cell, .cell, .p (.str [])]), isAgg := true } := tyAt_of g239 f
theorem y240 (f : TE → Prop) : tyAt Γ 240 f = f { td := .struct [(0, 17), (1, 17), (2, 17), (3, 9)], cells := 4, bytes := 40, zero := some (.agg [.cell, .cell, .cell, .p (.str [])]), isAgg := true } := tyAt_of g240 f
theorem y242 (f : TE → Prop) : tyAt Γ 242 f = f { td := .struct [(0, 241)], cells := 0, bytes := 0, zero := some (.agg []), isAgg := true } := tyAt_of g242 f
theorem y243 (f : TE → Prop) : tyAt Γ 243 f = f { td := .struct [(0, 241)], cells := 0, bytes := 0, zero := some (.agg []), isAgg := true } := tyAt_of g243 f
theorem y244 (f : TE → Prop) : tyAt Γ 244 f = f { td := .other, cells := 1, bytes := 8, zero := some (.cell), isAgg := false } := tyAt_of g244 f
theorem y245 (f : TE → Prop) : tyAt Γ 245 f = f { td := .int .u8, cells := 1, bytes := 1, zero := some (.p (.int .u8 0)), isAgg := false } := tyAt_of g245 f
theorem y246 (f : TE → Prop) : tyAt Γ 246 f = f { td := .int .u8, cells := 1, bytes := 1, zero := some (.p (.int .u8 0)), isAgg := false } := tyAt_of g246 f
theorem y247 (f : TE → Prop) : tyAt Γ 247 f = f { td := .other, cells := 1, bytes := 8, zero := some (.cell), isAgg := false } := tyAt_of g247 f
theorem y248 (f : TE → Prop) : tyAt Γ 248 f = f { td := .int .i32, cells := 1, bytes := 4, zero := some (.p (.int .i32 0)), isAgg := false } := tyAt_of g248 f
theorem y249 (f : TE → Prop) : tyAt Γ 249 f = f { td := .int .i32, cells := 1, bytes := 4, zero := some (.p (.int .i32 0)), isAgg := false } := tyAt_of g249 f
theorem y250 (f : TE → Prop) : tyAt Γ 250 f = f { td := .struct [(0, 12), (1, 12), (2, 136), (3, 245), (4, 5), (5, 5), (6, 246), (7, 247), (8, 160), (9, 248), (10, 249)], cells := 11, bytes := 48, zero := some (.agg [.p (.int .u64 0), .p (.int .u64 0), .p (.int .u32 0), .p (.int .u8 0), .p (.int .u8 0), .p (.int .u8 0), .p (.int .u8 0), .cell, .cell, .p (.int .i32 0), .p (.int .i32 0)]), isAgg := true } := tyAt_of g250 f
theorem y251 (f : TE → Prop) : tyAt Γ 251 f = f { td := .struct [(0, 12), (1, 12), (2, 136), (3, 245), (4, 5), (5, 5), (6, 246), (7, 247), (8, 160), (9, 248), (10, 249)], cells := 11, bytes := 48, zero := some (.agg [.p (.int .u64 0), .p (.int .u64 0), .p (.int .u32 0), .p (.int .u8 0), .p (.int .u8 0), .p (.int .u8 0), .p (.int .u8 0), .cell, .cell, .p (.int .i32 0), .p (.int .i32 0)]), isAgg := true } := tyAt_of g251 f
attribute [go_sem] g1 y1 g2 y2 g3 y3 g4 y4 g5 y5 g6 y6 g7 y7 g8 y8 g9 y9 g10 y10 g11 y11 g12 y12 g13 y13 g14 y14 g15 y15 g16 y16 g17 y17 g18 y18 g19 y19 g21 y21 g22 y22 g23 y23 g24 y24 g25 y25 g26 y26 g27 y27 g29 y29 g31 y31 g32 y32 g33 y33 g34 y34 g35 y35 g36 y36 g37 y37 g39 y39 g40 y40 g41 y41 g43 y43 g44 y44 g46 y46 g47 y47 g48 y48 g49 y49 g50 y50 g51 y51 g52 y52 g53 y53 g54 y54 g55 y55 g57 y57 g58 y58 g59 y59 g60 y60 g61 y61 g62 y62 g63 y63 g64 y64 g65 y65 g66 y66 g67 y67 g68 y68 g70 y70 g71 y71 g72 y72 g73 y73 g74 y74 g75 y75 g76 y76 g77 y77 g78 y78 g79 y79 g80 y80 g81 y81 g82 y82 g83 y83 g84 y84 g85 y85 g86 y86 g87 y87 g88 y88 g89 y89 g90 y90 g91 y91 g92 y92 g93 y93 g94 y94 g95 y95 g96 y96 g97 y97 g98 y98 g99 y99 g100 y100 g101 y101 g103 y103 g104 y104 g105 y105 g106 y106 g107 y107 g108 y108 g109 y109 g110 y110 g111 y111 g112 y112 g113 y113 g114 y114 g115 y115 g116 y116 g117 y117 g118 y118 g122 y122 g123 y123 g124 y124 g125 y125 g126 y126 g127 y127 g128 y128 g129 y129 g130 y130 g131 y131 g132 y132 g133 y133 g134 y134 g135 y135 g136 y136 g137 y137 g138 y138 g139 y139 g140 y140 g141 y141 g142 y142 g143 y143 g144 y144 g145 y145 g146 y146 g147 y147 g148 y148 g149 y149 g150 y150 g151 y151 g152 y152 g153 y153 g154 y154 g155 y155 g156 y156 g157 y157 g158 y158 g159 y159 g160 y160 g161 y161 g162 y162 g163 y163 g164 y164 g165 y165 g167 y167 g168 y168 g169 y169 g170 y170 g171 y171 g172 y172 g173 y173 g174 y174 g175 y175 g176 y176 g178 y178 g179 y179 g180 y180 g181 y181 g182 y182 g183 y183 g184 y184 g185 y185 g186 y186 g187 y187 g188 y188 g189 y189 g190 y190 g192 y192 g193 y193 g194 y194 g195 y195 g197 y197 g198 y198 g199 y199 g201 y201 g202 y202 g203 y203 g204 y204 g205 y205 g207 y207 g208 y208 g209 y209 g210 y210 g212 y212 g214 y214 g215 y215 g216 y216 g217 y217 g218 y218 g219 y219 g220 y220 g221 y221 g222 y222 g223 y223 g225 y225 g226 y226 g227 y227 g228 y228 g229 y229 g230 y230 g231 y231 g232 y232 g234 y234 g235 y235 g236 y236 g237 y237 g238 y238 g239 y239 g240 y240 g242 y242 g243 y243 g244 y244 g245 y245 g246 y246 g247 y247 g248 y248 g249 y249 g250 y250 g251 y251
theorem hmix : Tryz.prog.follows .mixedOrders = true := by kernel_rfl
end Go.Proofs.YtpljmccnfmkmfaaGreat
end

section
namespace Go.Proofs.YtpljmccnfmkmfaaGreat
open Go Go.AM
set_option maxRecDepth 100000

def codeV (q : Int) (ws : List (List UInt8)) : PV := .agg [.int .i64 q, .sl (ws.map .str)]
def codeB (q : Int) (ws : List (List UInt8)) : AObj := .box [.p (.int .i64 q), .p (.sl (ws.map .str))]
end Go.Proofs.YtpljmccnfmkmfaaGreat
end

section
namespace Go.Proofs.YtpljmccnfmkmfaaGreat
open Go Go.AM
set_option maxRecDepth 1000000

def axT : FuncId → List AV → Option AV := fun f args => match f, args with
  | 218, [.p (.str s), .p (.int .u8 c)] => some (.p (.int .i64 (ixB c.toNat.toUInt8 s 0)))
  | 242, [.p (.str a), .p (.str b)] => some (.p (.int .i64 (cmpB a b)))
  | _, _ => none

theorem axT_ok : ∀ f args v, axT f args = some v → AX Tryz.prog f args v := by
  intro f args v h
  unfold axT at h
  split at h
  · injection h with h; subst h
    exact ax_index Tryz.func218 (by kernel_rfl) (by kernel_rfl) (by kernel_rfl) (by kernel_rfl) _ _
  · injection h with h; subst h
    exact ax_compare Tryz.func242 (by kernel_rfl) (by kernel_rfl) (by kernel_rfl) (by kernel_rfl) _ _
  · cases h

end Go.Proofs.YtpljmccnfmkmfaaGreat
end

section
namespace Go.Proofs.YtpljmccnfmkmfaaGreat
open Go Go.AM
set_option maxRecDepth 100000
set_option linter.unusedSimpArgs false

theorem x126 (s : List UInt8) (c : Int) : AX Tryz.prog 218 [.p (.str s), .p (.int .u8 c)] (.p (.int .i64 (ixB c.toNat.toUInt8 s 0))) := axT_ok _ _ _ rfl
theorem x127 (s t : List UInt8) : AX Tryz.prog 242 [.p (.str s), .p (.str t)] (.p (.int .i64 (cmpB s t))) := axT_ok _ _ _ rfl

theorem t113 (s : List UInt8) (c : Int) : PFn Tryz.prog 175 [.str s, .int .u8 c] [.int .i64 (ixB c.toNat.toUInt8 s 0)] := by
  refine PFn.of_body hΓ Tryz.func175 (by kernel_rfl) rfl (AWp.of_awpD [] hΓ hmix (by kernel_rfl) ?_)
  simp +contextual -implicitDefEqProofs only [Tryz.ntmps175, Tryz.results175, Nat.reduceAdd, Nat.reduceSub, go_sem]
  refine callK_ax (x126 s c) ?_
  simp +contextual -implicitDefEqProofs only [go_sem]

theorem t101 (s : List UInt8) (c : Int) : PFn Tryz.prog 114 [.str s, .int .u8 c] [.int .i64 (ixB c.toNat.toUInt8 s 0)] := by
  refine PFn.of_body hΓ Tryz.func114 (by kernel_rfl) rfl (AWp.of_awpD [] hΓ hmix (by kernel_rfl) ?_)
  simp +contextual -implicitDefEqProofs only [Tryz.ntmps114, Tryz.results114, Nat.reduceAdd, Nat.reduceSub, go_sem]
  refine callK_fn (t113 s c) (.pures rfl) ?_
  simp +contextual -implicitDefEqProofs only [go_sem]

theorem t115 (s t : List UInt8) : PFn Tryz.prog 203 [.str s, .str t] [.int .i64 (cmpB s t)] := by
  refine PFn.of_body hΓ Tryz.func203 (by kernel_rfl) rfl (AWp.of_awpD [] hΓ hmix (by kernel_rfl) ?_)
  simp +contextual -implicitDefEqProofs only [Tryz.ntmps203, Tryz.results203, Nat.reduceAdd, Nat.reduceSub, go_sem]
  refine callK_ax (x127 s t) ?_
  simp +contextual -implicitDefEqProofs only [go_sem]

theorem t104 (s t : List UInt8) : PFn Tryz.prog 163 [.str s, .str t] [.int .i64 (cmpB s t)] := by
  refine PFn.of_body hΓ Tryz.func163 (by kernel_rfl) rfl (AWp.of_awpD [] hΓ hmix (by kernel_rfl) ?_)
  simp +contextual -implicitDefEqProofs only [Tryz.ntmps163, Tryz.results163, Nat.reduceAdd, Nat.reduceSub, go_sem]
  refine callK_fn (t115 s t) (.pures rfl) ?_
  simp +contextual -implicitDefEqProofs only [go_sem]

theorem t114 (x : Int) : PFn Tryz.prog 141 [.int .i64 x] [.bool false] := by
  refine PFn.of_body hΓ Tryz.func141 (by kernel_rfl) rfl (AWp.of_awpD [] hΓ hmix (by kernel_rfl) ?_)
  simp +contextual -implicitDefEqProofs only [Tryz.ntmps141, Tryz.results141, Nat.reduceAdd, Nat.reduceSub, go_sem]

def cmpI (x y : Int) : Int := if x < y then -1 else if y < x then 1 else 0
theorem t103 (x y : Int) : PFn Tryz.prog 76 [.int .i64 x, .int .i64 y] [.int .i64 (cmpI x y)] := by
  refine PFn.of_body hΓ Tryz.func76 (by kernel_rfl) rfl (AWp.of_awpD [] hΓ hmix (by kernel_rfl) ?_)
  simp +contextual -implicitDefEqProofs only [Tryz.ntmps76, Tryz.results76, Nat.reduceAdd, Nat.reduceSub, go_sem]
  refine callK_fn (t114 x) (.pures rfl) ?_
  simp +contextual -implicitDefEqProofs only [go_sem]
  refine callK_fn (t114 y) (.pures rfl) ?_
  simp +contextual -implicitDefEqProofs only [go_sem]
  unfold cmpI
  exact ⟨fun h => by rw [if_pos h], fun h => ⟨fun h' => by rw [if_neg h, if_pos h'], fun h' => by rw [if_neg h, if_neg h']⟩⟩

theorem t100 (x : Int) : PFn Tryz.prog 146 [.int .i64 x] [.bool (decide (1 ≤ x) && decide (x ≤ 16))] := by
  refine PFn.of_body hΓ Tryz.func146 (by kernel_rfl) rfl (AWp.of_awpD [] hΓ hmix (by kernel_rfl) ?_)
  simp +contextual -implicitDefEqProofs only [Tryz.ntmps146, Tryz.results146, Nat.reduceAdd, Nat.reduceSub, go_sem]
  intro _; rfl

def firstNZ (l : List Int) : Int := (l.find? fun x => decide (x ≠ 0)).getD 0
theorem firstNZ_at {l : List Int} {k : Nat} (hk : k < l.length) (h0 : ∀ x ∈ l.take k, x = 0) (h1 : l[k] ≠ 0) : firstNZ l = l[k] := by
  have e : l = l.take k ++ l[k] :: l.drop (k + 1) := by rw [← List.drop_eq_getElem_cons hk, List.take_append_drop]
  unfold firstNZ
  have e2 : l.find? (fun x => decide (x ≠ 0)) = some l[k] := by
    conv => lhs; rw [e]
    rw [List.find?_append, List.find?_eq_none.2 (fun x hx => by simpa using h0 x hx), List.find?_cons, decide_eq_true h1]; rfl
  rw [e2]; rfl
theorem firstNZ_none {l : List Int} (h0 : ∀ x ∈ l, x = 0) : firstNZ l = 0 := by
  unfold firstNZ
  rw [List.find?_eq_none.2 (fun x hx => by simpa using h0 x hx)]; rfl

theorem t102 (l : List Int) (hl : l.length ≤ 9223372036854775807) : PFn Tryz.prog 162 [.sl (l.map (.int .i64))] [.int .i64 (firstNZ l)] := by
  refine PFn.of_body hΓ Tryz.func162 (by kernel_rfl) rfl (AWp.of_awpD [] hΓ hmix (by kernel_rfl) ?_)
  simp +contextual -implicitDefEqProofs only [Tryz.ntmps162, Tryz.results162, Nat.reduceAdd, Nat.reduceSub, go_sem]
  refine AWp.loopI (fun k : Nat => ⟨mkF 18 [(0, .p (.sl (l.map (.int .i64)))), (2, .p (.int .i64 0)), (3, .p (.int .i64 0)), (6, .p (.sl (l.map (.int .i64)))), (7, .p (.int .i64 l.length)), (8, .p (.int .i64 k))], []⟩)
    (fun k => k ≤ l.length ∧ ∀ x ∈ l.take k, x = 0) (fun k => l.length - k) 0 (by simp [go_sem]) (by simp) ?_
  rintro k ⟨hk, h0⟩
  refine AWp.of_awpD [] hΓ hmix (by kernel_rfl) ?_
  simp +contextual -implicitDefEqProofs only [getD_map_lt, ↓reduceIte, go_sem]
  refine ⟨fun hlt => ⟨fun he => ⟨by simp only [InR]; omega, k + 1, by simp, ⟨hlt, ?_⟩, by omega⟩, fun hne => (firstNZ_at hlt h0 hne).symm⟩, fun hge => ?_⟩
  · rw [List.take_succ_eq_append_getElem hlt]
    intro x hx
    rcases List.mem_append.1 hx with h | h
    · exact h0 x h
    · simp only [List.mem_singleton] at h; rw [h, he]
  · rw [List.take_of_length_le (by omega)] at h0
    exact (firstNZ_none h0).symm

def cmpW (a b : List UInt8) : Int := if a.length < b.length then -1 else if b.length < a.length then 1 else cmpB a b
theorem t81 (a b : List UInt8) : PFn Tryz.prog 102 [.str a, .str b] [.int .i64 (cmpW a b)] := by
  refine PFn.of_body hΓ Tryz.func102 (by kernel_rfl) rfl (AWp.of_awpD [] hΓ hmix (by kernel_rfl) ?_)
  simp +contextual -implicitDefEqProofs only [Tryz.ntmps102, Tryz.results102, Nat.reduceAdd, Nat.reduceSub, go_sem]
  refine callK_fn (t103 a.length b.length) (.pures rfl) ?_
  simp +contextual -implicitDefEqProofs only [go_sem]
  refine callK_fn (t104 a b) (.pures rfl) ?_
  simp +contextual -implicitDefEqProofs only [go_sem]
  refine ⟨⟨by simp [sizeOK, PV.cells], by omega⟩, callK_fn (t102 [cmpI a.length b.length, cmpB a b] (by simp)) (.still rfl) ?_⟩
  simp +contextual -implicitDefEqProofs only [go_sem]
  congr 2
  unfold firstNZ cmpI cmpW
  by_cases h1 : a.length < b.length
  · simp [h1]
  · by_cases h2 : b.length < a.length
    · simp [h1, h2]
    · simp [h1, h2]
      by_cases h3 : cmpB a b = 0 <;> simp [h3]
end Go.Proofs.YtpljmccnfmkmfaaGreat
end

