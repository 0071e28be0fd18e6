/-
  Words and codes: the small functions, of the program and of the reference: what they compute.
-/
import Derived.Test.YtpancbdaigaheaaFa
import Derived.Test.YtpancbdaigaheaaAw
namespace Go.Proofs.Ytpancbdaigaheaa
open Go Go.AM
set_option maxRecDepth 100000
set_option linter.unusedSimpArgs false

theorem x126 (s : List UInt8) (c : Int) : AX Try.prog 126 [.p (.str s), .p (.int .u8 c)] (.p (.int .i64 (ixB c.toNat.toUInt8 s 0))) := axT_ok _ _ _ rfl
theorem x127 (s t : List UInt8) : AX Try.prog 127 [.p (.str s), .p (.str t)] (.p (.int .i64 (cmpB s t))) := axT_ok _ _ _ rfl

theorem t113 (s : List UInt8) (c : Int) : PFn Try.prog 113 [.str s, .int .u8 c] [.int .i64 (ixB c.toNat.toUInt8 s 0)] := by
  refine PFn.of_body hΓ Try.func113 (by kernel_rfl) rfl (AWp.of_awpD [] hΓ hmix (by kernel_rfl) ?_)
  simp +contextual -implicitDefEqProofs only [Try.ntmps113, Try.results113, Nat.reduceAdd, Nat.reduceSub, go_sem]
  refine callK_ax (x126 s c) ?_
  simp +contextual -implicitDefEqProofs only [go_sem]

theorem t101 (s : List UInt8) (c : Int) : PFn Try.prog 101 [.str s, .int .u8 c] [.int .i64 (ixB c.toNat.toUInt8 s 0)] := by
  refine PFn.of_body hΓ Try.func101 (by kernel_rfl) rfl (AWp.of_awpD [] hΓ hmix (by kernel_rfl) ?_)
  simp +contextual -implicitDefEqProofs only [Try.ntmps101, Try.results101, Nat.reduceAdd, Nat.reduceSub, go_sem]
  refine callK_fn (t113 s c) (.pures rfl) ?_
  simp +contextual -implicitDefEqProofs only [go_sem]

theorem t115 (s t : List UInt8) : PFn Try.prog 115 [.str s, .str t] [.int .i64 (cmpB s t)] := by
  refine PFn.of_body hΓ Try.func115 (by kernel_rfl) rfl (AWp.of_awpD [] hΓ hmix (by kernel_rfl) ?_)
  simp +contextual -implicitDefEqProofs only [Try.ntmps115, Try.results115, Nat.reduceAdd, Nat.reduceSub, go_sem]
  refine callK_ax (x127 s t) ?_
  simp +contextual -implicitDefEqProofs only [go_sem]

theorem t104 (s t : List UInt8) : PFn Try.prog 104 [.str s, .str t] [.int .i64 (cmpB s t)] := by
  refine PFn.of_body hΓ Try.func104 (by kernel_rfl) rfl (AWp.of_awpD [] hΓ hmix (by kernel_rfl) ?_)
  simp +contextual -implicitDefEqProofs only [Try.ntmps104, Try.results104, Nat.reduceAdd, Nat.reduceSub, go_sem]
  refine callK_fn (t115 s t) (.pures rfl) ?_
  simp +contextual -implicitDefEqProofs only [go_sem]

theorem t114 (x : Int) : PFn Try.prog 114 [.int .i64 x] [.bool false] := by
  refine PFn.of_body hΓ Try.func114 (by kernel_rfl) rfl (AWp.of_awpD [] hΓ hmix (by kernel_rfl) ?_)
  simp +contextual -implicitDefEqProofs only [Try.ntmps114, Try.results114, Nat.reduceAdd, Nat.reduceSub, go_sem]

def cmpI (x y : Int) : Int := if x < y then -1 else if y < x then 1 else 0
theorem t103 (x y : Int) : PFn Try.prog 103 [.int .i64 x, .int .i64 y] [.int .i64 (cmpI x y)] := by
  refine PFn.of_body hΓ Try.func103 (by kernel_rfl) rfl (AWp.of_awpD [] hΓ hmix (by kernel_rfl) ?_)
  simp +contextual -implicitDefEqProofs only [Try.ntmps103, Try.results103, Nat.reduceAdd, Nat.reduceSub, go_sem]
  refine callK_fn (t114 x) (.pures rfl) ?_
  simp +contextual -implicitDefEqProofs only [go_sem]
  refine callK_fn (t114 y) (.pures rfl) ?_
  simp +contextual -implicitDefEqProofs only [go_sem]
  unfold cmpI
  exact ⟨fun h => by rw [if_pos h], fun h => ⟨fun h' => by rw [if_neg h, if_pos h'], fun h' => by rw [if_neg h, if_neg h']⟩⟩

theorem t100 (x : Int) : PFn Try.prog 100 [.int .i64 x] [.bool (decide (1 ≤ x) && decide (x ≤ 16))] := by
  refine PFn.of_body hΓ Try.func100 (by kernel_rfl) rfl (AWp.of_awpD [] hΓ hmix (by kernel_rfl) ?_)
  simp +contextual -implicitDefEqProofs only [Try.ntmps100, Try.results100, Nat.reduceAdd, Nat.reduceSub, go_sem]
  intro _; rfl

/-- The first that is not zero. -/
def firstNZ (l : List Int) : Int := (l.find? fun x => decide (x ≠ 0)).getD 0
theorem firstNZ_at {l : List Int} {k : Nat} (hk : k < l.length) (h0 : ∀ x ∈ l.take k, x = 0) (h1 : l[k] ≠ 0) : firstNZ l = l[k] := by
  have e : l = l.take k ++ l[k] :: l.drop (k + 1) := by rw [← List.drop_eq_getElem_cons hk, List.take_append_drop]
  unfold firstNZ
  have e2 : l.find? (fun x => decide (x ≠ 0)) = some l[k] := by
    conv => lhs; rw [e]
    rw [List.find?_append, List.find?_eq_none.2 (fun x hx => by simpa using h0 x hx), List.find?_cons, decide_eq_true h1]; rfl
  rw [e2]; rfl
theorem firstNZ_none {l : List Int} (h0 : ∀ x ∈ l, x = 0) : firstNZ l = 0 := by
  unfold firstNZ
  rw [List.find?_eq_none.2 (fun x hx => by simpa using h0 x hx)]; rfl

theorem t102 (l : List Int) (hl : l.length ≤ 9223372036854775807) : PFn Try.prog 102 [.sl (l.map (.int .i64))] [.int .i64 (firstNZ l)] := by
  refine PFn.of_body hΓ Try.func102 (by kernel_rfl) rfl (AWp.of_awpD [] hΓ hmix (by kernel_rfl) ?_)
  simp +contextual -implicitDefEqProofs only [Try.ntmps102, Try.results102, Nat.reduceAdd, Nat.reduceSub, go_sem]
  refine AWp.loopI (fun k : Nat => ⟨mkF 18 [(0, .p (.sl (l.map (.int .i64)))), (2, .p (.int .i64 0)), (3, .p (.int .i64 0)), (6, .p (.sl (l.map (.int .i64)))), (7, .p (.int .i64 l.length)), (8, .p (.int .i64 k))], []⟩)
    (fun k => k ≤ l.length ∧ ∀ x ∈ l.take k, x = 0) (fun k => l.length - k) 0 (by simp [go_sem]) (by simp) ?_
  rintro k ⟨hk, h0⟩
  refine AWp.of_awpD [] hΓ hmix (by kernel_rfl) ?_
  simp +contextual -implicitDefEqProofs only [getD_map_lt, ↓reduceIte, go_sem]
  refine ⟨fun hlt => ⟨fun he => ⟨by simp only [InR]; omega, k + 1, by simp, ⟨hlt, ?_⟩, by omega⟩, fun hne => (firstNZ_at hlt h0 hne).symm⟩, fun hge => ?_⟩
  · rw [List.take_succ_eq_append_getElem hlt]
    intro x hx
    rcases List.mem_append.1 hx with h | h
    · exact h0 x h
    · simp only [List.mem_singleton] at h; rw [h, he]
  · rw [List.take_of_length_le (by omega)] at h0
    exact (firstNZ_none h0).symm

/-- By length, then lexicographically: -1, 0, 1. -/
def cmpW (a b : List UInt8) : Int := if a.length < b.length then -1 else if b.length < a.length then 1 else cmpB a b
theorem t81 (a b : List UInt8) : PFn Try.prog 81 [.str a, .str b] [.int .i64 (cmpW a b)] := by
  refine PFn.of_body hΓ Try.func81 (by kernel_rfl) rfl (AWp.of_awpD [] hΓ hmix (by kernel_rfl) ?_)
  simp +contextual -implicitDefEqProofs only [Try.ntmps81, Try.results81, Nat.reduceAdd, Nat.reduceSub, go_sem]
  refine callK_fn (t103 a.length b.length) (.pures rfl) ?_
  simp +contextual -implicitDefEqProofs only [go_sem]
  refine callK_fn (t104 a b) (.pures rfl) ?_
  simp +contextual -implicitDefEqProofs only [go_sem]
  refine ⟨⟨by simp [sizeOK, PV.cells], by omega⟩, callK_fn (t102 [cmpI a.length b.length, cmpB a b] (by simp)) (.still rfl) ?_⟩
  simp +contextual -implicitDefEqProofs only [go_sem]
  congr 2
  unfold firstNZ cmpI cmpW
  by_cases h1 : a.length < b.length
  · simp [h1]
  · by_cases h2 : b.length < a.length
    · simp [h1, h2]
    · simp [h1, h2]
      by_cases h3 : cmpB a b = 0 <;> simp [h3]
end Go.Proofs.Ytpancbdaigaheaa
