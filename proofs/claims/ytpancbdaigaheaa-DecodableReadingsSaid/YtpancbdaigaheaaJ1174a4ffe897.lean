/-
  DERIVED: THE SHELF's CONTRACTS AT THIS DUMP, IN PLAIN WORDS (tools/lay-plain.mjs out of 'YtpancbdaigaheaaShelf.lean', which tools/lay-shelf.mjs wrote): THE SAME DECLARATIONS UNDER THE SAME NAMES: 'import', 'namespace', 'open', 'def', 'theorem' AND NOTHING ELSE: no command of the shelf's: FOR A HAND-IN. Each laying: the table of numbers ('.._ren') and one theorem, a field a fact of the dump's own or the kernel's comparison; each contract: ONE APPLICATION.
  The reference's lists of rests, and its CheckProof.
  The program's iterators over rests: what they hand to the loop.
  The program's CheckProof.
  The program's residuals: the closure that adds one.
  slices.SortFunc at the words' order: the row holds the sorted words.
  slices.SortFunc on an owned row of words, as a contract with the heap.
  The plain law of dangling suffixes: what can be reached, and the one sorted list of it.
  The program's residuals.
  The law DecodableChecks.
  Contains; decodable, Decodable and Residuals of the program.
-/
import Derived.Shelf.SlSortCmp.NoneTotal
import Derived.Shelf.SlGeneric
import Derived.Ground.SlsfProg
import Derived.Test.YtpancbdaigaheaaProg
import Derived.Test.YtpancbdaigaheaaJebdee19fdf8b
import Derived.Test.YtpancbdaigaheaaJ115477e451d1
import Derived.Test.YtpancbdaigaheaaJ3fc7889b6114

section
namespace Go.Proofs
open Go.Shelf
def Try.sortS_ren : Go.Shelf.Ren := ⟨fun | 6 => 83 | 15 => 106 | 14 => 105 | 28 => 124 | 29 => 125 | 20 => 116 | 21 => 117 | 22 => 118 | 23 => 119 | 24 => 120 | 25 => 121 | 26 => 122 | 27 => 123 | 46 => 128 | 47 => 129 | 48 => 130 | 49 => 131 | 50 => 132 | 57 => 133 | n => n, fun | 22 => 22 | 24 => 9 | 25 => 110 | 3 => 3 | 39 => 106 | 0 => 0 | 53 => 105 | 55 => 103 | 4 => 4 | 46 => 137 | 45 => 136 | 50 => 141 | 5 => 5 | 9 => 9 | 66 => 145 | 70 => 149 | 76 => 151 | 77 => 152 | n => n, fun | n => n⟩
theorem Try.sortS : Go.Proofs.SlLaysF.n6 Try.prog Try.sortS_ren := {
  mixed := by kernel_rfl
  f6 := ⟨Try.f83.name, by decide, Try.func83.trans (congrArg some (by kernel_rfl))⟩
  f14 := ⟨Try.f105.name, by decide, Try.func105.trans (congrArg some (by kernel_rfl))⟩
  f15 := Try.func106.trans (congrArg some (by kernel_rfl))
  f20 := ⟨Try.f116.name, by decide, Try.func116.trans (congrArg some (by kernel_rfl))⟩
  f21 := ⟨Try.f117.name, by decide, Try.func117.trans (congrArg some (by kernel_rfl))⟩
  f22 := ⟨Try.f118.name, by decide, Try.func118.trans (congrArg some (by kernel_rfl))⟩
  f23 := ⟨Try.f119.name, by decide, Try.func119.trans (congrArg some (by kernel_rfl))⟩
  f24 := ⟨Try.f120.name, by decide, Try.func120.trans (congrArg some (by kernel_rfl))⟩
  f25 := ⟨Try.f121.name, by decide, Try.func121.trans (congrArg some (by kernel_rfl))⟩
  f26 := ⟨Try.f122.name, by decide, Try.func122.trans (congrArg some (by kernel_rfl))⟩
  f27 := ⟨Try.f123.name, by decide, Try.func123.trans (congrArg some (by kernel_rfl))⟩
  f28 := Try.func124.trans (congrArg some (by kernel_rfl))
  f29 := Try.func125.trans (congrArg some (by kernel_rfl))
  f46 := ⟨Try.f128.name, by decide, Try.func128.trans (congrArg some (by kernel_rfl))⟩
  f47 := Try.func129.trans (congrArg some (by kernel_rfl))
  f48 := Try.func130.trans (congrArg some (by kernel_rfl))
  f49 := ⟨Try.f131.name, by decide, Try.func131.trans (congrArg some (by kernel_rfl))⟩
  f50 := ⟨Try.f132.name, by decide, Try.func132.trans (congrArg some (by kernel_rfl))⟩
  f57 := ⟨Try.f133.name, by decide, Try.func133.trans (congrArg some (by kernel_rfl))⟩
  t0 := Try.underlying0
  a0 := Try.isAgg0
  z0 := Try.sizeOf0
  v0 := Try.zeroValue0
  t3 := Try.underlying3
  a3 := Try.isAgg3
  z3 := Try.sizeOf3
  v3 := Try.zeroValue3
  t4 := Try.underlying4
  a4 := Try.isAgg4
  z4 := Try.sizeOf4
  v4 := Try.zeroValue4
  t5 := Try.underlying5
  a5 := Try.isAgg5
  z5 := Try.sizeOf5
  v5 := Try.zeroValue5
  t9 := Try.underlying9
  a9 := Try.isAgg9
  z9 := Try.sizeOf9
  v9 := Try.zeroValue9
  t22 := Try.underlying22
  a22 := Try.isAgg22
  z22 := Try.sizeOf22
  v22 := Try.zeroValue22
  a24 := Try.isAgg9
  z24 := Try.sizeOf9
  t25 := Try.underlying110
  a25 := Try.isAgg110
  z25 := Try.sizeOf110
  v25 := Try.zeroValue110
  t39 := Try.underlying106
  a39 := Try.isAgg106
  z39 := Try.sizeOf106
  v39 := Try.zeroValue106
  t45 := Try.underlying136
  a45 := Try.isAgg136
  z45 := Try.sizeOf136
  v45 := Try.zeroValue136
  t46 := Try.underlying137
  a46 := Try.isAgg137
  z46 := Try.sizeOf137
  v46 := Try.zeroValue137
  t50 := Try.underlying141
  a50 := Try.isAgg141
  z50 := Try.sizeOf141
  v50 := Try.zeroValue141
  t53 := Try.underlying105
  a53 := Try.isAgg105
  z53 := Try.sizeOf105
  v53 := Try.zeroValue105
  t55 := Try.underlying103
  a55 := Try.isAgg103
  z55 := Try.sizeOf103
  v55 := Try.zeroValue103
  t66 := Try.underlying145
  a66 := Try.isAgg145
  z66 := Try.sizeOf145
  v66 := Try.zeroValue145
  t70 := Try.underlying149
  a70 := Try.isAgg149
  z70 := Try.sizeOf149
  v70 := Try.zeroValue149
  t76 := Try.underlying151
  a76 := Try.isAgg151
  z76 := Try.sizeOf151
  v76 := Try.zeroValue151
  t77 := Try.underlying152
  a77 := Try.isAgg152
  z77 := Try.sizeOf152
  v77 := Try.zeroValue152 }
end Go.Proofs
end

section
namespace Go.Proofs.Ytpancbdaigaheaa
open Go Go.AM
set_option maxRecDepth 100000
set_option linter.unusedSimpArgs false

/-- The rest of the word at i behind the word at k. -/
def restAt (ws : List (List UInt8)) (i k : Nat) : List (List UInt8) :=
  if i ≠ k ∧ (ws.getD k []).isPrefixOf (ws.getD i []) then [(ws.getD i []).drop (ws.getD k []).length] else []
def restsOf (ws : List (List UInt8)) (i n : Nat) : List (List UInt8) := (List.range n).flatMap (restAt ws i)
def firstN (ws : List (List UInt8)) (n : Nat) : List (List UInt8) := (List.range n).flatMap fun i => restsOf ws i ws.length
def firstS (ws : List (List UInt8)) : List (List UInt8) := firstN ws ws.length

theorem restAt_len (ws : List (List UInt8)) (i k : Nat) : (restAt ws i k).length ≤ 1 := by unfold restAt; split <;> simp
theorem restsOf_succ (ws : List (List UInt8)) (i n : Nat) : restsOf ws i (n + 1) = restsOf ws i n ++ restAt ws i n := by
  unfold restsOf; rw [List.range_succ, List.flatMap_append]; simp
theorem restsOf_len (ws : List (List UInt8)) (i : Nat) : ∀ n, (restsOf ws i n).length ≤ n
  | 0 => by simp [restsOf]
  | n + 1 => by
    rw [restsOf_succ, List.length_append]
    have := restsOf_len ws i n; have := restAt_len ws i n; omega
theorem firstN_succ (ws : List (List UInt8)) (n : Nat) : firstN ws (n + 1) = firstN ws n ++ restsOf ws n ws.length := by
  unfold firstN; rw [List.range_succ, List.flatMap_append]; simp
theorem firstN_len (ws : List (List UInt8)) : ∀ n, (firstN ws n).length ≤ n * ws.length
  | 0 => by simp [firstN]
  | n + 1 => by
    rw [firstN_succ, List.length_append, Nat.succ_mul]
    have := firstN_len ws n; have := restsOf_len ws n ws.length; omega

theorem r54 (q : Int) (ws : List (List UInt8)) (hl : ws.length ≤ 1000) : PRow Try.prog 54 [codeV q ws] 9 1 ((firstS ws).map .str) := by
  refine AC.of_body 2 hΓ Try.func54 (by kernel_rfl) rfl (by simp) (AWp.of_awpD [] hΓ hmix (by kernel_rfl) ?_)
  simp +contextual -implicitDefEqProofs only [codeV, Try.ntmps54, Try.results54, Nat.reduceAdd, Nat.reduceSub, List.map_cons, List.map_nil, go_sem]
  refine ⟨⟨fun x h => (by cases h), by omega⟩, ?_⟩
  refine AWp.adopt (l := []) 3 9 1 (by rfl) (by simp) ?_
  simp +contextual -implicitDefEqProofs only [go_sem]
  refine AWp.loopI (fun i : Nat => ⟨mkF 53 [(1, .ptr 0 0), (3, .own 1 (firstN ws i).length), (4, .p (.int .i64 i))], [codeB q ws, .row 9 1 ((firstN ws i).map .str) .lax]⟩)
    (fun i => i ≤ ws.length) (fun i => ws.length - i) 0 (by simp [go_sem, codeB, firstN]) (by simp) ?_
  rintro i hk
  refine AWp.of_awpD [] hΓ hmix (by kernel_rfl) ?_
  simp +contextual -implicitDefEqProofs only [↓reduceIte, codeB, go_sem]
  refine ⟨fun hlt => ?_, fun hge => by rw [show i = ws.length by omega]; exact ⟨rfl, 1, .lax, ⟨rfl, rfl⟩, rfl, by simp⟩⟩
  refine AWp.loopI (fun k : Nat => ⟨mkF 53 [(1, .ptr 0 0), (3, .own 1 (firstN ws i ++ restsOf ws i k).length), (4, .p (.int .i64 i)), (5, .p (.int .i64 k))], [codeB q ws, .row 9 1 ((firstN ws i ++ restsOf ws i k).map .str) .lax]⟩)
    (fun k => k ≤ ws.length) (fun k => ws.length - k) 0 (by simp [go_sem, codeB, restsOf]) (by simp) ?_
  rintro k hk2
  refine AWp.of_awpD [(8, 14), (9, 14)] hΓ hmix (by kernel_rfl) ?_
  simp +contextual -implicitDefEqProofs only [getD_map_lt, ↓reduceIte, codeB, hlt, go_sem]
  have hwi : ws.getD i [] = ws[i] := by rw [List.getD_eq_getElem?_getD, List.getElem?_eq_getElem hlt, Option.getD_some]
  refine ⟨fun hlt2 => ⟨fun he => ⟨by simp only [InR]; omega, k + 1, ?_, hlt2, by omega⟩, fun hne => callK_fn (t60 ws[i] ws[k]) (.pures rfl) ?_⟩, fun hge => ⟨by simp only [InR]; omega, i + 1, ?_, hlt, by omega⟩⟩
  · have : restsOf ws k (k + 1) = restsOf ws k k := by rw [restsOf_succ]; unfold restAt; rw [if_neg (by simp)]; simp
    rw [this]; simp
  · have hwk : ws.getD k [] = ws[k] := by rw [List.getD_eq_getElem?_getD, List.getElem?_eq_getElem hlt2, Option.getD_some]
    cases hp : ws[k].isPrefixOf ws[i]
    · simp -implicitDefEqProofs only [hlt, hlt2, getD_map_lt, ↓reduceIte, codeB, go_sem]
      have : restsOf ws i (k + 1) = restsOf ws i k := by rw [restsOf_succ]; unfold restAt; rw [hwi, hwk, if_neg (by simp [hp])]; simp
      exact ⟨by simp only [InR]; omega, k + 1, by rw [this]; simp, hlt2, by omega⟩
    · simp -implicitDefEqProofs only [hlt, hlt2, getD_map_lt, ↓reduceIte, codeB, go_sem]
      have : restsOf ws i (k + 1) = restsOf ws i k ++ [ws[i].drop ws[k].length] := by rw [restsOf_succ]; unfold restAt; rw [hwi, hwk, if_pos ⟨hne, hp⟩]
      have h1 := firstN_len ws i
      have h2 := restsOf_len ws i k
      have h3 : i * ws.length ≤ 1000 * 1000 := Nat.mul_le_mul (by omega) hl
      refine ⟨(List.isPrefixOf_iff_prefix.1 hp).length_le, ⟨by simp [sizeOK, PV.cells], by omega⟩, ⟨by simp [sizeOK, PV.cells], by simp [oneOK, PV.cells, PV.isAgg]⟩, ⟨by simp, by simp only [List.length_append]; omega, by simp only [List.length_append]; omega⟩,
        by simp only [InR]; omega, k + 1, ⟨⟨by rw [this]; simp; omega, by simp⟩, by rw [this]; simp⟩, hlt2, by omega⟩
  · have : firstN ws (i + 1) = firstN ws i ++ restsOf ws i k := by rw [firstN_succ, show k = ws.length by omega]
    rw [this]; simp

theorem t54 (q : Int) (ws : List (List UInt8)) (hl : ws.length ≤ 1000) : PFn Try.prog 54 [codeV q ws] [.sl ((firstS ws).map .str)] := .of_row (r54 q ws hl)

/-- What follows from a rest and a word. -/
def nextAt (r x : List UInt8) : List (List UInt8) := if x.isPrefixOf r then [r.drop x.length] else if r.isPrefixOf x then [x.drop r.length] else []
def nextS (ws : List (List UInt8)) (r : List UInt8) : List (List UInt8) := ws.flatMap (nextAt r)
theorem nextS_len (r : List UInt8) : ∀ ws : List (List UInt8), (nextS ws r).length ≤ ws.length
  | [] => by simp [nextS]
  | x :: ws => by
    have := nextS_len r ws
    have h : (nextAt r x).length ≤ 1 := by unfold nextAt; split; simp; split <;> simp
    unfold nextS at this ⊢
    simp only [List.flatMap_cons, List.length_append, List.length_cons]; omega
theorem nextS_succ {ws : List (List UInt8)} {k : Nat} (r : List UInt8) (hk : k < ws.length) : nextS (ws.take (k + 1)) r = nextS (ws.take k) r ++ nextAt r ws[k] := by
  rw [List.take_succ_eq_append_getElem hk]; unfold nextS; rw [List.flatMap_append]; simp

theorem t56 (q : Int) (ws : List (List UInt8)) (r : List UInt8) (hl : ws.length ≤ 1000) : PFn Try.prog 56 [codeV q ws, .str r] [.sl ((nextS ws r).map .str)] := by
  refine PFn.of_body hΓ Try.func56 (by kernel_rfl) rfl (AWp.of_awpD [] hΓ hmix (by kernel_rfl) ?_)
  simp +contextual -implicitDefEqProofs only [codeV, Try.ntmps56, Try.results56, Nat.reduceAdd, Nat.reduceSub, go_sem]
  refine ⟨⟨fun x h => (by cases h), by omega⟩, ?_⟩
  refine AWp.adopt (l := []) 5 9 1 (by rfl) (by simp) ?_
  simp +contextual -implicitDefEqProofs only [go_sem]
  refine AWp.loopI (fun k : Nat => ⟨mkF 42 [(1, .p (.str r)), (2, .ptr 0 0), (5, .own 1 (nextS (ws.take k) r).length), (6, .p (.int .i64 k))], [codeB q ws, .row 9 1 ((nextS (ws.take k) r).map .str) .lax]⟩)
    (fun k => k ≤ ws.length) (fun k => ws.length - k) 0 (by simp [go_sem, codeB, nextS]) (by simp) ?_
  rintro k hk
  refine AWp.of_awpD [] hΓ hmix (by kernel_rfl) ?_
  simp +contextual -implicitDefEqProofs only [getD_map_lt, ↓reduceIte, codeB, go_sem]
  refine ⟨fun hlt => callK_fn (t60 r ws[k]) (.pures rfl) ?_, fun hge => by rw [List.take_of_length_le (by omega)]⟩
  have h2 := nextS_len r (ws.take k)
  rw [List.length_take] at h2
  have hs := nextS_succ r hlt
  cases hp : ws[k].isPrefixOf r
  · simp -implicitDefEqProofs only [hlt, getD_map_lt, ↓reduceIte, codeB, go_sem]
    refine callK_fn (t60 ws[k] r) (.pures rfl) ?_
    cases hp2 : r.isPrefixOf ws[k]
    · simp -implicitDefEqProofs only [hlt, getD_map_lt, ↓reduceIte, codeB, go_sem]
      have : nextS (ws.take (k + 1)) r = nextS (ws.take k) r := by rw [hs]; unfold nextAt; rw [if_neg (by simp [hp]), if_neg (by simp [hp2])]; simp
      exact ⟨by simp only [InR]; omega, k + 1, by rw [this]; simp, hlt, by omega⟩
    · simp -implicitDefEqProofs only [hlt, getD_map_lt, ↓reduceIte, codeB, go_sem]
      have : nextS (ws.take (k + 1)) r = nextS (ws.take k) r ++ [ws[k].drop r.length] := by rw [hs]; unfold nextAt; rw [if_neg (by simp [hp]), if_pos hp2]
      refine ⟨(List.isPrefixOf_iff_prefix.1 hp2).length_le, ⟨by simp [sizeOK, PV.cells], by omega⟩, ⟨by simp [sizeOK, PV.cells], by simp [oneOK, PV.cells, PV.isAgg]⟩, ⟨by simp, by omega, by omega⟩,
        by simp only [InR]; omega, k + 1, ⟨⟨by rw [this]; simp, by simp⟩, by rw [this]; simp⟩, hlt, by omega⟩
  · simp -implicitDefEqProofs only [hlt, getD_map_lt, ↓reduceIte, codeB, go_sem]
    have : nextS (ws.take (k + 1)) r = nextS (ws.take k) r ++ [r.drop ws[k].length] := by rw [hs]; unfold nextAt; rw [if_pos hp]
    refine ⟨(List.isPrefixOf_iff_prefix.1 hp).length_le, ⟨by simp [sizeOK, PV.cells], by omega⟩, ⟨by simp [sizeOK, PV.cells], by simp [oneOK, PV.cells, PV.isAgg]⟩, ⟨by simp, by omega, by omega⟩,
      by simp only [InR]; omega, k + 1, ⟨⟨by rw [this]; simp, by simp⟩, by rw [this]; simp⟩, hlt, by omega⟩

/-- Whether a list of words is a proof. -/
def proofOK (ws l : List (List UInt8)) : Bool := l.all (fun r => decide (r ≠ []) && (nextS ws r).all (fun u => decide (u ∈ l))) && (firstS ws).all (fun u => decide (u ∈ l))
def proofCheck (q : Int) (ws l : List (List UInt8)) : Int := if codeCheck q ws ≠ 0 then 1 else if 65536 < l.length then 4 else if proofOK ws l then 0 else 23
/-- What the reference must find among the words. -/
def needN (ws l : List (List UInt8)) (n : Nat) : List (List UInt8) := firstS ws ++ (l.take n).flatMap (nextS ws)

theorem proofOK_iff (ws l : List (List UInt8)) : proofOK ws l = true ↔ [] ∉ l ∧ ∀ u ∈ needN ws l l.length, u ∈ l := by
  unfold proofOK needN
  simp only [Bool.and_eq_true, List.all_eq_true, decide_eq_true_eq, List.take_length, List.mem_append, List.mem_flatMap]
  exact ⟨fun ⟨h1, h2⟩ => ⟨fun h => (h1 _ h).1 rfl, fun u hu => hu.elim (h2 u) (fun ⟨r, hr, hu⟩ => (h1 r hr).2 u hu)⟩, fun ⟨h1, h2⟩ => ⟨fun r hr => ⟨fun e => h1 (e ▸ hr), fun u hu => h2 u (.inr ⟨r, hr, hu⟩)⟩, fun u hu => h2 u (.inl hu)⟩⟩
theorem proofCheck_23 {q : Int} {ws l : List (List UInt8)} (h : codeCheck q ws = 0) (h1 : ¬ 65536 < l.length) (h2 : ¬ ([] ∉ l ∧ ∀ u ∈ needN ws l l.length, u ∈ l)) : proofCheck q ws l = 23 := by
  unfold proofCheck; rw [if_neg (by omega), if_neg h1, if_neg (fun e => h2 ((proofOK_iff ws l).1 e))]
theorem proofCheck_0 {q : Int} {ws l : List (List UInt8)} (h : codeCheck q ws = 0) (h1 : ¬ 65536 < l.length) (h2 : [] ∉ l) (h3 : ∀ u ∈ needN ws l l.length, u ∈ l) : proofCheck q ws l = 0 := by
  unfold proofCheck; rw [if_neg (by omega), if_neg h1, if_pos ((proofOK_iff ws l).2 ⟨h2, h3⟩)]
theorem needN_succ {ws l : List (List UInt8)} {i : Nat} (hi : i < l.length) : needN ws l (i + 1) = needN ws l i ++ nextS ws l[i] := by
  unfold needN; rw [List.take_succ_eq_append_getElem hi, List.flatMap_append]; simp

theorem t36 (q : Int) (ws l : List (List UInt8)) (hl : l.length ≤ 1000) : PFn Try.prog 36 [codeV q ws, .sl (l.map .str)] [.int .i64 (proofCheck q ws l)] := by
  refine PFn.of_body hΓ Try.func36 (by kernel_rfl) rfl (AWp.of_awpD [] hΓ hmix (by kernel_rfl) ?_)
  simp +contextual -implicitDefEqProofs only [codeV, Try.ntmps36, Try.results36, Nat.reduceAdd, Nat.reduceSub, go_sem]
  refine callK_fn (t44 q ws) (.still rfl) ?_
  by_cases h : codeCheck q ws = 0
  rotate_left
  · simp -implicitDefEqProofs only [h, go_sem]
    unfold proofCheck; rw [if_pos h]
  have hw : ws.length ≤ 64 := by
    unfold codeCheck at h
    split at h
    · omega
    · split at h
      · omega
      · split at h
        · omega
        · omega
  rw [h]
  simp -implicitDefEqProofs only [go_sem]
  have h1 : ¬ 65536 < (l.length : Int) := by omega
  refine ⟨fun h => absurd h h1, fun _ => ?_⟩
  refine callK_ac (AC.of_row (r54 q ws (by omega)) (.inr rfl)) (by simp) ?_
  rintro v h' ⟨rfl, rfl⟩
  simp +contextual -implicitDefEqProofs only [killAll, go_sem]
  have lenF : (firstS ws).length ≤ 64 * 64 := by
    have := firstN_len ws ws.length
    have h3 : ws.length * ws.length ≤ 64 * 64 := Nat.mul_le_mul hw hw
    unfold firstS; omega
  have lenN : ∀ n, (needN ws l n).length ≤ 64 * 64 + n * 64 := fun n => by
    unfold needN
    have : ∀ l' : List (List UInt8), (l'.flatMap (nextS ws)).length ≤ l'.length * 64 := fun l' => by
      induction l' with
      | nil => simp
      | cons x l' ih =>
        have := nextS_len x ws
        simp only [List.flatMap_cons, List.length_append, List.length_cons]; omega
    have h := this (l.take n)
    rw [List.length_take] at h
    have : min n l.length * 64 ≤ n * 64 := Nat.mul_le_mul_right _ (by omega)
    simp only [List.length_append]; omega
  refine AWp.loopI (fun i : Nat => ⟨mkF 48 [(1, .p (.sl (l.map .str))), (2, .ptr 0 0), (4, .p (.int .i64 0)), (5, .own 1 (needN ws l i).length), (6, .p (.int .i64 i))], [codeB q ws, .row 9 1 ((needN ws l i).map .str) .lax]⟩)
    (fun i => i ≤ l.length ∧ [] ∉ l.take i) (fun i => l.length - i) 0 (by simp [go_sem, codeB, needN]) (by simp) ?_
  rintro i ⟨hk, h0⟩
  refine AWp.of_awpD [(11, 7)] hΓ hmix (by kernel_rfl) ?_
  simp +contextual -implicitDefEqProofs only [getD_map_lt, ↓reduceIte, codeB, go_sem]
  have h1' : ¬ 65536 < l.length := by omega
  refine ⟨fun hlt => ⟨fun he => (proofCheck_23 h h1' (fun e => e.1 (he ▸ List.getElem_mem hlt))).symm, fun hne => callVPK_fn (t56 q ws l[i] (by omega)) (.still rfl) ?_⟩, fun hge => ?_⟩
  · simp +contextual -implicitDefEqProofs only [hlt, getD_map_lt, ↓reduceIte, codeB, go_sem]
    have hn := lenN i
    have hx := nextS_len l[i] ws
    have h64 : i * 64 ≤ 1000 * 64 := Nat.mul_le_mul_right _ (by omega)
    have hs : ∀ x ∈ (nextS ws l[i]).map PV.str, ∃ u, x = .str u := fun x hx => by obtain ⟨u, _, rfl⟩ := List.mem_map.1 hx; exact ⟨u, rfl⟩
    refine ⟨⟨fun x hx => by obtain ⟨u, rfl⟩ := hs x hx; rfl, fun x hx c hc => by obtain ⟨u, rfl⟩ := hs x hx; simp only [PV.cells, List.mem_singleton] at hc; subst hc; rfl⟩, ⟨by simp, by omega, by omega⟩,
      by simp only [InR]; omega, i + 1, ⟨⟨by rw [needN_succ hlt]; simp, by simp⟩, ?_⟩, ⟨hlt, ?_⟩, by omega⟩
    · rw [needN_succ hlt, List.map_append]
      cases he : ((nextS ws l[i]).map PV.str).isEmpty
      · right; rfl
      · left; exact ⟨rfl, rfl⟩
    · rw [List.take_succ_eq_append_getElem hlt]
      simp only [List.mem_append, List.mem_singleton]
      rintro (h | h)
      · exact h0 h
      · exact hne h.symm
  have hi : i = l.length := by omega
  subst hi
  rw [List.take_length] at h0
  refine AWp.freeze 1 rfl ?_
  simp +contextual -implicitDefEqProofs only [Frozen, go_sem]
  refine AWp.loopI (fun j : Nat => ⟨mkF 48 [(1, .p (.sl (l.map .str))), (2, .ptr 0 0), (4, .p (.int .i64 0)), (5, .p (.sl ((needN ws l l.length).map .str))), (7, .p (.int .i64 j))], [codeB q ws, .dead]⟩)
    (fun j => j ≤ (needN ws l l.length).length ∧ ∀ u ∈ (needN ws l l.length).take j, u ∈ l) (fun j => (needN ws l l.length).length - j) 0 (by simp [go_sem, codeB]) (by simp) ?_
  rintro j ⟨hj, h2⟩
  refine AWp.of_awpD [] hΓ hmix (by kernel_rfl) ?_
  simp +contextual -implicitDefEqProofs only [getD_map_lt, ↓reduceIte, codeB, go_sem]
  refine ⟨fun hlt => ?_, fun hge => (proofCheck_0 h h1' h0 (fun u hu => by rw [List.take_of_length_le (by omega)] at h2; exact h2 u hu)).symm⟩
  refine callK_fn (t55 l (needN ws l l.length)[j] (by omega)) (.still rfl) ?_
  have lenL := lenN l.length
  cases hm : decide ((needN ws l l.length)[j] ∈ l)
  · simp -implicitDefEqProofs only [hlt, getD_map_lt, ↓reduceIte, codeB, go_sem]
    exact (proofCheck_23 h h1' (fun e => by simp only [decide_eq_false_iff_not] at hm; exact hm (e.2 _ (List.getElem_mem hlt)))).symm
  · simp -implicitDefEqProofs only [hlt, getD_map_lt, ↓reduceIte, codeB, go_sem]
    refine ⟨by simp only [InR]; omega, j + 1, by simp, ⟨hlt, fun u hu => ?_⟩, by omega⟩
    rw [List.take_succ_eq_append_getElem hlt] at hu
    rcases List.mem_append.1 hu with hu | hu
    · exact h2 u hu
    · simp only [List.mem_singleton] at hu; subst hu; simpa using hm
end Go.Proofs.Ytpancbdaigaheaa
end

section
namespace Go.Proofs.Ytpancbdaigaheaa
open Go Go.AM
set_option maxRecDepth 100000
set_option linter.unusedSimpArgs false

theorem callK_yc {E : Env} {tm : List AV} {h : List AObj} {KS : St → Prop} {d : Option Nat} {b : Nat} {args : List AV} {ks : List Nat} {R : AV → List AObj → Prop} (hf : YC E.P b args h ks R) (hks : ∀ k ∈ ks, E.n0 ≤ k ∨ k ∈ E.ks)
    (hk : ∀ v h', R v h' → KS ⟨putD (killAll ks tm) d v, h'⟩) : callK E ⟨tm, h⟩ d (.yld b) args KS := ⟨ks, R, hf, hks, hk⟩


/-- What the loop over firsts is given: the longer word, its rest. -/
def pairAt (x y : List UInt8) : List (List UInt8 × List UInt8) := if x.isPrefixOf y ∧ y.drop x.length ≠ [] then [(y, y.drop x.length)] else []
def pairsK (ws : List (List UInt8)) (i k : Nat) : List (List UInt8 × List UInt8) := (ws.take k).flatMap (pairAt (ws.getD i []))
def pairsN (ws : List (List UInt8)) (i : Nat) : List (List UInt8 × List UInt8) := (List.range i).flatMap fun i => pairsK ws i ws.length
def pairs (ws : List (List UInt8)) : List (List UInt8 × List UInt8) := pairsN ws ws.length

theorem pairsN_succ (ws : List (List UInt8)) (n : Nat) : pairsN ws (n + 1) = pairsN ws n ++ pairsK ws n ws.length := by
  unfold pairsN; rw [List.range_succ, List.flatMap_append]; simp
theorem pairsK_succ {ws : List (List UInt8)} {i k : Nat} (hk : k < ws.length) : pairsK ws i (k + 1) = pairsK ws i k ++ pairAt (ws.getD i []) ws[k] := by
  unfold pairsK; rw [List.take_succ_eq_append_getElem hk, List.flatMap_append]; simp
theorem pairsN_le (ws : List (List UInt8)) : ∀ {n : Nat}, n ≤ ws.length → ∃ l, pairsN ws n ++ l = pairs ws := by
  intro n hn
  induction hd : ws.length - n generalizing n with
  | zero => exact ⟨[], by rw [show n = ws.length by omega]; simp [pairs]⟩
  | succ d ih =>
    obtain ⟨l, hl⟩ := ih (n := n + 1) (by omega) (by omega)
    exact ⟨pairsK ws n ws.length ++ l, by rw [← List.append_assoc, ← pairsN_succ]; exact hl⟩
theorem pairsK_le (ws : List (List UInt8)) (i : Nat) : ∀ {k : Nat}, k ≤ ws.length → ∃ l, pairsK ws i k ++ l = pairsK ws i ws.length := by
  intro k hk
  refine ⟨(ws.drop k).flatMap (pairAt (ws.getD i [])), ?_⟩
  unfold pairsK
  rw [List.take_length, ← List.flatMap_append, List.take_append_drop]

/-- The loop over firsts, whatever is done in it: J says how things lie when some pairs are done, D how they lie when the loop was left. -/
theorem c86 {h : List AObj} {b c : Nat} {ks : List Nat} (hbk : b ∉ ks) (hck : c ∉ ks) (q : Int) (ws : List (List UInt8)) (hws : ws.length ≤ 1000) {J : List (List UInt8 × List UInt8) → List AObj → Prop} {D : List AObj → Prop} (hJ0 : J [] h)
    (hbox : ∀ done h', J done h' → h'[c]? = some (codeB q ws) ∧ h.length ≤ h'.length) (hD : ∀ h', D h' → h.length ≤ h'.length)
    (hround : ∀ done y r h', (∃ l, done ++ (y, r) :: l = pairs ws) → J done h' → YC Try.prog b [.p (.str y), .p (.str r)] h' ks (fun v h'' => (v = .p (.bool true) ∧ J (done ++ [(y, r)]) h'') ∨ (v = .p (.bool false) ∧ D h''))) :
    AC Try.prog 86 [.yld b, .ptr c 0] h ks (fun _ h' => J (pairs ws) h' ∨ D h') := by
  have nb : ∀ {k}, k ∈ ks → b ≠ k := fun h e => hbk (e ▸ h)
  have nc : ∀ {k}, k ∈ ks → c ≠ k := fun h e => hck (e ▸ h)
  refine AC.of_bodyE hΓ Try.func86 (by kernel_rfl) rfl (AWp.mono (Q := fun e st => AM.Ends e ∧ (J (pairs ws) st.h ∨ D st.h)) ?_ ?_)
  rotate_left
  · rintro e st ⟨he, hst⟩
    refine ⟨he, st, Less.refl st, ?_⟩
    refine ⟨st.h.length, hst.elim (fun hj => (hbox _ _ hj).2) (hD _), .inl rfl, ?_⟩
    rw [List.take_length]; exact hst
  refine AWp.of_awpD [] hΓ hmix (by kernel_rfl) ?_
  have hb0 := (hbox _ _ hJ0).1
  simp +contextual -implicitDefEqProofs only [Try.ntmps86, Nat.reduceAdd, Nat.reduceSub, hb0, codeB, go_sem]
  refine AWp.loopI (fun p : Nat × List AObj => ⟨mkF 43 [(0, .yld b), (1, .ptr c 0), (10, .p (.sl (ws.map .str))), (11, .p (.int .i64 ws.length)), (12, .p (.int .i64 p.1))], p.2⟩)
    (fun p => p.1 ≤ ws.length ∧ J (pairsN ws p.1) p.2) (fun p => ws.length - p.1) (0, h) (by simp [go_sem, weakH_self]) ⟨Nat.zero_le _, hJ0⟩ ?_
  rintro ⟨i, h1⟩ ⟨hi, hJ1⟩
  simp only at hi hJ1
  refine AWp.of_awpD [] hΓ hmix (by kernel_rfl) ?_
  have hb1 := (hbox _ _ hJ1).1
  simp +contextual -implicitDefEqProofs only [hb1, getD_map_lt, ↓reduceIte, codeB, go_sem]
  refine ⟨fun hlt => ?_, fun hge => .inl (by rw [show i = ws.length by omega] at hJ1; exact hJ1)⟩
  have hwi : ws.getD i [] = ws[i] := by rw [List.getD_eq_getElem?_getD, List.getElem?_eq_getElem hlt, Option.getD_some]
  refine AWp.loopI (fun p : Nat × List AObj => ⟨mkF 43 [(0, .yld b), (1, .ptr c 0), (4, .p (.str ws[i])), (10, .p (.sl (ws.map .str))), (11, .p (.int .i64 ws.length)), (12, .p (.int .i64 i)),
      (17, .p (.sl (ws.map .str))), (18, .p (.int .i64 ws.length)), (19, .p (.int .i64 p.1))], p.2⟩)
    (fun p => p.1 ≤ ws.length ∧ J (pairsN ws i ++ pairsK ws i p.1) p.2) (fun p => ws.length - p.1) (0, h1) (by simp [go_sem, weakH_self]) ⟨Nat.zero_le _, by simpa [pairsK] using hJ1⟩ ?_
  rintro ⟨k, h2⟩ ⟨hk, hJ2⟩
  simp only at hk hJ2
  refine AWp.of_awpD [] hΓ hmix (by kernel_rfl) ?_
  simp +contextual -implicitDefEqProofs only [getD_map_lt, ↓reduceIte, codeB, go_sem]
  refine ⟨fun hlt2 => ?_, fun hge => ⟨by simp only [InR]; omega, (i + 1, h2), by simp [weakH_self], ⟨hlt, by rw [pairsN_succ, show ws.length = k by omega]; exact hJ2⟩, by simp only; omega⟩⟩
  refine callK_fn (t20 ws[k] ws[i]) (.pures rfl) ?_
  have hs := pairsK_succ (i := i) hlt2
  rw [hwi] at hs
  cases hp : ws[i].isPrefixOf ws[k]
  · simp -implicitDefEqProofs only [go_sem]
    have : pairAt ws[i] ws[k] = [] := by unfold pairAt; rw [if_neg (by simp [hp])]
    rw [this, List.append_nil] at hs
    exact ⟨by simp only [InR]; omega, (k + 1, h2), by simp [weakH_self], ⟨hlt2, by simp only; rw [hs]; exact hJ2⟩, by simp only; omega⟩
  · have hcut : cutW ws[k] ws[i] = ws[k].drop ws[i].length := by unfold cutW; rw [if_pos hp]
    by_cases he : cutW ws[k] ws[i] = []
    · simp -implicitDefEqProofs only [he, go_sem]
      have : pairAt ws[i] ws[k] = [] := by unfold pairAt; rw [if_neg (fun e => e.2 (hcut ▸ he))]
      rw [this, List.append_nil] at hs
      exact ⟨by simp only [InR]; omega, (k + 1, h2), by simp [weakH_self], ⟨hlt2, by simp only; rw [hs]; exact hJ2⟩, by simp only; omega⟩
    · simp -implicitDefEqProofs only [he, go_sem]
      have : pairAt ws[i] ws[k] = [(ws[k], cutW ws[k] ws[i])] := by unfold pairAt; rw [hcut, if_pos ⟨hp, hcut ▸ he⟩]
      rw [this] at hs
      obtain ⟨l1, hl1⟩ := pairsK_le ws i (k := k + 1) hlt2
      obtain ⟨l2, hl2⟩ := pairsN_le ws (n := i + 1) hlt
      have hdone : ∃ l, (pairsN ws i ++ pairsK ws i k) ++ (ws[k], cutW ws[k] ws[i]) :: l = pairs ws := ⟨l1 ++ l2, by
        rw [← hl2, pairsN_succ, ← hl1, hs]; simp⟩
      refine callK_yc (hround _ _ _ _ hdone hJ2) (fun k hk => .inr hk) ?_
      rintro v h' (⟨rfl, hj⟩ | ⟨rfl, hd⟩)
      · rw [killAll_keep (fun k hk => by simp [AV.kill, AV.kill.killL, nb hk, nc hk])]
        simp -implicitDefEqProofs only [go_sem]
        exact ⟨by simp only [InR]; omega, (k + 1, h'), by simp [weakH_self], ⟨hlt2, by simp only; rw [hs, ← List.append_assoc]; exact hj⟩, by simp only; omega⟩
      · rw [killAll_keep (fun k hk => by simp [AV.kill, AV.kill.killL, nb hk, nc hk])]
        simp -implicitDefEqProofs only [go_sem]
        exact .inr hd

/-- What the loop over nexts is given: what follows, and by how much the message grows. -/
def nextP (r x : List UInt8) : List (List UInt8 × Nat) := if x.isPrefixOf r then [(r.drop x.length, 0)] else if r.isPrefixOf x then [(x.drop r.length, (x.drop r.length).length)] else []
def nextsP (ws : List (List UInt8)) (r : List UInt8) : List (List UInt8 × Nat) := ws.flatMap (nextP r)
theorem nextsP_succ {ws : List (List UInt8)} {k : Nat} (r : List UInt8) (hk : k < ws.length) : nextsP (ws.take (k + 1)) r = nextsP (ws.take k) r ++ nextP r ws[k] := by
  rw [List.take_succ_eq_append_getElem hk]; unfold nextsP; rw [List.flatMap_append]; simp
theorem nextsP_le (ws : List (List UInt8)) (r : List UInt8) (k : Nat) : ∃ l, nextsP (ws.take k) r ++ l = nextsP ws r :=
  ⟨nextsP (ws.drop k) r, by unfold nextsP; rw [← List.flatMap_append, List.take_append_drop]⟩

theorem c87 {h : List AObj} {b c d : Nat} {ks : List Nat} (hbk : b ∉ ks) (hck : c ∉ ks) (hdk : d ∉ ks) (q : Int) (ws : List (List UInt8)) (r : List UInt8) (hws : ws.length ≤ 1000) {J : List (List UInt8 × Nat) → List AObj → Prop} {D : List AObj → Prop} (hJ0 : J [] h)
    (hbox : ∀ done h', J done h' → h'[c]? = some (codeB q ws) ∧ h'[d]? = some (.box [.p (.str r)]) ∧ h.length ≤ h'.length) (hD : ∀ h', D h' → h.length ≤ h'.length)
    (hround : ∀ done u n h', (∃ l, done ++ (u, n) :: l = nextsP ws r) → J done h' → YC Try.prog b [.p (.str u), .p (.int .i64 (n : Nat))] h' ks (fun v h'' => (v = .p (.bool true) ∧ J (done ++ [(u, n)]) h'') ∨ (v = .p (.bool false) ∧ D h''))) :
    AC Try.prog 87 [.yld b, .ptr c 0, .ptr d 0] h ks (fun _ h' => J (nextsP ws r) h' ∨ D h') := by
  have nb : ∀ {k}, k ∈ ks → b ≠ k := fun h e => hbk (e ▸ h)
  have nc : ∀ {k}, k ∈ ks → c ≠ k := fun h e => hck (e ▸ h)
  have nd : ∀ {k}, k ∈ ks → d ≠ k := fun h e => hdk (e ▸ h)
  refine AC.of_bodyE hΓ Try.func87 (by kernel_rfl) rfl (AWp.mono (Q := fun e st => AM.Ends e ∧ (J (nextsP ws r) st.h ∨ D st.h)) ?_ ?_)
  rotate_left
  · rintro e st ⟨he, hst⟩
    refine ⟨he, st, Less.refl st, ?_⟩
    refine ⟨st.h.length, hst.elim (fun hj => (hbox _ _ hj).2.2) (hD _), .inl rfl, ?_⟩
    rw [List.take_length]; exact hst
  refine AWp.of_awpD [] hΓ hmix (by kernel_rfl) ?_
  have hb0 := (hbox _ _ hJ0).1
  simp +contextual -implicitDefEqProofs only [Try.ntmps87, Nat.reduceAdd, Nat.reduceSub, hb0, codeB, go_sem]
  refine AWp.loopI (fun p : Nat × List AObj => ⟨mkF 44 [(0, .yld b), (1, .ptr c 0), (2, .ptr d 0), (11, .p (.sl (ws.map .str))), (12, .p (.int .i64 ws.length)), (13, .p (.int .i64 p.1))], p.2⟩)
    (fun p => p.1 ≤ ws.length ∧ J (nextsP (ws.take p.1) r) p.2) (fun p => ws.length - p.1) (0, h) (by simp [go_sem, weakH_self]) ⟨Nat.zero_le _, by simpa [nextsP] using hJ0⟩ ?_
  rintro ⟨k, h2⟩ ⟨hk, hJ2⟩
  simp only at hk hJ2
  refine AWp.of_awpD [] hΓ hmix (by kernel_rfl) ?_
  have hb2 := (hbox _ _ hJ2).2.1
  simp +contextual -implicitDefEqProofs only [hb2, getD_map_lt, ↓reduceIte, codeB, go_sem]
  refine ⟨fun hlt => callK_fn (t20 r ws[k]) (.pures rfl) ?_, fun hge => .inl (by rw [List.take_of_length_le (by omega)] at hJ2; exact hJ2)⟩
  have hs := nextsP_succ r hlt
  obtain ⟨l1, hl1⟩ := nextsP_le ws r (k + 1)
  have fin : ∀ u n, nextP r ws[k] = [(u, n)] → ∃ l, nextsP (ws.take k) r ++ (u, n) :: l = nextsP ws r := fun u n e => ⟨l1, by rw [← hl1, hs, e]; simp⟩
  cases hp : ws[k].isPrefixOf r
  · simp -implicitDefEqProofs only [hb2, go_sem]
    refine callK_fn (t20 ws[k] r) (.pures rfl) ?_
    cases hp2 : r.isPrefixOf ws[k]
    · simp -implicitDefEqProofs only [go_sem]
      have : nextP r ws[k] = [] := by unfold nextP; rw [if_neg (by simp [hp]), if_neg (by simp [hp2])]
      rw [this, List.append_nil] at hs
      exact ⟨by simp only [InR]; omega, (k + 1, h2), by simp [weakH_self], ⟨hlt, by simp only; rw [hs]; exact hJ2⟩, by simp only; omega⟩
    · simp -implicitDefEqProofs only [go_sem]
      have hcut : cutW ws[k] r = ws[k].drop r.length := by unfold cutW; rw [if_pos hp2]
      have he : nextP r ws[k] = [(cutW ws[k] r, (cutW ws[k] r).length)] := by unfold nextP; rw [if_neg (by simp [hp]), if_pos hp2, hcut]
      refine callK_yc (hround _ _ _ _ (fin _ _ he) hJ2) (fun k hk => .inr hk) ?_
      rw [he] at hs
      rintro v h' (⟨rfl, hj⟩ | ⟨rfl, hd⟩)
      · rw [killAll_keep (fun k hk => by simp [AV.kill, AV.kill.killL, nb hk, nc hk, nd hk])]
        simp -implicitDefEqProofs only [go_sem]
        exact ⟨by simp only [InR]; omega, (k + 1, h'), by simp [weakH_self], ⟨hlt, by simp only; rw [hs]; exact hj⟩, by simp only; omega⟩
      · rw [killAll_keep (fun k hk => by simp [AV.kill, AV.kill.killL, nb hk, nc hk, nd hk])]
        simp -implicitDefEqProofs only [go_sem]
        exact .inr hd
  · simp -implicitDefEqProofs only [go_sem]
    have hcut : cutW r ws[k] = r.drop ws[k].length := by unfold cutW; rw [if_pos hp]
    have he : nextP r ws[k] = [(cutW r ws[k], 0)] := by unfold nextP; rw [if_pos hp, hcut]
    refine callK_yc (hround _ _ _ _ (fin _ _ he) hJ2) (fun k hk => .inr hk) ?_
    rw [he] at hs
    rintro v h' (⟨rfl, hj⟩ | ⟨rfl, hd⟩)
    · rw [killAll_keep (fun k hk => by simp [AV.kill, AV.kill.killL, nb hk, nc hk, nd hk])]
      simp -implicitDefEqProofs only [go_sem]
      exact ⟨by simp only [InR]; omega, (k + 1, h'), by simp [weakH_self], ⟨hlt, by simp only; rw [hs]; exact hj⟩, by simp only; omega⟩
    · rw [killAll_keep (fun k hk => by simp [AV.kill, AV.kill.killL, nb hk, nc hk, nd hk])]
      simp -implicitDefEqProofs only [go_sem]
      exact .inr hd
end Go.Proofs.Ytpancbdaigaheaa
end

section
namespace Go.Proofs.Ytpancbdaigaheaa
open Go Go.AM
set_option maxRecDepth 100000
set_option linter.unusedSimpArgs false

/-! A map to bools, all true: a set of words, in the order of their coming. -/
def entT (k : List UInt8) : List UInt8 × PV := (k, .bool true)
def addK (ks : List (List UInt8)) (k : List UInt8) : List (List UInt8) := if k ∈ ks then ks else ks ++ [k]
def keysOf (l : List (List UInt8)) : List (List UInt8) := l.foldl addK []
def setM (l : List (List UInt8)) : List (List UInt8 × PV) := (keysOf l).map entT

theorem midx_set (k : List UInt8) : ∀ ks : List (List UInt8), (k ∉ ks → midx k (ks.map entT) = none) ∧ (k ∈ ks → ∃ j, midx k (ks.map entT) = some j ∧ ∃ h : j < ks.length, ks[j] = k)
  | [] => ⟨fun _ => rfl, fun h => by cases h⟩
  | a :: ks => by
    obtain ⟨h1, h2⟩ := midx_set k ks
    constructor
    · intro h
      simp only [List.mem_cons, not_or] at h
      rw [List.map_cons]; unfold midx; rw [if_neg (show ¬ k = (entT a).1 from h.1)]
      rw [h1 h.2]; rfl
    · intro h
      by_cases e : k = a
      · exact ⟨0, by simp [midx, entT, e], by simp, e.symm⟩
      · simp only [List.mem_cons, e, false_or] at h
        obtain ⟨j, h3, h4, h5⟩ := h2 h
        refine ⟨j + 1, ?_, by simpa using h4, by simpa using h5⟩
        rw [List.map_cons]; unfold midx; rw [if_neg (show ¬ k = (entT a).1 from e)]
        rw [h3]; rfl
theorem mset_set (k : List UInt8) (ks : List (List UInt8)) : mset k (.bool true) (ks.map entT) = (addK ks k).map entT := by
  unfold mset addK
  by_cases h : k ∈ ks
  · obtain ⟨j, h1, h2, h3⟩ := (midx_set k ks).2 h
    rw [h1, if_pos h]
    apply List.ext_getElem (by simp)
    intro i hi _
    simp only [List.getElem_set, List.getElem_map]
    split
    · subst_vars; rfl
    · rfl
  · rw [(midx_set k ks).1 h, if_neg h]; simp [entT]
theorem mget_set (k : List UInt8) (ks : List (List UInt8)) : (mget k (ks.map entT)).getD (.bool false) = .bool (decide (k ∈ ks)) := by
  unfold mget
  by_cases h : k ∈ ks
  · obtain ⟨j, h1, h2, h3⟩ := (midx_set k ks).2 h
    rw [h1, decide_eq_true h]
    simp only [Option.map_some, Option.getD_some, List.getD_eq_getElem?_getD, List.getElem?_map, List.getElem?_eq_getElem h2, entT]
  · rw [(midx_set k ks).1 h, decide_eq_false h]; rfl
theorem keysOf_snoc (l : List (List UInt8)) (k : List UInt8) : keysOf (l ++ [k]) = addK (keysOf l) k := by unfold keysOf; rw [List.foldl_append]; rfl
theorem mem_foldK (k : List UInt8) : ∀ (l acc : List (List UInt8)), k ∈ l.foldl addK acc ↔ k ∈ acc ∨ k ∈ l
  | [], acc => by simp
  | a :: l, acc => by
    rw [List.foldl_cons, mem_foldK k l]
    unfold addK
    split
    · rename_i h
      simp only [List.mem_cons]
      exact ⟨fun h' => h'.elim .inl (fun h => .inr (.inr h)), fun h' => h'.elim .inl (fun h' => h'.elim (fun e => .inl (e ▸ h)) .inr)⟩
    · simp only [List.mem_append, List.mem_cons, List.not_mem_nil, or_false, or_assoc]
theorem mem_keysOf (l : List (List UInt8)) (k : List UInt8) : k ∈ keysOf l ↔ k ∈ l := by unfold keysOf; rw [mem_foldK]; simp
theorem len_foldK : ∀ (l acc : List (List UInt8)), (l.foldl addK acc).length ≤ acc.length + l.length
  | [], acc => by simp
  | a :: l, acc => by
    rw [List.foldl_cons]
    have h1 := len_foldK l (addK acc a)
    have h2 : (addK acc a).length ≤ acc.length + 1 := by unfold addK; split <;> simp
    simp only [List.length_cons]; omega
theorem keysOf_len (l : List (List UInt8)) : (keysOf l).length ≤ l.length := by have := len_foldK l []; simpa [keysOf] using this
theorem setM_snoc (l : List (List UInt8)) (k : List UInt8) : mset k (.bool true) (setM l) = setM (l ++ [k]) := by unfold setM; rw [mset_set, keysOf_snoc]
theorem setM_get (l : List (List UInt8)) (k : List UInt8) : (mget k (setM l)).getD (.bool false) = .bool (decide (k ∈ l)) := by
  unfold setM; rw [mget_set]; simp only [mem_keysOf]

theorem c52 {h : List AObj} (q : Int) (ws : List (List UInt8)) : AC Try.prog 52 [.agg [.p (.int .i64 q), .p (.sl (ws.map .str))]] h [] (fun v h' => v = .fn 86 [.ptr h.length 0] ∧ h' = h ++ [codeB q ws]) := by
  refine AC.of_bodyE hΓ Try.func52 (by kernel_rfl) rfl (AWp.mono (Q := fun e st => AM.Ends e ∧ st.tmps.getD 2 .junk = .fn 86 [.ptr h.length 0] ∧ st.h = h ++ [codeB q ws]) ?_ ?_)
  rotate_left
  · rintro e ⟨tm, h'⟩ ⟨he, h1, h2⟩
    simp only at h1 h2
    subst h2
    refine ⟨he, _, Less.refl _, ?_⟩
    unfold DoneE
    simp +contextual -implicitDefEqProofs only [Try.results52, h1, go_sem]
    exact ⟨h.length + 1, by omega, .inl (by simp), List.take_of_length_le (by simp)⟩
  refine AWp.of_awpD [] hΓ hmix (by kernel_rfl) ?_
  simp +contextual -implicitDefEqProofs only [Try.ntmps52, Nat.reduceAdd, Nat.reduceSub, codeB, go_sem]

theorem c53 {h : List AObj} (q : Int) (ws : List (List UInt8)) (r : List UInt8) : AC Try.prog 53 [.agg [.p (.int .i64 q), .p (.sl (ws.map .str))], .p (.str r)] h []
    (fun v h' => v = .fn 87 [.ptr h.length 0, .ptr (h.length + 1) 0] ∧ h' = h ++ [codeB q ws, .box [.p (.str r)]]) := by
  refine AC.of_bodyE hΓ Try.func53 (by kernel_rfl) rfl (AWp.mono (Q := fun e st => AM.Ends e ∧ st.tmps.getD 4 .junk = .fn 87 [.ptr h.length 0, .ptr (h.length + 1) 0] ∧ st.h = h ++ [codeB q ws, .box [.p (.str r)]]) ?_ ?_)
  rotate_left
  · rintro e ⟨tm, h'⟩ ⟨he, h1, h2⟩
    simp only at h1 h2
    subst h2
    refine ⟨he, _, Less.refl _, ?_⟩
    unfold DoneE
    simp +contextual -implicitDefEqProofs only [Try.results53, h1, go_sem]
    exact ⟨h.length + 2, by omega, .inl (by simp), List.take_of_length_le (by simp)⟩
  refine AWp.of_awpD [] hΓ hmix (by kernel_rfl) ?_
  simp +contextual -implicitDefEqProofs only [Try.ntmps53, Nat.reduceAdd, Nat.reduceSub, codeB, List.length_append, List.append_assoc, go_sem]

/-- A loop over firsts whose rounds only look: it is left at the first pair that will not do. -/
theorem range86 {E : Env} (hP : E.P = Try.prog) {tm : List AV} {h HD : List AObj} {Q : Exit → St → Prop} {f : Operand} {ps : List Nat} {assign body : Code} {c : Nat} (q : Int) (ws : List (List UInt8)) (hws : ws.length ≤ 1000)
    (ok : List UInt8 × List UInt8 → Prop) (hf : ev tm f = .fn 86 [.ptr c 0]) (hc : h[c]? = some (codeB q ws)) (hlen : HD.length = h.length)
    (hround : ∀ p ∈ pairs ws, YC Try.prog h.length [.p (.str p.1), .p (.str p.2)] (h ++ [.lp tm ps assign body .ready]) []
      (fun v h'' => (v = .p (.bool true) ∧ ok p ∧ h'' = h ++ [.lp tm ps assign body .ready]) ∨ (v = .p (.bool false) ∧ ¬ ok p ∧ h'' = HD ++ [.lp tm ps assign body (.left .ret)])))
    (h1 : (∀ p ∈ pairs ws, ok p) → Q .normal ⟨tm, h ++ [.dead]⟩) (h2 : (∃ p ∈ pairs ws, ¬ ok p) → Q .ret ⟨tm, HD ++ [.dead]⟩) : AWp E none (.rangeFunc f ps.toArray assign body) Q ⟨tm, h⟩ := by
  have hcl : c < h.length := (List.getElem?_eq_some_iff.1 hc).1
  have hac : AC Try.prog 86 [.yld h.length, .ptr c 0] (h ++ [.lp tm ps assign body .ready]) [] (fun _ h' => (h' = h ++ [.lp tm ps assign body .ready] ∧ ∀ p ∈ pairs ws, ok p) ∨ (h' = HD ++ [.lp tm ps assign body (.left .ret)] ∧ ∃ p ∈ pairs ws, ¬ ok p)) := by
    refine c86 (ks := []) (by simp) (by simp) q ws hws (J := fun done h' => h' = h ++ [.lp tm ps assign body .ready] ∧ ∀ p ∈ done, ok p) (D := fun h' => h' = HD ++ [.lp tm ps assign body (.left .ret)] ∧ ∃ p ∈ pairs ws, ¬ ok p) ⟨rfl, by simp⟩ ?_ ?_ ?_
    · rintro done h' ⟨rfl, _⟩
      exact ⟨by rw [List.getElem?_append_left hcl]; exact hc, Nat.le_refl _⟩
    · rintro h' ⟨rfl, _⟩; simp [hlen]
    · rintro done y r h' ⟨l, hl⟩ ⟨rfl, hdone⟩
      have hm : (y, r) ∈ pairs ws := by rw [← hl]; simp
      obtain hy := hround _ hm
      intro X I μ ob w cargs R hl2 ha hk
      obtain ⟨l', fn, tmps, a', b', e1, e2, e3⟩ := hy X I μ ob w cargs R hl2 ha hk
      refine ⟨l', fn, tmps, a', b', e1, e2, ?_⟩
      refine e3.mono ?_
      rintro e w' ⟨cv, v, h', I', μ', ob', g1, g2, g3, g4, g5, g6, g7, g8, g9, g10⟩
      refine ⟨cv, v, h', I', μ', ob', g1, g2, g3, g4, g5, g6, g7, g8, g9, ?_⟩
      rcases g10 with ⟨k1, k2, k3⟩ | ⟨k1, k2, k3⟩
      · exact .inl ⟨k1, k3, fun p hp => by
          rcases List.mem_append.1 hp with hp | hp
          · exact hdone p hp
          · simp only [List.mem_singleton] at hp; subst hp; exact k2⟩
      · exact .inr ⟨k1, k3, _, hm, k2⟩
  obtain ⟨P, Γ', n0, ks⟩ := E
  simp only at hP; subst hP
  refine AWp.rangeFunc hf hac (by simp) (by simp) ?_
  rintro v h' (⟨rfl, hok⟩ | ⟨rfl, hbad⟩)
  · have := h1 hok
    unfold RangeK
    simpa [killAll] using this
  · have := h2 hbad
    unfold RangeK
    rw [← hlen]
    simpa [killAll] using this

/-- A loop over nexts whose rounds only look: it is left at the first one that will not do. -/
theorem range87 {E : Env} (hP : E.P = Try.prog) {tm : List AV} {h HD : List AObj} {Q : Exit → St → Prop} {f : Operand} {ps : List Nat} {assign body : Code} {c d : Nat} (q : Int) (ws : List (List UInt8)) (r : List UInt8) (hws : ws.length ≤ 1000)
    (ok : List UInt8 × Nat → Prop) (hf : ev tm f = .fn 87 [.ptr c 0, .ptr d 0]) (hc : h[c]? = some (codeB q ws)) (hd : h[d]? = some (.box [.p (.str r)])) (hlen : HD.length = h.length)
    (hround : ∀ p ∈ nextsP ws r, YC Try.prog h.length [.p (.str p.1), .p (.int .i64 (p.2 : Nat))] (h ++ [.lp tm ps assign body .ready]) []
      (fun v h'' => (v = .p (.bool true) ∧ ok p ∧ h'' = h ++ [.lp tm ps assign body .ready]) ∨ (v = .p (.bool false) ∧ ¬ ok p ∧ h'' = HD ++ [.lp tm ps assign body (.left .ret)])))
    (h1 : (∀ p ∈ nextsP ws r, ok p) → Q .normal ⟨tm, h ++ [.dead]⟩) (h2 : (∃ p ∈ nextsP ws r, ¬ ok p) → Q .ret ⟨tm, HD ++ [.dead]⟩) : AWp E none (.rangeFunc f ps.toArray assign body) Q ⟨tm, h⟩ := by
  have hcl : c < h.length := (List.getElem?_eq_some_iff.1 hc).1
  have hdl : d < h.length := (List.getElem?_eq_some_iff.1 hd).1
  have hac : AC Try.prog 87 [.yld h.length, .ptr c 0, .ptr d 0] (h ++ [.lp tm ps assign body .ready]) [] (fun _ h' => (h' = h ++ [.lp tm ps assign body .ready] ∧ ∀ p ∈ nextsP ws r, ok p) ∨ (h' = HD ++ [.lp tm ps assign body (.left .ret)] ∧ ∃ p ∈ nextsP ws r, ¬ ok p)) := by
    refine c87 (ks := []) (by simp) (by simp) (by simp) q ws r hws (J := fun done h' => h' = h ++ [.lp tm ps assign body .ready] ∧ ∀ p ∈ done, ok p) (D := fun h' => h' = HD ++ [.lp tm ps assign body (.left .ret)] ∧ ∃ p ∈ nextsP ws r, ¬ ok p) ⟨rfl, by simp⟩ ?_ ?_ ?_
    · rintro done h' ⟨rfl, _⟩
      exact ⟨by rw [List.getElem?_append_left hcl]; exact hc, by rw [List.getElem?_append_left hdl]; exact hd, Nat.le_refl _⟩
    · rintro h' ⟨rfl, _⟩; simp [hlen]
    · rintro done u n h' ⟨l, hl⟩ ⟨rfl, hdone⟩
      have hm : (u, n) ∈ nextsP ws r := by rw [← hl]; simp
      obtain hy := hround _ hm
      intro X I μ ob w cargs R hl2 ha hk
      obtain ⟨l', fn, tmps, a', b', e1, e2, e3⟩ := hy X I μ ob w cargs R hl2 ha hk
      refine ⟨l', fn, tmps, a', b', e1, e2, ?_⟩
      refine e3.mono ?_
      rintro e w' ⟨cv, v, h', I', μ', ob', g1, g2, g3, g4, g5, g6, g7, g8, g9, g10⟩
      refine ⟨cv, v, h', I', μ', ob', g1, g2, g3, g4, g5, g6, g7, g8, g9, ?_⟩
      rcases g10 with ⟨k1, k2, k3⟩ | ⟨k1, k2, k3⟩
      · exact .inl ⟨k1, k3, fun p hp => by
          rcases List.mem_append.1 hp with hp | hp
          · exact hdone p hp
          · simp only [List.mem_singleton] at hp; subst hp; exact k2⟩
      · exact .inr ⟨k1, k3, _, hm, k2⟩
  obtain ⟨P, Γ', n0, ks⟩ := E
  simp only at hP; subst hP
  refine AWp.rangeFunc hf hac (by simp) (by simp) ?_
  rintro v h' (⟨rfl, hok⟩ | ⟨rfl, hbad⟩)
  · have := h1 hok
    unfold RangeK
    simpa [killAll] using this
  · have := h2 hbad
    unfold RangeK
    rw [← hlen]
    simpa [killAll] using this


theorem weakH_dead : ∀ h : List AObj, weakH h (List.replicate h.length .dead)
  | [] => trivial
  | _ :: h => ⟨.inl rfl, weakH_dead h⟩

theorem nodup_sub_len : ∀ {l m : List Nat}, l.Nodup → l ⊆ m → l.length ≤ m.length
  | [], _, _, _ => Nat.zero_le _
  | a :: l, m, h, hs => by
    obtain ⟨h1, h2⟩ := List.nodup_cons.1 h
    have ha : a ∈ m := hs (by simp)
    have := nodup_sub_len (m := m.erase a) h2 (fun x hx => (List.mem_erase_of_ne (fun e : x = a => h1 (e ▸ hx))).2 (hs (by simp [hx])))
    rw [List.length_erase_of_mem ha] at this
    have := List.length_pos_of_mem ha
    simp only [List.length_cons]; omega

/-! ### The order of words -/
def ltW (a b : List UInt8) : Prop := a.length < b.length ∨ (a.length = b.length ∧ bLt a b = true)
theorem bLt_cons (x y : UInt8) (a b : List UInt8) : bLt (x :: a) (y :: b) = true ↔ x.toNat < y.toNat ∨ (x.toNat = y.toNat ∧ bLt a b = true) := by
  have e : bLt (x :: a) (y :: b) = (match Nat.blt x.toNat y.toNat with | true => true | false => (match Nat.beq x.toNat y.toNat with | true => bLt a b | false => false)) := rfl
  rw [e]
  cases h1 : Nat.blt x.toNat y.toNat
  · have h2 : ¬ x.toNat < y.toNat := fun h => by rw [(Nat.blt_eq (x := x.toNat)).symm.mp h] at h1; cases h1
    cases h3 : Nat.beq x.toNat y.toNat
    · have : ¬ x.toNat = y.toNat := fun h => by rw [h] at h3; simp at h3
      simp [h2, this]
    · have := Nat.eq_of_beq_eq_true h3
      simp [h2, this]
  · have := (Nat.blt_eq (x := x.toNat)).mp h1
    simp [this]
theorem bLt_trans : ∀ {a b c : List UInt8}, bLt a b = true → bLt b c = true → bLt a c = true
  | a, [], c, h, _ => by cases a <;> cases h
  | [], _ :: _, [], _, h => by cases h
  | [], _ :: _, _ :: _, _, _ => rfl
  | x :: a, y :: b, [], _, h => by cases h
  | x :: a, y :: b, z :: c, h1, h2 => by
    rw [bLt_cons] at h1 h2 ⊢
    rcases h1 with h1 | ⟨h1, h3⟩
    · rcases h2 with h2 | ⟨h2, _⟩
      · exact .inl (by omega)
      · exact .inl (by omega)
    · rcases h2 with h2 | ⟨h2, h4⟩
      · exact .inl (by omega)
      · exact .inr ⟨by omega, bLt_trans h3 h4⟩
theorem bLt_irrefl : ∀ a : List UInt8, bLt a a = false
  | [] => rfl
  | x :: a => by
    rw [Bool.eq_false_iff]
    intro h
    rw [bLt_cons] at h
    rcases h with h | ⟨_, h⟩
    · omega
    · rw [bLt_irrefl a] at h; cases h
theorem ltW_iff (a b : List UInt8) : cmpW a b < 0 ↔ ltW a b := by
  unfold cmpW ltW
  by_cases h1 : a.length < b.length
  · rw [if_pos h1]; simp [h1]
  · by_cases h2 : b.length < a.length
    · rw [if_neg h1, if_pos h2]; simp [h1]; omega
    · rw [if_neg h1, if_neg h2]
      have h3 : a.length = b.length := by omega
      unfold cmpB
      cases bLt a b
      · cases bEq a b <;> simp [h1]
      · simp [h3]
theorem ltW_trans {a b c : List UInt8} (h1 : ltW a b) (h2 : ltW b c) : ltW a c := by
  rcases h1 with h1 | ⟨h1, h3⟩ <;> rcases h2 with h2 | ⟨h2, h4⟩
  · exact .inl (by omega)
  · exact .inl (by omega)
  · exact .inl (by omega)
  · exact .inr ⟨by omega, bLt_trans h3 h4⟩
theorem ltW_irrefl (a : List UInt8) : ¬ ltW a a := by
  rintro (h | ⟨_, h⟩)
  · omega
  · rw [bLt_irrefl] at h; cases h

theorem firstNZ_zero {l : List Int} (h : firstNZ l = 0) : ∀ x ∈ l, x = 0 := by
  intro x hx
  unfold firstNZ at h
  cases hf : l.find? (fun x => decide (x ≠ 0)) with
  | none => simpa using List.find?_eq_none.1 hf x hx
  | some y =>
    have h1 := List.find?_some hf
    rw [hf] at h
    simp only [decide_eq_true_eq] at h1
    exact absurd h h1

/-- What a valid code is. -/
structure Valid (q : Int) (ws : List (List UInt8)) : Prop where
  q2 : 2 ≤ q
  q16 : q ≤ 16
  pos : 0 < ws.length
  len : ws.length ≤ 64
  ne : ∀ i, i < ws.length → ws.getD i [] ≠ []
  short : ∀ i, i < ws.length → (ws.getD i []).length ≤ 32
  word : ∀ i, i < ws.length → wordCheck q (ws.getD i []) = 0
  lt : ∀ i j, i < j → j < ws.length → ltW (ws.getD i []) (ws.getD j [])

theorem valid_of {q : Int} {ws : List (List UInt8)} (h : codeCheck q ws = 0) : Valid q ws := by
  unfold codeCheck at h
  split at h
  · omega
  rename_i h1
  split at h
  · omega
  rename_i h2
  split at h
  · omega
  rename_i h3
  have h4 : ∀ i, i < ws.length → wordErr q ws i = 0 := fun i hi => firstNZ_zero h _ (List.mem_map.2 ⟨i, List.mem_range.2 hi, rfl⟩)
  have h5 : ∀ i, i < ws.length → ws.getD i [] ≠ [] ∧ ¬ 32 < (ws.getD i []).length ∧ wordCheck q (ws.getD i []) = 0 ∧ ¬ (0 < i ∧ 0 ≤ cmpW (ws.getD (i - 1) []) (ws.getD i [])) := fun i hi => by
    have := h4 i hi
    unfold wordErr at this
    simp only at this
    split at this
    · omega
    rename_i g1
    split at this
    · omega
    rename_i g2
    split at this
    · omega
    rename_i g3
    split at this
    · omega
    rename_i g4
    exact ⟨g1, g2, by omega, g4⟩
  have step : ∀ i, i + 1 < ws.length → ltW (ws.getD i []) (ws.getD (i + 1) []) := fun i hi => by
    have := (h5 (i + 1) hi).2.2.2
    rw [← ltW_iff]
    simp only [Nat.add_sub_cancel] at this
    omega
  refine ⟨by omega, by omega, by omega, by omega, fun i hi => (h5 i hi).1, fun i hi => by have := (h5 i hi).2.1; omega, fun i hi => (h5 i hi).2.2.1, ?_⟩
  intro i j hij hj
  obtain ⟨d, rfl⟩ : ∃ d, j = i + 1 + d := ⟨j - i - 1, by omega⟩
  clear hij
  induction d with
  | zero => exact step i hj
  | succ d ih => exact ltW_trans (ih (by omega)) (step (i + 1 + d) hj)

theorem distinct_of {q : Int} {ws : List (List UInt8)} (h : codeCheck q ws = 0) : ∀ i j, i < ws.length → j < ws.length → ws.getD i [] = ws.getD j [] → i = j := by
  intro i j hi hj e
  have v := (valid_of h).lt
  rcases Nat.lt_trichotomy i j with h1 | h1 | h1
  · exact absurd (e ▸ v i j h1 hj) (ltW_irrefl _)
  · exact h1
  · exact absurd (e ▸ v j i h1 hi) (ltW_irrefl _)

/-- The seconds of the pairs are the reference's first rests, if the words are different. -/
theorem pairs_first {ws : List (List UInt8)} (hd : ∀ i j, i < ws.length → j < ws.length → ws.getD i [] = ws.getD j [] → i = j) (l : List (List UInt8)) : (∀ p ∈ pairs ws, p.2 ∈ l) ↔ ∀ u ∈ firstS ws, u ∈ l := by
  have get : ∀ i, i < ws.length → ∀ (h : i < ws.length), ws.getD i [] = ws[i] := fun i hi h => by rw [List.getD_eq_getElem?_getD, List.getElem?_eq_getElem h, Option.getD_some]
  constructor
  · intro h u hu
    unfold firstS firstN restsOf at hu
    obtain ⟨i, hi, hu⟩ := List.mem_flatMap.1 hu
    obtain ⟨k, hk, hu⟩ := List.mem_flatMap.1 hu
    have hi := List.mem_range.1 hi
    have hk := List.mem_range.1 hk
    unfold restAt at hu
    split at hu
    · rename_i hc
      simp only [List.mem_singleton] at hu; subst hu
      refine h (ws.getD i [], _) ?_
      unfold pairs pairsN pairsK
      refine List.mem_flatMap.2 ⟨k, List.mem_range.2 hk, List.mem_flatMap.2 ⟨ws.getD i [], ?_, ?_⟩⟩
      · rw [List.take_length, get i hi hi]; exact List.getElem_mem hi
      · unfold pairAt
        have hne : List.drop (ws.getD k []).length (ws.getD i []) ≠ [] := fun e => by
          refine hc.1 (hd i k hi hk ?_)
          have h1 := List.isPrefixOf_iff_prefix.1 hc.2
          obtain ⟨t, ht⟩ := h1
          have : t = [] := by rw [← ht] at e; simpa using e
          rw [this, List.append_nil] at ht; exact ht.symm
        rw [if_pos ⟨hc.2, hne⟩]
        exact List.mem_singleton.2 rfl
    · cases hu
  · intro h p hp
    unfold pairs pairsN pairsK at hp
    obtain ⟨k, hk, hp⟩ := List.mem_flatMap.1 hp
    obtain ⟨y, hy, hp⟩ := List.mem_flatMap.1 hp
    have hk := List.mem_range.1 hk
    rw [List.take_length] at hy
    obtain ⟨i, hi, rfl⟩ := List.getElem_of_mem hy
    unfold pairAt at hp
    split at hp
    · rename_i hc
      simp only [List.mem_singleton] at hp; subst hp
      refine h _ ?_
      unfold firstS firstN restsOf
      refine List.mem_flatMap.2 ⟨i, List.mem_range.2 hi, List.mem_flatMap.2 ⟨k, List.mem_range.2 hk, ?_⟩⟩
      unfold restAt
      have hne : i ≠ k := fun e => hc.2 (by subst e; rw [get i hi hi]; simp)
      rw [get i hi hi, if_pos ⟨hne, hc.1⟩]
      exact List.mem_singleton.2 rfl
    · cases hp
theorem nexts_next {ws : List (List UInt8)} (r : List UInt8) (l : List (List UInt8)) : (∀ p ∈ nextsP ws r, p.1 ∈ l) ↔ ∀ u ∈ nextS ws r, u ∈ l := by
  have e : nextS ws r = (nextsP ws r).map (·.1) := by
    unfold nextS nextsP
    rw [List.map_flatMap]
    congr 1; funext x
    unfold nextAt nextP
    split
    · rfl
    · split <;> rfl
  rw [e]
  simp only [List.mem_map]
  exact ⟨fun h u ⟨p, hp, e⟩ => e ▸ h p hp, fun h p hp => h _ ⟨p, hp, rfl⟩⟩

theorem t23 (q : Int) (ws l : List (List UInt8)) (hl : l.length ≤ 1000) : PFn Try.prog 23 [codeV q ws, .sl (l.map .str)] [.int .i64 (proofCheck q ws l)] := by
  refine PFn.of_body hΓ Try.func23 (by kernel_rfl) rfl (AWp.of_awpD [] hΓ hmix (by kernel_rfl) ?_)
  simp +contextual -implicitDefEqProofs only [codeV, Try.ntmps23, Try.results23, Nat.reduceAdd, Nat.reduceSub, go_sem]
  refine callK_fn (t45 q ws) (.still rfl) ?_
  by_cases h : codeCheck q ws = 0
  rotate_left
  · simp -implicitDefEqProofs only [h, go_sem]
    unfold proofCheck; rw [if_pos h]
  have hw : ws.length ≤ 64 := by
    unfold codeCheck at h
    split at h
    · omega
    · split at h
      · omega
      · split at h
        · omega
        · omega
  rw [h]
  simp -implicitDefEqProofs only [go_sem]
  have h1' : ¬ 65536 < l.length := by omega
  have h1 : ¬ 65536 < (l.length : Int) := by omega
  refine ⟨fun h => absurd h h1, fun _ => ?_⟩
  refine AWp.loopI (fun k : Nat => ⟨mkF 55 [(1, .p (.sl (l.map .str))), (2, .ptr 0 0), (4, .ptr 1 0), (5, .ptr 3 0), (21, .p (.sl (l.map .str))), (22, .p (.int .i64 l.length)), (23, .p (.int .i64 k))],
      [codeB q ws, .box [.p (.int .i64 0)], .mp (setM (l.take k)), .box [.map 2]]⟩)
    (fun k => k ≤ l.length) (fun k => l.length - k) 0 (by simp [go_sem, codeB, setM, keysOf]) (by simp) ?_
  rintro k hk
  refine AWp.of_awpD [] hΓ hmix (by kernel_rfl) ?_
  simp +contextual -implicitDefEqProofs only [getD_map_lt, ↓reduceIte, codeB, setM_snoc, setM_get, go_sem]
  refine ⟨fun hlt => ⟨by simp only [InR]; omega, k + 1, ⟨by simp, by rw [List.take_succ_eq_append_getElem hlt]⟩, hlt, by omega⟩, fun hge => ?_⟩
  have hkl : k = l.length := by omega
  subst hkl
  rw [List.take_length]
  refine ⟨fun he => (proofCheck_23 h h1' (fun e => e.1 he)).symm, fun hne => ?_⟩
  refine callK_ac (c52 q ws) (by simp) ?_
  rintro v h' ⟨rfl, rfl⟩
  simp +contextual -implicitDefEqProofs only [killAll, List.foldl, codeB, go_sem]
  refine range86 rfl q ws (by omega) (fun p => p.2 ∈ l) (c := 4) (HD := [codeB q ws, .box [.p (.int .i64 23)], .mp (setM l), .box [.map 2], codeB q ws]) rfl rfl rfl ?_ ?_ ?_
  · intro p hp
    refine YC.of_body (Γ := Γ) rfl rfl (by simp) ?_
    intro r
    refine AWp.of_awpD [] hΓ hmix (by kernel_rfl) ?_
    simp +contextual -implicitDefEqProofs only [setP, List.cons_append, List.nil_append, go_sem]
    unfold BeginE
    refine ⟨rfl, ?_⟩
    simp +contextual -implicitDefEqProofs only [List.length_cons, List.length_nil, List.cons_append, List.nil_append, go_sem]
    refine AWp.of_awpD [] hΓ hmix (by kernel_rfl) ?_
    simp +contextual -implicitDefEqProofs only [setM_get, go_sem]
    exact ⟨fun hm => ⟨6, by simp, .inl rfl, .inl ⟨rfl, rfl⟩⟩, fun hm => ⟨6, by simp, .inl rfl, .inr ⟨rfl, rfl⟩⟩⟩
  · intro hall
    simp +contextual -implicitDefEqProofs only [List.cons_append, List.nil_append, codeB, go_sem]
    refine ⟨⟨_, _, rfl, rfl⟩, ?_⟩
    have hes : ∀ i, i < (setM l).length → ∃ hi : i < (keysOf l).length, ((setM l).getD i default).1 = (keysOf l)[i] ∧ (keysOf l)[i] ∈ l := fun i hi => by
      have hi' : i < (keysOf l).length := by simpa [setM] using hi
      exact ⟨hi', by unfold setM; rw [List.getD_eq_getElem?_getD, List.getElem?_map, List.getElem?_eq_getElem hi']; rfl, (mem_keysOf l _).1 (List.getElem_mem hi')⟩
    refine AWp.loopI (fun p : List Nat × Nat => ⟨mkF 55 [(1, .p (.sl (l.map .str))), (2, .ptr 0 0), (4, .ptr 1 0), (5, .ptr 3 0), (41, .ptr 6 0)],
        codeB q ws :: .box [.p (.int .i64 0)] :: .mp (setM l) :: .box [.map 2] :: .dead :: .dead :: .it 2 (setM l).length p.1 (setM l).length :: List.replicate p.2 .dead⟩)
      (fun p => p.1.Nodup ∧ (∀ i ∈ p.1, i < (setM l).length) ∧ ∀ i ∈ p.1, ∀ u ∈ nextS ws ((setM l).getD i default).1, u ∈ l) (fun p => (setM l).length - p.1.length) ([], 0) (by simp [go_sem, codeB]) ⟨List.nodup_nil, by simp, by simp⟩ ?_
    rintro ⟨seen, m⟩ ⟨hnd, hlt, hok⟩
    simp only at hnd hlt hok
    refine AWp.of_awpD [] hΓ hmix (by kernel_rfl) ?_
    simp +contextual -implicitDefEqProofs only [nxtK, getD_map_lt, ↓reduceIte, codeB, go_sem]
    refine ⟨fun hall2 => ?_, fun i hi hni => ?_⟩
    · refine (proofCheck_0 h h1' hne ?_).symm
      unfold needN
      rw [List.take_length]
      intro u hu
      rcases List.mem_append.1 hu with hu | hu
      · exact (pairs_first (distinct_of h) l).1 hall u hu
      · obtain ⟨r, hr, hu⟩ := List.mem_flatMap.1 hu
        obtain ⟨i, hi, rfl⟩ := List.getElem_of_mem ((mem_keysOf l r).2 hr)
        have hi2 : i < (setM l).length := by simpa [setM] using hi
        obtain ⟨hi', e1, _⟩ := hes i hi2
        exact hok i (hall2 i hi2) u (by rw [e1]; exact hu)
    · obtain ⟨hi', e1, hmem⟩ := hes i hi
      generalize hT : List.replicate m AObj.dead = T
      simp +contextual -implicitDefEqProofs only [entK, List.getLast?_concat, hi, e1, ↓reduceIte, codeB, go_sem]
      refine callK_ac (c53 q ws (keysOf l)[i]) (by simp) ?_
      rintro v h' ⟨rfl, rfl⟩
      simp +contextual -implicitDefEqProofs only [killAll, List.foldl, codeB, List.cons_append, List.nil_append, go_sem]
      refine range87 rfl q ws (keysOf l)[i] (by omega) (fun p => p.1 ∈ l) (HD := .box [.p (.int .i64 q), .p (.sl (ws.map .str))] :: .box [.p (.int .i64 23)] :: .mp (setM l) :: .box [.map 2] :: .dead :: .dead :: .it 2 (setM l).length (seen ++ [i]) (setM l).length ::
        (T ++ [.box [.p (.int .i64 q), .p (.sl (ws.map .str))], .box [.p (.str (keysOf l)[i])]])) rfl (by simp [codeB]) (by simp) (by simp) ?_ ?_ ?_
      · intro p hp
        obtain ⟨HD, hHD⟩ : ∃ HD : List AObj, HD = .box [.p (.int .i64 q), .p (.sl (ws.map .str))] :: .box [.p (.int .i64 23)] :: .mp (setM l) :: .box [.map 2] :: .dead :: .dead :: .it 2 (setM l).length (seen ++ [i]) (setM l).length ::
          (T ++ [.box [.p (.int .i64 q), .p (.sl (ws.map .str))], .box [.p (.str (keysOf l)[i])]]) := ⟨_, rfl⟩
        obtain ⟨H, hH⟩ : ∃ H : List AObj, H = .box [.p (.int .i64 q), .p (.sl (ws.map .str))] :: .box [.p (.int .i64 0)] :: .mp (setM l) :: .box [.map 2] :: .dead :: .dead :: .it 2 (setM l).length (seen ++ [i]) (setM l).length ::
          (T ++ [.box [.p (.int .i64 q), .p (.sl (ws.map .str))], .box [.p (.str (keysOf l)[i])]]) := ⟨_, rfl⟩
        rw [← hHD, ← hH]
        have f1 : ∀ x, (H ++ [x])[1]? = some (.box [.p (.int .i64 0)]) := fun x => by rw [hH]; rfl
        have f2 : ∀ x, (H ++ [x])[2]? = some (.mp (setM l)) := fun x => by rw [hH]; rfl
        have f3 : ∀ x, (H ++ [x])[3]? = some (.box [.map 2]) := fun x => by rw [hH]; rfl
        have fs : ∀ x, (H ++ [x]).set 1 (.box [.p (.int .i64 23)]) = HD ++ [x] := fun x => by rw [hH, hHD]; rfl
        have fl : ∀ x : AObj, (H ++ [x])[H.length]? = some x := fun x => by simp
        have ft : ∀ x y : AObj, (H ++ [x]).set H.length y = H ++ [y] := fun x y => by simp
        have fL : HD.length = H.length := by rw [hH, hHD]; rfl
        have gl : ∀ x : AObj, (HD ++ [x])[H.length]? = some x := fun x => by rw [← fL]; simp
        have gt : ∀ x y : AObj, (HD ++ [x]).set H.length y = HD ++ [y] := fun x y => by rw [← fL]; simp
        clear hH hHD
        refine YC.of_body (Γ := Γ) (fl _) rfl (by simp) ?_
        intro r
        refine AWp.of_awpD [] hΓ hmix (by kernel_rfl) ?_
        simp +contextual -implicitDefEqProofs only [setP, go_sem]
        unfold BeginE
        refine ⟨rfl, ?_⟩
        simp only [fl, ft]
        refine AWp.of_awpD [] hΓ hmix (by kernel_rfl) ?_
        simp +contextual -implicitDefEqProofs only [f1, f2, f3, fs, setM_get, go_sem]
        refine ⟨fun hm => ?_, fun hm => ?_⟩
        · unfold RoundE
          simp only [fl, ft]
          exact ⟨_, by simp, .inl rfl, .inl ⟨trivial, List.take_length⟩⟩
        · unfold RoundE
          simp only [gl, gt]
          exact ⟨_, by simp [fL], .inl rfl, .inr ⟨trivial, List.take_length⟩⟩
      · intro hall2
        simp +contextual -implicitDefEqProofs only [List.cons_append, List.append_assoc, List.nil_append, go_sem]
        refine ⟨(seen ++ [i], m + 3), ⟨by simp, ?_⟩, ⟨?_, ?_, ?_⟩, ?_⟩
        · have e3 : List.replicate (m + 3) AObj.dead = List.replicate (T ++ [AObj.box [.p (.int .i64 q), .p (.sl (ws.map .str))], .box [.p (.str (keysOf l)[i])], .dead]).length .dead := by rw [← hT]; simp
          simp only [e3]
          exact weakH_dead _
        · exact List.nodup_append.2 ⟨hnd, by simp, fun a ha b hb e => by simp only [List.mem_singleton] at hb; subst hb; subst e; exact hni ha⟩
        · intro j hj
          rcases List.mem_append.1 hj with hj | hj
          · exact hlt j hj
          · simp only [List.mem_singleton] at hj; subst hj; exact hi
        · intro j hj u hu
          rcases List.mem_append.1 hj with hj | hj
          · exact hok j hj u hu
          · simp only [List.mem_singleton] at hj; subst hj
            rw [e1] at hu
            exact (nexts_next _ l).1 hall2 u hu
        · have : (seen ++ [i]).length ≤ (setM l).length := by
            have hsub : seen ++ [i] ⊆ List.range (setM l).length := fun j hj => by
              rcases List.mem_append.1 hj with hj | hj
              · exact List.mem_range.2 (hlt j hj)
              · simp only [List.mem_singleton] at hj; subst hj; exact List.mem_range.2 hi
            have hnd2 : (seen ++ [i]).Nodup := List.nodup_append.2 ⟨hnd, by simp, fun a ha b hb e => by simp only [List.mem_singleton] at hb; subst hb; subst e; exact hni ha⟩
            have := nodup_sub_len hnd2 hsub
            simpa using this
          simp only [List.length_append, List.length_singleton] at this ⊢
          omega
      · rintro ⟨p, hp, hbad⟩
        simp +contextual -implicitDefEqProofs only [List.cons_append, List.append_assoc, List.nil_append, go_sem]
        refine (proofCheck_23 h h1' (fun e => hbad ?_)).symm
        refine (nexts_next _ l).2 (fun u hu => e.2 u ?_) p hp
        unfold needN
        rw [List.take_length]
        exact List.mem_append.2 (.inr (List.mem_flatMap.2 ⟨_, hmem, hu⟩))
  · rintro ⟨p, hp, hbad⟩
    simp +contextual -implicitDefEqProofs only [List.cons_append, List.nil_append, codeB, go_sem]
    refine (proofCheck_23 h h1' (fun e => hbad ?_)).symm
    refine (pairs_first (distinct_of h) l).2 (fun u hu => e.2 u ?_) p hp
    unfold needN
    exact List.mem_append.2 (.inl hu)
end Go.Proofs.Ytpancbdaigaheaa
end

section
namespace Go.Proofs.Ytpancbdaigaheaa
open Go Go.AM
set_option maxRecDepth 100000
set_option linter.unusedSimpArgs false

/-- How residuals' memory lies when these were added. -/
def heapR (q : Int) (ws done : List (List UInt8)) (rk : RK) (T : List AObj) : List AObj :=
  codeB q ws :: .mp (setM done) :: .box [.map 1] :: .box [.own 6 (keysOf done).length] :: .box [.fn 82 [.ptr 2 0, .ptr 3 0]] :: codeB q ws :: .row 9 1 ((keysOf done).map .str) rk :: T

theorem keysOf_old {l : List (List UInt8)} {k : List UInt8} (h : k ∈ l) : keysOf (l ++ [k]) = keysOf l := by
  rw [keysOf_snoc]; unfold addK; rw [if_pos ((mem_keysOf l k).2 h)]
theorem keysOf_new {l : List (List UInt8)} {k : List UInt8} (h : k ∉ l) : keysOf (l ++ [k]) = keysOf l ++ [k] := by
  rw [keysOf_snoc]; unfold addK; rw [if_neg (fun e => h ((mem_keysOf l k).1 e))]

theorem c82 (q : Int) (ws done : List (List UInt8)) (rk : RK) (T : List AObj) (r : List UInt8) (hrk : rk ≠ .raw ∧ (done ≠ [] → rk = .own)) (hT : T.map (AObj.kill 6) = T) (hlen : (keysOf done).length ≤ 1000000) :
    AC Try.prog 82 [.p (.str r), .ptr 2 0, .ptr 3 0] (heapR q ws done rk T) [6] (fun v h' => v = .tup [] ∧ ∃ rk', (rk' ≠ .raw ∧ (done ++ [r] ≠ [] → rk' = .own)) ∧ h' = heapR q ws (done ++ [r]) rk' T) := by
  refine AC.of_bodyE hΓ Try.func82 (by kernel_rfl) rfl (AWp.mono (Q := fun e st => AM.Ends e ∧ ∃ rk', (rk' ≠ .raw ∧ (done ++ [r] ≠ [] → rk' = .own)) ∧ st.h = heapR q ws (done ++ [r]) rk' T) ?_ ?_)
  rotate_left
  · rintro e st ⟨he, rk', h1, h2⟩
    refine ⟨he, st, Less.refl st, ?_⟩
    have h3 : (heapR q ws done rk T).length = st.h.length := by rw [h2]; simp [heapR]
    refine ⟨st.h.length, by omega, .inl rfl, ?_⟩
    rw [List.take_length]
    exact ⟨rfl, rk', h1, h2⟩
  refine AWp.of_awpD [] hΓ hmix (by kernel_rfl) ?_
  unfold heapR
  simp -implicitDefEqProofs only [Try.ntmps82, Nat.reduceAdd, Nat.reduceSub, codeB, setM_get, go_sem]
  by_cases hm : r ∈ done
  · simp -implicitDefEqProofs only [hm, go_sem]
    refine ⟨rk, ⟨hrk.1, fun _ => hrk.2 (fun e => by rw [e] at hm; cases hm)⟩, ?_⟩
    have e1 : setM (done ++ [r]) = setM done := by unfold setM; rw [keysOf_old hm]
    rw [e1, keysOf_old hm]
    simp
  · simp -implicitDefEqProofs only [hm, setM_snoc, hT, go_sem]
    rw [keysOf_new hm]
    exact ⟨⟨by simp [sizeOK, PV.cells], by omega⟩, ⟨by simp [sizeOK, PV.cells], by simp [oneOK, PV.cells, PV.isAgg]⟩, ⟨hrk.1, .inr (by simp), by omega, by omega⟩, RK.own, ⟨by simp, fun _ => rfl⟩, by simp⟩
end Go.Proofs.Ytpancbdaigaheaa
end

section
namespace Go.Proofs.Ytpancbdaigaheaa
open Go Go.AM
set_option maxRecDepth 100000
set_option linter.unusedSimpArgs false

theorem cmpK_eq (a b : List UInt8) : cmpK a b = cmpW a b := by
  unfold cmpK cmpW
  by_cases h1 : a.length < b.length
  · rw [if_pos h1, if_pos (show (a.length : Int) < b.length by omega)]; rfl
  · by_cases h2 : b.length < a.length
    · rw [if_neg h1, if_pos h2, if_neg (show ¬ (a.length : Int) < b.length by omega), if_pos (show (b.length : Int) < a.length by omega)]; rfl
    · rw [if_neg h1, if_neg h2, if_neg (show ¬ (a.length : Int) < b.length by omega), if_neg (show ¬ (b.length : Int) < a.length by omega), if_pos rfl, cmpB_eq]

theorem bLt_total : ∀ {a b : List UInt8}, bLt a b = false → bLt b a = false → a = b
  | [], [], _, _ => rfl
  | [], _ :: _, h, _ => by cases h
  | _ :: _, [], _, h => by cases h
  | x :: a, y :: b, h1, h2 => by
    have n1 := mt (bLt_cons x y a b).2 (by rw [h1]; simp)
    have n2 := mt (bLt_cons y x b a).2 (by rw [h2]; simp)
    simp only [not_or, not_and, Bool.not_eq_true] at n1 n2
    have e : x.toNat = y.toNat := by omega
    rw [UInt8.toNat_inj.1 e, bLt_total (n1.2 e) (n2.2 e.symm)]
theorem ltW_total {a b : List UInt8} (h1 : ¬ ltW a b) (h2 : ¬ ltW b a) : a = b := by
  unfold ltW at h1 h2
  simp only [not_or, not_and, Bool.not_eq_true] at h1 h2
  have e : a.length = b.length := by omega
  exact bLt_total (h1.2 e) (h2.2 e.symm)

theorem ltOf_iff (a b : List UInt8) : ltOf cmpK a b = true ↔ ltW a b := by
  unfold ltOf
  rw [decide_eq_true_eq, cmpK_eq]; exact ltW_iff a b
theorem ltOf_false (a b : List UInt8) : ltOf cmpK a b = false ↔ ¬ ltW a b := by
  rw [← ltOf_iff]; simp

theorem swoW : Sort.SWO (ltOf cmpK) where
  irrefl x := (ltOf_false x x).2 (ltW_irrefl x)
  trans x y z h1 h2 := (ltOf_iff x z).2 (ltW_trans ((ltOf_iff x y).1 h1) ((ltOf_iff y z).1 h2))
  ntrans x y z h1 h2 := by
    rw [ltOf_false] at *
    intro h
    by_cases hyz : ltW z y
    · exact h1 (ltW_trans h hyz)
    · have := ltW_total h2 hyz
      subst this; exact h1 h

/-- A word as a value. -/
def encW (x : List UInt8) : Value := .string ⟨x.toArray⟩
def sortW (l : List (List UInt8)) : List (List UInt8) := l.mergeSort fun x y => !(ltOf cmpK) y x

theorem sort_calls (d : List (List UInt8)) (blk off cap : Nat) (w : World) (hH : Sort.Holds encW w blk off d.toArray) (hblk : blk < w.heap.size) (hsz : d.length < 4611686018427387904) :
    Calls Try.prog 83 #[.slice (some ⟨blk, off, none⟩) d.length cap, .func (.func 84) #[] #[]] w fun e w' => e = .returned (.tuple #[]) ∧ ∃ n os, w' = sortWorld encW w blk off n (sortW d).toArray os := by
  have eg : ∀ args w, (callFunc 84 args).run Try.prog w = .ok (.enter 84 args) w := entersF_of Try.func84 (by kernel_rfl) rfl
  have hcmp : CmpLays1 Try.prog 84 #[] encW cmpK blk off d.toArray.size w := fun m os dk _ x y => k84 ⟨x.toArray⟩ ⟨y.toArray⟩ _
  have h := Any.slices_SortFunc_total Try.sortS encW (fun _ => rfl) cmpK swoW 84 #[] blk off cap d.toArray w eg hcmp hH hblk (by simpa using hsz) (fun x y h1 h2 => ltW_total ((ltOf_false x y).1 h1) ((ltOf_false y x).1 h2))
  exact h
end Go.Proofs.Ytpancbdaigaheaa
end

section
namespace Go.Proofs.Ytpancbdaigaheaa
open Go Go.AM Go.RowKit
set_option maxRecDepth 100000
set_option linter.unusedSimpArgs false

theorem flats_str (l : List (List UInt8)) : flats (l.map .str) = l.map .str := by
  induction l with
  | nil => rfl
  | cons x l ih =>
    have e : flats ((x :: l).map PV.str) = PV.str x :: flats (l.map .str) := rfl
    rw [e, ih]; rfl
theorem sortW_length (l : List (List UInt8)) : (sortW l).length = l.length := by unfold sortW; simp
theorem encW_of {I : Nat → Prop} {w : World} {x : List UInt8} {v : Value} (h : PR I w (.str x) v) : v = encW x := by
  cases h with | str s => rfl
theorem pr_encW {I : Nat → Prop} {w : World} (x : List UInt8) : PR I w (.str x) (encW x) := .mkStr (by simp)

/-- What a sort of a row of words by some function does to the world. -/
def SortsBy (g : FuncId) : Prop := ∀ (d : List (List UInt8)) (blk off cap : Nat) (w : World), Sort.Holds encW w blk off d.toArray → blk < w.heap.size → d.length < 4611686018427387904 →
    Calls Try.prog 83 #[.slice (some ⟨blk, off, none⟩) d.length cap, .func (.func g) #[] #[]] w fun e w' => e = .returned (.tuple #[]) ∧ ∃ n os, w' = sortWorld encW w blk off n (sortW d).toArray os

theorem c83_of {g : FuncId} (hs : SortsBy g) {h : List AObj} {b : Nat} (l : List (List UInt8)) (hb : h[b]? = some (.row 9 1 (l.map .str) .own)) (hsz : l.length ≤ 1000000) :
    AC Try.prog 83 [.own b l.length, .fn g []] h [] (fun v h' => v = .tup [] ∧ h' = h.set b (.row 9 1 ((sortW l).map .str) .own)) := by
  refine ⟨entersF_of Try.func83 (by kernel_rfl) rfl, fun X I μ ob w cargs R hlen hargs _ => ?_⟩
  obtain ⟨a0, f0, rfl⟩ : ∃ a f, cargs = [a, f] := by
    match cargs, hlen with
    | [a, f], _ => exact ⟨a, f, rfl⟩
  have g0 := hargs 0 (by simp)
  have g1 := hargs 1 (by simp)
  simp only [List.getD_cons_zero, List.getD_cons_succ] at g0 g1
  obtain ⟨a, c, rfl, hbn, hbm⟩ := g0.own_inv
  obtain ⟨cs, rfl, hcl, _⟩ := g1.fn_inv
  have hcs : cs = [] := by simpa using hcl.symm
  subst hcs
  obtain ⟨hall, hrow⟩ := R.objs _ _ hb
  rcases hrow with ⟨g, hg, cap, cur, fr, vs, e1, e2, e3, e4, e5, e6, e7, e8, e9, e10⟩ | ⟨hk, _⟩
  rotate_left
  · cases hk
  rw [hbm] at e1
  simp only [List.length_map] at e1 e5 e7 e8 e9 e10
  injection e1 with e1a _ e1c
  subst e1a e1c
  have hfr := e3 rfl
  subst hfr
  have hgl := (R.own b g hg).2.2
  have cell : ∀ j (hj : j < l.length), cur[j]? = some (encW l[j]) := fun j hj => by
    have h1 := e10 j (by omega)
    rw [flats_str, getD_map_lt _ _ _ _ hj] at h1
    have h2 := encW_of h1
    have h3 : cur.toList[j]? = some (vs.getD j undef) := by
      have : vs[j]? = some (vs.getD j undef) := by rw [List.getD_eq_getElem?_getD, List.getElem?_eq_getElem (by omega)]; rfl
      rw [← e8, List.getElem?_take_of_lt (by omega)] at this
      exact this.trans (by rw [e8])
    rw [Array.getElem?_toList, h2] at h3
    exact h3
  have hH : Sort.Holds encW w g 0 l.toArray := fun j hj => by
    have hj' : j < l.length := by simpa using hj
    refine ⟨?_, ?_⟩
    · unfold World.cell?
      simp only [Nat.zero_add, e2]
      rw [cell j hj', getElem!_pos l.toArray j hj]
      simp
    · unfold World.frozen?
      simp only [e2]
      simp
  have hc := hs l g 0 c w hH hgl (by omega)
  refine Calls.mono (P := Try.prog) hc ?_
  rintro e w' ⟨rfl, n, os, rfl⟩
  have hsl : (sortW l).toArray.size = l.length := by simp [sortW_length]
  -- the world that is left
  have hnew : (sortWorld encW w g 0 n (sortW l).toArray os).heap[g]? = some (.cells (Sort.putCells encW 0 (sortW l).toArray cur) 9 (0, 0)) := by
    unfold sortWorld
    rw [Sort.heap_grow_old _ _ (by simp [Sort.ahead]; exact hgl)]
    show (w.heap.modify g _)[g]? = _
    rw [Array.getElem?_modify, if_pos rfl, e2]; rfl
  have hold : ∀ k, k < w.heap.size → k ≠ g → (sortWorld encW w g 0 n (sortW l).toArray os).heap[k]? = w.heap[k]? := fun k hk hne => by
    unfold sortWorld
    rw [Sort.heap_grow_old _ _ (by simp [Sort.ahead]; exact hk)]
    show (w.heap.modify g _)[k]? = _
    rw [Array.getElem?_modify, if_neg (fun e => hne e.symm)]
  have hgrow : w.grownBy (sortWorld encW w g 0 n (sortW l).toArray os) (some g) := ⟨rfl, rfl, rfl, by simp [sortWorld, Sort.ahead], fun k hk hk2 => hold k hk (fun e => hk2 (by rw [e]))⟩
  have hput : ∀ j, j < l.length → (Sort.putCells encW 0 (sortW l).toArray cur)[j]? = some (encW ((sortW l).getD j [])) := fun j hj => by
    unfold Sort.putCells
    rw [Array.getElem?_mapIdx, cell j hj]
    simp only [Option.map_some]
    rw [if_pos ⟨Nat.zero_le _, by rw [hsl]; omega⟩, Nat.sub_zero, getElem!_pos (sortW l).toArray j (by rw [hsl]; exact hj), List.getD_eq_getElem?_getD, List.getElem?_eq_getElem (by rw [sortW_length]; exact hj)]
    simp
  have hps : (Sort.putCells encW 0 (sortW l).toArray cur).size = cur.size := by unfold Sort.putCells; rw [Array.size_mapIdx]
  have hpl : ((Sort.putCells encW 0 (sortW l).toArray cur).toList.take l.length).length = l.length := by
    have h1 : (Sort.putCells encW 0 (sortW l).toArray cur).toList.length = cur.size := by simpa using hps
    rw [List.length_take, h1]; omega
  have R2 := R.write (b0 := b) (g0 := g) (o := .row 9 1 ((sortW l).map .str) .own) hbn hg hgrow ⟨fun x hx => by
      obtain ⟨u, _, rfl⟩ := List.mem_map.1 hx; rfl, .inl ⟨g, hg, c, Sort.putCells encW 0 (sortW l).toArray cur, (0, 0), (Sort.putCells encW 0 (sortW l).toArray cur).toList.take l.length, by rw [hbm, List.length_map, sortW_length], hnew, fun _ => rfl, by simp,
        by rw [List.length_map, sortW_length]; exact e5, e6, by rw [hps]; exact e7, by rw [List.length_map, sortW_length, Nat.mul_one], by
          rw [List.length_map, sortW_length, hpl, Nat.mul_one], fun j hj => ?_⟩⟩
  · exact ⟨_, .tup [], _, I, μ, ob, rfl, R2, .tup [] [] rfl (by simp), fun _ h => h, fun _ _ _ => rfl, by simp, fun g hg => .inl hg, fun b g hb => .inl ⟨b, hb⟩, fun k hk hno => hold k hk (fun e => hno b (by rw [e]; exact hg)), rfl, rfl⟩
  · rw [List.length_map, sortW_length, Nat.mul_one] at hj
    rw [flats_str, getD_map_lt _ _ _ _ (by rw [sortW_length]; exact hj)]
    have : ((Sort.putCells encW 0 (sortW l).toArray cur).toList.take l.length).getD j undef = encW ((sortW l).getD j []) := by
      rw [List.getD_eq_getElem?_getD, List.getElem?_take_of_lt hj, Array.getElem?_toList, hput j hj]; rfl
    rw [this, List.getD_eq_getElem?_getD, List.getElem?_eq_getElem (by rw [sortW_length]; exact hj)]
    exact pr_encW _

theorem c83 {h : List AObj} {b : Nat} (l : List (List UInt8)) (hb : h[b]? = some (.row 9 1 (l.map .str) .own)) (hsz : l.length ≤ 1000000) :
    AC Try.prog 83 [.own b l.length, .fn 84 []] h [] (fun v h' => v = .tup [] ∧ h' = h.set b (.row 9 1 ((sortW l).map .str) .own)) := c83_of sort_calls l hb hsz

/-- At no element: nothing turns, whosever the row is. -/
theorem c83n {g : FuncId} {h : List AObj} {b : Nat} : AC Try.prog 83 [.own b 0, .fn g []] h [] (fun v h' => v = .tup [] ∧ h' = h) := by
  refine ⟨entersF_of Try.func83 (by kernel_rfl) rfl, fun X I μ ob w cargs R hlen hargs _ => ?_⟩
  obtain ⟨a0, f0, rfl⟩ : ∃ a f, cargs = [a, f] := by
    match cargs, hlen with
    | [a, f], _ => exact ⟨a, f, rfl⟩
  have g0 := hargs 0 (by simp)
  simp only [List.getD_cons_zero] at g0
  obtain ⟨a, c, rfl, hbn, hbm⟩ := g0.own_inv
  have hc : Calls Try.prog 83 #[.slice a 0 c, f0] w fun e w' => e = .returned (.tuple #[]) ∧ w' = w := AnyF.slices_SortFunc_none (ρ := Try.sortS_ren) { Try.sortS with } a c f0 w
  refine Calls.mono (P := Try.prog) hc ?_
  rintro e w' ⟨rfl, rfl⟩
  exact ⟨_, .tup [], _, I, μ, ob, rfl, R, .tup [] [] rfl (by simp), fun _ h => h, fun _ _ _ => rfl, Nat.le_refl _, fun g hg => .inl hg, fun b g hb => .inl ⟨b, hb⟩, fun k hk hno => rfl, rfl, rfl⟩
end Go.Proofs.Ytpancbdaigaheaa
end

section
namespace Go.Proofs.Ytpancbdaigaheaa
open Go Go.AM
set_option linter.unusedSimpArgs false

/-- What dangles. -/
inductive Reach (ws : List (List UInt8)) : List UInt8 → Prop
  | first (u : List UInt8) (h : u ∈ firstS ws) : Reach ws u
  | next (r u : List UInt8) (hr : Reach ws r) (hne : r ≠ []) (h : u ∈ nextS ws r) : Reach ws u

theorem mem_nextS {ws : List (List UInt8)} {r u : List UInt8} : u ∈ nextS ws r ↔ ∃ x ∈ ws, (x.isPrefixOf r = true ∧ u = r.drop x.length) ∨ (x.isPrefixOf r = false ∧ r.isPrefixOf x = true ∧ u = x.drop r.length) := by
  unfold nextS
  rw [List.mem_flatMap]
  constructor
  · rintro ⟨x, hx, hu⟩
    refine ⟨x, hx, ?_⟩
    unfold nextAt at hu
    split at hu
    · rename_i h; exact .inl ⟨h, by simpa using hu⟩
    · rename_i h
      split at hu
      · rename_i h2; exact .inr ⟨Bool.eq_false_iff.2 h, h2, by simpa using hu⟩
      · cases hu
  · rintro ⟨x, hx, h | h⟩
    · exact ⟨x, hx, by unfold nextAt; rw [if_pos h.1, h.2]; simp⟩
    · exact ⟨x, hx, by unfold nextAt; rw [if_neg (by simp [h.1]), if_pos h.2.1, h.2.2]; simp⟩
theorem mem_firstS {ws : List (List UInt8)} {u : List UInt8} : u ∈ firstS ws ↔ ∃ i k, i < ws.length ∧ k < ws.length ∧ i ≠ k ∧ (ws.getD k []).isPrefixOf (ws.getD i []) = true ∧ u = (ws.getD i []).drop (ws.getD k []).length := by
  unfold firstS firstN restsOf
  simp only [List.mem_flatMap, List.mem_range]
  constructor
  · rintro ⟨i, hi, k, hk, hu⟩
    unfold restAt at hu
    split at hu
    · rename_i h; exact ⟨i, k, hi, hk, h.1, h.2, by simpa using hu⟩
    · cases hu
  · rintro ⟨i, k, hi, hk, h1, h2, rfl⟩
    exact ⟨i, hi, k, hk, by unfold restAt; rw [if_pos ⟨h1, h2⟩]; simp⟩

theorem reach_suffix {ws : List (List UInt8)} {x : List UInt8} (h : Reach ws x) : ∃ w ∈ ws, x <:+ w := by
  induction h with
  | first u h =>
    obtain ⟨i, k, hi, _, _, _, rfl⟩ := mem_firstS.1 h
    refine ⟨ws.getD i [], ?_, List.drop_suffix _ _⟩
    rw [List.getD_eq_getElem?_getD, List.getElem?_eq_getElem hi, Option.getD_some]; exact List.getElem_mem hi
  | next r u hr hne h ih =>
    obtain ⟨w, hw, hs⟩ := ih
    obtain ⟨x, hx, ⟨_, rfl⟩ | ⟨_, _, rfl⟩⟩ := mem_nextS.1 h
    · exact ⟨w, hw, (List.drop_suffix _ _).trans hs⟩
    · exact ⟨x, hx, List.drop_suffix _ _⟩

/-- All ends of words. -/
def endsOf (w : List UInt8) : List (List UInt8) := (List.range (w.length + 1)).map fun k => w.drop k
def sufs (ws : List (List UInt8)) : List (List UInt8) := ws.flatMap endsOf
theorem mem_sufs {ws : List (List UInt8)} {x : List UInt8} (h : ∃ w ∈ ws, x <:+ w) : x ∈ sufs ws := by
  obtain ⟨w, hw, t, ht⟩ := h
  refine List.mem_flatMap.2 ⟨w, hw, List.mem_map.2 ⟨t.length, List.mem_range.2 (by rw [← ht]; simp; omega), by rw [← ht]; simp⟩⟩
theorem sufs_len : ∀ {ws : List (List UInt8)} {n : Nat}, (∀ w ∈ ws, w.length ≤ n) → (sufs ws).length ≤ ws.length * (n + 1)
  | [], n, _ => by simp [sufs]
  | w :: ws, n, h => by
    have := sufs_len (ws := ws) (fun w hw => h w (by simp [hw]))
    have h1 := h w (by simp)
    unfold sufs at this ⊢
    simp only [List.flatMap_cons, List.length_append, List.length_cons, endsOf, List.length_map, List.length_range, Nat.succ_mul]
    omega

/-! ### Sorted lists -/
theorem sortW_perm (l : List (List UInt8)) : (sortW l).Perm l := List.mergeSort_perm l _
theorem mem_sortW (l : List (List UInt8)) (x : List UInt8) : x ∈ sortW l ↔ x ∈ l := (sortW_perm l).mem_iff
theorem sortW_sorted (l : List (List UInt8)) : (sortW l).Pairwise fun a b => ¬ ltW b a := by
  have h := List.pairwise_mergeSort (le := fun x y => !(ltOf cmpK) y x) (fun a b c h1 h2 => by
    simp only [Bool.not_eq_true', ltOf_false] at *
    intro h
    by_cases hbc : ltW b c
    · exact h1 (by
        by_cases hab : ltW a b
        · exact absurd (ltW_trans hab (ltW_trans hbc h)) (ltW_irrefl a)
        · have := ltW_total hab h1
          subst this; exact absurd (ltW_trans hbc h) (ltW_irrefl _))
    · have := ltW_total hbc h2
      subst this; exact h1 h) (fun a b => by
    simp only [Bool.or_eq_true, Bool.not_eq_true', ltOf_false]
    by_cases hab : ltW b a
    · exact .inr (fun h => ltW_irrefl a (ltW_trans h hab))
    · exact .inl hab) l
  refine h.imp ?_
  intro a b hab
  simpa [ltOf_false] using hab
theorem sortW_nodup {l : List (List UInt8)} (h : l.Nodup) : (sortW l).Nodup := (sortW_perm l).nodup_iff.2 h
/-- Strictly ascending. -/
theorem sortW_strict {l : List (List UInt8)} (h : l.Nodup) : (sortW l).Pairwise ltW := by
  refine (sortW_sorted l).imp₂ ?_ (sortW_nodup h)
  intro a b h1 h2
  by_cases hab : ltW a b
  · exact hab
  · exact absurd (ltW_total hab h1) h2

theorem strict_unique : ∀ {l m : List (List UInt8)}, l.Pairwise ltW → m.Pairwise ltW → (∀ x, x ∈ l ↔ x ∈ m) → l = m
  | [], [], _, _, _ => rfl
  | [], b :: m, _, _, h => absurd ((h b).2 (by simp)) (by simp)
  | a :: l, [], _, _, h => absurd ((h a).1 (by simp)) (by simp)
  | a :: l, b :: m, hl, hm, h => by
    obtain ⟨ha, hl2⟩ := List.pairwise_cons.1 hl
    obtain ⟨hb, hm2⟩ := List.pairwise_cons.1 hm
    have e : a = b := by
      rcases List.mem_cons.1 ((h a).1 (by simp)) with e | e
      · exact e
      · rcases List.mem_cons.1 ((h b).2 (by simp)) with e2 | e2
        · exact e2.symm
        · exact absurd (ltW_trans (ha b e2) (hb a e)) (ltW_irrefl a)
    subst e
    refine congrArg (List.cons a) (strict_unique hl2 hm2 (fun x => ⟨fun hx => ?_, fun hx => ?_⟩))
    · rcases List.mem_cons.1 ((h x).1 (by simp [hx])) with e | e
      · subst e; exact absurd (ha x hx) (ltW_irrefl x)
      · exact e
    · rcases List.mem_cons.1 ((h x).2 (by simp [hx])) with e | e
      · subst e; exact absurd (hb x hx) (ltW_irrefl x)
      · exact e

theorem foldK_nodup : ∀ (l acc : List (List UInt8)), acc.Nodup → (l.foldl addK acc).Nodup
  | [], acc, h => h
  | a :: l, acc, h => by
    rw [List.foldl_cons]
    refine foldK_nodup l _ ?_
    unfold addK
    split
    · exact h
    · rename_i hn
      exact List.nodup_append.2 ⟨h, by simp, fun x hx y hy e => by simp only [List.mem_singleton] at hy; subst hy; subst e; exact hn hx⟩
theorem keysOf_nodup (l : List (List UInt8)) : (keysOf l).Nodup := foldK_nodup l [] List.nodup_nil

open Classical in
/-- The dangling suffixes, in order. -/
noncomputable def residL (ws : List (List UInt8)) : List (List UInt8) := sortW ((keysOf (sufs ws)).filter fun x => decide (Reach ws x))
theorem mem_residL {ws : List (List UInt8)} {x : List UInt8} : x ∈ residL ws ↔ Reach ws x := by
  unfold residL
  rw [mem_sortW, List.mem_filter, mem_keysOf]
  simp only [decide_eq_true_eq]
  exact ⟨fun h => h.2, fun h => ⟨mem_sufs (reach_suffix h), h⟩⟩
theorem residL_strict (ws : List (List UInt8)) : (residL ws).Pairwise ltW := sortW_strict ((keysOf_nodup _).filter _)
/-- Whatever list has just these members, each once: sorted it is the one. -/
theorem residL_of {ws l : List (List UInt8)} (hn : l.Nodup) (h : ∀ x, x ∈ l ↔ Reach ws x) : sortW l = residL ws :=
  strict_unique (sortW_strict hn) (residL_strict ws) (fun x => by rw [mem_sortW, mem_residL]; exact h x)
end Go.Proofs.Ytpancbdaigaheaa
end

section
namespace Go.Proofs.Ytpancbdaigaheaa
open Go Go.AM
set_option maxRecDepth 100000
set_option linter.unusedSimpArgs false

theorem pairsN_len (ws : List (List UInt8)) : ∀ n, (pairsN ws n).length ≤ n * ws.length
  | 0 => by simp [pairsN]
  | n + 1 => by
    have h1 : ∀ l : List (List UInt8), ∀ x, (l.flatMap (pairAt x)).length ≤ l.length := fun l x => by
      induction l with
      | nil => simp
      | cons y l ih =>
        have : (pairAt x y).length ≤ 1 := by unfold pairAt; split <;> simp
        simp only [List.flatMap_cons, List.length_append, List.length_cons]; omega
    have h2 := h1 (ws.take ws.length) (ws.getD n [])
    rw [List.take_length] at h2
    have h3 := pairsN_len ws n
    rw [pairsN_succ, List.length_append, Nat.succ_mul]
    unfold pairsK
    rw [List.take_length]; omega

/-- What is known of the row's kind. -/
def RKok (done : List (List UInt8)) (rk : RK) : Prop := rk ≠ .raw ∧ (done ≠ [] → rk = .own)

theorem heapR_len (q : Int) (ws done : List (List UInt8)) (rk : RK) (T : List AObj) : (heapR q ws done rk T).length = T.length + 7 := by simp [heapR]
theorem heapR_snoc (q : Int) (ws done : List (List UInt8)) (rk : RK) (T : List AObj) (o : AObj) : heapR q ws done rk T ++ [o] = heapR q ws done rk (T ++ [o]) := by simp [heapR]

/-- The loop over firsts whose rounds add the rest. -/
theorem add86 {E : Env} (hP : E.P = Try.prog) (hn : E.n0 = 0) {tm : List AV} {Q : Exit → St → Prop} {f : Operand} {ps : List Nat} {assign body : Code} (q : Int) (ws : List (List UInt8)) (hws : ws.length ≤ 64)
    (hf : ev tm f = .fn 86 [.ptr 5 0]) (htm : killAll [6] tm = tm)
    (hround : ∀ done rk y r, RKok done rk → done.length ≤ 5000 → YC Try.prog 7 [.p (.str y), .p (.str r)] (heapR q ws done rk [.lp tm ps assign body .ready]) [6]
      (fun v h'' => v = .p (.bool true) ∧ ∃ rk', RKok (done ++ [r]) rk' ∧ h'' = heapR q ws (done ++ [r]) rk' [.lp tm ps assign body .ready]))
    (h1 : ∀ rk, RKok ((pairs ws).map (·.2)) rk → Q .normal ⟨tm, heapR q ws ((pairs ws).map (·.2)) rk [.dead]⟩) : AWp E none (.rangeFunc f ps.toArray assign body) Q ⟨tm, heapR q ws [] .lax []⟩ := by
  have hlen : (pairs ws).length ≤ 4096 := by
    have h1 := pairsN_len ws ws.length
    have h2 : ws.length * ws.length ≤ 64 * 64 := Nat.mul_le_mul hws hws
    unfold pairs; omega
  have hac : AC Try.prog 86 [.yld 7, .ptr 5 0] (heapR q ws [] .lax [.lp tm ps assign body .ready]) [6]
      (fun _ h' => (∃ rk, RKok ((pairs ws).map (·.2)) rk ∧ h' = heapR q ws ((pairs ws).map (·.2)) rk [.lp tm ps assign body .ready]) ∨ False) := by
    refine c86 (b := 7) (c := 5) (ks := [6]) (by simp) (by simp) q ws (by omega) (J := fun done h' => ∃ rk, RKok (done.map (·.2)) rk ∧ h' = heapR q ws (done.map (·.2)) rk [.lp tm ps assign body .ready]) (D := fun _ => False) ⟨.lax, ⟨by simp, fun h => absurd rfl h⟩, rfl⟩ ?_ ?_ ?_
    · rintro done h' ⟨rk, _, rfl⟩
      exact ⟨rfl, by rw [heapR_len, heapR_len]; exact Nat.le_refl _⟩
    · intro h' h; exact h.elim
    · rintro done y r h' ⟨l, hl⟩ ⟨rk, hrk, rfl⟩
      have hd : done.length ≤ 4096 := by
        have := congrArg List.length hl
        simp only [List.length_append, List.length_cons] at this; omega
      have hy := hround (done.map (·.2)) rk y r hrk (by rw [List.length_map]; omega)
      intro X I μ ob w cargs R hl2 ha hk
      obtain ⟨l', fn, tmps, a', b', e1, e2, e3⟩ := hy X I μ ob w cargs R hl2 ha hk
      refine ⟨l', fn, tmps, a', b', e1, e2, ?_⟩
      refine e3.mono ?_
      rintro e w' ⟨cv, v, h', I', μ', ob', g1, g2, g3, g4, g5, g6, g7, g8, g9, k1, rk', k2, k3⟩
      exact ⟨cv, v, h', I', μ', ob', g1, g2, g3, g4, g5, g6, g7, g8, g9, .inl ⟨k1, rk', by rw [List.map_append]; exact k2, by rw [List.map_append]; exact k3⟩⟩
  obtain ⟨P, Γ', n0, ks⟩ := E
  simp only at hP hn; subst hP hn
  refine AWp.rangeFunc (h := heapR q ws [] .lax []) (ks := [6]) hf (by rw [heapR_snoc]; exact hac) (fun k _ => .inl (Nat.zero_le k)) (by rw [heapR_len]; simp) ?_
  rintro v h' (⟨rk, hrk, rfl⟩ | h)
  · have := h1 rk hrk
    unfold RangeK
    rw [htm]
    exact this
  · exact h.elim

theorem foldK_prefix : ∀ (l acc : List (List UInt8)), acc <+: l.foldl addK acc
  | [], acc => List.prefix_refl _
  | a :: l, acc => by
    rw [List.foldl_cons]
    refine List.IsPrefix.trans ?_ (foldK_prefix l _)
    unfold addK
    split
    · exact List.prefix_refl _
    · exact List.prefix_append _ _
theorem keysOf_prefix (done l : List (List UInt8)) : keysOf done <+: keysOf (done ++ l) := by unfold keysOf; rw [List.foldl_append]; exact foldK_prefix l _
theorem keysOf_getD {done l : List (List UInt8)} {j : Nat} (hj : j < (keysOf done).length) : (keysOf (done ++ l)).getD j [] = (keysOf done).getD j [] := by
  obtain ⟨t, ht⟩ := keysOf_prefix done l
  rw [← ht]
  simp only [List.getD_eq_getElem?_getD, List.getElem?_append_left hj]

theorem nodup_sub_lenW : ∀ {l m : List (List UInt8)}, l.Nodup → l ⊆ m → l.length ≤ m.length
  | [], _, _, _ => Nat.zero_le _
  | a :: l, m, h, hs => by
    obtain ⟨h1, h2⟩ := List.nodup_cons.1 h
    have ha : a ∈ m := hs (by simp)
    have := nodup_sub_lenW (m := m.erase a) h2 (fun x hx => (List.mem_erase_of_ne (fun e : x = a => h1 (e ▸ hx))).2 (hs (by simp [hx])))
    rw [List.length_erase_of_mem ha] at this
    have := List.length_pos_of_mem ha
    simp only [List.length_cons]; omega

/-- How the second loop of residuals stands. -/
structure Inv2 (ws : List (List UInt8)) (i : Nat) (done : List (List UInt8)) (rk : RK) : Prop where
  ok : RKok done rk
  sound : ∀ x ∈ done, Reach ws x
  firsts : ∀ u ∈ firstS ws, u ∈ done
  le : i ≤ (keysOf done).length
  nexts : ∀ j, j < i → (keysOf done).getD j [] ≠ [] → ∀ u ∈ nextS ws ((keysOf done).getD j []), u ∈ done

theorem Inv2.keys_len {ws : List (List UInt8)} {i : Nat} {done : List (List UInt8)} {rk : RK} (h : Inv2 ws i done rk) : (keysOf done).length ≤ (sufs ws).length := by
  have h1 : keysOf done ⊆ sufs ws := fun x hx => mem_sufs (reach_suffix (h.sound x ((mem_keysOf _ _).1 hx)))
  exact nodup_sub_lenW (keysOf_nodup done) h1

theorem distinct_idx {q : Int} {ws : List (List UInt8)} (hv : Valid q ws) : ∀ i j, i < ws.length → j < ws.length → ws.getD i [] = ws.getD j [] → i = j := by
  intro i j hi hj e
  rcases Nat.lt_trichotomy i j with h1 | h1 | h1
  · exact absurd (e ▸ hv.lt i j h1 hj) (ltW_irrefl _)
  · exact h1
  · exact absurd (e ▸ hv.lt j i h1 hi) (ltW_irrefl _)

theorem nextS_eq (ws : List (List UInt8)) (r : List UInt8) : nextS ws r = (nextsP ws r).map (·.1) := by
  unfold nextS nextsP
  rw [List.map_flatMap]
  congr 1; funext x
  unfold nextAt nextP
  split
  · rfl
  · split <;> rfl

theorem nextsP_len (ws : List (List UInt8)) (r : List UInt8) : (nextsP ws r).length ≤ ws.length := by
  induction ws with
  | nil => simp [nextsP]
  | cons x ws ih =>
    have h : (nextP r x).length ≤ 1 := by unfold nextP; split; simp; split <;> simp
    unfold nextsP at ih ⊢
    simp only [List.flatMap_cons, List.length_append, List.length_cons]; omega

/-- The loop over nexts whose rounds add what follows. -/
theorem add87 {E : Env} (hP : E.P = Try.prog) (hn : E.n0 = 0) {tm : List AV} {Q : Exit → St → Prop} {f : Operand} {ps : List Nat} {assign body : Code} (q : Int) (ws : List (List UInt8)) (hws : ws.length ≤ 64) (x : List UInt8) (done0 : List (List UInt8)) (rk0 : RK) (hrk0 : RKok done0 rk0) (T : List AObj) {c d : Nat}
    (hf : ev tm f = .fn 87 [.ptr (c + 7) 0, .ptr (d + 7) 0]) (hc : T[c]? = some (codeB q ws)) (hd : T[d]? = some (.box [.p (.str x)])) (htm : killAll [6] tm = tm) (hd0 : (keysOf done0).length ≤ 100000)
    (hround : ∀ done rk u n, RKok done rk → (keysOf done).length ≤ 1000000 → YC Try.prog (T.length + 7) [.p (.str u), .p (.int .i64 (n : Nat))] (heapR q ws done rk (T ++ [.lp tm ps assign body .ready])) [6]
      (fun v h'' => v = .p (.bool true) ∧ ∃ rk', RKok (done ++ [u]) rk' ∧ h'' = heapR q ws (done ++ [u]) rk' (T ++ [.lp tm ps assign body .ready])))
    (h1 : ∀ rk, RKok (done0 ++ (nextsP ws x).map (·.1)) rk → Q .normal ⟨tm, heapR q ws (done0 ++ (nextsP ws x).map (·.1)) rk (T ++ [.dead])⟩) : AWp E none (.rangeFunc f ps.toArray assign body) Q ⟨tm, heapR q ws done0 rk0 T⟩ := by
  have hcl : c < T.length := (List.getElem?_eq_some_iff.1 hc).1
  have hdl : d < T.length := (List.getElem?_eq_some_iff.1 hd).1
  have look : ∀ done rk o k v, T[k]? = some v → (heapR q ws done rk (T ++ [o]))[k + 7]? = some v := fun done rk o k v hk => by
    show (T ++ [o])[k]? = some v
    rw [List.getElem?_append_left (List.getElem?_eq_some_iff.1 hk).1]; exact hk
  have grow : ∀ l : List (List UInt8), (keysOf (done0 ++ l)).length ≤ (keysOf done0).length + l.length := fun l => by
    unfold keysOf; rw [List.foldl_append]; exact len_foldK l _
  have hac : AC Try.prog 87 [.yld (T.length + 7), .ptr (c + 7) 0, .ptr (d + 7) 0] (heapR q ws done0 rk0 (T ++ [.lp tm ps assign body .ready])) [6]
      (fun _ h' => (∃ rk, RKok (done0 ++ (nextsP ws x).map (·.1)) rk ∧ h' = heapR q ws (done0 ++ (nextsP ws x).map (·.1)) rk (T ++ [.lp tm ps assign body .ready])) ∨ False) := by
    refine c87 (h := heapR q ws done0 rk0 (T ++ [.lp tm ps assign body .ready])) (b := T.length + 7) (c := c + 7) (d := d + 7) (ks := [6]) (by simp) (by simp) (by simp) q ws x (by omega) (J := fun done h' => ∃ rk, RKok (done0 ++ done.map (·.1)) rk ∧ h' = heapR q ws (done0 ++ done.map (·.1)) rk (T ++ [.lp tm ps assign body .ready])) (D := fun _ => False) ⟨rk0, by simpa using hrk0, by simp⟩ ?_ ?_ ?_
    · rintro done h' ⟨rk, _, rfl⟩
      exact ⟨look _ _ _ _ _ hc, look _ _ _ _ _ hd, by rw [heapR_len, heapR_len]; exact Nat.le_refl _⟩
    · intro h' h; exact h.elim
    · rintro done u n h' ⟨l, hl⟩ ⟨rk, hrk, rfl⟩
      have hdn : done.length ≤ 64 := by
        have := congrArg List.length hl
        have h2 := nextsP_len ws x
        simp only [List.length_append, List.length_cons] at this; omega
      have hg := grow (done.map (·.1))
      rw [List.length_map] at hg
      have hy := hround (done0 ++ done.map (·.1)) rk u n hrk (by omega)
      intro X I μ ob w cargs R hl2 ha hk
      obtain ⟨l', fn, tmps, a', b', e1, e2, e3⟩ := hy X I μ ob w cargs R hl2 ha hk
      refine ⟨l', fn, tmps, a', b', e1, e2, ?_⟩
      refine e3.mono ?_
      rintro e w' ⟨cv, v, h', I', μ', ob', g1, g2, g3, g4, g5, g6, g7, g8, g9, k1, rk', k2, k3⟩
      exact ⟨cv, v, h', I', μ', ob', g1, g2, g3, g4, g5, g6, g7, g8, g9, .inl ⟨k1, rk', by rw [List.map_append, ← List.append_assoc]; exact k2, by rw [List.map_append, ← List.append_assoc]; exact k3⟩⟩
  obtain ⟨P, Γ', n0, ks⟩ := E
  simp only at hP hn; subst hP hn
  refine AWp.rangeFunc (h := heapR q ws done0 rk0 T) (ks := [6]) hf (by rw [heapR_snoc, heapR_len]; exact hac) (fun k _ => .inl (Nat.zero_le k)) (by rw [heapR_len]; simp) ?_
  rintro v h' (⟨rk, hrk, rfl⟩ | h)
  · have := h1 rk hrk
    unfold RangeK
    rw [htm, heapR_len]
    have e1 : (heapR q ws (done0 ++ (nextsP ws x).map (·.1)) rk (T ++ [.lp tm ps assign body .ready]))[T.length + 7]? = some (.lp tm ps assign body .ready) := by
      show (T ++ [_])[T.length]? = _
      simp
    rw [e1]
    have e2 : (heapR q ws (done0 ++ (nextsP ws x).map (·.1)) rk (T ++ [.lp tm ps assign body .ready])).set (T.length + 7) .dead = heapR q ws (done0 ++ (nextsP ws x).map (·.1)) rk (T ++ [.dead]) := by
      simp [heapR]
    simp only [e2]
    exact this
  · exact h.elim

theorem r46 (q : Int) (ws : List (List UInt8)) (hv : Valid q ws) : PRow Try.prog 46 [codeV q ws] 9 1 ((residL ws).map .str) := by
  refine AC.of_bodyE hΓ Try.func46 (by kernel_rfl) rfl (AWp.mono (Q := fun e st => AM.Ends e ∧ ∃ b rk, st.tmps.getD 2 .junk = .own b (residL ws).length ∧ st.h[b]? = some (.row 9 1 ((residL ws).map .str) rk) ∧ rk ≠ .raw) ?_ ?_)
  rotate_left
  · rintro e ⟨tm, h'⟩ ⟨he, b, rk, h1, h2, h3⟩
    simp only at h1 h2
    refine ⟨he, _, Less.refl _, ?_⟩
    unfold DoneE
    simp -implicitDefEqProofs only [Try.results46, h1, go_sem]
    refine ⟨_, by simp, .inl rfl, b, ?_⟩
    rw [List.take_length]
    exact ⟨rk, by simp, h2, h3⟩
  refine AWp.of_awpD [] hΓ hmix (by kernel_rfl) ?_
  simp -implicitDefEqProofs only [Try.ntmps46, Nat.reduceAdd, Nat.reduceSub, codeV, List.map_cons, List.map_nil, go_sem]
  refine callK_ac (c52 q ws) (by simp) ?_
  rintro v h' ⟨rfl, rfl⟩
  simp -implicitDefEqProofs only [killAll, List.foldl, codeB, List.cons_append, List.nil_append, go_sem]
  refine AWp.adoptBox (l := []) 3 9 1 rfl (by simp) ?_
  simp -implicitDefEqProofs only [List.set_cons_zero, List.set_cons_succ, List.length_cons, List.length_nil, List.cons_append, List.nil_append, Nat.reduceAdd, go_sem]
  refine add86 rfl rfl q ws hv.len rfl (by simp [killAll, AV.kill, AV.kill.killL]) ?_ ?_
  · intro done rk y r hrk hdl
    refine YC.of_body (Γ := Γ) rfl rfl (by simp) ?_
    intro rr
    refine AWp.of_awpD [] hΓ hmix (by kernel_rfl) ?_
    unfold heapR
    simp +contextual -implicitDefEqProofs only [setP, List.cons_append, List.nil_append, go_sem]
    unfold BeginE
    refine ⟨rfl, ?_⟩
    simp +contextual -implicitDefEqProofs only [List.length_cons, List.length_nil, List.cons_append, List.nil_append, codeB, go_sem]
    refine AWp.of_awpD [] hΓ hmix (by kernel_rfl) ?_
    simp -implicitDefEqProofs only [go_sem]
    have hkl := keysOf_len done
    refine callK_ac (c82 q ws done rk _ r hrk (by simp [AObj.kill, AV.kill, AV.kill.killL]) (by omega)) (by simp) ?_
    rintro v h' ⟨rfl, rk', hrk', rfl⟩
    unfold heapR
    simp -implicitDefEqProofs only [killAll, List.foldl, codeB, go_sem]
    exact ⟨8, by simp, .inl rfl, rfl, rk', hrk', rfl⟩
  · intro rk hrk
    unfold heapR
    simp -implicitDefEqProofs only [codeB, go_sem]
    refine AWp.loopI (fun p : Nat × List (List UInt8) × RK × Nat => ⟨mkF 44 [(1, .ptr 0 0), (3, .ptr 2 0), (4, .ptr 3 0), (5, .ptr 4 0), (8, .p (.int .i64 p.1))], heapR q ws p.2.1 p.2.2.1 (List.replicate p.2.2.2 .dead)⟩)
      (fun p => Inv2 ws p.1 p.2.1 p.2.2.1) (fun p => (sufs ws).length - p.1) (0, (pairs ws).map (·.2), rk, 1) (by simp [go_sem, heapR, codeB]) ?_ ?_
    · have hd := distinct_idx hv
      have hf : ∀ u, u ∈ (pairs ws).map (·.2) ↔ u ∈ firstS ws := fun u => by
        constructor
        · intro hu
          obtain ⟨p, hp, rfl⟩ := List.mem_map.1 hu
          exact (pairs_first hd (firstS ws)).2 (fun _ h => h) p hp
        · intro hu
          exact (pairs_first hd ((pairs ws).map (·.2))).1 (fun p hp => List.mem_map.2 ⟨p, hp, rfl⟩) u hu
      exact ⟨hrk, fun x hx => .first x ((hf x).1 hx), fun u hu => (hf u).2 hu, Nat.zero_le _, fun j hj => absurd hj (Nat.not_lt_zero j)⟩
    rintro ⟨i, done, rk, m⟩ hI
    simp only at hI
    generalize hTT : List.replicate m AObj.dead = T
    by_cases hlt : i < (keysOf done).length
    · have hdn : done ≠ [] := fun e => by subst e; simp [keysOf] at hlt
      have hown := hI.ok.2 hdn
      subst hown
      refine AWp.of_awpD [(11, 5)] hΓ hmix (by kernel_rfl) ?_
      unfold heapR
      simp -implicitDefEqProofs only [getD_map_lt, hlt, ↓reduceIte, codeB, go_sem]
      have hkey : (keysOf done).getD i [] = (keysOf done)[i] := by rw [List.getD_eq_getElem?_getD, List.getElem?_eq_getElem hlt, Option.getD_some]
      have hk := hI.keys_len
      have hsl := sufs_len (ws := ws) (n := 32) (fun w hw => by
        obtain ⟨j, hj, rfl⟩ := List.getElem_of_mem hw
        have := hv.short j hj
        rwa [List.getD_eq_getElem?_getD, List.getElem?_eq_getElem hj, Option.getD_some] at this)
      have hl3 : ws.length * (32 + 1) ≤ 64 * 33 := Nat.mul_le_mul_right _ hv.len
      refine ⟨fun he => ⟨by simp only [InR]; omega, (i + 1, done, .own, m), ⟨by simp, rfl, rfl, .inl ⟨rfl, rfl⟩, by rw [← hTT]; exact weakH_self _⟩, ⟨hI.ok, hI.sound, hI.firsts, hlt, fun j hj hne => ?_⟩, by simp only; omega⟩, fun hne => ?_⟩
      · by_cases hji : j < i
        · exact hI.nexts j hji hne
        · have : j = i := by omega
          subst this; rw [hkey] at hne; exact absurd he hne
      · refine callK_ac (c53 q ws (keysOf done)[i]) (by simp) ?_
        rintro v h' ⟨rfl, rfl⟩
        simp -implicitDefEqProofs only [killAll, List.foldl, codeB, List.cons_append, List.nil_append, go_sem]
        rw [show (#[36, 37] : Array Nat) = [36, 37].toArray from rfl]
        generalize hT2 : T ++ [AObj.box [.p (.int .i64 q), .p (.sl (ws.map .str))], .box [.p (.str (keysOf done)[i])]] = T2
        have gl : ∀ done rk x, (heapR q ws done rk (T2 ++ [x]))[T2.length + 7]? = some x := fun done rk x => by
          show (T2 ++ [x])[T2.length]? = _
          simp
        have gs : ∀ done rk x y, (heapR q ws done rk (T2 ++ [x])).set (T2.length + 7) y = heapR q ws done rk (T2 ++ [y]) := fun done rk x y => by simp [heapR]
        have f4 : ∀ done rk T, (heapR q ws done rk T)[4]? = some (.box [.fn 82 [.ptr 2 0, .ptr 3 0]]) := fun _ _ _ => rfl
        refine AWp.weak (st' := ⟨mkF 44 [(1, .ptr 0 0), (3, .ptr 2 0), (4, .ptr 3 0), (5, .ptr 4 0), (8, .p (.int .i64 i)), (35, .fn 87 [.ptr (T.length + 7) 0, .ptr (T.length + 1 + 7) 0])], heapR q ws done .own T2⟩) ?_ ?_
        · rw [← hT2]; simp [go_sem, heapR, codeB, weakH_self]
        refine add87 (c := T.length) (d := T.length + 1) rfl rfl q ws hv.len (keysOf done)[i] done .own hI.ok T2 rfl (by rw [← hT2]; simp [codeB]) (by rw [← hT2]; simp) (by simp [go_sem, killAll, AV.kill, AV.kill.killL]) (by omega) ?_ ?_
        · intro done2 rk2 u n hrk2 hk2
          refine YC.of_body (Γ := Γ) (gl _ _ _) rfl (by simp) ?_
          intro rr
          refine AWp.of_awpD [] hΓ hmix (by kernel_rfl) ?_
          simp -implicitDefEqProofs only [setP, go_sem]
          unfold BeginE
          refine ⟨rfl, ?_⟩
          simp only [gl, gs]
          refine AWp.of_awpD [] hΓ hmix (by kernel_rfl) ?_
          simp -implicitDefEqProofs only [f4, go_sem]
          refine callK_ac (c82 q ws done2 rk2 _ u hrk2 (by rw [← hT2, ← hTT]; simp [AObj.kill, AV.kill, AV.kill.killL]) (by omega)) (fun k hk => .inr hk) ?_
          rintro v h' ⟨rfl, rk', hrk', rfl⟩
          simp -implicitDefEqProofs only [killAll, List.foldl, go_sem]
          unfold RoundE
          simp only [gl, gs]
          exact ⟨_, by simp [heapR_len], .inl rfl, trivial, rk', hrk', List.take_length⟩
        · intro rk2 hrk2
          unfold heapR
          simp -implicitDefEqProofs only [codeB, go_sem]
          refine ⟨by simp only [InR]; omega, (i + 1, done ++ (nextsP ws (keysOf done)[i]).map (·.1), rk2, m + 3), ⟨by simp, rfl, rfl, .inl ⟨rfl, rfl⟩, ?_⟩, ?_, by simp only; omega⟩
          · have e3 : List.replicate (m + 3) AObj.dead = List.replicate (T2 ++ [AObj.dead]).length AObj.dead := by rw [← hT2, ← hTT]; simp
            simp only [e3]
            exact weakH_dead _
          · have hN := nextS_eq ws (keysOf done)[i]
            have hkr : Reach ws (keysOf done)[i] := hI.sound _ ((mem_keysOf _ _).1 (List.getElem_mem hlt))
            have hpre := (keysOf_prefix done ((nextsP ws (keysOf done)[i]).map (·.1))).length_le
            refine ⟨hrk2, fun x hx => ?_, fun u hu => List.mem_append.2 (.inl (hI.firsts u hu)), by simp only; omega, fun j hj hne2 u hu => ?_⟩
            · rcases List.mem_append.1 hx with hx | hx
              · exact hI.sound x hx
              · exact .next _ x hkr hne (by rw [hN]; exact hx)
            · rw [keysOf_getD (by omega)] at hne2 hu
              by_cases hji : j < i
              · exact List.mem_append.2 (.inl (hI.nexts j hji hne2 u hu))
              · have : j = i := by omega
                subst this
                rw [hkey, hN] at hu
                exact List.mem_append.2 (.inr hu)
    · refine AWp.of_awpD [(11, 5)] hΓ hmix (by kernel_rfl) ?_
      unfold heapR
      simp -implicitDefEqProofs only [getD_map_lt, hlt, ↓reduceIte, codeB, go_sem]
      have hmem : ∀ x, x ∈ keysOf done ↔ Reach ws x := fun x => by
        rw [mem_keysOf]
        refine ⟨hI.sound x, fun h => ?_⟩
        induction h with
        | first u h => exact hI.firsts u h
        | next r u hr hne h ih =>
          obtain ⟨j, hj, rfl⟩ := List.getElem_of_mem ((mem_keysOf done r).2 ih)
          have e : (keysOf done).getD j [] = (keysOf done)[j] := by rw [List.getD_eq_getElem?_getD, List.getElem?_eq_getElem hj, Option.getD_some]
          exact hI.nexts j (by have := hI.le; omega) (by rw [e]; exact hne) u (by rw [e]; exact h)
      have hres : sortW (keysOf done) = residL ws := residL_of (keysOf_nodup _) hmem
      by_cases hdn : done = []
      · subst hdn
        refine callK_ac (c83n (b := 6)) (by simp) ?_
        rintro v h' ⟨rfl, rfl⟩
        simp -implicitDefEqProofs only [killAll, List.foldl, go_sem]
        have e0 : keysOf [] = [] := rfl
        have es : sortW [] = [] := by simp [sortW]
        rw [← hres, e0, es]
        exact ⟨6, rk, ⟨rfl, rfl⟩, rfl, hI.ok.1⟩
      · have hown := hI.ok.2 hdn
        subst hown
        have hk := hI.keys_len
        have hsl := sufs_len (ws := ws) (n := 32) (fun w hw => by
          obtain ⟨j, hj, rfl⟩ := List.getElem_of_mem hw
          have := hv.short j hj
          rwa [List.getD_eq_getElem?_getD, List.getElem?_eq_getElem hj, Option.getD_some] at this)
        have hl2 := hv.len
        have hl3 : ws.length * (32 + 1) ≤ 64 * 33 := Nat.mul_le_mul_right _ hl2
        refine callK_ac (c83 (b := 6) (keysOf done) rfl (by omega)) (by simp) ?_
        rintro v h' ⟨rfl, rfl⟩
        simp -implicitDefEqProofs only [killAll, List.foldl, List.set_cons_succ, List.set_cons_zero, go_sem]
        rw [hres]
        exact ⟨6, .own, ⟨rfl, by rw [← hres, sortW_length]⟩, rfl, by simp⟩
end Go.Proofs.Ytpancbdaigaheaa
end

section
namespace Go.Proofs.Ytpancbdaigaheaa
open Go Go.AM
set_option maxRecDepth 100000
set_option linter.unusedSimpArgs false

/-- slices.IndexFunc: an index that is not negative exactly if some word will do. -/
theorem c49 {h : List AObj} {g : FuncId} {caps : List AV} {pr : List UInt8 → Bool} (ws : List (List UInt8)) (hl : ws.length ≤ 9223372036854775807)
    (hg : ∀ w ∈ ws, AC Try.prog g (.p (.str w) :: caps) h [] (fun v h' => v = .p (.bool (pr w)) ∧ h' = h)) :
    AC Try.prog 49 [.p (.sl (ws.map .str)), .fn g caps] h [] (fun v h' => (∃ i : Int, v = .p (.int .i64 i) ∧ decide (0 ≤ i) = ws.any pr) ∧ h' = h) := by
  refine AC.of_bodyE hΓ Try.func49 (by kernel_rfl) rfl (AWp.mono (Q := fun e st => AM.Ends e ∧ (∃ i : Int, st.tmps.getD 4 .junk = .p (.int .i64 i) ∧ decide (0 ≤ i) = ws.any pr) ∧ st.h = h) ?_ ?_)
  rotate_left
  · rintro e ⟨tm, h'⟩ ⟨he, ⟨i, h1, h3⟩, h2⟩
    simp only at h1 h2
    subst h2
    refine ⟨he, _, Less.refl _, ?_⟩
    unfold DoneE
    simp +contextual -implicitDefEqProofs only [Try.results49, h1, go_sem]
    exact ⟨_, Nat.le_refl _, .inl rfl, ⟨i, rfl, h3⟩, List.take_length⟩
  refine AWp.of_awpD [] hΓ hmix (by kernel_rfl) ?_
  simp +contextual -implicitDefEqProofs only [Try.ntmps49, Nat.reduceAdd, Nat.reduceSub, go_sem]
  refine AWp.loopI (fun k : Nat => ⟨mkF 19 [(0, .p (.sl (ws.map .str))), (1, .fn g caps), (7, .p (.int .i64 ws.length)), (8, .p (.int .i64 k))], h⟩)
    (fun k => k ≤ ws.length ∧ (ws.take k).any pr = false) (fun k => ws.length - k) 0 (by simp [go_sem, weakH_self]) (by simp) ?_
  rintro k ⟨hk, h0⟩
  refine AWp.of_awpD [] hΓ hmix (by kernel_rfl) ?_
  simp +contextual -implicitDefEqProofs only [getD_map_lt, ↓reduceIte, go_sem]
  refine ⟨fun hlt => ?_, fun hge => ⟨-1, rfl, by rw [List.take_of_length_le (by omega)] at h0; rw [h0]; rfl⟩⟩
  refine callK_ac (hg ws[k] (List.getElem_mem hlt)) (by simp) ?_
  rintro v h' ⟨rfl, rfl⟩
  cases hp : pr ws[k]
  · simp -implicitDefEqProofs only [killAll, List.foldl, go_sem]
    refine ⟨by simp only [InR]; omega, k + 1, by simp [weakH_self], ⟨hlt, ?_⟩, by omega⟩
    rw [List.take_succ_eq_append_getElem hlt, List.any_append, h0]; simp [hp]
  · simp -implicitDefEqProofs only [killAll, List.foldl, go_sem]
    refine ⟨k, rfl, ?_⟩
    rw [List.any_eq_true.2 ⟨_, List.getElem_mem hlt, hp⟩]; simp

theorem c17 {h : List AObj} {g : FuncId} {caps : List AV} {pr : List UInt8 → Bool} (ws : List (List UInt8)) (hl : ws.length ≤ 9223372036854775807)
    (hg : ∀ w ∈ ws, AC Try.prog g (.p (.str w) :: caps) h [] (fun v h' => v = .p (.bool (pr w)) ∧ h' = h)) :
    AC Try.prog 17 [.p (.sl (ws.map .str)), .fn g caps] h [] (fun v h' => v = .p (.bool (ws.any pr)) ∧ h' = h) := by
  refine AC.of_bodyE hΓ Try.func17 (by kernel_rfl) rfl (AWp.mono (Q := fun e st => AM.Ends e ∧ st.tmps.getD 4 .junk = .p (.bool (ws.any pr)) ∧ st.h = h) ?_ ?_)
  rotate_left
  · rintro e ⟨tm, h'⟩ ⟨he, h1, h2⟩
    simp only at h1 h2
    subst h2
    refine ⟨he, _, Less.refl _, ?_⟩
    unfold DoneE
    simp +contextual -implicitDefEqProofs only [Try.results17, h1, go_sem]
    exact ⟨_, Nat.le_refl _, .inl rfl, List.take_length⟩
  refine AWp.of_awpD [] hΓ hmix (by kernel_rfl) ?_
  simp +contextual -implicitDefEqProofs only [Try.ntmps17, Nat.reduceAdd, Nat.reduceSub, go_sem]
  refine callK_ac (c49 ws hl hg) (by simp) ?_
  rintro v h' ⟨⟨i, rfl, hi⟩, rfl⟩
  simp -implicitDefEqProofs only [killAll, List.foldl, go_sem]
  exact hi

theorem t33 (w : List UInt8) : PFn Try.prog 33 [.str w] [.bool (decide (40 < w.length))] := by
  refine PFn.of_body hΓ Try.func33 (by kernel_rfl) rfl (AWp.of_awpD [] hΓ hmix (by kernel_rfl) ?_)
  simp +contextual -implicitDefEqProofs only [Try.ntmps33, Try.results33, Nat.reduceAdd, Nat.reduceSub, go_sem]
  exact decide_eq_decide.2 (by omega)

def greatB (ws : List (List UInt8)) : Bool := ws.any greatW || ((decide (6 < ws.length) && decide (ws.length ≤ 64)) || decide (67 < ws.length))

theorem t6 (q : Int) (ws : List (List UInt8)) (m : List UInt8) (a b : List Int) (l : List (List UInt8)) (hws : ws.length ≤ 9223372036854775807) (ha : a.length ≤ 9223372036854775807) (hb : b.length ≤ 9223372036854775807) (hl : l.length ≤ 9223372036854775807) :
    PFn Try.prog 6 [codeV q ws, ambV m a b, .sl (l.map .str)] [.bool true] := by
  refine PFn.of_body hΓ Try.func6 (by kernel_rfl) rfl (AWp.of_awpD [(3, 19)] hΓ hmix (by kernel_rfl) ?_)
  simp +contextual -implicitDefEqProofs only [codeV, ambV, Try.ntmps6, Try.results6, Nat.reduceAdd, Nat.reduceSub, go_sem]
  have e24 : PFn Try.prog 24 [codeV q ws] [.bool (greatB ws)] := t24 q ws hws
  refine callK_fn e24 (.still rfl) ?_
  cases hg : greatB ws
  rotate_left
  · simp -implicitDefEqProofs only [go_sem]
    refine callK_fn awake_ok (.pures rfl) ?_
    simp -implicitDefEqProofs only [go_sem]
  by_cases h1 : 40 < (m.length : Int)
  · simp -implicitDefEqProofs only [h1, go_sem]
    refine callK_fn awake_ok (.pures rfl) ?_
    simp -implicitDefEqProofs only [go_sem]
  by_cases h2 : 20 < (a.length : Int)
  · simp -implicitDefEqProofs only [h1, h2, go_sem]
    refine callK_fn awake_ok (.pures rfl) ?_
    simp -implicitDefEqProofs only [go_sem]
  by_cases h3 : 20 < (b.length : Int)
  · simp -implicitDefEqProofs only [h1, h2, h3, go_sem]
    refine callK_fn awake_ok (.pures rfl) ?_
    simp -implicitDefEqProofs only [go_sem]
  by_cases h4 : 20 < (l.length : Int)
  · simp -implicitDefEqProofs only [h1, h2, h3, h4, go_sem]
    refine callK_fn awake_ok (.pures rfl) ?_
    simp -implicitDefEqProofs only [go_sem]
  simp -implicitDefEqProofs only [h1, h2, h3, h4, go_sem]
  refine callK_ac (c17 l hl (pr := fun w => decide (40 < w.length)) (fun w _ => AC.of_fn (t33 w) (.inl rfl))) (by simp) ?_
  rintro v h' ⟨rfl, rfl⟩
  cases h5 : l.any fun w => decide (40 < w.length)
  rotate_left
  · simp -implicitDefEqProofs only [killAll, List.foldl, go_sem]
    refine callK_fn awake_ok (.pures rfl) ?_
    simp -implicitDefEqProofs only [go_sem]
  simp -implicitDefEqProofs only [killAll, List.foldl, go_sem]
  refine callVPK_fn (t34 q ws m a b ha hb) (.still rfl) ?_
  simp -implicitDefEqProofs only [go_sem]
  refine callVPK_fn (t35 q ws m a b ha hb) (.still rfl) ?_
  simp -implicitDefEqProofs only [go_sem]
  refine callVPK_fn (t23 q ws l (by omega)) (.still rfl) ?_
  simp -implicitDefEqProofs only [go_sem]
  refine callVPK_fn (t36 q ws l (by omega)) (.still rfl) ?_
  simp -implicitDefEqProofs only [go_sem]
  refine callVPK_fn awake_ok (.pures rfl) ?_
  simp -implicitDefEqProofs only [go_sem]
end Go.Proofs.Ytpancbdaigaheaa
end

section
namespace Go.Proofs.Ytpancbdaigaheaa
open Go Go.AM
set_option maxRecDepth 100000
set_option linter.unusedSimpArgs false

/-- Where a word is first, or -1. -/
def ixL (x : List UInt8) : List (List UInt8) → Nat → Int
  | [], _ => -1
  | a :: l, k => if a = x then k else ixL x l (k + 1)
theorem ixL_at (x : List UInt8) : ∀ (l : List (List UInt8)) (n k : Nat) (hk : k < l.length), (∀ j (hj : j < k), l[j] ≠ x) → l[k] = x → ixL x l n = ((n + k : Nat) : Int)
  | [], n, k, hk, _, _ => absurd hk (Nat.not_lt_zero k)
  | a :: l, n, 0, _, _, h => by
    have : a = x := h
    subst this; unfold ixL; simp
  | a :: l, n, k + 1, hk, h0, h => by
    have h1 : a ≠ x := h0 0 (by omega)
    unfold ixL
    rw [if_neg h1]
    refine (ixL_at x l (n + 1) k (by simpa using hk) (fun j hj => h0 (j + 1) (by omega)) h).trans ?_
    congr 1; omega
theorem ixL_none (x : List UInt8) : ∀ (l : List (List UInt8)) (n : Nat), x ∉ l → ixL x l n = -1
  | [], _, _ => rfl
  | a :: l, n, h => by
    simp only [List.mem_cons, not_or] at h
    unfold ixL
    rw [if_neg (fun e => h.1 e.symm)]
    exact ixL_none x l (n + 1) h.2
theorem ixL_mem (x : List UInt8) : ∀ (l : List (List UInt8)) (n : Nat), decide (0 ≤ ixL x l n) = decide (x ∈ l)
  | [], _ => by simp [ixL]
  | a :: l, n => by
    unfold ixL
    by_cases h : a = x
    · rw [if_pos h, decide_eq_true (by omega), decide_eq_true (by simp [h])]
    · rw [if_neg h, ixL_mem x l (n + 1)]
      exact decide_eq_decide.2 ⟨fun h' => by simp [h'], fun h' => (List.mem_cons.1 h').resolve_left (fun e => h e.symm)⟩

theorem t48 (ws : List (List UInt8)) (x : List UInt8) (hl : ws.length ≤ 9223372036854775807) : PFn Try.prog 48 [.sl (ws.map .str), .str x] [.int .i64 (ixL x ws 0)] := by
  refine PFn.of_body hΓ Try.func48 (by kernel_rfl) rfl (AWp.of_awpD [] hΓ hmix (by kernel_rfl) ?_)
  simp +contextual -implicitDefEqProofs only [Try.ntmps48, Try.results48, Nat.reduceAdd, Nat.reduceSub, go_sem]
  refine AWp.loopI (fun k : Nat => ⟨mkF 19 [(0, .p (.sl (ws.map .str))), (1, .p (.str x)), (7, .p (.int .i64 ws.length)), (8, .p (.int .i64 k))], []⟩)
    (fun k => k ≤ ws.length ∧ ∀ j (hj : j < ws.length), j < k → ws[j] ≠ x) (fun k => ws.length - k) 0 (by simp [go_sem]) (by simp) ?_
  rintro k ⟨hk, h0⟩
  refine AWp.of_awpD [] hΓ hmix (by kernel_rfl) ?_
  simp +contextual -implicitDefEqProofs only [getD_map_lt, ↓reduceIte, go_sem]
  refine ⟨fun hlt => ⟨fun he => ?_, fun hne => ⟨by simp only [InR]; omega, k + 1, by simp, ⟨hlt, fun j hj hjk => ?_⟩, by omega⟩⟩, fun hge => ?_⟩
  · rw [← he, ixL_at x ws 0 k hlt (fun j hj => h0 j (by omega) hj) he.symm]; simp
  · by_cases hjk' : j < k
    · exact h0 j hj hjk'
    · have : j = k := by omega
      subst this; exact fun e => hne e.symm
  · refine (ixL_none x ws 0 (fun hm => ?_)).symm
    obtain ⟨j, hj, e⟩ := List.getElem_of_mem hm
    exact h0 j hj (by omega) e

theorem t16 (ws : List (List UInt8)) (x : List UInt8) (hl : ws.length ≤ 9223372036854775807) : PFn Try.prog 16 [.sl (ws.map .str), .str x] [.bool (decide (x ∈ ws))] := by
  refine PFn.of_body hΓ Try.func16 (by kernel_rfl) rfl (AWp.of_awpD [] hΓ hmix (by kernel_rfl) ?_)
  simp +contextual -implicitDefEqProofs only [Try.ntmps16, Try.results16, Nat.reduceAdd, Nat.reduceSub, go_sem]
  refine callK_fn (t48 ws x hl) (.pures rfl) ?_
  simp -implicitDefEqProofs only [go_sem]
  exact ixL_mem x ws 0

theorem residL_len {q : Int} {ws : List (List UInt8)} (hv : Valid q ws) : (residL ws).length ≤ 2112 := by
  have h1 : residL ws ⊆ sufs ws := fun x hx => mem_sufs (reach_suffix (mem_residL.1 hx))
  have h2 := nodup_sub_lenW ((residL_strict ws).imp (fun h e => by subst e; exact ltW_irrefl _ h)) h1
  have h3 := sufs_len (ws := ws) (n := 32) (fun w hw => by
    obtain ⟨j, hj, rfl⟩ := List.getElem_of_mem hw
    have := hv.short j hj
    rwa [List.getD_eq_getElem?_getD, List.getElem?_eq_getElem hj, Option.getD_some] at this)
  have h4 : ws.length * (32 + 1) ≤ 64 * 33 := Nat.mul_le_mul_right _ hv.len
  omega

theorem t47 (q : Int) (ws : List (List UInt8)) (hv : Valid q ws) : PFn Try.prog 47 [codeV q ws] [.bool (!decide ([] ∈ residL ws))] := by
  have hr := residL_len hv
  refine PFn.of_body hΓ Try.func47 (by kernel_rfl) rfl (AWp.of_awpD [] hΓ hmix (by kernel_rfl) ?_)
  simp +contextual -implicitDefEqProofs only [codeV, Try.ntmps47, Try.results47, Nat.reduceAdd, Nat.reduceSub, go_sem]
  refine callK_fn (PFn.of_row (r46 q ws hv)) (.still rfl) ?_
  simp -implicitDefEqProofs only [go_sem]
  refine callK_fn (t16 (residL ws) [] (by omega)) (.pures rfl) ?_
  simp -implicitDefEqProofs only [go_sem]

theorem t15 (q : Int) (ws : List (List UInt8)) : PFn Try.prog 15 [codeV q ws] [.bool (if codeCheck q ws = 0 then !decide ([] ∈ residL ws) else false), .int .i64 (if codeCheck q ws = 0 then 0 else 1)] := by
  refine PFn.of_body hΓ Try.func15 (by kernel_rfl) rfl (AWp.of_awpD [] hΓ hmix (by kernel_rfl) ?_)
  simp +contextual -implicitDefEqProofs only [codeV, Try.ntmps15, Try.results15, Nat.reduceAdd, Nat.reduceSub, go_sem]
  refine callK_fn (t45 q ws) (.still rfl) ?_
  by_cases h : codeCheck q ws = 0
  · rw [h]
    simp -implicitDefEqProofs only [go_sem]
    refine callK_fn (t47 q ws (valid_of h)) (.still rfl) ?_
    simp -implicitDefEqProofs only [go_sem]
  · simp -implicitDefEqProofs only [h, go_sem]

theorem t14 (q : Int) (ws : List (List UInt8)) : PFn Try.prog 14 [codeV q ws] [.sl (if codeCheck q ws = 0 then (residL ws).map .str else []), .int .i64 (if codeCheck q ws = 0 then 0 else 1)] := by
  refine PFn.of_body hΓ Try.func14 (by kernel_rfl) rfl (AWp.of_awpD [] hΓ hmix (by kernel_rfl) ?_)
  simp +contextual -implicitDefEqProofs only [codeV, Try.ntmps14, Try.results14, Nat.reduceAdd, Nat.reduceSub, go_sem]
  refine callK_fn (t45 q ws) (.still rfl) ?_
  by_cases h : codeCheck q ws = 0
  · rw [h]
    simp -implicitDefEqProofs only [go_sem]
    refine callK_fn (PFn.of_row (r46 q ws (valid_of h))) (.still rfl) ?_
    simp -implicitDefEqProofs only [go_sem]
  · simp -implicitDefEqProofs only [h, go_sem]

theorem t12 (q : Int) (ws : List (List UInt8)) (hl : ws.length ≤ 9223372036854775807) : PFn Try.prog 12 [codeV q ws] [.bool (!greatB ws && decide (codeCheck q ws = 0))] := by
  have e24 : PFn Try.prog 24 [codeV q ws] [.bool (greatB ws)] := t24 q ws hl
  refine PFn.of_body hΓ Try.func12 (by kernel_rfl) rfl (AWp.of_awpD [] hΓ hmix (by kernel_rfl) ?_)
  simp +contextual -implicitDefEqProofs only [codeV, Try.ntmps12, Try.results12, Nat.reduceAdd, Nat.reduceSub, go_sem]
  refine callK_fn e24 (.still rfl) ?_
  cases hg : greatB ws
  · simp -implicitDefEqProofs only [go_sem]
    refine callK_fn (t44 q ws) (.still rfl) ?_
    simp -implicitDefEqProofs only [go_sem]
  · simp -implicitDefEqProofs only [go_sem]
    rfl

theorem t50 (w x : List UInt8) (hw : w.length ≤ 9223372036854775807) : PFn Try.prog 50 [.str w, .str x] [.bool (x.isSuffixOf w)] := by
  refine PFn.of_body hΓ Try.func50 (by kernel_rfl) rfl (AWp.of_awpD [] hΓ hmix (by kernel_rfl) ?_)
  simp +contextual -implicitDefEqProofs only [Try.ntmps50, Try.results50, Nat.reduceAdd, Nat.reduceSub, go_sem]
  refine ⟨fun h => ⟨by simp only [InR]; omega, by omega, ?_⟩, fun h => ?_⟩
  · rw [Bool.eq_iff_iff, List.isSuffixOf_iff_suffix, List.suffix_iff_eq_drop, decide_eq_true_eq, show ((w.length : Int) - x.length).toNat = w.length - x.length by omega]; exact eq_comm
  · rw [Bool.eq_iff_iff, List.isSuffixOf_iff_suffix]
    exact ⟨fun h => by simp at h, fun h' => absurd h'.length_le (by omega)⟩
theorem t19 (w x : List UInt8) (hw : w.length ≤ 9223372036854775807) : PFn Try.prog 19 [.str w, .str x] [.bool (x.isSuffixOf w)] := by
  refine PFn.of_body hΓ Try.func19 (by kernel_rfl) rfl (AWp.of_awpD [] hΓ hmix (by kernel_rfl) ?_)
  simp +contextual -implicitDefEqProofs only [Try.ntmps19, Try.results19, Nat.reduceAdd, Nat.reduceSub, go_sem]
  refine callK_fn (t50 w x hw) (.pures rfl) ?_
  simp +contextual -implicitDefEqProofs only [go_sem]
end Go.Proofs.Ytpancbdaigaheaa
end

