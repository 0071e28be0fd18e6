/-
  The reference's lists of rests, and its CheckProof.
-/
import Derived.Test.YtpancbdaigaheaaGd
import Derived.Test.YtpancbdaigaheaaAm27
namespace Go.Proofs.Ytpancbdaigaheaa
open Go Go.AM
set_option maxRecDepth 100000
set_option linter.unusedSimpArgs false

/-- The rest of the word at i behind the word at k. -/
def restAt (ws : List (List UInt8)) (i k : Nat) : List (List UInt8) :=
  if i ≠ k ∧ (ws.getD k []).isPrefixOf (ws.getD i []) then [(ws.getD i []).drop (ws.getD k []).length] else []
def restsOf (ws : List (List UInt8)) (i n : Nat) : List (List UInt8) := (List.range n).flatMap (restAt ws i)
def firstN (ws : List (List UInt8)) (n : Nat) : List (List UInt8) := (List.range n).flatMap fun i => restsOf ws i ws.length
def firstS (ws : List (List UInt8)) : List (List UInt8) := firstN ws ws.length

theorem restAt_len (ws : List (List UInt8)) (i k : Nat) : (restAt ws i k).length ≤ 1 := by unfold restAt; split <;> simp
theorem restsOf_succ (ws : List (List UInt8)) (i n : Nat) : restsOf ws i (n + 1) = restsOf ws i n ++ restAt ws i n := by
  unfold restsOf; rw [List.range_succ, List.flatMap_append]; simp
theorem restsOf_len (ws : List (List UInt8)) (i : Nat) : ∀ n, (restsOf ws i n).length ≤ n
  | 0 => by simp [restsOf]
  | n + 1 => by
    rw [restsOf_succ, List.length_append]
    have := restsOf_len ws i n; have := restAt_len ws i n; omega
theorem firstN_succ (ws : List (List UInt8)) (n : Nat) : firstN ws (n + 1) = firstN ws n ++ restsOf ws n ws.length := by
  unfold firstN; rw [List.range_succ, List.flatMap_append]; simp
theorem firstN_len (ws : List (List UInt8)) : ∀ n, (firstN ws n).length ≤ n * ws.length
  | 0 => by simp [firstN]
  | n + 1 => by
    rw [firstN_succ, List.length_append, Nat.succ_mul]
    have := firstN_len ws n; have := restsOf_len ws n ws.length; omega

theorem r54 (q : Int) (ws : List (List UInt8)) (hl : ws.length ≤ 1000) : PRow Try.prog 54 [codeV q ws] 9 1 ((firstS ws).map .str) := by
  refine AC.of_body 2 hΓ Try.func54 (by kernel_rfl) rfl (by simp) (AWp.of_awpD [] hΓ hmix (by kernel_rfl) ?_)
  simp +contextual -implicitDefEqProofs only [codeV, Try.ntmps54, Try.results54, Nat.reduceAdd, Nat.reduceSub, List.map_cons, List.map_nil, go_sem]
  refine ⟨⟨fun x h => (by cases h), by omega⟩, ?_⟩
  refine AWp.adopt (l := []) 3 9 1 (by rfl) (by simp) ?_
  simp +contextual -implicitDefEqProofs only [go_sem]
  refine AWp.loopI (fun i : Nat => ⟨mkF 53 [(1, .ptr 0 0), (3, .own 1 (firstN ws i).length), (4, .p (.int .i64 i))], [codeB q ws, .row 9 1 ((firstN ws i).map .str) .lax]⟩)
    (fun i => i ≤ ws.length) (fun i => ws.length - i) 0 (by simp [go_sem, codeB, firstN]) (by simp) ?_
  rintro i hk
  refine AWp.of_awpD [] hΓ hmix (by kernel_rfl) ?_
  simp +contextual -implicitDefEqProofs only [↓reduceIte, codeB, go_sem]
  refine ⟨fun hlt => ?_, fun hge => by rw [show i = ws.length by omega]; exact ⟨rfl, 1, .lax, ⟨rfl, rfl⟩, rfl, by simp⟩⟩
  refine AWp.loopI (fun k : Nat => ⟨mkF 53 [(1, .ptr 0 0), (3, .own 1 (firstN ws i ++ restsOf ws i k).length), (4, .p (.int .i64 i)), (5, .p (.int .i64 k))], [codeB q ws, .row 9 1 ((firstN ws i ++ restsOf ws i k).map .str) .lax]⟩)
    (fun k => k ≤ ws.length) (fun k => ws.length - k) 0 (by simp [go_sem, codeB, restsOf]) (by simp) ?_
  rintro k hk2
  refine AWp.of_awpD [(8, 14), (9, 14)] hΓ hmix (by kernel_rfl) ?_
  simp +contextual -implicitDefEqProofs only [getD_map_lt, ↓reduceIte, codeB, hlt, go_sem]
  have hwi : ws.getD i [] = ws[i] := by rw [List.getD_eq_getElem?_getD, List.getElem?_eq_getElem hlt, Option.getD_some]
  refine ⟨fun hlt2 => ⟨fun he => ⟨by simp only [InR]; omega, k + 1, ?_, hlt2, by omega⟩, fun hne => callK_fn (t60 ws[i] ws[k]) (.pures rfl) ?_⟩, fun hge => ⟨by simp only [InR]; omega, i + 1, ?_, hlt, by omega⟩⟩
  · have : restsOf ws k (k + 1) = restsOf ws k k := by rw [restsOf_succ]; unfold restAt; rw [if_neg (by simp)]; simp
    rw [this]; simp
  · have hwk : ws.getD k [] = ws[k] := by rw [List.getD_eq_getElem?_getD, List.getElem?_eq_getElem hlt2, Option.getD_some]
    cases hp : ws[k].isPrefixOf ws[i]
    · simp -implicitDefEqProofs only [hlt, hlt2, getD_map_lt, ↓reduceIte, codeB, go_sem]
      have : restsOf ws i (k + 1) = restsOf ws i k := by rw [restsOf_succ]; unfold restAt; rw [hwi, hwk, if_neg (by simp [hp])]; simp
      exact ⟨by simp only [InR]; omega, k + 1, by rw [this]; simp, hlt2, by omega⟩
    · simp -implicitDefEqProofs only [hlt, hlt2, getD_map_lt, ↓reduceIte, codeB, go_sem]
      have : restsOf ws i (k + 1) = restsOf ws i k ++ [ws[i].drop ws[k].length] := by rw [restsOf_succ]; unfold restAt; rw [hwi, hwk, if_pos ⟨hne, hp⟩]
      have h1 := firstN_len ws i
      have h2 := restsOf_len ws i k
      have h3 : i * ws.length ≤ 1000 * 1000 := Nat.mul_le_mul (by omega) hl
      refine ⟨(List.isPrefixOf_iff_prefix.1 hp).length_le, ⟨by simp [sizeOK, PV.cells], by omega⟩, ⟨by simp [sizeOK, PV.cells], by simp [oneOK, PV.cells, PV.isAgg]⟩, ⟨by simp, by simp only [List.length_append]; omega, by simp only [List.length_append]; omega⟩,
        by simp only [InR]; omega, k + 1, ⟨⟨by rw [this]; simp; omega, by simp⟩, by rw [this]; simp⟩, hlt2, by omega⟩
  · have : firstN ws (i + 1) = firstN ws i ++ restsOf ws i k := by rw [firstN_succ, show k = ws.length by omega]
    rw [this]; simp

theorem t54 (q : Int) (ws : List (List UInt8)) (hl : ws.length ≤ 1000) : PFn Try.prog 54 [codeV q ws] [.sl ((firstS ws).map .str)] := .of_row (r54 q ws hl)

/-- What follows from a rest and a word. -/
def nextAt (r x : List UInt8) : List (List UInt8) := if x.isPrefixOf r then [r.drop x.length] else if r.isPrefixOf x then [x.drop r.length] else []
def nextS (ws : List (List UInt8)) (r : List UInt8) : List (List UInt8) := ws.flatMap (nextAt r)
theorem nextS_len (r : List UInt8) : ∀ ws : List (List UInt8), (nextS ws r).length ≤ ws.length
  | [] => by simp [nextS]
  | x :: ws => by
    have := nextS_len r ws
    have h : (nextAt r x).length ≤ 1 := by unfold nextAt; split; simp; split <;> simp
    unfold nextS at this ⊢
    simp only [List.flatMap_cons, List.length_append, List.length_cons]; omega
theorem nextS_succ {ws : List (List UInt8)} {k : Nat} (r : List UInt8) (hk : k < ws.length) : nextS (ws.take (k + 1)) r = nextS (ws.take k) r ++ nextAt r ws[k] := by
  rw [List.take_succ_eq_append_getElem hk]; unfold nextS; rw [List.flatMap_append]; simp

theorem t56 (q : Int) (ws : List (List UInt8)) (r : List UInt8) (hl : ws.length ≤ 1000) : PFn Try.prog 56 [codeV q ws, .str r] [.sl ((nextS ws r).map .str)] := by
  refine PFn.of_body hΓ Try.func56 (by kernel_rfl) rfl (AWp.of_awpD [] hΓ hmix (by kernel_rfl) ?_)
  simp +contextual -implicitDefEqProofs only [codeV, Try.ntmps56, Try.results56, Nat.reduceAdd, Nat.reduceSub, go_sem]
  refine ⟨⟨fun x h => (by cases h), by omega⟩, ?_⟩
  refine AWp.adopt (l := []) 5 9 1 (by rfl) (by simp) ?_
  simp +contextual -implicitDefEqProofs only [go_sem]
  refine AWp.loopI (fun k : Nat => ⟨mkF 42 [(1, .p (.str r)), (2, .ptr 0 0), (5, .own 1 (nextS (ws.take k) r).length), (6, .p (.int .i64 k))], [codeB q ws, .row 9 1 ((nextS (ws.take k) r).map .str) .lax]⟩)
    (fun k => k ≤ ws.length) (fun k => ws.length - k) 0 (by simp [go_sem, codeB, nextS]) (by simp) ?_
  rintro k hk
  refine AWp.of_awpD [] hΓ hmix (by kernel_rfl) ?_
  simp +contextual -implicitDefEqProofs only [getD_map_lt, ↓reduceIte, codeB, go_sem]
  refine ⟨fun hlt => callK_fn (t60 r ws[k]) (.pures rfl) ?_, fun hge => by rw [List.take_of_length_le (by omega)]⟩
  have h2 := nextS_len r (ws.take k)
  rw [List.length_take] at h2
  have hs := nextS_succ r hlt
  cases hp : ws[k].isPrefixOf r
  · simp -implicitDefEqProofs only [hlt, getD_map_lt, ↓reduceIte, codeB, go_sem]
    refine callK_fn (t60 ws[k] r) (.pures rfl) ?_
    cases hp2 : r.isPrefixOf ws[k]
    · simp -implicitDefEqProofs only [hlt, getD_map_lt, ↓reduceIte, codeB, go_sem]
      have : nextS (ws.take (k + 1)) r = nextS (ws.take k) r := by rw [hs]; unfold nextAt; rw [if_neg (by simp [hp]), if_neg (by simp [hp2])]; simp
      exact ⟨by simp only [InR]; omega, k + 1, by rw [this]; simp, hlt, by omega⟩
    · simp -implicitDefEqProofs only [hlt, getD_map_lt, ↓reduceIte, codeB, go_sem]
      have : nextS (ws.take (k + 1)) r = nextS (ws.take k) r ++ [ws[k].drop r.length] := by rw [hs]; unfold nextAt; rw [if_neg (by simp [hp]), if_pos hp2]
      refine ⟨(List.isPrefixOf_iff_prefix.1 hp2).length_le, ⟨by simp [sizeOK, PV.cells], by omega⟩, ⟨by simp [sizeOK, PV.cells], by simp [oneOK, PV.cells, PV.isAgg]⟩, ⟨by simp, by omega, by omega⟩,
        by simp only [InR]; omega, k + 1, ⟨⟨by rw [this]; simp, by simp⟩, by rw [this]; simp⟩, hlt, by omega⟩
  · simp -implicitDefEqProofs only [hlt, getD_map_lt, ↓reduceIte, codeB, go_sem]
    have : nextS (ws.take (k + 1)) r = nextS (ws.take k) r ++ [r.drop ws[k].length] := by rw [hs]; unfold nextAt; rw [if_pos hp]
    refine ⟨(List.isPrefixOf_iff_prefix.1 hp).length_le, ⟨by simp [sizeOK, PV.cells], by omega⟩, ⟨by simp [sizeOK, PV.cells], by simp [oneOK, PV.cells, PV.isAgg]⟩, ⟨by simp, by omega, by omega⟩,
      by simp only [InR]; omega, k + 1, ⟨⟨by rw [this]; simp, by simp⟩, by rw [this]; simp⟩, hlt, by omega⟩

/-- Whether a list of words is a proof. -/
def proofOK (ws l : List (List UInt8)) : Bool := l.all (fun r => decide (r ≠ []) && (nextS ws r).all (fun u => decide (u ∈ l))) && (firstS ws).all (fun u => decide (u ∈ l))
def proofCheck (q : Int) (ws l : List (List UInt8)) : Int := if codeCheck q ws ≠ 0 then 1 else if 65536 < l.length then 4 else if proofOK ws l then 0 else 23
/-- What the reference must find among the words. -/
def needN (ws l : List (List UInt8)) (n : Nat) : List (List UInt8) := firstS ws ++ (l.take n).flatMap (nextS ws)

theorem proofOK_iff (ws l : List (List UInt8)) : proofOK ws l = true ↔ [] ∉ l ∧ ∀ u ∈ needN ws l l.length, u ∈ l := by
  unfold proofOK needN
  simp only [Bool.and_eq_true, List.all_eq_true, decide_eq_true_eq, List.take_length, List.mem_append, List.mem_flatMap]
  exact ⟨fun ⟨h1, h2⟩ => ⟨fun h => (h1 _ h).1 rfl, fun u hu => hu.elim (h2 u) (fun ⟨r, hr, hu⟩ => (h1 r hr).2 u hu)⟩, fun ⟨h1, h2⟩ => ⟨fun r hr => ⟨fun e => h1 (e ▸ hr), fun u hu => h2 u (.inr ⟨r, hr, hu⟩)⟩, fun u hu => h2 u (.inl hu)⟩⟩
theorem proofCheck_23 {q : Int} {ws l : List (List UInt8)} (h : codeCheck q ws = 0) (h1 : ¬ 65536 < l.length) (h2 : ¬ ([] ∉ l ∧ ∀ u ∈ needN ws l l.length, u ∈ l)) : proofCheck q ws l = 23 := by
  unfold proofCheck; rw [if_neg (by omega), if_neg h1, if_neg (fun e => h2 ((proofOK_iff ws l).1 e))]
theorem proofCheck_0 {q : Int} {ws l : List (List UInt8)} (h : codeCheck q ws = 0) (h1 : ¬ 65536 < l.length) (h2 : [] ∉ l) (h3 : ∀ u ∈ needN ws l l.length, u ∈ l) : proofCheck q ws l = 0 := by
  unfold proofCheck; rw [if_neg (by omega), if_neg h1, if_pos ((proofOK_iff ws l).2 ⟨h2, h3⟩)]
theorem needN_succ {ws l : List (List UInt8)} {i : Nat} (hi : i < l.length) : needN ws l (i + 1) = needN ws l i ++ nextS ws l[i] := by
  unfold needN; rw [List.take_succ_eq_append_getElem hi, List.flatMap_append]; simp

theorem t36 (q : Int) (ws l : List (List UInt8)) (hl : l.length ≤ 1000) : PFn Try.prog 36 [codeV q ws, .sl (l.map .str)] [.int .i64 (proofCheck q ws l)] := by
  refine PFn.of_body hΓ Try.func36 (by kernel_rfl) rfl (AWp.of_awpD [] hΓ hmix (by kernel_rfl) ?_)
  simp +contextual -implicitDefEqProofs only [codeV, Try.ntmps36, Try.results36, Nat.reduceAdd, Nat.reduceSub, go_sem]
  refine callK_fn (t44 q ws) (.still rfl) ?_
  by_cases h : codeCheck q ws = 0
  rotate_left
  · simp -implicitDefEqProofs only [h, go_sem]
    unfold proofCheck; rw [if_pos h]
  have hw : ws.length ≤ 64 := by
    unfold codeCheck at h
    split at h
    · omega
    · split at h
      · omega
      · split at h
        · omega
        · omega
  rw [h]
  simp -implicitDefEqProofs only [go_sem]
  have h1 : ¬ 65536 < (l.length : Int) := by omega
  refine ⟨fun h => absurd h h1, fun _ => ?_⟩
  refine callK_ac (AC.of_row (r54 q ws (by omega)) (.inr rfl)) (by simp) ?_
  rintro v h' ⟨rfl, rfl⟩
  simp +contextual -implicitDefEqProofs only [killAll, go_sem]
  have lenF : (firstS ws).length ≤ 64 * 64 := by
    have := firstN_len ws ws.length
    have h3 : ws.length * ws.length ≤ 64 * 64 := Nat.mul_le_mul hw hw
    unfold firstS; omega
  have lenN : ∀ n, (needN ws l n).length ≤ 64 * 64 + n * 64 := fun n => by
    unfold needN
    have : ∀ l' : List (List UInt8), (l'.flatMap (nextS ws)).length ≤ l'.length * 64 := fun l' => by
      induction l' with
      | nil => simp
      | cons x l' ih =>
        have := nextS_len x ws
        simp only [List.flatMap_cons, List.length_append, List.length_cons]; omega
    have h := this (l.take n)
    rw [List.length_take] at h
    have : min n l.length * 64 ≤ n * 64 := Nat.mul_le_mul_right _ (by omega)
    simp only [List.length_append]; omega
  refine AWp.loopI (fun i : Nat => ⟨mkF 48 [(1, .p (.sl (l.map .str))), (2, .ptr 0 0), (4, .p (.int .i64 0)), (5, .own 1 (needN ws l i).length), (6, .p (.int .i64 i))], [codeB q ws, .row 9 1 ((needN ws l i).map .str) .lax]⟩)
    (fun i => i ≤ l.length ∧ [] ∉ l.take i) (fun i => l.length - i) 0 (by simp [go_sem, codeB, needN]) (by simp) ?_
  rintro i ⟨hk, h0⟩
  refine AWp.of_awpD [(11, 7)] hΓ hmix (by kernel_rfl) ?_
  simp +contextual -implicitDefEqProofs only [getD_map_lt, ↓reduceIte, codeB, go_sem]
  have h1' : ¬ 65536 < l.length := by omega
  refine ⟨fun hlt => ⟨fun he => (proofCheck_23 h h1' (fun e => e.1 (he ▸ List.getElem_mem hlt))).symm, fun hne => callVPK_fn (t56 q ws l[i] (by omega)) (.still rfl) ?_⟩, fun hge => ?_⟩
  · simp +contextual -implicitDefEqProofs only [hlt, getD_map_lt, ↓reduceIte, codeB, go_sem]
    have hn := lenN i
    have hx := nextS_len l[i] ws
    have h64 : i * 64 ≤ 1000 * 64 := Nat.mul_le_mul_right _ (by omega)
    have hs : ∀ x ∈ (nextS ws l[i]).map PV.str, ∃ u, x = .str u := fun x hx => by obtain ⟨u, _, rfl⟩ := List.mem_map.1 hx; exact ⟨u, rfl⟩
    refine ⟨⟨fun x hx => by obtain ⟨u, rfl⟩ := hs x hx; rfl, fun x hx c hc => by obtain ⟨u, rfl⟩ := hs x hx; simp only [PV.cells, List.mem_singleton] at hc; subst hc; rfl⟩, ⟨by simp, by omega, by omega⟩,
      by simp only [InR]; omega, i + 1, ⟨⟨by rw [needN_succ hlt]; simp, by simp⟩, ?_⟩, ⟨hlt, ?_⟩, by omega⟩
    · rw [needN_succ hlt, List.map_append]
      cases he : ((nextS ws l[i]).map PV.str).isEmpty
      · right; rfl
      · left; exact ⟨rfl, rfl⟩
    · rw [List.take_succ_eq_append_getElem hlt]
      simp only [List.mem_append, List.mem_singleton]
      rintro (h | h)
      · exact h0 h
      · exact hne h.symm
  have hi : i = l.length := by omega
  subst hi
  rw [List.take_length] at h0
  refine AWp.freeze 1 rfl ?_
  simp +contextual -implicitDefEqProofs only [Frozen, go_sem]
  refine AWp.loopI (fun j : Nat => ⟨mkF 48 [(1, .p (.sl (l.map .str))), (2, .ptr 0 0), (4, .p (.int .i64 0)), (5, .p (.sl ((needN ws l l.length).map .str))), (7, .p (.int .i64 j))], [codeB q ws, .dead]⟩)
    (fun j => j ≤ (needN ws l l.length).length ∧ ∀ u ∈ (needN ws l l.length).take j, u ∈ l) (fun j => (needN ws l l.length).length - j) 0 (by simp [go_sem, codeB]) (by simp) ?_
  rintro j ⟨hj, h2⟩
  refine AWp.of_awpD [] hΓ hmix (by kernel_rfl) ?_
  simp +contextual -implicitDefEqProofs only [getD_map_lt, ↓reduceIte, codeB, go_sem]
  refine ⟨fun hlt => ?_, fun hge => (proofCheck_0 h h1' h0 (fun u hu => by rw [List.take_of_length_le (by omega)] at h2; exact h2 u hu)).symm⟩
  refine callK_fn (t55 l (needN ws l l.length)[j] (by omega)) (.still rfl) ?_
  have lenL := lenN l.length
  cases hm : decide ((needN ws l l.length)[j] ∈ l)
  · simp -implicitDefEqProofs only [hlt, getD_map_lt, ↓reduceIte, codeB, go_sem]
    exact (proofCheck_23 h h1' (fun e => by simp only [decide_eq_false_iff_not] at hm; exact hm (e.2 _ (List.getElem_mem hlt)))).symm
  · simp -implicitDefEqProofs only [hlt, getD_map_lt, ↓reduceIte, codeB, go_sem]
    refine ⟨by simp only [InR]; omega, j + 1, by simp, ⟨hlt, fun u hu => ?_⟩, by omega⟩
    rw [List.take_succ_eq_append_getElem hlt] at hu
    rcases List.mem_append.1 hu with hu | hu
    · exact h2 u hu
    · simp only [List.mem_singleton] at hu; subst hu; simpa using hm
end Go.Proofs.Ytpancbdaigaheaa
