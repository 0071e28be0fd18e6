/-
  Contains; decodable, Decodable and Residuals of the program.
-/
import Derived.Test.YtpancbdaigaheaaRb
import Derived.Test.YtpancbdaigaheaaGh
namespace Go.Proofs.Ytpancbdaigaheaa
open Go Go.AM
set_option maxRecDepth 100000
set_option linter.unusedSimpArgs false

/-- Where a word is first, or -1. -/
def ixL (x : List UInt8) : List (List UInt8) → Nat → Int
  | [], _ => -1
  | a :: l, k => if a = x then k else ixL x l (k + 1)
theorem ixL_at (x : List UInt8) : ∀ (l : List (List UInt8)) (n k : Nat) (hk : k < l.length), (∀ j (hj : j < k), l[j] ≠ x) → l[k] = x → ixL x l n = ((n + k : Nat) : Int)
  | [], n, k, hk, _, _ => absurd hk (Nat.not_lt_zero k)
  | a :: l, n, 0, _, _, h => by
    have : a = x := h
    subst this; unfold ixL; simp
  | a :: l, n, k + 1, hk, h0, h => by
    have h1 : a ≠ x := h0 0 (by omega)
    unfold ixL
    rw [if_neg h1]
    refine (ixL_at x l (n + 1) k (by simpa using hk) (fun j hj => h0 (j + 1) (by omega)) h).trans ?_
    congr 1; omega
theorem ixL_none (x : List UInt8) : ∀ (l : List (List UInt8)) (n : Nat), x ∉ l → ixL x l n = -1
  | [], _, _ => rfl
  | a :: l, n, h => by
    simp only [List.mem_cons, not_or] at h
    unfold ixL
    rw [if_neg (fun e => h.1 e.symm)]
    exact ixL_none x l (n + 1) h.2
theorem ixL_mem (x : List UInt8) : ∀ (l : List (List UInt8)) (n : Nat), decide (0 ≤ ixL x l n) = decide (x ∈ l)
  | [], _ => by simp [ixL]
  | a :: l, n => by
    unfold ixL
    by_cases h : a = x
    · rw [if_pos h, decide_eq_true (by omega), decide_eq_true (by simp [h])]
    · rw [if_neg h, ixL_mem x l (n + 1)]
      exact decide_eq_decide.2 ⟨fun h' => by simp [h'], fun h' => (List.mem_cons.1 h').resolve_left (fun e => h e.symm)⟩

theorem t48 (ws : List (List UInt8)) (x : List UInt8) (hl : ws.length ≤ 9223372036854775807) : PFn Try.prog 48 [.sl (ws.map .str), .str x] [.int .i64 (ixL x ws 0)] := by
  refine PFn.of_body hΓ Try.func48 (by kernel_rfl) rfl (AWp.of_awpD [] hΓ hmix (by kernel_rfl) ?_)
  simp +contextual -implicitDefEqProofs only [Try.ntmps48, Try.results48, Nat.reduceAdd, Nat.reduceSub, go_sem]
  refine AWp.loopI (fun k : Nat => ⟨mkF 19 [(0, .p (.sl (ws.map .str))), (1, .p (.str x)), (7, .p (.int .i64 ws.length)), (8, .p (.int .i64 k))], []⟩)
    (fun k => k ≤ ws.length ∧ ∀ j (hj : j < ws.length), j < k → ws[j] ≠ x) (fun k => ws.length - k) 0 (by simp [go_sem]) (by simp) ?_
  rintro k ⟨hk, h0⟩
  refine AWp.of_awpD [] hΓ hmix (by kernel_rfl) ?_
  simp +contextual -implicitDefEqProofs only [getD_map_lt, ↓reduceIte, go_sem]
  refine ⟨fun hlt => ⟨fun he => ?_, fun hne => ⟨by simp only [InR]; omega, k + 1, by simp, ⟨hlt, fun j hj hjk => ?_⟩, by omega⟩⟩, fun hge => ?_⟩
  · rw [← he, ixL_at x ws 0 k hlt (fun j hj => h0 j (by omega) hj) he.symm]; simp
  · by_cases hjk' : j < k
    · exact h0 j hj hjk'
    · have : j = k := by omega
      subst this; exact fun e => hne e.symm
  · refine (ixL_none x ws 0 (fun hm => ?_)).symm
    obtain ⟨j, hj, e⟩ := List.getElem_of_mem hm
    exact h0 j hj (by omega) e

theorem t16 (ws : List (List UInt8)) (x : List UInt8) (hl : ws.length ≤ 9223372036854775807) : PFn Try.prog 16 [.sl (ws.map .str), .str x] [.bool (decide (x ∈ ws))] := by
  refine PFn.of_body hΓ Try.func16 (by kernel_rfl) rfl (AWp.of_awpD [] hΓ hmix (by kernel_rfl) ?_)
  simp +contextual -implicitDefEqProofs only [Try.ntmps16, Try.results16, Nat.reduceAdd, Nat.reduceSub, go_sem]
  refine callK_fn (t48 ws x hl) (.pures rfl) ?_
  simp -implicitDefEqProofs only [go_sem]
  exact ixL_mem x ws 0

theorem residL_len {q : Int} {ws : List (List UInt8)} (hv : Valid q ws) : (residL ws).length ≤ 2112 := by
  have h1 : residL ws ⊆ sufs ws := fun x hx => mem_sufs (reach_suffix (mem_residL.1 hx))
  have h2 := nodup_sub_lenW ((residL_strict ws).imp (fun h e => by subst e; exact ltW_irrefl _ h)) h1
  have h3 := sufs_len (ws := ws) (n := 32) (fun w hw => by
    obtain ⟨j, hj, rfl⟩ := List.getElem_of_mem hw
    have := hv.short j hj
    rwa [List.getD_eq_getElem?_getD, List.getElem?_eq_getElem hj, Option.getD_some] at this)
  have h4 : ws.length * (32 + 1) ≤ 64 * 33 := Nat.mul_le_mul_right _ hv.len
  omega

theorem t47 (q : Int) (ws : List (List UInt8)) (hv : Valid q ws) : PFn Try.prog 47 [codeV q ws] [.bool (!decide ([] ∈ residL ws))] := by
  have hr := residL_len hv
  refine PFn.of_body hΓ Try.func47 (by kernel_rfl) rfl (AWp.of_awpD [] hΓ hmix (by kernel_rfl) ?_)
  simp +contextual -implicitDefEqProofs only [codeV, Try.ntmps47, Try.results47, Nat.reduceAdd, Nat.reduceSub, go_sem]
  refine callK_fn (PFn.of_row (r46 q ws hv)) (.still rfl) ?_
  simp -implicitDefEqProofs only [go_sem]
  refine callK_fn (t16 (residL ws) [] (by omega)) (.pures rfl) ?_
  simp -implicitDefEqProofs only [go_sem]

theorem t15 (q : Int) (ws : List (List UInt8)) : PFn Try.prog 15 [codeV q ws] [.bool (if codeCheck q ws = 0 then !decide ([] ∈ residL ws) else false), .int .i64 (if codeCheck q ws = 0 then 0 else 1)] := by
  refine PFn.of_body hΓ Try.func15 (by kernel_rfl) rfl (AWp.of_awpD [] hΓ hmix (by kernel_rfl) ?_)
  simp +contextual -implicitDefEqProofs only [codeV, Try.ntmps15, Try.results15, Nat.reduceAdd, Nat.reduceSub, go_sem]
  refine callK_fn (t45 q ws) (.still rfl) ?_
  by_cases h : codeCheck q ws = 0
  · rw [h]
    simp -implicitDefEqProofs only [go_sem]
    refine callK_fn (t47 q ws (valid_of h)) (.still rfl) ?_
    simp -implicitDefEqProofs only [go_sem]
  · simp -implicitDefEqProofs only [h, go_sem]

theorem t14 (q : Int) (ws : List (List UInt8)) : PFn Try.prog 14 [codeV q ws] [.sl (if codeCheck q ws = 0 then (residL ws).map .str else []), .int .i64 (if codeCheck q ws = 0 then 0 else 1)] := by
  refine PFn.of_body hΓ Try.func14 (by kernel_rfl) rfl (AWp.of_awpD [] hΓ hmix (by kernel_rfl) ?_)
  simp +contextual -implicitDefEqProofs only [codeV, Try.ntmps14, Try.results14, Nat.reduceAdd, Nat.reduceSub, go_sem]
  refine callK_fn (t45 q ws) (.still rfl) ?_
  by_cases h : codeCheck q ws = 0
  · rw [h]
    simp -implicitDefEqProofs only [go_sem]
    refine callK_fn (PFn.of_row (r46 q ws (valid_of h))) (.still rfl) ?_
    simp -implicitDefEqProofs only [go_sem]
  · simp -implicitDefEqProofs only [h, go_sem]

theorem t12 (q : Int) (ws : List (List UInt8)) (hl : ws.length ≤ 9223372036854775807) : PFn Try.prog 12 [codeV q ws] [.bool (!greatB ws && decide (codeCheck q ws = 0))] := by
  have e24 : PFn Try.prog 24 [codeV q ws] [.bool (greatB ws)] := t24 q ws hl
  refine PFn.of_body hΓ Try.func12 (by kernel_rfl) rfl (AWp.of_awpD [] hΓ hmix (by kernel_rfl) ?_)
  simp +contextual -implicitDefEqProofs only [codeV, Try.ntmps12, Try.results12, Nat.reduceAdd, Nat.reduceSub, go_sem]
  refine callK_fn e24 (.still rfl) ?_
  cases hg : greatB ws
  · simp -implicitDefEqProofs only [go_sem]
    refine callK_fn (t44 q ws) (.still rfl) ?_
    simp -implicitDefEqProofs only [go_sem]
  · simp -implicitDefEqProofs only [go_sem]
    rfl

theorem t50 (w x : List UInt8) (hw : w.length ≤ 9223372036854775807) : PFn Try.prog 50 [.str w, .str x] [.bool (x.isSuffixOf w)] := by
  refine PFn.of_body hΓ Try.func50 (by kernel_rfl) rfl (AWp.of_awpD [] hΓ hmix (by kernel_rfl) ?_)
  simp +contextual -implicitDefEqProofs only [Try.ntmps50, Try.results50, Nat.reduceAdd, Nat.reduceSub, go_sem]
  refine ⟨fun h => ⟨by simp only [InR]; omega, by omega, ?_⟩, fun h => ?_⟩
  · rw [Bool.eq_iff_iff, List.isSuffixOf_iff_suffix, List.suffix_iff_eq_drop, decide_eq_true_eq, show ((w.length : Int) - x.length).toNat = w.length - x.length by omega]; exact eq_comm
  · rw [Bool.eq_iff_iff, List.isSuffixOf_iff_suffix]
    exact ⟨fun h => by simp at h, fun h' => absurd h'.length_le (by omega)⟩
theorem t19 (w x : List UInt8) (hw : w.length ≤ 9223372036854775807) : PFn Try.prog 19 [.str w, .str x] [.bool (x.isSuffixOf w)] := by
  refine PFn.of_body hΓ Try.func19 (by kernel_rfl) rfl (AWp.of_awpD [] hΓ hmix (by kernel_rfl) ?_)
  simp +contextual -implicitDefEqProofs only [Try.ntmps19, Try.results19, Nat.reduceAdd, Nat.reduceSub, go_sem]
  refine callK_fn (t50 w x hw) (.pures rfl) ?_
  simp +contextual -implicitDefEqProofs only [go_sem]
end Go.Proofs.Ytpancbdaigaheaa
