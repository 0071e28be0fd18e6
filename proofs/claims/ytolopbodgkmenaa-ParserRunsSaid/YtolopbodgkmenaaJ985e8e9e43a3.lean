/-
  Automaton of both.
  The reference's comparisons of lists, parsers and automata; which parsers are too large.
  Which parsers are too large.
  The words that end in a parser; the reference's CodeOf and Check.
  parser.Check.
  Reading: parser.steps, Run and Position.
  parser.Position and parser.Run.
  parser.Run.
  The parser of a prefix code is one; the examples.
  The law ParserBuilds.
  What a parameter that fits a shape is: codes, ambiguities, lists of words and numbers.
  The given statement ParserBuilds, for all arguments, without conditions.
  Greedy of both.
-/
import Derived.Test.YtolopbodgkmenaaJ6ee81cfbde22
import Derived.Test.YtolopbodgkmenaaJffb3c3008b8e
import Derived.Test.YtolopbodgkmenaaJdf94063cf20a
import Derived.Test.YtolopbodgkmenaaJa0bbfa06eafe
import Derived.Test.YtolopbodgkmenaaRows

section
namespace Go.Proofs.Ytolopbodgkmenaa
open Go Go.AM
set_option maxRecDepth 100000
set_option linter.unusedSimpArgs false

theorem c79 {h : List AObj} (N : List (List Int)) (hl : N.length ≤ 1000000) (hs : ∀ x ∈ N, x.length ≤ 1000000) :
    AC Try.prog 79 [.p (.sl (N.map slI)), .fn 50 []] h [] (fun v h' => (∃ i : Int, v = .p (.int .i64 i) ∧ decide (0 ≤ i) = N.any fun l => decide (-1 ∈ l)) ∧ h' = h) := by
  refine AC.of_bodyE hΓ Try.func79 (by kernel_rfl) rfl (AWp.mono (Q := fun e st => AM.Ends e ∧ (∃ i : Int, st.tmps.getD 4 .junk = .p (.int .i64 i) ∧ decide (0 ≤ i) = N.any fun l => decide (-1 ∈ l)) ∧ st.h = h) ?_ ?_)
  rotate_left
  · rintro e ⟨tm, h'⟩ ⟨he, ⟨i, h1, h3⟩, h2⟩
    simp only at h1 h2
    subst h2
    refine ⟨he, _, Less.refl _, ?_⟩
    unfold DoneE
    simp +contextual -implicitDefEqProofs only [Try.results79, h1, go_sem]
    exact ⟨_, Nat.le_refl _, .inl rfl, ⟨i, rfl, h3⟩, List.take_length⟩
  refine AWp.of_awpD [] hΓ hmix (by kernel_rfl) ?_
  simp -implicitDefEqProofs only [Try.ntmps79, Nat.reduceAdd, Nat.reduceSub, List.length_map, go_sem]
  refine AWp.loopI (fun k : Nat => ⟨mkF 19 [(0, .p (.sl (N.map slI))), (1, .fn 50 []), (7, .p (.int .i64 N.length)), (8, .p (.int .i64 k))], h⟩)
    (fun k => k ≤ N.length ∧ ((N.take k).any fun l => decide (-1 ∈ l)) = false) (fun k => N.length - k) 0 (by simp [go_sem, weakH_self]) (by simp) ?_
  rintro k ⟨hk, h0⟩
  simp -implicitDefEqProofs only [go_sem]
  refine AWp.of_awpD [] hΓ hmix (by kernel_rfl) ?_
  by_cases hlt : k < N.length
  · simp -implicitDefEqProofs only [hlt, getD_map_lt, ↓reduceIte, slI, go_sem]
    refine callK_fn (p50 N[k] (hs _ (List.getElem_mem hlt))) (.pures rfl) ?_
    by_cases hp : -1 ∈ N[k]
    · simp -implicitDefEqProofs only [hp, go_sem]
      refine ⟨k, rfl, ?_⟩
      rw [List.any_eq_true.2 ⟨_, List.getElem_mem hlt, decide_eq_true hp⟩]; simp
    · simp -implicitDefEqProofs only [hp, go_sem]
      refine ⟨by simp only [InR]; omega, k + 1, by simp [weakH_self, slI], ⟨hlt, ?_⟩, by omega⟩
      rw [List.take_succ_eq_append_getElem hlt, List.any_append, h0]; simp [hp]
  · have hz : ¬ (k : Int) < N.length := by omega
    simp -implicitDefEqProofs only [hz, hlt, go_sem]
    exact ⟨-1, rfl, by rw [List.take_of_length_le (by omega)] at h0; rw [h0]; rfl⟩

theorem c49 {h : List AObj} (N : List (List Int)) (hl : N.length ≤ 1000000) (hs : ∀ x ∈ N, x.length ≤ 1000000) :
    AC Try.prog 49 [.p (.sl (N.map slI)), .fn 50 []] h [] (fun v h' => v = .p (.bool (N.any fun l => decide (-1 ∈ l))) ∧ h' = h) := by
  refine AC.of_bodyE hΓ Try.func49 (by kernel_rfl) rfl (AWp.mono (Q := fun e st => AM.Ends e ∧ st.tmps.getD 4 .junk = .p (.bool (N.any fun l => decide (-1 ∈ l))) ∧ st.h = h) ?_ ?_)
  rotate_left
  · rintro e ⟨tm, h'⟩ ⟨he, h1, h2⟩
    simp only at h1 h2
    subst h2
    refine ⟨he, _, Less.refl _, ?_⟩
    unfold DoneE
    simp +contextual -implicitDefEqProofs only [Try.results49, h1, go_sem]
    exact ⟨_, Nat.le_refl _, .inl rfl, List.take_length⟩
  refine AWp.of_awpD [] hΓ hmix (by kernel_rfl) ?_
  simp -implicitDefEqProofs only [Try.ntmps49, Nat.reduceAdd, Nat.reduceSub, go_sem]
  refine callK_ac (c79 N hl hs) (by simp) ?_
  rintro v h' ⟨⟨i, rfl, hi⟩, rfl⟩
  simp -implicitDefEqProofs only [killAll, List.foldl, go_sem]
  exact hi

def holeB (q : Int) (ws : List (List UInt8)) : Bool := (nxP q ws).any fun l => decide (-1 ∈ l)
def auV (q : Int) (N : List (List Int)) : PV := .agg [.int .i64 q, .sl (N.map slI)]
def aR (q : Int) (ws : List (List UInt8)) : PV := if codeCheck q ws = 0 ∧ preB ws = true ∧ holeB q ws = false then auV q (nxP q ws) else auV 0 []
def aE (q : Int) (ws : List (List UInt8)) : Int := if codeCheck q ws = 0 ∧ preB ws = true then (if holeB q ws = true then 8 else 0) else pE q ws

theorem prefs_len {q : Int} {ws : List (List UInt8)} (hv : Valid q ws) : (prefs ws).length ≤ 2048 := by
  have h1 := made_le (propers ws)
  have h2 := propers_len (ws := ws) (m := 32) fun x hx => (hv.words x hx).2.1
  have : ws.length * 32 ≤ 64 * 32 := Nat.mul_le_mul_right _ hv.len
  unfold prefs; omega
theorem nxP_len {q : Int} {ws : List (List UInt8)} (hv : Valid q ws) : (nxP q ws).length ≤ 2048 ∧ ∀ x ∈ nxP q ws, x.length = q.toNat := by
  refine ⟨by have := prefs_len hv; simp [nxP]; exact this, fun x hx => ?_⟩
  obtain ⟨y, _, rfl⟩ := List.mem_map.1 hx
  simp [nxL]
theorem emP_len {q : Int} {ws : List (List UInt8)} (hv : Valid q ws) : (emP q ws).length ≤ 2048 ∧ ∀ x ∈ emP q ws, x.length = q.toNat := by
  refine ⟨by have := prefs_len hv; simp [emP]; exact this, fun x hx => ?_⟩
  obtain ⟨y, _, rfl⟩ := List.mem_map.1 hx
  simp [emL]

theorem p14 (q : Int) (ws : List (List UInt8)) : PFn Try.prog 14 [codeV q ws] [aR q ws, .int .i64 (aE q ws)] := by
  have e12 := p12 q ws
  by_cases h : codeCheck q ws = 0 ∧ preB ws = true
  rotate_left
  · have e1 : pR q ws = psV 0 [] [] [] := by unfold pR; rw [if_neg h]
    have e2 : aR q ws = auV 0 [] := by unfold aR; rw [if_neg (fun e => h ⟨e.1, e.2.1⟩)]
    have e3 : aE q ws = pE q ws := by unfold aE; rw [if_neg h]
    have e4 : ¬ pE q ws = 0 := fun e => h (by
      unfold pE at e
      by_cases h1 : codeCheck q ws = 0
      · rw [if_pos h1] at e
        by_cases h2 : preB ws = true
        · exact ⟨h1, h2⟩
        · rw [if_neg h2] at e; cases e
      · rw [if_neg h1] at e; cases e)
    rw [e1] at e12
    rw [e2, e3]
    generalize pE q ws = ee at *
    refine PFn.of_body hΓ Try.func14 (by kernel_rfl) rfl (AWp.of_awpD [] hΓ hmix (by kernel_rfl) ?_)
    simp -implicitDefEqProofs only [Try.ntmps14, Try.results14, Nat.reduceAdd, Nat.reduceSub, codeV, go_sem]
    refine callK_fn e12 (.still rfl) ?_
    simp -implicitDefEqProofs only [psV, auV, e4, List.map_nil, go_sem]
  have hv := valid_of h.1
  have e1 : pR q ws = parV q ws := by unfold pR; rw [if_pos h]
  have e2 : pE q ws = 0 := by unfold pE; rw [if_pos h.1, if_pos h.2]
  have hq2 := hv.q2
  have hq16 := hv.q16
  have hN := nxP_len hv
  have e49 := fun (hh : List AObj) => c49 (h := hh) (nxP q ws) (by omega) (fun x hx => by rw [hN.2 x hx]; omega)
  change ∀ hh, AC Try.prog 49 [.p (.sl ((nxP q ws).map slI)), .fn 50 []] hh [] (fun v h' => v = .p (.bool (holeB q ws)) ∧ h' = hh) at e49
  rw [e1, e2] at e12
  unfold aR aE
  rw [if_pos h]
  refine PFn.of_body hΓ Try.func14 (by kernel_rfl) rfl (AWp.of_awpD [] hΓ hmix (by kernel_rfl) ?_)
  simp -implicitDefEqProofs only [Try.ntmps14, Try.results14, Nat.reduceAdd, Nat.reduceSub, codeV, go_sem]
  refine callK_fn e12 (.still rfl) ?_
  simp -implicitDefEqProofs only [parV, psV, go_sem]
  refine callK_ac (e49 _) (by simp) ?_
  rintro v h' ⟨rfl, rfl⟩
  cases hh : holeB q ws
  · rw [if_pos ⟨h.1, h.2, rfl⟩]
    simp -implicitDefEqProofs only [killAll, List.foldl, auV, AV.kill, go_sem]
    exact ⟨by omega, by omega⟩
  · rw [if_neg (fun e => by cases e.2.2)]
    simp -implicitDefEqProofs only [killAll, List.foldl, auV, AV.kill, go_sem]

theorem nxP_ge {q : Int} {ws : List (List UInt8)} : ∀ l ∈ nxP q ws, ∀ x ∈ l, -1 ≤ x := fun l hl x hx => by
  obtain ⟨y, _, rfl⟩ := List.mem_map.1 hl
  unfold nxL at hx
  obtain ⟨a, _, rfl⟩ := List.mem_map.1 hx
  unfold nextN ixW
  split
  · omega
  · split <;> omega

theorem p15 (q : Int) (ws : List (List UInt8)) : PFn Try.prog 15 [codeV q ws] [aR q ws, .int .i64 (aE q ws)] := by
  have e12 := p13 q ws
  by_cases h : codeCheck q ws = 0 ∧ preB ws = true
  rotate_left
  · have e1 : pR q ws = psV 0 [] [] [] := by unfold pR; rw [if_neg h]
    have e2 : aR q ws = auV 0 [] := by unfold aR; rw [if_neg (fun e => h ⟨e.1, e.2.1⟩)]
    have e3 : aE q ws = pE q ws := by unfold aE; rw [if_neg h]
    have e4 : ¬ pE q ws = 0 := fun e => h (by
      unfold pE at e
      by_cases h1 : codeCheck q ws = 0
      · rw [if_pos h1] at e
        by_cases h2 : preB ws = true
        · exact ⟨h1, h2⟩
        · rw [if_neg h2] at e; cases e
      · rw [if_neg h1] at e; cases e)
    rw [e1] at e12
    rw [e2, e3]
    generalize pE q ws = ee at *
    refine PFn.of_body hΓ Try.func15 (by kernel_rfl) rfl (AWp.of_awpD [] hΓ hmix (by kernel_rfl) ?_)
    simp -implicitDefEqProofs only [Try.ntmps15, Try.results15, Nat.reduceAdd, Nat.reduceSub, codeV, go_sem]
    refine callK_fn e12 (.still rfl) ?_
    simp -implicitDefEqProofs only [psV, auV, e4, List.map_nil, go_sem]
  have hv := valid_of h.1
  have e1 : pR q ws = parV q ws := by unfold pR; rw [if_pos h]
  have e2 : pE q ws = 0 := by unfold pE; rw [if_pos h.1, if_pos h.2]
  have hq2 := hv.q2
  have hq16 := hv.q16
  have hN := nxP_len hv
  have hge := nxP_ge (q := q) (ws := ws)
  rw [e1, e2] at e12
  unfold aR aE
  rw [if_pos h]
  have hH : holeB q ws = (nxP q ws).any fun l => decide (-1 ∈ l) := rfl
  unfold parV at e12
  generalize nxP q ws = N at *
  refine PFn.of_body hΓ Try.func15 (by kernel_rfl) rfl (AWp.of_awpD [] hΓ hmix (by kernel_rfl) ?_)
  simp -implicitDefEqProofs only [Try.ntmps15, Try.results15, Nat.reduceAdd, Nat.reduceSub, codeV, go_sem]
  refine callK_fn e12 (.still rfl) ?_
  simp -implicitDefEqProofs only [psV, go_sem]
  refine AWp.loopI (fun i : Nat => ⟨mkF 49 [(1, .ptr 0 0), (2, .ptr 1 0), (4, .ptr 2 0), (6, .p (.int .i64 i))], [codeB q ws, .box [.p (.int .i64 0), .full []], .box [.p (.int .i64 q), .p (.sl ((prefs ws).map .str)), .p (.sl (N.map slI)), .p (.sl ((emP q ws).map slI))]]⟩)
    (fun i => i ≤ N.length ∧ ((N.take i).any fun l => decide (-1 ∈ l)) = false) (fun i => N.length - i) 0 (by simp [go_sem, codeB]) (by simp) ?_
  rintro i ⟨hi, h0⟩
  simp -implicitDefEqProofs only [codeB, go_sem]
  refine AWp.of_awpD [] hΓ hmix (by kernel_rfl) ?_
  by_cases hlt : i < N.length
  · have hNi := hN.2 _ (List.getElem_mem hlt)
    have hgi := hge _ (List.getElem_mem hlt)
    simp -implicitDefEqProofs only [hlt, getD_map_lt, ↓reduceIte, List.length_map, go_sem]
    refine AWp.loopI (fun j : Nat => ⟨mkF 49 [(1, .ptr 0 0), (2, .ptr 1 0), (4, .ptr 2 0), (6, .p (.int .i64 i)), (7, .p (.int .i64 j))], [codeB q ws, .box [.p (.int .i64 0), .full []], .box [.p (.int .i64 q), .p (.sl ((prefs ws).map .str)), .p (.sl (N.map slI)), .p (.sl ((emP q ws).map slI))]]⟩)
      (fun j => j ≤ N[i].length ∧ -1 ∉ N[i].take j) (fun j => N[i].length - j) 0 (by simp [go_sem, codeB]) (by simp) ?_
    rintro j ⟨hj, hj0⟩
    simp -implicitDefEqProofs only [codeB, go_sem]
    refine AWp.of_awpD [] hΓ hmix (by kernel_rfl) ?_
    by_cases hlt2 : j < N[i].length
    · have hjg := hgi _ (List.getElem_mem hlt2)
      by_cases hneg : N[i][j] < 0
      · have hH1 : holeB q ws = true := by
          rw [hH]
          exact List.any_eq_true.2 ⟨_, List.getElem_mem hlt, decide_eq_true (by rw [show (-1 : Int) = N[i][j] by omega]; exact List.getElem_mem hlt2)⟩
        rw [hH1]
        rw [if_neg (fun e => by cases e.2.2)]
        simp -implicitDefEqProofs only [hlt, hlt2, getD_map_lt, ↓reduceIte, List.length_map, slI, hneg, auV, go_sem]
      · simp -implicitDefEqProofs only [hlt, hlt2, getD_map_lt, ↓reduceIte, List.length_map, slI, hneg, go_sem]
        refine ⟨by simp only [InR]; omega, j + 1, ⟨by simp, .inr rfl⟩, ⟨hlt2, ?_⟩, by omega⟩
        rw [List.take_succ_eq_append_getElem hlt2, List.mem_append, List.mem_singleton]
        exact fun e => e.elim hj0 (fun e => by omega)
    · have hjl : j = N[i].length := by omega
      rw [hjl, List.take_length] at hj0
      rw [hjl]
      simp -implicitDefEqProofs only [hlt, Nat.lt_irrefl, getD_map_lt, ↓reduceIte, List.length_map, slI, go_sem]
      refine ⟨by simp only [InR]; omega, i + 1, ⟨by simp, .inr rfl⟩, ⟨hlt, ?_⟩, by omega⟩
      rw [List.take_succ_eq_append_getElem hlt, List.any_append, h0]
      simp [hj0]
  · have hil : i = N.length := by omega
    have hH0 : holeB q ws = false := by rw [hH, ← h0, hil, List.take_length]
    rw [hH0, if_pos ⟨h.1, h.2, rfl⟩, hil]
    simp -implicitDefEqProofs only [Nat.lt_irrefl, List.length_map, auV, go_sem]
    exact by omega
end Go.Proofs.Ytolopbodgkmenaa
end

section
namespace Go.Proofs.Ytolopbodgkmenaa
open Go Go.AM
set_option maxRecDepth 100000
set_option linter.unusedSimpArgs false

theorem p53 (a b : List Int) (hl : a.length ≤ 1000000) : PFn Try.prog 53 [slI a, slI b] [.bool (decide (a = b))] := by
  refine PFn.of_body hΓ Try.func53 (by kernel_rfl) rfl (AWp.of_awpD [(6, 9)] hΓ hmix (by kernel_rfl) ?_)
  by_cases he : a.length = b.length
  rotate_left
  · have hz : ¬ (a.length : Int) = b.length := by omega
    simp -implicitDefEqProofs only [Try.ntmps53, Try.results53, Nat.reduceAdd, Nat.reduceSub, slI, he, hz, List.length_map, go_sem]
    exact (decide_eq_false fun e => he (by rw [e])).symm
  simp -implicitDefEqProofs only [Try.ntmps53, Try.results53, Nat.reduceAdd, Nat.reduceSub, slI, he, List.length_map, go_sem]
  refine AWp.loopI (fun k : Nat => ⟨mkF 26 [(0, .p (.sl (a.map (.int .i64)))), (1, .p (.sl (b.map (.int .i64)))), (5, .p (.int .i64 k))], []⟩)
    (fun k => k ≤ a.length ∧ a.take k = b.take k) (fun k => a.length - k) 0 (by simp [go_sem]) (by simp) ?_
  rintro k ⟨hk, heq⟩
  simp -implicitDefEqProofs only [go_sem]
  refine AWp.of_awpD [(6, 9)] hΓ hmix (by kernel_rfl) ?_
  by_cases hlt : k < b.length
  · have hla : k < a.length := by omega
    by_cases hk' : a[k] = b[k]
    · simp -implicitDefEqProofs only [hlt, hla, he, getD_map_lt, ↓reduceIte, hk', List.length_map, go_sem]
      refine ⟨by simp only [InR]; omega, k + 1, by simp, ⟨hlt, ?_⟩, by omega⟩
      rw [List.take_succ_eq_append_getElem hla, List.take_succ_eq_append_getElem hlt, heq, hk']
    · simp -implicitDefEqProofs only [hlt, hla, he, getD_map_lt, ↓reduceIte, hk', List.length_map, go_sem]
      exact (decide_eq_false fun e => hk' (by subst e; rfl)).symm
  · have hz : ¬ (k : Int) < b.length := by omega
    simp -implicitDefEqProofs only [hz, hlt, he, List.length_map, go_sem]
    rw [List.take_of_length_le (by omega), List.take_of_length_le (by omega)] at heq
    exact (decide_eq_true heq).symm
theorem p52 (a b : List (List UInt8)) (hl : a.length ≤ 1000000) : PFn Try.prog 52 [.sl (a.map .str), .sl (b.map .str)] [.bool (decide (a = b))] := by
  refine PFn.of_body hΓ Try.func52 (by kernel_rfl) rfl (AWp.of_awpD [(6, 9)] hΓ hmix (by kernel_rfl) ?_)
  by_cases he : a.length = b.length
  rotate_left
  · have hz : ¬ (a.length : Int) = b.length := by omega
    simp -implicitDefEqProofs only [Try.ntmps52, Try.results52, Nat.reduceAdd, Nat.reduceSub, he, hz, List.length_map, go_sem]
    exact (decide_eq_false fun e => he (by rw [e])).symm
  simp -implicitDefEqProofs only [Try.ntmps52, Try.results52, Nat.reduceAdd, Nat.reduceSub, he, List.length_map, go_sem]
  refine AWp.loopI (fun k : Nat => ⟨mkF 26 [(0, .p (.sl (a.map .str))), (1, .p (.sl (b.map .str))), (5, .p (.int .i64 k))], []⟩)
    (fun k => k ≤ a.length ∧ a.take k = b.take k) (fun k => a.length - k) 0 (by simp [go_sem]) (by simp) ?_
  rintro k ⟨hk, heq⟩
  simp -implicitDefEqProofs only [go_sem]
  refine AWp.of_awpD [(6, 9)] hΓ hmix (by kernel_rfl) ?_
  by_cases hlt : k < b.length
  · have hla : k < a.length := by omega
    by_cases hk' : a[k] = b[k]
    · simp -implicitDefEqProofs only [hlt, hla, he, getD_map_lt, ↓reduceIte, hk', List.length_map, go_sem]
      refine ⟨by simp only [InR]; omega, k + 1, by simp, ⟨hlt, ?_⟩, by omega⟩
      rw [List.take_succ_eq_append_getElem hla, List.take_succ_eq_append_getElem hlt, heq, hk']
    · simp -implicitDefEqProofs only [hlt, hla, he, getD_map_lt, ↓reduceIte, hk', List.length_map, go_sem]
      exact (decide_eq_false fun e => hk' (by subst e; rfl)).symm
  · have hz : ¬ (k : Int) < b.length := by omega
    simp -implicitDefEqProofs only [hz, hlt, he, List.length_map, go_sem]
    rw [List.take_of_length_le (by omega), List.take_of_length_le (by omega)] at heq
    exact (decide_eq_true heq).symm

theorem p17 (q : Int) (N : List (List Int)) (hN : N.length ≤ 1000000) (hNs : ∀ x ∈ N, x.length ≤ 1000000) : PFn Try.prog 17 [auV q N, auV q N] [.bool true] := by
  refine PFn.of_body hΓ Try.func17 (by kernel_rfl) rfl (AWp.of_awpD [(6, 11)] hΓ hmix (by kernel_rfl) ?_)
  simp -implicitDefEqProofs only [Try.ntmps17, Try.results17, Nat.reduceAdd, Nat.reduceSub, auV, go_sem]
  refine AWp.loopI (fun k : Nat => ⟨mkF 39 [(2, .ptr 0 0), (3, .ptr 1 0), (5, .p (.int .i64 k))], [.box [.p (.int .i64 q), .p (.sl (N.map slI))], .box [.p (.int .i64 q), .p (.sl (N.map slI))]]⟩)
    (fun k => k ≤ N.length) (fun k => N.length - k) 0 (by simp [go_sem]) (by simp) ?_
  intro k hk
  simp -implicitDefEqProofs only [go_sem]
  refine AWp.of_awpD [(6, 11)] hΓ hmix (by kernel_rfl) ?_
  by_cases hlt : k < N.length
  · have e53 := p53 N[k] N[k] (hNs _ (List.getElem_mem hlt))
    simp -implicitDefEqProofs only [hlt, getD_map_lt, ↓reduceIte, List.length_map, slI, go_sem]
    refine callVPK_fn e53 (.pures rfl) ?_
    simp -implicitDefEqProofs only [hlt, getD_map_lt, ↓reduceIte, List.length_map, go_sem]
    exact ⟨by simp only [InR]; omega, k + 1, by simp [slI], hlt, by omega⟩
  · have hz : k = N.length := by omega
    rw [hz]
    simp -implicitDefEqProofs only [Nat.lt_irrefl, List.length_map, go_sem]

/-- SameParser: what one loop over rows says. -/
theorem p16 (q r : Int) (P R : List (List UInt8)) (N E M F : List (List Int)) (hP : P.length ≤ 1000000) (hN : N.length ≤ 1000000) (hE : E.length ≤ 1000000) (hNs : ∀ x ∈ N, x.length ≤ 1000000) (hEs : ∀ x ∈ E, x.length ≤ 1000000) :
    PFn Try.prog 16 [psV q P N E, psV r R M F] [.bool (decide (q = r ∧ P = R ∧ N = M ∧ E = F))] := by
  refine PFn.of_body hΓ Try.func16 (by kernel_rfl) rfl (AWp.of_awpD [(6, 11), (11, 11)] hΓ hmix (by kernel_rfl) ?_)
  by_cases h1 : q = r
  rotate_left
  · simp -implicitDefEqProofs only [Try.ntmps16, Try.results16, Nat.reduceAdd, Nat.reduceSub, psV, h1, go_sem]
    exact ⟨by omega, by omega, (decide_eq_false fun e => e.1).symm⟩
  subst h1
  simp -implicitDefEqProofs only [Try.ntmps16, Try.results16, Nat.reduceAdd, Nat.reduceSub, psV, go_sem]
  refine ⟨by omega, by omega, callK_fn (p52 P R hP) (.pures rfl) ?_⟩
  by_cases h2 : P = R
  rotate_left
  · simp -implicitDefEqProofs only [h2, go_sem]
    simp [h2]
  subst h2
  by_cases h3 : N.length = M.length
  rotate_left
  · have hz : ¬ (N.length : Int) = M.length := by omega
    simp -implicitDefEqProofs only [h3, hz, List.length_map, go_sem]
    have : ¬ N = M := fun e => h3 (by rw [e])
    simp [this]
  by_cases h4 : E.length = F.length
  rotate_left
  · have hz : ¬ (E.length : Int) = F.length := by omega
    simp -implicitDefEqProofs only [h3, h4, hz, List.length_map, go_sem]
    have : ¬ E = F := fun e => h4 (by rw [e])
    simp [this]
  simp -implicitDefEqProofs only [h3, h4, List.length_map, go_sem]
  refine AWp.loopI (fun k : Nat => ⟨mkF 76 [(2, .ptr 0 0), (3, .ptr 1 0), (5, .p (.int .i64 k))], [.box [.p (.int .i64 q), .p (.sl (P.map .str)), .p (.sl (N.map slI)), .p (.sl (E.map slI))], .box [.p (.int .i64 q), .p (.sl (P.map .str)), .p (.sl (M.map slI)), .p (.sl (F.map slI))]]⟩)
    (fun k => k ≤ N.length ∧ N.take k = M.take k) (fun k => N.length - k) 0 (by simp [go_sem]) (by simp) ?_
  rintro k ⟨hk, heq⟩
  simp -implicitDefEqProofs only [go_sem]
  refine AWp.of_awpD [(6, 11), (11, 11)] hΓ hmix (by kernel_rfl) ?_
  by_cases hlt : k < N.length
  · have hlm : k < M.length := by omega
    have e53 := p53 N[k] M[k] (hNs _ (List.getElem_mem hlt))
    simp -implicitDefEqProofs only [hlt, hlm, h3, getD_map_lt, ↓reduceIte, List.length_map, slI, go_sem]
    refine callVPK_fn e53 (.pures rfl) ?_
    by_cases hk' : N[k] = M[k]
    · simp -implicitDefEqProofs only [hk', go_sem]
      refine ⟨by simp only [InR]; omega, k + 1, by simp [slI], ⟨by omega, ?_⟩, by omega⟩
      rw [List.take_succ_eq_append_getElem hlt, List.take_succ_eq_append_getElem hlm, heq, hk']
    · simp -implicitDefEqProofs only [hk', go_sem]
      have : ¬ N = M := fun e => hk' (by subst e; rfl)
      simp [this]
  · have hz : ¬ (k : Int) < M.length := by omega
    have hNM : N = M := by
      rw [List.take_of_length_le (by omega), List.take_of_length_le (by omega)] at heq
      exact heq
    subst hNM
    simp -implicitDefEqProofs only [hz, hlt, List.length_map, go_sem]
    refine AWp.loopI (fun k : Nat => ⟨mkF 76 [(2, .ptr 0 0), (3, .ptr 1 0), (6, .p (.int .i64 k))], [.box [.p (.int .i64 q), .p (.sl (P.map .str)), .p (.sl (N.map slI)), .p (.sl (E.map slI))], .box [.p (.int .i64 q), .p (.sl (P.map .str)), .p (.sl (N.map slI)), .p (.sl (F.map slI))]]⟩)
      (fun k => k ≤ E.length ∧ E.take k = F.take k) (fun k => E.length - k) 0 (by simp [go_sem]) (by simp) ?_
    rintro k ⟨hk, heq⟩
    simp -implicitDefEqProofs only [go_sem]
    refine AWp.of_awpD [(6, 11), (11, 11)] hΓ hmix (by kernel_rfl) ?_
    by_cases hlt : k < E.length
    · have hlm : k < F.length := by omega
      have e53 := p53 E[k] F[k] (hEs _ (List.getElem_mem hlt))
      simp -implicitDefEqProofs only [hlt, hlm, h4, getD_map_lt, ↓reduceIte, List.length_map, slI, go_sem]
      refine callVPK_fn e53 (.pures rfl) ?_
      by_cases hk' : E[k] = F[k]
      · simp -implicitDefEqProofs only [hk', go_sem]
        refine ⟨by simp only [InR]; omega, k + 1, by simp [slI], ⟨by omega, ?_⟩, by omega⟩
        rw [List.take_succ_eq_append_getElem hlt, List.take_succ_eq_append_getElem hlm, heq, hk']
      · simp -implicitDefEqProofs only [hk', go_sem]
        have : ¬ E = F := fun e => hk' (by subst e; rfl)
        simp [this]
    · have hz : ¬ (k : Int) < F.length := by omega
      have hEF : E = F := by
        rw [List.take_of_length_le (by omega), List.take_of_length_le (by omega)] at heq
        exact heq
      subst hEF
      simp -implicitDefEqProofs only [hz, hlt, List.length_map, go_sem]
end Go.Proofs.Ytolopbodgkmenaa
end

section
namespace Go.Proofs.Ytolopbodgkmenaa
open Go Go.AM
set_option maxRecDepth 100000
set_option linter.unusedSimpArgs false

def longW (x : List UInt8) : Bool := decide (40 < x.length)
def longR (l : List Int) : Bool := decide (20 < l.length)
def greatP (P : List (List UInt8)) (N E : List (List Int)) : Bool := decide (40 < P.length) || decide (40 < N.length) || decide (40 < E.length) || P.any longW || N.any longR || E.any longR

theorem p10 (q : Int) (P : List (List UInt8)) (N E : List (List Int)) : PFn Try.prog 10 [psV q P N E] [.bool (greatP P N E)] := by
  refine PFn.of_body hΓ Try.func10 (by kernel_rfl) rfl (AWp.of_awpD [] hΓ hmix (by kernel_rfl) ?_)
  by_cases h1 : 40 < P.length
  · have h1' : (40 : Int) < P.length := by omega
    simp -implicitDefEqProofs only [Try.ntmps10, Try.results10, Nat.reduceAdd, Nat.reduceSub, psV, h1', List.length_map, go_sem]
    simp [greatP, h1]
  have h1' : ¬ (40 : Int) < P.length := by omega
  by_cases h2 : 40 < N.length
  · have h2' : (40 : Int) < N.length := by omega
    simp -implicitDefEqProofs only [Try.ntmps10, Try.results10, Nat.reduceAdd, Nat.reduceSub, psV, h1', h2', List.length_map, go_sem]
    simp [greatP, h2]
  have h2' : ¬ (40 : Int) < N.length := by omega
  by_cases h3 : 40 < E.length
  · have h3' : (40 : Int) < E.length := by omega
    simp -implicitDefEqProofs only [Try.ntmps10, Try.results10, Nat.reduceAdd, Nat.reduceSub, psV, h1', h2', h3', List.length_map, go_sem]
    simp [greatP, h3]
  have h3' : ¬ (40 : Int) < E.length := by omega
  simp -implicitDefEqProofs only [Try.ntmps10, Try.results10, Nat.reduceAdd, Nat.reduceSub, psV, h1', h2', h3', List.length_map, go_sem]
  have hg : greatP P N E = (P.any longW || N.any longR || E.any longR) := by simp [greatP, h1, h2, h3]
  rw [hg]
  clear hg
  refine AWp.loopI (fun k : Nat => ⟨mkF 64 [(1, .ptr 0 0), (3, .p (.int .i64 k))], [.box [.p (.int .i64 q), .p (.sl (P.map .str)), .p (.sl (N.map slI)), .p (.sl (E.map slI))]]⟩)
    (fun k => k ≤ P.length ∧ (P.take k).any longW = false) (fun k => P.length - k) 0 (by simp [go_sem]) (by simp) ?_
  rintro k ⟨hk, h0⟩
  simp -implicitDefEqProofs only [go_sem]
  refine AWp.of_awpD [] hΓ hmix (by kernel_rfl) ?_
  by_cases hlt : k < P.length
  · by_cases hb : 40 < P[k].length
    · have hb' : (40 : Int) < P[k].length := by omega
      have : P.any longW = true := List.any_eq_true.2 ⟨_, List.getElem_mem hlt, decide_eq_true hb⟩
      simp -implicitDefEqProofs only [hlt, getD_map_lt, ↓reduceIte, List.length_map, hb', go_sem]
      simp [this]
    · have hb' : ¬ (40 : Int) < P[k].length := by omega
      simp -implicitDefEqProofs only [hlt, getD_map_lt, ↓reduceIte, List.length_map, hb', go_sem]
      refine ⟨by simp only [InR]; omega, k + 1, by simp, ⟨hlt, ?_⟩, by omega⟩
      rw [List.take_succ_eq_append_getElem hlt, List.any_append, h0]
      simp [longW]; omega
  have hP0 : P.any longW = false := by rw [List.take_of_length_le (by omega)] at h0; exact h0
  have hz : ¬ (k : Int) < P.length := by omega
  simp -implicitDefEqProofs only [hz, hlt, List.length_map, go_sem]
  rw [hP0]
  refine AWp.loopI (fun k : Nat => ⟨mkF 64 [(1, .ptr 0 0), (4, .p (.int .i64 k))], [.box [.p (.int .i64 q), .p (.sl (P.map .str)), .p (.sl (N.map slI)), .p (.sl (E.map slI))]]⟩)
    (fun k => k ≤ N.length ∧ (N.take k).any longR = false) (fun k => N.length - k) 0 (by simp [go_sem]) (by simp) ?_
  clear h0 hk hlt hz
  rintro k ⟨hk, h0⟩
  simp -implicitDefEqProofs only [go_sem]
  refine AWp.of_awpD [] hΓ hmix (by kernel_rfl) ?_
  by_cases hlt : k < N.length
  · by_cases hb : 20 < N[k].length
    · have hb' : (20 : Int) < N[k].length := by omega
      have : N.any longR = true := List.any_eq_true.2 ⟨_, List.getElem_mem hlt, decide_eq_true hb⟩
      simp -implicitDefEqProofs only [hlt, getD_map_lt, ↓reduceIte, List.length_map, slI, hb', go_sem]
      simp [this]
    · have hb' : ¬ (20 : Int) < N[k].length := by omega
      simp -implicitDefEqProofs only [hlt, getD_map_lt, ↓reduceIte, List.length_map, slI, hb', go_sem]
      refine ⟨by simp only [InR]; omega, k + 1, by simp [slI], ⟨hlt, ?_⟩, by omega⟩
      rw [List.take_succ_eq_append_getElem hlt, List.any_append, h0]
      simp [longR]; omega
  have hN0 : N.any longR = false := by rw [List.take_of_length_le (by omega)] at h0; exact h0
  have hz : ¬ (k : Int) < N.length := by omega
  simp -implicitDefEqProofs only [hz, hlt, List.length_map, go_sem]
  rw [hN0]
  refine AWp.loopI (fun k : Nat => ⟨mkF 64 [(1, .ptr 0 0), (5, .p (.int .i64 k))], [.box [.p (.int .i64 q), .p (.sl (P.map .str)), .p (.sl (N.map slI)), .p (.sl (E.map slI))]]⟩)
    (fun k => k ≤ E.length ∧ (E.take k).any longR = false) (fun k => E.length - k) 0 (by simp [go_sem]) (by simp) ?_
  clear h0 hk hlt hz
  rintro k ⟨hk, h0⟩
  simp -implicitDefEqProofs only [go_sem]
  refine AWp.of_awpD [] hΓ hmix (by kernel_rfl) ?_
  by_cases hlt : k < E.length
  · by_cases hb : 20 < E[k].length
    · have hb' : (20 : Int) < E[k].length := by omega
      have : E.any longR = true := List.any_eq_true.2 ⟨_, List.getElem_mem hlt, decide_eq_true hb⟩
      simp -implicitDefEqProofs only [hlt, getD_map_lt, ↓reduceIte, List.length_map, slI, hb', go_sem]
      simp [this]
    · have hb' : ¬ (20 : Int) < E[k].length := by omega
      simp -implicitDefEqProofs only [hlt, getD_map_lt, ↓reduceIte, List.length_map, slI, hb', go_sem]
      refine ⟨by simp only [InR]; omega, k + 1, by simp [slI], ⟨hlt, ?_⟩, by omega⟩
      rw [List.take_succ_eq_append_getElem hlt, List.any_append, h0]
      simp [longR]; omega
  have hE0 : E.any longR = false := by rw [List.take_of_length_le (by omega)] at h0; exact h0
  have hz : ¬ (k : Int) < E.length := by omega
  simp -implicitDefEqProofs only [hz, hlt, List.length_map, go_sem]
  rw [hE0]; rfl
end Go.Proofs.Ytolopbodgkmenaa
end

section
namespace Go.Proofs.Ytolopbodgkmenaa
open Go Go.AM
set_option maxRecDepth 100000
set_option linter.unusedSimpArgs false

def rowW (x : List UInt8) (l : List Int) (n : Nat) : List (List UInt8) := ((List.range n).filter fun a => decide (0 ≤ l.getD a 0)).map (stepW x)
theorem rowW_yes {x : List UInt8} {l : List Int} {n : Nat} (hn : n < l.length) (h : 0 ≤ l[n]) : rowW x l (n + 1) = rowW x l n ++ [stepW x n] := by
  unfold rowW
  rw [List.range_succ, List.filter_append, List.map_append]
  congr 1
  have : l.getD n 0 = l[n] := by rw [List.getD_eq_getElem?_getD, List.getElem?_eq_getElem hn]; rfl
  rw [List.filter_cons, this, if_pos (decide_eq_true h)]; rfl
theorem rowW_no {x : List UInt8} {l : List Int} {n : Nat} (hn : n < l.length) (h : ¬ 0 ≤ l[n]) : rowW x l (n + 1) = rowW x l n := by
  unfold rowW
  rw [List.range_succ, List.filter_append, List.map_append]
  have : l.getD n 0 = l[n] := by rw [List.getD_eq_getElem?_getD, List.getElem?_eq_getElem hn]; rfl
  rw [List.filter_cons, this, if_neg (by rw [decide_eq_false h]; simp)]; simp
theorem rowW_len (x : List UInt8) (l : List Int) (n : Nat) : (rowW x l n).length ≤ n := by
  unfold rowW
  rw [List.length_map]
  exact Nat.le_trans (List.length_filter_le _ _) (by simp)
def emW (P : List (List UInt8)) (E : List (List Int)) (m : Nat) : List (List UInt8) := (List.range m).flatMap fun s => rowW (P.getD s []) (E.getD s []) (min (E.getD s []).length 16)
theorem emW_succ {P : List (List UInt8)} {E : List (List Int)} {s : Nat} (hp : s < P.length) (he : s < E.length) : emW P E (s + 1) = emW P E s ++ rowW P[s] E[s] (min E[s].length 16) := by
  unfold emW
  rw [List.range_succ, List.flatMap_append]
  congr 1
  simp [List.getD_eq_getElem?_getD, hp, he]
theorem emW_len (P : List (List UInt8)) (E : List (List Int)) : ∀ m, (emW P E m).length ≤ m * 16
  | 0 => by simp [emW]
  | m + 1 => by
    have h := emW_len P E m
    have h2 := rowW_len (P.getD m []) (E.getD m []) (min (E.getD m []).length 16)
    have : emW P E (m + 1) = emW P E m ++ rowW (P.getD m []) (E.getD m []) (min (E.getD m []).length 16) := by
      unfold emW; rw [List.range_succ, List.flatMap_append]; simp
    rw [this, List.length_append]; omega

theorem p56 (q : Int) (P : List (List UInt8)) (N E : List (List Int)) (hP : P.length ≤ 64) (hEs : ∀ l ∈ E, l.length ≤ 1000) (hPs : ∀ x ∈ P, x.length ≤ 1000) :
    PFn Try.prog 56 [psV q P N E] [codeV q (made (emW P E (min E.length P.length)))] := by
  refine PFn.of_body hΓ Try.func56 (by kernel_rfl) rfl (AWp.seq (AWp.of_awpD [] hΓ hmix (by kernel_rfl) ?_))
  simp -implicitDefEqProofs only [Try.ntmps56, Try.results56, Nat.reduceAdd, Nat.reduceSub, psV, go_sem]
  refine AWp.seq (AWp.of_awpD [] hΓ hmix (by kernel_rfl) ?_)
  simp -implicitDefEqProofs only [go_sem]
  refine ⟨by omega, by omega, ?_⟩
  refine AWp.adoptCell (l := []) 2 1 9 1 rfl rfl (by simp) ?_
  simp -implicitDefEqProofs only [List.set_cons_zero, List.set_cons_succ, go_sem]
  refine AWp.freeze 3 rfl ?_
  simp -implicitDefEqProofs only [Frozen, AV.thaw, AObj.thaw, AV.thaw.thawL, List.map_cons, List.map_nil, List.set_cons_zero, List.set_cons_succ, go_sem]
  refine AWp.trimN 3 (by simp) (by simp [AV.blw, AV.blw.blwL]) (by simp [blwH, AObj.blw, AV.blw, AV.blw.blwL]) ?_
  simp -implicitDefEqProofs only [List.take_succ_cons, List.take_zero, go_sem]
  refine AWp.of_awpD [(9, 14)] hΓ hmix (by kernel_rfl) ?_
  simp -implicitDefEqProofs only [go_sem]
  refine AWp.loopI (fun s : Nat => ⟨mkF 61 [(1, .ptr 0 0), (2, .ptr 1 0), (3, .ptr 2 0), (4, .p (.int .i64 s))], [.box [.p (.int .i64 q), .p (.sl (P.map .str)), .p (.sl (N.map slI)), .p (.sl (E.map slI))], .box [.p (.int .i64 0), .full []], .box [.p (.int .i64 q), .p (.sl ((made (emW P E s)).map .str))]]⟩)
    (fun s => s ≤ min E.length P.length) (fun s => min E.length P.length - s) 0 (by simp [go_sem, emW, made_nil]) (by simp) ?_
  intro s hs
  simp -implicitDefEqProofs only [go_sem]
  refine AWp.of_awpD [(9, 14)] hΓ hmix (by kernel_rfl) ?_
  by_cases hlt : s < min E.length P.length
  · have hle : s < E.length := by omega
    have hlp : s < P.length := by omega
    have hEl := hEs _ (List.getElem_mem hle)
    have hPl := hPs _ (List.getElem_mem hlp)
    simp -implicitDefEqProofs only [hle, hlp, List.length_map, go_sem]
    refine AWp.loopI (fun a : Nat => ⟨mkF 61 [(1, .ptr 0 0), (2, .ptr 1 0), (3, .ptr 2 0), (4, .p (.int .i64 s)), (5, .p (.int .i64 a))], [.box [.p (.int .i64 q), .p (.sl (P.map .str)), .p (.sl (N.map slI)), .p (.sl (E.map slI))], .box [.p (.int .i64 0), .full []], .box [.p (.int .i64 q), .p (.sl ((made (emW P E s ++ rowW P[s] E[s] a)).map .str))]]⟩)
      (fun a => a ≤ min E[s].length 16) (fun a => min E[s].length 16 - a) 0 (by simp [go_sem, rowW]) (by simp) ?_
    intro a ha
    simp -implicitDefEqProofs only [go_sem]
    refine AWp.of_awpD [(9, 14)] hΓ hmix (by kernel_rfl) ?_
    by_cases hla : a < min E[s].length 16
    · have hl1 : a < E[s].length := by omega
      have hl2 : (a : Int) < 16 := by omega
      by_cases hem : 0 ≤ E[s][a]
      · have hml := made_le (emW P E s ++ rowW P[s] E[s] a)
        have h5 := emW_len P E s
        have h6 := rowW_len P[s] E[s] a
        rw [List.length_append] at hml
        have e78 := p78 (made (emW P E s ++ rowW P[s] E[s] a)) (stepW P[s] a) (made_strict _) (by omega)
        have hr := rowW_yes (x := P[s]) hl1 hem
        rw [made_snoc, List.append_assoc, ← hr] at e78
        simp -implicitDefEqProofs only [hl1, hl2, hle, hlp, getD_map_lt, ↓reduceIte, List.length_map, slI, hem, lett_at (show a < 16 by omega), step_eq, List.length_singleton, go_sem]
        refine ⟨by simp only [InR]; omega, ⟨by omega, by omega⟩, by omega, callVPK_fn e78 (.pures rfl) ?_⟩
        simp -implicitDefEqProofs only [go_sem]
        exact ⟨by simp only [InR]; omega, a + 1, ⟨by simp, rfl⟩, by omega, by omega⟩
      · have hr := rowW_no (x := P[s]) hl1 hem
        simp -implicitDefEqProofs only [hl1, hl2, hle, hlp, getD_map_lt, ↓reduceIte, List.length_map, slI, hem, go_sem]
        exact ⟨by simp only [InR]; omega, a + 1, ⟨by simp, by rw [hr]⟩, by omega, by omega⟩
    · have hal : a = min E[s].length 16 := by omega
      have hr := emW_succ (P := P) (E := E) hlp hle
      by_cases hl1 : a < E[s].length
      · have hl2 : ¬ (a : Int) < 16 := by omega
        simp -implicitDefEqProofs only [hl1, hl2, hle, hlp, getD_map_lt, ↓reduceIte, List.length_map, slI, go_sem]
        exact ⟨by simp only [InR]; omega, s + 1, ⟨by simp, by rw [hr, hal]⟩, by omega, by omega⟩
      · simp -implicitDefEqProofs only [hl1, hle, hlp, getD_map_lt, ↓reduceIte, List.length_map, slI, go_sem]
        exact ⟨by simp only [InR]; omega, s + 1, ⟨by simp, by rw [hr, hal]⟩, by omega, by omega⟩
  · have hsl : s = min E.length P.length := by omega
    by_cases hle : s < E.length
    · have hlp : ¬ s < P.length := by omega
      simp -implicitDefEqProofs only [hle, hlp, List.length_map, go_sem]
      rw [hsl]; rfl
    · simp -implicitDefEqProofs only [hle, List.length_map, go_sem]
      rw [hsl]; rfl

/-- The code that a parser is of, if it is of any. -/
def codeP (P : List (List UInt8)) (E : List (List Int)) : List (List UInt8) := made (emW P E (min E.length P.length))
def IsPar (q : Int) (P : List (List UInt8)) (N E : List (List Int)) : Prop :=
  codeCheck q (codeP P E) = 0 ∧ preB (codeP P E) = true ∧ prefs (codeP P E) = P ∧ nxP q (codeP P E) = N ∧ emP q (codeP P E) = E
instance (q : Int) (P : List (List UInt8)) (N E : List (List Int)) : Decidable (IsPar q P N E) := by unfold IsPar; infer_instance
def parCheck (q : Int) (P : List (List UInt8)) (N E : List (List Int)) : Int := if IsPar q P N E then 0 else 1

theorem p19 (q : Int) (P : List (List UInt8)) (N E : List (List Int)) (hP : P.length ≤ 64) (hEs : ∀ l ∈ E, l.length ≤ 1000) (hPs : ∀ x ∈ P, x.length ≤ 1000) :
    PFn Try.prog 19 [psV q P N E] [.int .i64 (parCheck q P N E)] := by
  have e56 := p56 q P N E hP hEs hPs
  have e13 := p13 q (codeP P E)
  change PFn Try.prog 56 [psV q P N E] [codeV q (codeP P E)] at e56
  by_cases h : codeCheck q (codeP P E) = 0 ∧ preB (codeP P E) = true
  rotate_left
  · have e1 : pR q (codeP P E) = psV 0 [] [] [] := by unfold pR; rw [if_neg h]
    have e4 : ¬ pE q (codeP P E) = 0 := fun e => h (by
      unfold pE at e
      by_cases h1 : codeCheck q (codeP P E) = 0
      · rw [if_pos h1] at e
        by_cases h2 : preB (codeP P E) = true
        · exact ⟨h1, h2⟩
        · rw [if_neg h2] at e; cases e
      · rw [if_neg h1] at e; cases e)
    have e5 : parCheck q P N E = 1 := by unfold parCheck; rw [if_neg (fun e => h ⟨e.1, e.2.1⟩)]
    rw [e1] at e13
    rw [e5]
    generalize pE q (codeP P E) = ee at *
    refine PFn.of_body hΓ Try.func19 (by kernel_rfl) rfl (AWp.of_awpD [] hΓ hmix (by kernel_rfl) ?_)
    simp -implicitDefEqProofs only [Try.ntmps19, Try.results19, Nat.reduceAdd, Nat.reduceSub, psV, go_sem]
    unfold psV at e56
    refine callK_fn e56 (.still rfl) ?_
    simp -implicitDefEqProofs only [psV, go_sem]
    refine callK_fn e13 (.pures rfl) ?_
    simp -implicitDefEqProofs only [psV, e4, List.map_nil, go_sem]
  have hv := valid_of h.1
  have e1 : pR q (codeP P E) = parV q (codeP P E) := by unfold pR; rw [if_pos h]
  have e2 : pE q (codeP P E) = 0 := by unfold pE; rw [if_pos h.1, if_pos h.2]
  have hpl := prefs_len hv
  have hN := nxP_len hv
  have hM := emP_len hv
  have hq16 := hv.q16
  have e16 := p16 q q (prefs (codeP P E)) P (nxP q (codeP P E)) (emP q (codeP P E)) N E (by omega) (by omega) (by omega) (fun x hx => by rw [hN.2 x hx]; omega) (fun x hx => by rw [hM.2 x hx]; omega)
  rw [e1, e2] at e13
  unfold parV at e13
  have e5 : parCheck q P N E = if decide (q = q ∧ prefs (codeP P E) = P ∧ nxP q (codeP P E) = N ∧ emP q (codeP P E) = E) = true then 0 else 1 := by
    unfold parCheck
    by_cases hc : prefs (codeP P E) = P ∧ nxP q (codeP P E) = N ∧ emP q (codeP P E) = E
    · have hI : IsPar q P N E := ⟨h.1, h.2, hc⟩
      rw [if_pos hI, if_pos (decide_eq_true ⟨rfl, hc⟩)]
    · have hI : ¬ IsPar q P N E := fun e => hc e.2.2
      rw [if_neg hI, if_neg (by rw [decide_eq_true_eq]; exact fun e => hc e.2)]
  rw [e5]
  clear e5
  generalize decide (q = q ∧ prefs (codeP P E) = P ∧ nxP q (codeP P E) = N ∧ emP q (codeP P E) = E) = b at *
  refine PFn.of_body hΓ Try.func19 (by kernel_rfl) rfl (AWp.of_awpD [] hΓ hmix (by kernel_rfl) ?_)
  simp -implicitDefEqProofs only [Try.ntmps19, Try.results19, Nat.reduceAdd, Nat.reduceSub, psV, go_sem]
  unfold psV at e56 e16 e13
  refine callK_fn e56 (.still rfl) ?_
  simp -implicitDefEqProofs only [go_sem]
  refine callK_fn e13 (.pures rfl) ?_
  simp -implicitDefEqProofs only [go_sem]
  refine callK_fn e16 (.still rfl) ?_
  cases b
  · simp -implicitDefEqProofs only [go_sem]
  · simp -implicitDefEqProofs only [go_sem]
end Go.Proofs.Ytolopbodgkmenaa
end

section
namespace Go.Proofs.Ytolopbodgkmenaa
open Go Go.AM
set_option maxRecDepth 100000
set_option linter.unusedSimpArgs false

theorem rowW_all {x : List UInt8} {l : List Int} {n : Nat} : ∀ w ∈ rowW x l n, ∃ a, a < n ∧ w = stepW x a ∧ 0 ≤ l.getD a 0 := fun w hw => by
  unfold rowW at hw
  obtain ⟨a, ha, rfl⟩ := List.mem_map.1 hw
  obtain ⟨h1, h2⟩ := List.mem_filter.1 ha
  exact ⟨a, List.mem_range.1 h1, rfl, of_decide_eq_true h2⟩
theorem L16_inj : ∀ a b, a < 16 → b < 16 → L16.getD a 0 = L16.getD b 0 → a = b := by
  have : ∀ a, a < 16 → ∀ b, b < 16 → L16.getD a 0 = L16.getD b 0 → a = b := by decide
  exact fun a b ha hb h => this a ha b hb h
theorem stepW_inj {x y : List UInt8} {a b : Nat} (ha : a < 16) (hb : b < 16) (h : stepW x a = stepW y b) : x = y ∧ a = b := by
  unfold stepW at h
  obtain ⟨h1, h2⟩ := List.append_inj' h rfl
  exact ⟨h1, L16_inj a b ha hb (by injection h2)⟩
theorem rowW_nodup (x : List UInt8) (l : List Int) {n : Nat} (hn : n ≤ 16) : (rowW x l n).Nodup := by
  unfold rowW
  rw [List.Nodup, List.pairwise_map]
  refine ((List.nodup_range (n := n)).filter _).imp_of_mem ?_
  intro a b ha hb hne e
  have h1 := List.mem_range.1 (List.mem_filter.1 ha).1
  have h2 := List.mem_range.1 (List.mem_filter.1 hb).1
  exact hne (stepW_inj (by omega) (by omega) e).2
theorem emW_all {P : List (List UInt8)} {E : List (List Int)} : ∀ {m : Nat}, m ≤ P.length → ∀ w ∈ emW P E m, ∃ s, ∃ h : s < P.length, s < m ∧ ∃ a, a < 16 ∧ w = stepW P[s] a
  | m, hm, w, hw => by
    unfold emW at hw
    obtain ⟨s, hs, hw⟩ := List.mem_flatMap.1 hw
    have hs' := List.mem_range.1 hs
    have hsP : s < P.length := by omega
    obtain ⟨a, ha, rfl, _⟩ := rowW_all w hw
    refine ⟨s, hsP, hs', a, by omega, ?_⟩
    rw [List.getD_eq_getElem?_getD, List.getElem?_eq_getElem hsP]; rfl
theorem emW_nodup {P : List (List UInt8)} {E : List (List Int)} (hd : P.Nodup) : ∀ {m : Nat}, m ≤ P.length → (emW P E m).Nodup
  | 0, _ => by simp [emW]
  | m + 1, hm => by
    have h1 := emW_nodup (E := E) hd (m := m) (by omega)
    have hmP : m < P.length := hm
    have e : emW P E (m + 1) = emW P E m ++ rowW (P.getD m []) (E.getD m []) (min (E.getD m []).length 16) := by
      unfold emW; rw [List.range_succ, List.flatMap_append]; simp
    rw [e, List.nodup_append]
    refine ⟨h1, rowW_nodup _ _ (by omega), fun a ha b hb hab => ?_⟩
    subst hab
    obtain ⟨s, hsP, hsm, c, hc, rfl⟩ := emW_all (by omega) a ha
    obtain ⟨d, hd', he, _⟩ := rowW_all _ hb
    rw [List.getD_eq_getElem?_getD, List.getElem?_eq_getElem hmP] at he
    have := (stepW_inj hc (by omega) he).1
    have := nodup_at hd hsP hmP this
    omega
theorem emW_sub {P : List (List UInt8)} {E : List (List Int)} {m n : Nat} (h : m ≤ n) {w : List UInt8} (hw : w ∈ emW P E m) : w ∈ emW P E n := by
  unfold emW at hw ⊢
  obtain ⟨s, hs, hw⟩ := List.mem_flatMap.1 hw
  exact List.mem_flatMap.2 ⟨s, List.mem_range.2 (by have := List.mem_range.1 hs; omega), hw⟩

theorem nodup_len {α : Type} [DecidableEq α] : ∀ {l m : List α}, l.Nodup → (∀ a ∈ l, a ∈ m) → l.length ≤ m.length
  | [], _, _, _ => by simp
  | a :: l, m, h, hs => by
    rw [List.nodup_cons] at h
    have ha : a ∈ m := hs a (by simp)
    have h2 := nodup_len (l := l) (m := m.erase a) h.2 (fun b hb => by
      have hne : b ≠ a := fun e => h.1 (e ▸ hb)
      exact (List.mem_erase_of_ne hne).2 (hs b (by simp [hb])))
    have h3 := List.length_erase_of_mem ha
    have h4 : 0 < m.length := List.length_pos_of_mem ha
    simp; omega

/-! ### At most one reading -/
theorem nxP_length (q : Int) (ws : List (List UInt8)) : (nxP q ws).length = (prefs ws).length := by simp [nxP]
theorem emP_length (q : Int) (ws : List (List UInt8)) : (emP q ws).length = (prefs ws).length := by simp [emP]
/-- What a parser must be. -/
theorem IsPar.facts {q : Int} {P : List (List UInt8)} {N E : List (List Int)} (h : IsPar q P N E) : 2 ≤ q ∧ q ≤ 16 ∧ P.length = N.length ∧ P.length = E.length ∧ (∀ l ∈ N, (l.length : Int) = q) ∧ (∀ l ∈ E, (l.length : Int) = q) ∧ (∀ x ∈ P, x.length < 32) ∧
    ∀ s, s ≤ P.length → (emW P E s).length ≤ 64 := by
  obtain ⟨h1, h2, h3, h4, h5⟩ := h
  have hv := valid_of h1
  have hq2 := hv.q2
  have hN := (nxP_len hv).2
  have hE := (emP_len hv).2
  have hl : P.length = E.length := by
    have g1 := congrArg List.length h3
    have g2 := congrArg List.length h5
    rw [emP_length] at g2; omega
  have hl2 : P.length = N.length := by
    have g1 := congrArg List.length h3
    have g2 := congrArg List.length h4
    rw [nxP_length] at g2; omega
  refine ⟨hq2, hv.q16, hl2, hl, fun l hl => ?_, fun l hl => ?_, fun x hx => ?_, fun s hs => ?_⟩
  · rw [← h4] at hl
    rw [hN l hl]; omega
  · rw [← h5] at hl
    rw [hE l hl]; omega
  · rw [← h3] at hx
    obtain ⟨w, hw, _, h7⟩ := mem_prefs.1 hx
    have := (hv.words w hw).2.1
    omega
  · have hPd : P.Nodup := by rw [← h3]; exact prefs_nodup _
    have hn := emW_nodup (E := E) hPd hs
    refine Nat.le_trans (nodup_len hn (m := codeP P E) fun a ha => ?_) hv.len
    unfold codeP
    exact mem_made.2 (emW_sub (by omega) ha)
theorem parCheck_no {q : Int} {P : List (List UInt8)} {N E : List (List Int)} (h : ¬ IsPar q P N E) : (1 : Int) = parCheck q P N E := by unfold parCheck; rw [if_neg h]

def chH (qn : Nat) (P : List (List UInt8)) (N E : List (List Int)) (L : List (List UInt8)) : List AObj :=
  [.box [.p (.int .i64 qn), .p (.sl (P.map .str)), .p (.sl (N.map slI)), .p (.sl (E.map slI))], .box [.p (.int .i64 qn), .own 2 L.length], .row 9 1 (L.map .str) .lax]

set_option maxHeartbeats 2000000 in
theorem p18 (q : Int) (P : List (List UInt8)) (N E : List (List Int)) (hP : P.length ≤ 64) (hPs : ∀ x ∈ P, x.length ≤ 1000) :
    PFn Try.prog 18 [psV q P N E] [.int .i64 (parCheck q P N E)] := by
  refine PFn.of_body hΓ Try.func18 (by kernel_rfl) rfl (AWp.seq (AWp.of_awpD [] hΓ hmix (by kernel_rfl) ?_))
  simp -implicitDefEqProofs only [Try.ntmps18, Try.results18, Nat.reduceAdd, Nat.reduceSub, psV, go_sem]
  refine AWp.seq (AWp.seq (AWp.of_awpD [] hΓ hmix (by kernel_rfl) ?_))
  by_cases h1 : P.length = N.length
  rotate_left
  · have h1' : ¬ (P.length : Int) = N.length := by omega
    simp -implicitDefEqProofs only [h1, h1', List.length_map, go_sem]
    refine AWp.of_awpD [] hΓ hmix (by kernel_rfl) ?_
    simp -implicitDefEqProofs only [go_sem]
    exact parCheck_no fun h => h1 h.facts.2.2.1
  by_cases h2 : P.length = E.length
  rotate_left
  · have h2' : ¬ (P.length : Int) = E.length := by omega
    have h2'' : ¬ N.length = E.length := by omega
    have h2''' : ¬ (N.length : Int) = E.length := by omega
    simp -implicitDefEqProofs only [h1, h2, h2', h2'', h2''', List.length_map, go_sem]
    refine AWp.of_awpD [] hΓ hmix (by kernel_rfl) ?_
    simp -implicitDefEqProofs only [go_sem]
    exact parCheck_no fun h => h2 h.facts.2.2.2.1
  have hne : N.length = E.length := by omega
  by_cases h3 : q < 2
  · simp -implicitDefEqProofs only [h1, hne, h3, List.length_map, go_sem]
    refine ⟨by omega, ?_⟩
    refine AWp.of_awpD [] hΓ hmix (by kernel_rfl) ?_
    simp -implicitDefEqProofs only [go_sem]
    exact parCheck_no fun h => by have := h.facts.1; omega
  by_cases h4 : 16 < q
  · simp -implicitDefEqProofs only [h1, hne, h3, h4, List.length_map, go_sem]
    refine ⟨by omega, by omega, ?_⟩
    refine AWp.of_awpD [] hΓ hmix (by kernel_rfl) ?_
    simp -implicitDefEqProofs only [go_sem]
    exact parCheck_no fun h => by have := h.facts.2.1; omega
  obtain ⟨qn, rfl⟩ := Int.eq_ofNat_of_zero_le (show 0 ≤ q by omega)
  simp -implicitDefEqProofs only [h1, hne, h3, h4, List.length_map, go_sem]
  refine ⟨by omega, by omega, ?_⟩
  refine AWp.of_awpD [] hΓ hmix (by kernel_rfl) ?_
  simp -implicitDefEqProofs only [go_sem]
  refine AWp.seq (AWp.of_awpD [] hΓ hmix (by kernel_rfl) ?_)
  simp -implicitDefEqProofs only [go_sem]
  refine ⟨by omega, by omega, ?_⟩
  refine AWp.adoptCell (l := []) 1 1 9 1 rfl rfl (by simp) ?_
  simp -implicitDefEqProofs only [List.set_cons_zero, List.set_cons_succ, go_sem]
  refine AWp.seq (AWp.seq (AWp.of_awpD [] hΓ hmix (by kernel_rfl) ?_))
  simp -implicitDefEqProofs only [List.length_map, go_sem]
  refine AWp.block ?_
  refine AWp.mono (Q := fun e st => (e = .ret ∧ st.tmps.getD 2 .junk = .p (.int .i64 (parCheck qn P N E))) ∨ (e = .exit 0 ∧ (∀ l ∈ E, l.length = qn) ∧ Weak st ⟨mkF 125 [(1, .ptr 0 0), (3, .ptr 1 0)], chH qn P N E (emW P E P.length)⟩)) ?_ ?_
  · refine AWp.loopI (fun s : Nat => ⟨mkF 125 [(1, .ptr 0 0), (3, .ptr 1 0), (39, .p (.sl (P.map .str))), (40, .p (.int .i64 P.length)), (41, .p (.int .i64 s))], chH qn P N E (emW P E s)⟩)
      (fun s => s ≤ P.length ∧ ∀ l ∈ E.take s, l.length = qn) (fun s => P.length - s) 0 (by simp [go_sem, chH, emW, h1, h2]) (by simp) ?_
    rintro s ⟨hs, hq⟩
    simp -implicitDefEqProofs only [chH, go_sem]
    refine AWp.of_awpD [(7, 31), (13, 1000)] hΓ hmix (by kernel_rfl) ?_
    by_cases hlt : s < P.length
    · have hsN : s < N.length := by omega
      have hsE : s < E.length := by omega
      by_cases hA : N[s].length = qn
      rotate_left
      · simp -implicitDefEqProofs only [hlt, hsN, hsE, getD_map_lt, ↓reduceIte, List.length_map, slI, hA, go_sem]
        exact ⟨by omega, .inl (parCheck_no fun h => hA (by have := h.facts.2.2.2.2.1 _ (List.getElem_mem hsN); omega))⟩
      by_cases hB : E[s].length = qn
      rotate_left
      · simp -implicitDefEqProofs only [hlt, hsN, hsE, getD_map_lt, ↓reduceIte, List.length_map, slI, hA, hB, go_sem]
        exact ⟨by omega, by omega, .inl (parCheck_no fun h => hB (by have := h.facts.2.2.2.2.2.1 _ (List.getElem_mem hsE); omega))⟩
      by_cases hC : (32 : Int) ≤ P[s].length
      · simp -implicitDefEqProofs only [hlt, hsN, hsE, getD_map_lt, ↓reduceIte, List.length_map, slI, hA, hB, hC, go_sem]
        exact ⟨by omega, by omega, .inl (parCheck_no fun h => by have := h.facts.2.2.2.2.2.2.1 _ (List.getElem_mem hlt); omega)⟩
      by_cases hD : (64 : Int) < (emW P E s).length
      · simp -implicitDefEqProofs only [hlt, hsN, hsE, getD_map_lt, ↓reduceIte, List.length_map, slI, hA, hB, hC, hD, go_sem]
        exact ⟨by omega, by omega, .inl (parCheck_no fun h => by have := h.facts.2.2.2.2.2.2.2 s hs; omega)⟩
      simp -implicitDefEqProofs only [hlt, hsN, hsE, getD_map_lt, ↓reduceIte, List.length_map, slI, hA, hB, hC, hD, go_sem]
      refine ⟨by omega, by omega, ?_⟩
      have hPl := hPs _ (List.getElem_mem hlt)
      refine AWp.loopI (fun a : Nat => ⟨mkF 125 [(1, .ptr 0 0), (3, .ptr 1 0), (5, .p (.str P[s])), (39, .p (.sl (P.map .str))), (40, .p (.int .i64 P.length)), (41, .p (.int .i64 s)), (81, .p (slI E[s])), (82, .p (.int .i64 qn)), (83, .p (.int .i64 a))], chH qn P N E (emW P E s ++ rowW P[s] E[s] a)⟩)
        (fun a => a ≤ qn) (fun a => qn - a) 0 (by simp [go_sem, chH, rowW, slI]) (by simp) ?_
      intro a ha
      simp -implicitDefEqProofs only [chH, slI, go_sem]
      refine AWp.of_awpD [(13, 1000)] hΓ hmix (by kernel_rfl) ?_
      by_cases hla : a < qn
      · have hl1 : a < E[s].length := by omega
        have h5 := emW_len P E s
        have h6 := rowW_len P[s] E[s] a
        by_cases hem : 0 ≤ E[s][a]
        · have hr := rowW_yes (x := P[s]) hl1 hem
          simp -implicitDefEqProofs only [hla, hl1, getD_map_lt, ↓reduceIte, List.length_map, hem, go_sem]
          refine AWp.planL (.q 0 (.q 1 (.q 2 (.q 3 (.q 4 (.q 5 (.q 6 (.q 7 (.q 8 (.e 9 (.q 10 (.e 11 .fin .nil)) .nil)))))))))) hΓ hmix (by kernel_rfl) ?_
          simp -implicitDefEqProofs only [lett_at (show a < 16 by omega), step_eq, List.length_singleton, go_sem]
          have hs1 := size_strs [stepW P[s] a]
          have ho1 := one_strs [stepW P[s] a]
          simp only [List.map_cons, List.map_nil] at hs1 ho1
          refine ⟨by simp only [InR]; omega, ⟨by omega, by omega⟩, by omega, ⟨hs1, by omega⟩, ⟨hs1, ho1⟩, ⟨.inl (by omega), by rw [List.length_append]; omega, by rw [List.length_append]; omega⟩, by simp only [InR]; omega, a + 1, ⟨⟨rfl, by simp⟩, ?_⟩, hla, by omega⟩
          rw [hr, ← List.append_assoc]
          unfold chH
          rw [List.map_append, List.length_append (bs := [stepW P[s] a])]
          simp [weakH, laxer]
        · have hr := rowW_no (x := P[s]) hl1 hem
          simp -implicitDefEqProofs only [hla, hl1, getD_map_lt, ↓reduceIte, List.length_map, hem, go_sem]
          exact ⟨by simp only [InR]; omega, a + 1, ⟨⟨rfl, by simp⟩, by rw [hr]; exact weakH_refl _⟩, hla, by omega⟩
      · have hal : a = qn := by omega
        have hr := emW_succ (P := P) (E := E) hlt hsE
        rw [show min E[s].length 16 = qn by omega, ← hal] at hr
        rw [← hr]
        simp -implicitDefEqProofs only [hla, go_sem]
        refine ⟨by simp only [InR]; omega, s + 1, ⟨by simp, weakH_refl _⟩, ⟨hlt, fun l hl => ?_⟩, by omega⟩
        rw [List.take_succ_eq_append_getElem hsE, List.mem_append, List.mem_singleton] at hl
        exact hl.elim (hq l) (fun e => by rw [e]; exact hB)
    · have hsl : s = P.length := by omega
      simp -implicitDefEqProofs only [hlt, go_sem]
      rw [hsl, h2] at hq
      refine .inr ⟨fun l hl => hq l (by rw [List.take_length]; exact hl), ?_⟩
      rw [hsl]
      exact weakH_refl _
  rintro e st (⟨rfl, hr⟩ | ⟨rfl, hq, hw⟩)
  · change AM.Ends _ ∧ _
    exact ⟨by first | trivial | rfl | simp [AM.Ends], by rw [hr]; rfl⟩
  show AWp _ _ _ _ _
  refine AWp.weak hw ?_
  clear hw
  simp -implicitDefEqProofs only [chH, go_sem]
  have ht71 := t71 qn (emW P E P.length) (by have := emW_len P E P.length; omega)
  have hmin : min E.length P.length = P.length := by omega
  have hC : made (emW P E P.length) = codeP P E := by unfold codeP; rw [hmin]
  rw [hC] at ht71
  refine AWp.freeze 2 rfl ?_
  simp -implicitDefEqProofs only [Frozen, AV.thaw, AObj.thaw, AV.thaw.thawL, List.map_cons, List.map_nil, List.set_cons_zero, List.set_cons_succ, go_sem]
  by_cases hc : codeCheck qn (codeP P E) = 0
  rotate_left
  · rw [if_neg hc] at ht71
    have hno := parCheck_no (q := qn) (P := P) (N := N) (E := E) fun h => hc h.1
    rw [← hno]
    generalize codeCheck qn (codeP P E) = ee at *
    refine AWp.of_awpD [(17, 14)] hΓ hmix (by kernel_rfl) ?_
    simp -implicitDefEqProofs only [go_sem]
    refine ⟨by omega, callK_fn ht71 (.pures rfl) ?_⟩
    simp -implicitDefEqProofs only [codeV, hc, go_sem]
  have hv := valid_of hc
  have e44 := p44 qn (codeP P E)
  have e45 := p45 hv
  have hpl := prefs_len hv
  have hNl := nxP_len hv
  have hMl := emP_len hv
  have e55 := p55 qn qn (prefs (codeP P E)) P (nxP qn (codeP P E)) (emP qn (codeP P E)) N E (by omega) (by omega) (by omega) (fun x hx => by rw [hNl.2 x hx]; omega) (fun x hx => by rw [hMl.2 x hx]; omega)
  rw [if_pos hc, hc] at ht71
  rw [show aloneB (fun w x => x.isPrefixOf w) (codeP P E) = preB (codeP P E) from rfl, hc] at e44
  refine AWp.of_awpD [(17, 14)] hΓ hmix (by kernel_rfl) ?_
  simp -implicitDefEqProofs only [go_sem]
  refine ⟨by omega, callK_fn ht71 (.pures rfl) ?_⟩
  cases hp : preB (codeP P E)
  · have hno := parCheck_no (q := qn) (P := P) (N := N) (E := E) fun h => by rw [h.2.1] at hp; cases hp
    rw [← hno]
    rw [hp] at e44
    simp -implicitDefEqProofs only [codeV, go_sem]
    refine callVPK_fn e44 (.still rfl) ?_
    simp -implicitDefEqProofs only [Bool.and_false, go_sem]
  · rw [hp] at e44
    have e5 : parCheck qn P N E = if decide ((qn : Int) = qn ∧ prefs (codeP P E) = P ∧ nxP qn (codeP P E) = N ∧ emP qn (codeP P E) = E) = true then 0 else 1 := by
      unfold parCheck
      by_cases hh : prefs (codeP P E) = P ∧ nxP qn (codeP P E) = N ∧ emP qn (codeP P E) = E
      · have hI : IsPar qn P N E := ⟨hc, hp, hh⟩
        rw [if_pos hI, if_pos (decide_eq_true ⟨rfl, hh⟩)]
      · have hI : ¬ IsPar qn P N E := fun e => hh e.2.2
        rw [if_neg hI, if_neg (by rw [decide_eq_true_eq]; exact fun e => hh e.2)]
    rw [e5]
    clear e5
    generalize decide ((qn : Int) = qn ∧ prefs (codeP P E) = P ∧ nxP qn (codeP P E) = N ∧ emP qn (codeP P E) = E) = b at *
    unfold parV at e45
    simp -implicitDefEqProofs only [codeV, go_sem]
    refine callVPK_fn e44 (.still rfl) ?_
    simp -implicitDefEqProofs only [Bool.and_true, go_sem]
    refine callVPK_fn e45 (.still rfl) ?_
    unfold psV at e55
    simp -implicitDefEqProofs only [psV, go_sem]
    refine callVPK_fn e55 (.still rfl) ?_
    cases b
    · simp -implicitDefEqProofs only [go_sem]
    · simp -implicitDefEqProofs only [go_sem]
end Go.Proofs.Ytolopbodgkmenaa
end

section
namespace Go.Proofs.Ytolopbodgkmenaa
open Go Go.AM
set_option maxRecDepth 100000
set_option linter.unusedSimpArgs false

def digN (b : UInt8) : Nat := (ixB b L16 0).toNat
def stp (N : List (List Int)) (s d : Nat) : Int := (N.getD s []).getD d (-1)
/-- What is read: for each letter what ends, and where it leads. -/
def trail (N E : List (List Int)) : Nat → List UInt8 → List (Int × Nat)
  | _, [] => []
  | s, b :: w => if stp N s (digN b) < 0 then [] else (stp E s (digN b), (stp N s (digN b)).toNat) :: trail N E (stp N s (digN b)).toNat w
def endS (s : Nat) (tr : List (Int × Nat)) : Nat := (tr.getLast?.map (·.2)).getD s
theorem endS_nil (s : Nat) : endS s [] = s := rfl
theorem endS_snoc (s : Nat) (d : List (Int × Nat)) (e : Int) (n : Nat) : endS s (d ++ [(e, n)]) = n := by unfold endS; simp
theorem endS_cons (s : Nat) (e : Int) (n : Nat) (d : List (Int × Nat)) : endS s ((e, n) :: d) = endS n d := by
  unfold endS
  cases d with
  | nil => simp
  | cons x d =>
    rw [List.getLast?_cons_cons]
    cases h : (x :: d).getLast? with
    | none => simp at h
    | some y => rfl
theorem trail_len (N E : List (List Int)) : ∀ (w : List UInt8) (s : Nat), (trail N E s w).length ≤ w.length
  | [], s => by simp [trail]
  | b :: w, s => by
    unfold trail
    split
    · simp
    · have := trail_len N E w (stp N s (digN b)).toNat
      simp only [List.length_cons]; omega
theorem trail_stop {N E : List (List Int)} : ∀ {w : List UInt8} {s i : Nat} (hi : i < w.length), i ≤ (trail N E s w).length → stp N (endS s ((trail N E s w).take i)) (digN w[i]) < 0 → (trail N E s w).length = i
  | b :: w, s, 0, hi, hle, h => by
    rw [List.take_zero, endS_nil] at h
    unfold trail
    rw [if_pos (by simpa using h)]; rfl
  | b :: w, s, i + 1, hi, hle, h => by
    unfold trail at hle h ⊢
    by_cases hn : stp N s (digN b) < 0
    · rw [if_pos hn] at hle; simp at hle
    · rw [if_neg hn] at hle h ⊢
      rw [List.take_succ_cons, endS_cons] at h
      have := trail_stop (w := w) (s := (stp N s (digN b)).toNat) (i := i) (by simpa using hi) (by simpa using hle) (by simpa using h)
      simpa using this
theorem trail_next {N E : List (List Int)} : ∀ {w : List UInt8} {s i : Nat} (hi : i < w.length), i ≤ (trail N E s w).length → ¬ stp N (endS s ((trail N E s w).take i)) (digN w[i]) < 0 →
    ∃ h : i < (trail N E s w).length, (trail N E s w)[i] = (stp E (endS s ((trail N E s w).take i)) (digN w[i]), (stp N (endS s ((trail N E s w).take i)) (digN w[i])).toNat)
  | b :: w, s, 0, hi, hle, h => by
    rw [List.take_zero, endS_nil] at h
    simp only [List.getElem_cons_zero] at h
    have e : trail N E s (b :: w) = (stp E s (digN b), (stp N s (digN b)).toNat) :: trail N E (stp N s (digN b)).toNat w := by
      conv => lhs; unfold trail
      rw [if_neg h]
    refine ⟨by rw [e]; simp, ?_⟩
    simp only [e, List.getElem_cons_zero, List.take_zero, endS_nil]
  | b :: w, s, i + 1, hi, hle, h => by
    by_cases hn : stp N s (digN b) < 0
    · unfold trail at hle; rw [if_pos hn] at hle; simp at hle
    · have e : trail N E s (b :: w) = (stp E s (digN b), (stp N s (digN b)).toNat) :: trail N E (stp N s (digN b)).toNat w := by
        conv => lhs; unfold trail
        rw [if_neg hn]
      rw [e] at hle h
      rw [List.take_succ_cons, endS_cons] at h
      obtain ⟨h1, h2⟩ := trail_next (E := E) (w := w) (s := (stp N s (digN b)).toNat) (i := i) (by simpa using hi) (by simpa using hle) (by simpa using h)
      refine ⟨by rw [e]; simpa using h1, ?_⟩
      simp only [e, List.getElem_cons_succ, List.take_succ_cons, endS_cons]
      exact h2

/-- Tables that fit. -/
structure Tbl (q : Nat) (N E : List (List Int)) : Prop where
  len : N.length = E.length
  rowN : ∀ l ∈ N, l.length = q
  rowE : ∀ l ∈ E, l.length = q
  next : ∀ l ∈ N, ∀ x ∈ l, x < N.length
theorem stp_at {N : List (List Int)} {s d : Nat} (hs : s < N.length) (hd : d < N[s].length) : stp N s d = N[s][d] := by
  unfold stp
  simp [List.getD_eq_getElem?_getD, hs, hd]
theorem endS_lt {q : Nat} {N E : List (List Int)} (hT : Tbl q N E) (hq : 0 < q) : ∀ (w : List UInt8) (s i : Nat), (∀ b ∈ w, digN b < q) → s < N.length → endS s ((trail N E s w).take i) < N.length
  | [], s, i, _, hs => by simp [trail, endS_nil]; exact hs
  | b :: w, s, 0, _, hs => by simp [endS_nil]; exact hs
  | b :: w, s, i + 1, hb, hs => by
    unfold trail
    split
    · simp [endS_nil]; exact hs
    · rename_i hn
      rw [List.take_succ_cons, endS_cons]
      refine endS_lt hT hq w _ i (fun c hc => hb c (by simp [hc])) ?_
      have hbq := hb b (by simp)
      have hrow := hT.rowN _ (List.getElem_mem hs)
      have hd : digN b < N[s].length := by omega
      rw [stp_at hs hd] at hn ⊢
      have := hT.next _ (List.getElem_mem hs) _ (List.getElem_mem hd)
      omega
theorem dig_of {q : Int} {w : List UInt8} (h : okW q w = true) : ∀ b ∈ w, 0 ≤ ixB b L16 0 ∧ ixB b L16 0 < q := fun b hb => by
  have := List.all_eq_true.1 h b hb
  unfold okB at this
  simp only [Bool.and_eq_true, decide_eq_true_eq] at this
  exact this

theorem p88 (b : UInt8) : PFn Try.prog 88 [.int .u8 b.toNat] [.int .i64 (ixB b L16 0)] := by
  have e := t101 L16 b.toNat
  have eb : ((b.toNat : Nat) : Int).toNat.toUInt8 = b := by simp
  rw [eb] at e
  refine PFn.of_body hΓ Try.func88 (by kernel_rfl) rfl (AWp.of_awpD [] hΓ hmix (by kernel_rfl) ?_)
  simp +contextual -implicitDefEqProofs only [Try.ntmps88, Try.results88, Nat.reduceAdd, Nat.reduceSub, go_sem]
  refine callK_fn e (.pures rfl) ?_
  simp -implicitDefEqProofs only [go_sem]

def psB (q : Int) (P : List (List UInt8)) (N E : List (List Int)) : AObj := .box [.p (.int .i64 q), .p (.sl (P.map .str)), .p (.sl (N.map slI)), .p (.sl (E.map slI))]

theorem c64 {h : List AObj} (q : Int) (P : List (List UInt8)) (N E : List (List Int)) (s : Int) (w : List UInt8) :
    AC Try.prog 64 [.agg [.p (.int .i64 q), .p (.sl (P.map .str)), .p (.sl (N.map slI)), .p (.sl (E.map slI))], .p (.int .i64 s), .p (.str w)] h []
      (fun v h' => v = .fn 87 [.ptr (h.length + 2) 0, .ptr h.length 0, .ptr (h.length + 1) 0] ∧ h' = h ++ [psB q P N E, .box [.p (.int .i64 s)], .box [.p (.str w)]]) := by
  refine AC.of_bodyE hΓ Try.func64 (by kernel_rfl) rfl (AWp.mono (Q := fun e st => AM.Ends e ∧ st.tmps.getD 6 .junk = .fn 87 [.ptr (h.length + 2) 0, .ptr h.length 0, .ptr (h.length + 1) 0] ∧ st.h = h ++ [psB q P N E, .box [.p (.int .i64 s)], .box [.p (.str w)]]) ?_ ?_)
  rotate_left
  · rintro e ⟨tm, h'⟩ ⟨he, h1, h2⟩
    simp only at h1 h2
    subst h2
    refine ⟨he, _, Less.refl _, ?_⟩
    unfold DoneE
    simp +contextual -implicitDefEqProofs only [Try.results64, h1, go_sem]
    exact ⟨_, by simp, .inl rfl, List.take_length⟩
  refine AWp.of_awpD [] hΓ hmix (by kernel_rfl) ?_
  simp -implicitDefEqProofs only [Try.ntmps64, Nat.reduceAdd, Nat.reduceSub, psB, go_sem]
  simp

theorem callK_yc {E : Env} {tm : List AV} {h : List AObj} {KS : St → Prop} {d : Option Nat} {b : Nat} {args : List AV} {ks : List Nat} {R : AV → List AObj → Prop} (hf : YC E.P b args h ks R) (hks : ∀ k ∈ ks, E.n0 ≤ k ∨ k ∈ E.ks)
    (hk : ∀ v h', R v h' → KS ⟨putD (killAll ks tm) d v, h'⟩) : callK E ⟨tm, h⟩ d (.yld b) args KS := ⟨ks, R, hf, hks, hk⟩

theorem c87 {b cw cp cs : Nat} {ks : List Nat} (hbk : b ∉ ks) (hwk : cw ∉ ks) (hpk : cp ∉ ks) (hsk : cs ∉ ks) (qn : Nat) (P : List (List UInt8)) (N E : List (List Int)) (hT : Tbl qn N E) (s0 : Nat) (hs0 : s0 < N.length) (w : List UInt8) (hw : okW qn w = true) (hwl : w.length ≤ 100000)
    (H : List (Int × Nat) → List AObj) (hlen : ∀ d, (H []).length ≤ (H d).length) (hbw : ∀ d, (H d)[cw]? = some (.box [.p (.str w)])) (hbp : ∀ d, (H d)[cp]? = some (psB qn P N E))
    (hbs : ∀ d, (H d)[cs]? = some (.box [.p (.int .i64 (endS s0 d))]))
    (hround : ∀ d e n, (∃ l, d ++ (e, n) :: l = trail N E s0 w) → YC Try.prog b [.p (.int .i64 e), .p (.int .i64 (n : Nat))] ((H d).set cs (.box [.p (.int .i64 (n : Nat))])) ks (fun v h' => v = .p (.bool true) ∧ h' = H (d ++ [(e, n)]))) :
    AC Try.prog 87 [.yld b, .ptr cw 0, .ptr cp 0, .ptr cs 0] (H []) ks (fun _ h' => h' = H (trail N E s0 w)) := by
  have hq0 : 0 < qn ∨ w = [] := by
    cases w with
    | nil => exact .inr rfl
    | cons c w => have := dig_of hw c (by simp); exact .inl (by omega)
  have hnc : cs ≠ cp := fun e => by
    have h1 := hbs []
    have h2 := hbp []
    rw [e, h2] at h1
    simp [psB] at h1
  have hnw : cs ≠ cw := fun e => by
    have h1 := hbs []
    have h2 := hbw []
    rw [e, h2] at h1
    simp at h1
  have nb : ∀ {k}, k ∈ ks → b ≠ k := fun h e => hbk (e ▸ h)
  have nw : ∀ {k}, k ∈ ks → cw ≠ k := fun h e => hwk (e ▸ h)
  have np : ∀ {k}, k ∈ ks → cp ≠ k := fun h e => hpk (e ▸ h)
  have ns : ∀ {k}, k ∈ ks → cs ≠ k := fun h e => hsk (e ▸ h)
  refine AC.of_bodyE hΓ Try.func87 (by kernel_rfl) rfl (AWp.mono (Q := fun e st => AM.Ends e ∧ st.h = H (trail N E s0 w)) ?_ ?_)
  rotate_left
  · rintro e ⟨tm, h'⟩ ⟨he, h2⟩
    simp only at h2
    subst h2
    refine ⟨he, _, Less.refl _, ?_⟩
    unfold DoneE
    simp +contextual -implicitDefEqProofs only [Try.results87, go_sem]
    exact ⟨_, hlen _, .inl rfl, List.take_length⟩
  refine AWp.of_awpD [] hΓ hmix (by kernel_rfl) ?_
  simp -implicitDefEqProofs only [Try.ntmps87, Nat.reduceAdd, Nat.reduceSub, hbw, go_sem]
  refine AWp.loopI (fun i : Nat => ⟨mkF 48 [(0, .yld b), (1, .ptr cw 0), (2, .ptr cp 0), (3, .ptr cs 0), (9, .p (.int .i64 w.length)), (10, .p (.int .i64 i))], H ((trail N E s0 w).take i)⟩)
    (fun i => i ≤ w.length ∧ i ≤ (trail N E s0 w).length) (fun i => w.length - i) 0 (by simp [go_sem, weakH_self]) (by simp) ?_
  rintro i ⟨hi, hit⟩
  simp -implicitDefEqProofs only [go_sem]
  refine AWp.of_awpD [] hΓ hmix (by kernel_rfl) ?_
  by_cases hlt : i < w.length
  · have hdw := dig_of hw w[i] (List.getElem_mem hlt)
    have hq : 0 < qn := hq0.elim id fun e => by rw [e] at hlt; simp at hlt
    have hgB := hbw ((trail N E s0 w).take i)
    have hgP := hbp ((trail N E s0 w).take i)
    have hgS := hbs ((trail N E s0 w).take i)
    have hsl := endS_lt hT hq w s0 i (fun c hc => by have := dig_of hw c hc; unfold digN; omega) hs0
    have hstop := trail_stop (N := N) (E := E) (s := s0) hlt hit
    have hnext := trail_next (N := N) (E := E) (s := s0) hlt hit
    have e88 := p88 w[i]
    have hwd : w.getD i 0 = w[i] := by rw [List.getD_eq_getElem?_getD, List.getElem?_eq_getElem hlt]; rfl
    rw [show ixB w[i] L16 0 = (digN w[i] : Int) by unfold digN; omega, ← hwd] at e88
    have hdq : digN w[i] < qn := by unfold digN; omega
    simp -implicitDefEqProofs only [hlt, hgB, go_sem]
    refine callK_fn e88 (.pures rfl) ?_
    rw [hwd]
    generalize hs : endS s0 ((trail N E s0 w).take i) = s at *
    generalize digN w[i] = d at *
    have hsE : s < E.length := by have := hT.len; omega
    have hdN : d < N[s].length := by rw [hT.rowN _ (List.getElem_mem hsl)]; exact hdq
    have hdE : d < E[s].length := by rw [hT.rowE _ (List.getElem_mem hsE)]; exact hdq
    rw [stp_at hsl hdN] at hstop hnext
    rw [stp_at hsE hdE] at hnext
    unfold psB at hgP
    by_cases hneg : N[s][d] < 0
    · simp -implicitDefEqProofs only [hgP, hgS, hsl, hdN, getD_map_lt, ↓reduceIte, List.length_map, slI, hneg, go_sem]
      rw [List.take_of_length_le (by rw [hstop hneg]; omega)]
    · obtain ⟨ht1, ht2⟩ := hnext hneg
      have hnx := hT.next _ (List.getElem_mem hsl) _ (List.getElem_mem hdN)
      obtain ⟨n, hn⟩ := Int.eq_ofNat_of_zero_le (show 0 ≤ N[s][d] by omega)
      have hset : ∀ X : AObj, ((H ((trail N E s0 w).take i)).set cs X)[cs]? = some X := fun X => List.getElem?_set_self (List.getElem?_eq_some_iff.1 hgS).1
      rw [hn, Int.toNat_natCast] at ht2
      have hr := hround ((trail N E s0 w).take i) E[s][d] n ⟨(trail N E s0 w).drop (i + 1), by
        rw [← ht2]
        conv => rhs; rw [← List.take_append_drop i (trail N E s0 w)]
        rw [List.drop_eq_getElem_cons ht1]⟩
      simp -implicitDefEqProofs only [hgP, hgS, hsl, hsE, hdN, hdE, getD_map_lt, ↓reduceIte, List.length_map, slI, hneg, hn, hset, show ¬ (n : Int) < 0 by omega, go_sem]
      refine callK_yc hr (fun k hk => .inr hk) ?_
      rintro v h' ⟨rfl, rfl⟩
      rw [killAll_keep (fun k hk => by simp [AV.kill, AV.kill.killL, nb hk, nw hk, np hk, ns hk])]
      simp -implicitDefEqProofs only [go_sem]
      refine ⟨by simp only [InR]; omega, i + 1, ⟨by simp, ?_⟩, ⟨hlt, ht1⟩, by omega⟩
      rw [List.take_succ_eq_append_getElem ht1, ht2]
      exact weakH_refl _
  · have hil : i = w.length := by omega
    have htl := trail_len N E w s0
    have hz : ¬ (i : Int) < w.length := by omega
    simp -implicitDefEqProofs only [hlt, hz, go_sem]
    rw [List.take_of_length_le (by omega)]

theorem p63 (q : Int) (P : List (List UInt8)) (N E : List (List Int)) (w : List UInt8) (hP : P.length ≤ 64) (hPs : ∀ x ∈ P, x.length ≤ 1000) :
    PFn Try.prog 63 [psV q P N E, .str w] [.int .i64 (if parCheck q P N E = 0 then wordCheck q w else 1)] := by
  have e18 := p18 q P N E hP hPs
  have e57 := t80 q w
  unfold psV at e18
  by_cases h : parCheck q P N E = 0
  · rw [h] at e18
    rw [if_pos h]
    refine PFn.of_body hΓ Try.func63 (by kernel_rfl) rfl (AWp.of_awpD [] hΓ hmix (by kernel_rfl) ?_)
    simp -implicitDefEqProofs only [Try.ntmps63, Try.results63, Nat.reduceAdd, Nat.reduceSub, psV, go_sem]
    refine callK_fn e18 (.still rfl) ?_
    simp -implicitDefEqProofs only [go_sem]
    refine ⟨by omega, callK_fn e57 (.pures rfl) ?_⟩
    simp -implicitDefEqProofs only [go_sem]
  · rw [if_neg h]
    refine PFn.of_body hΓ Try.func63 (by kernel_rfl) rfl (AWp.of_awpD [] hΓ hmix (by kernel_rfl) ?_)
    simp -implicitDefEqProofs only [Try.ntmps63, Try.results63, Nat.reduceAdd, Nat.reduceSub, psV, go_sem]
    refine callK_fn e18 (.still rfl) ?_
    simp -implicitDefEqProofs only [h, go_sem]
end Go.Proofs.Ytolopbodgkmenaa
end

section
namespace Go.Proofs.Ytolopbodgkmenaa
open Go Go.AM
set_option maxRecDepth 100000
set_option linter.unusedSimpArgs false

theorem IsPar.tbl {q : Int} {P : List (List UInt8)} {N E : List (List Int)} (h : IsPar q P N E) : Tbl q.toNat N E ∧ 0 < N.length := by
  have hf := h.facts
  obtain ⟨h1, h2, h3, h4, h5⟩ := h
  have hv := valid_of h1
  have hq2 := hv.q2
  have hNr := (nxP_len hv).2
  have hEr := (emP_len hv).2
  have hnl : 0 < N.length := by
    rw [← hf.2.2.1, ← h3]
    have hp := hv.pos
    have : ([] : List UInt8) ∈ prefs (codeP P E) := mem_prefs.2 ⟨_, List.getElem_mem hp, List.nil_prefix, List.length_pos_iff.2 (hv.words _ (List.getElem_mem hp)).1⟩
    exact List.length_pos_of_mem this
  refine ⟨⟨by omega, fun l hl => hNr l (by rw [h4]; exact hl), fun l hl => hEr l (by rw [h5]; exact hl), fun l hl x hx => ?_⟩, hnl⟩
  rw [← h4] at hl
  obtain ⟨y, _, rfl⟩ := List.mem_map.1 hl
  unfold nxL at hx
  obtain ⟨a, _, rfl⟩ := List.mem_map.1 hx
  unfold nextN
  split
  · omega
  · rw [h3]
    have := ixW_lt P (stepW y a)
    omega

def posE (q : Int) (P : List (List UInt8)) (N E : List (List Int)) (w : List UInt8) : Int := if parCheck q P N E = 0 then wordCheck q w else 1

theorem p31 (q : Int) (P : List (List UInt8)) (N E : List (List Int)) (w : List UInt8) (hP : P.length ≤ 64) (hPs : ∀ x ∈ P, x.length ≤ 1000) :
    PFn Try.prog 31 [psV q P N E, .str w] [.int .i64 (if posE q P N E w = 0 then (trail N E 0 w).length else 0), .int .i64 (posE q P N E w)] := by
  have e63 := p63 q P N E w hP hPs
  change PFn Try.prog 63 _ [.int .i64 (posE q P N E w)] at e63
  by_cases h : posE q P N E w = 0
  rotate_left
  · rw [if_neg h]
    generalize posE q P N E w = ee at *
    refine PFn.of_body hΓ Try.func31 (by kernel_rfl) rfl (AWp.of_awpD [] hΓ hmix (by kernel_rfl) ?_)
    simp -implicitDefEqProofs only [Try.ntmps31, Try.results31, Nat.reduceAdd, Nat.reduceSub, psV, go_sem]
    unfold psV at e63
    refine callK_fn e63 (.still rfl) ?_
    simp -implicitDefEqProofs only [h, go_sem]
  have hI : IsPar q P N E := by
    unfold posE parCheck at h
    by_cases hI : IsPar q P N E
    · exact hI
    · rw [if_neg hI, if_neg (by decide)] at h; cases h
  have hwc : wordCheck q w = 0 := by
    unfold posE parCheck at h
    rw [if_pos hI, if_pos rfl] at h; exact h
  obtain ⟨hT, hN0⟩ := hI.tbl
  have hf := hI.facts
  rw [h, if_pos rfl]
  rw [h] at e63
  obtain ⟨qn, rfl⟩ := Int.eq_ofNat_of_zero_le (show 0 ≤ q by omega)
  rw [Int.toNat_natCast] at hT
  have hokw : okW qn w = true ∧ w.length ≤ 65536 := by
    unfold wordCheck at hwc
    rw [if_neg (by omega)] at hwc
    split at hwc
    · cases hwc
    · split at hwc
      · rename_i h; exact ⟨h, by omega⟩
      · cases hwc
  refine PFn.of_body hΓ Try.func31 (by kernel_rfl) rfl (AWp.seq (AWp.of_awpD [] hΓ hmix (by kernel_rfl) ?_))
  simp -implicitDefEqProofs only [Try.ntmps31, Try.results31, Nat.reduceAdd, Nat.reduceSub, psV, go_sem]
  refine AWp.seq (AWp.of_awpD [] hΓ hmix (by kernel_rfl) ?_)
  simp -implicitDefEqProofs only [go_sem]
  unfold psV at e63
  refine callK_fn e63 (.still rfl) ?_
  simp -implicitDefEqProofs only [go_sem]
  refine AWp.seq (AWp.of_awpD [] hΓ hmix (by kernel_rfl) ?_)
  simp -implicitDefEqProofs only [go_sem]
  refine AWp.seq (AWp.seq (AWp.of_awpD [] hΓ hmix (by kernel_rfl) ?_))
  simp -implicitDefEqProofs only [go_sem]
  refine callK_ac (c64 qn P N E 0 w) (by simp) ?_
  rintro v h' ⟨rfl, rfl⟩
  simp -implicitDefEqProofs only [killAll, List.foldl, psB, go_sem]
  refine AWp.block ?_
  refine AWp.weak (st' := ⟨mkF 22 [(2, .ptr 0 0), (7, .ptr 1 0), (16, .fn 87 [.ptr 4 0, .ptr 2 0, .ptr 3 0])], [psB qn P N E, .box [.p (.int .i64 (0 : Nat))], psB qn P N E, .box [.p (.int .i64 (0 : Nat))], .box [.p (.str w)]]⟩) (by simp [go_sem, psB]) ?_
  rw [show (#[17, 18] : Array Nat) = [17, 18].toArray from rfl]
  refine AWp.rangeFunc (ks := []) (R := fun _ h' => h' = [psB qn P N E, .box [.p (.int .i64 ((trail N E 0 w).length : Nat))], psB qn P N E, .box [.p (.int .i64 (endS 0 (trail N E 0 w) : Nat))], .box [.p (.str w)], .lp _ _ _ _ _]) rfl
    (c87 (by simp) (by simp) (by simp) (by simp) qn P N E hT 0 hN0 w hokw.1 (by omega) (fun d => [psB qn P N E, .box [.p (.int .i64 (d.length : Nat))], psB qn P N E, .box [.p (.int .i64 (endS 0 d : Nat))], .box [.p (.str w)], .lp _ _ _ _ _]) (fun d => by simp) (fun d => rfl) (fun d => rfl) (fun d => rfl) ?_) (by simp) (by simp) ?_
  · intro d e n hd
    have hdl : d.length < (trail N E 0 w).length := by
      obtain ⟨l, hl⟩ := hd
      rw [← hl]; simp
    have htl := trail_len N E w 0
    simp -implicitDefEqProofs only [List.set_cons_zero, List.set_cons_succ, go_sem]
    refine YC.of_body (Γ := Γ) rfl rfl (by simp) ?_
    intro rr
    refine AWp.of_awpD [] hΓ hmix (by kernel_rfl) ?_
    simp -implicitDefEqProofs only [setP, go_sem]
    unfold BeginE
    refine ⟨rfl, ?_⟩
    simp -implicitDefEqProofs only [go_sem]
    refine AWp.of_awpD [] hΓ hmix (by kernel_rfl) ?_
    simp -implicitDefEqProofs only [go_sem]
    refine ⟨by simp only [InR]; omega, ?_⟩
    unfold RoundE
    simp -implicitDefEqProofs only [go_sem]
    refine ⟨_, ?_, .inl rfl, ?_⟩
    rotate_left
    · rw [List.take_length]
      simp [endS_snoc]
    · simp
  · rintro v h' rfl
    unfold RangeK
    simp -implicitDefEqProofs only [killAll, List.foldl, go_sem]
    refine AWp.of_awpD [] hΓ hmix (by kernel_rfl) ?_
    simp -implicitDefEqProofs only [go_sem]
end Go.Proofs.Ytolopbodgkmenaa
end

section
namespace Go.Proofs.Ytolopbodgkmenaa
open Go Go.AM
set_option maxRecDepth 100000
set_option linter.unusedSimpArgs false

def outs (d : List (Int × Nat)) : List Int := (d.map (·.1)).filter fun e => decide (0 ≤ e)
theorem outs_yes {d : List (Int × Nat)} {e : Int} (n : Nat) (h : 0 ≤ e) : outs (d ++ [(e, n)]) = outs d ++ [e] := by unfold outs; simp [h]
theorem outs_no {d : List (Int × Nat)} {e : Int} (n : Nat) (h : ¬ 0 ≤ e) : outs (d ++ [(e, n)]) = outs d := by unfold outs; simp [h]
theorem outs_len (d : List (Int × Nat)) : (outs d).length ≤ d.length := by
  unfold outs
  refine Nat.le_trans (List.length_filter_le _ _) (by simp)

def runE' (q : Int) (P : List (List UInt8)) (N E : List (List Int)) (s : Int) (w : List UInt8) : Int :=
  if posE q P N E w = 0 then (if s < 0 ∨ (P.length : Int) ≤ s then 25 else if (trail N E s.toNat w).length < w.length then 13 else 0) else posE q P N E w
def runL (q : Int) (P : List (List UInt8)) (N E : List (List Int)) (s : Int) (w : List UInt8) : List Int := if runE' q P N E s w = 0 then outs (trail N E s.toNat w) else []
def runS (q : Int) (P : List (List UInt8)) (N E : List (List Int)) (s : Int) (w : List UInt8) : Int := if runE' q P N E s w = 0 then (endS s.toNat (trail N E s.toNat w) : Nat) else 0

theorem pos_facts {q : Int} {P : List (List UInt8)} {N E : List (List Int)} {w : List UInt8} (h : posE q P N E w = 0) : IsPar q P N E ∧ okW q w = true ∧ w.length ≤ 65536 := by
  have hI : IsPar q P N E := by
    unfold posE parCheck at h
    by_cases hI : IsPar q P N E
    · exact hI
    · rw [if_neg hI, if_neg (by decide)] at h; cases h
  have hwc : wordCheck q w = 0 := by
    unfold posE parCheck at h
    rw [if_pos hI, if_pos rfl] at h; exact h
  have hf := hI.facts
  refine ⟨hI, ?_⟩
  unfold wordCheck at hwc
  rw [if_neg (by omega)] at hwc
  split at hwc
  · cases hwc
  · split at hwc
    · rename_i h; exact ⟨h, by omega⟩
    · cases hwc

/-- Memory while a word is read. -/
def rnH (qn : Nat) (P : List (List UInt8)) (N E : List (List Int)) (w : List UInt8) (sn : Nat) (rec : AObj) (d : List (Int × Nat)) : List AObj :=
  [psB qn P N E, .box [.p (.int .i64 (endS sn d : Nat))], .box [.own 3 (outs d).length], .row 3 1 ((outs d).map (.int .i64)) (pk (outs d)), .box [.p (.int .i64 (d.length : Nat))], psB qn P N E, .box [.p (.int .i64 (endS sn d : Nat))], .box [.p (.str w)], rec]

theorem p29 (q : Int) (P : List (List UInt8)) (N E : List (List Int)) (s : Int) (w : List UInt8) (hP : P.length ≤ 64) (hPs : ∀ x ∈ P, x.length ≤ 1000) :
    PFn Try.prog 29 [psV q P N E, .int .i64 s, .str w] [slI (runL q P N E s w), .int .i64 (runS q P N E s w), .int .i64 (runE' q P N E s w)] := by
  have e63 := p63 q P N E w hP hPs
  change PFn Try.prog 63 _ [.int .i64 (posE q P N E w)] at e63
  by_cases h : posE q P N E w = 0
  rotate_left
  · have e0 : runE' q P N E s w = posE q P N E w := by unfold runE'; rw [if_neg h]
    have e1 : runL q P N E s w = [] := by unfold runL; rw [e0, if_neg h]
    have e2 : runS q P N E s w = 0 := by unfold runS; rw [e0, if_neg h]
    rw [e0, e1, e2]
    generalize posE q P N E w = ee at *
    refine PFn.of_body hΓ Try.func29 (by kernel_rfl) rfl (AWp.of_awpD [(16, 5)] hΓ hmix (by kernel_rfl) ?_)
    simp -implicitDefEqProofs only [Try.ntmps29, Try.results29, Nat.reduceAdd, Nat.reduceSub, psV, go_sem]
    unfold psV at e63
    refine callK_fn e63 (.still rfl) ?_
    simp -implicitDefEqProofs only [h, slI, List.map_nil, go_sem]
  obtain ⟨hI, hokw, hwl⟩ := pos_facts h
  obtain ⟨hT, hN0⟩ := hI.tbl
  have hf := hI.facts
  rw [h] at e63
  by_cases hs : s < 0 ∨ (P.length : Int) ≤ s
  · have e0 : runE' q P N E s w = 25 := by unfold runE'; rw [if_pos h, if_pos hs]
    have e1 : runL q P N E s w = [] := by unfold runL; rw [e0, if_neg (by decide)]
    have e2 : runS q P N E s w = 0 := by unfold runS; rw [e0, if_neg (by decide)]
    rw [e0, e1, e2]
    unfold psV at e63
    refine PFn.of_body hΓ Try.func29 (by kernel_rfl) rfl (AWp.of_awpD [(16, 5)] hΓ hmix (by kernel_rfl) ?_)
    by_cases hs1 : s < 0
    · simp -implicitDefEqProofs only [Try.ntmps29, Try.results29, Nat.reduceAdd, Nat.reduceSub, psV, go_sem]
      refine callK_fn e63 (.still rfl) ?_
      simp -implicitDefEqProofs only [hs1, slI, List.map_nil, go_sem]
    · have hs2 : (P.length : Int) ≤ s := hs.resolve_left hs1
      simp -implicitDefEqProofs only [Try.ntmps29, Try.results29, Nat.reduceAdd, Nat.reduceSub, psV, go_sem]
      refine callK_fn e63 (.still rfl) ?_
      simp -implicitDefEqProofs only [hs1, hs2, slI, List.map_nil, List.length_map, go_sem]
  have hs1 : ¬ s < 0 := fun e => hs (.inl e)
  have hs2 : ¬ (P.length : Int) ≤ s := fun e => hs (.inr e)
  obtain ⟨sn, rfl⟩ := Int.eq_ofNat_of_zero_le (show 0 ≤ s by omega)
  obtain ⟨qn, rfl⟩ := Int.eq_ofNat_of_zero_le (show 0 ≤ q by omega)
  rw [Int.toNat_natCast] at hT
  have hsN : sn < N.length := by have := hf.2.2.1; omega
  have e0 : runE' qn P N E sn w = if (trail N E sn w).length < w.length then 13 else 0 := by unfold runE'; rw [if_pos h, if_neg hs, Int.toNat_natCast]
  unfold runL runS
  rw [e0, Int.toNat_natCast]
  refine PFn.of_body hΓ Try.func29 (by kernel_rfl) rfl (AWp.seq (AWp.of_awpD [] hΓ hmix (by kernel_rfl) ?_))
  simp -implicitDefEqProofs only [Try.ntmps29, Try.results29, Nat.reduceAdd, Nat.reduceSub, psV, go_sem]
  refine AWp.seq (AWp.of_awpD [] hΓ hmix (by kernel_rfl) ?_)
  simp -implicitDefEqProofs only [go_sem]
  unfold psV at e63
  refine callK_fn e63 (.still rfl) ?_
  simp -implicitDefEqProofs only [go_sem]
  refine AWp.seq (AWp.seq (AWp.of_awpD [] hΓ hmix (by kernel_rfl) ?_))
  simp -implicitDefEqProofs only [hs1, hs2, List.length_map, go_sem]
  refine AWp.of_awpD [] hΓ hmix (by kernel_rfl) ?_
  simp -implicitDefEqProofs only [go_sem]
  refine AWp.seq (AWp.of_awpD [] hΓ hmix (by kernel_rfl) ?_)
  simp -implicitDefEqProofs only [go_sem]
  refine AWp.adoptCell (l := []) 2 0 3 1 rfl rfl (by simp) ?_
  simp -implicitDefEqProofs only [List.set_cons_zero, List.set_cons_succ, go_sem]
  refine AWp.seq (AWp.of_awpD [] hΓ hmix (by kernel_rfl) ?_)
  simp -implicitDefEqProofs only [go_sem]
  refine AWp.seq (AWp.seq (AWp.of_awpD [] hΓ hmix (by kernel_rfl) ?_))
  simp -implicitDefEqProofs only [go_sem]
  refine callK_ac (c64 qn P N E sn w) (by simp) ?_
  rintro v h' ⟨rfl, rfl⟩
  simp -implicitDefEqProofs only [killAll, List.foldl, psB, go_sem]
  refine AWp.block ?_
  refine AWp.weak (st' := ⟨mkF 50 [(2, .p (.str w)), (3, .ptr 0 0), (4, .ptr 1 0), (10, .ptr 2 0), (11, .ptr 4 0), (32, .fn 87 [.ptr 7 0, .ptr 5 0, .ptr 6 0])], [psB qn P N E, .box [.p (.int .i64 (sn : Nat))], .box [.own 3 0], .row 3 1 [] .lax, .box [.p (.int .i64 (0 : Nat))], psB qn P N E, .box [.p (.int .i64 (sn : Nat))], .box [.p (.str w)]]⟩) (by simp [go_sem, psB]) ?_
  rw [show (#[33, 34] : Array Nat) = [33, 34].toArray from rfl]
  refine AWp.rangeFunc (ks := [3]) (R := fun _ h' => h' = rnH qn P N E w sn (.lp _ _ _ _ _) (trail N E sn w)) rfl
    (c87 (by simp) (by simp) (by simp) (by simp) qn P N E hT sn hsN w hokw (by omega) (rnH qn P N E w sn (.lp _ _ _ _ _)) (fun d => by simp [rnH]) (fun d => rfl) (fun d => rfl) (fun d => rfl) ?_) (by simp) (by simp) ?_
  · intro d e n hd
    have hdl : d.length < (trail N E sn w).length := by
      obtain ⟨l, hl⟩ := hd
      rw [← hl]; simp
    have htl := trail_len N E w sn
    have hol := outs_len d
    unfold rnH
    simp -implicitDefEqProofs only [List.set_cons_zero, List.set_cons_succ, go_sem]
    refine YC.of_body (Γ := Γ) rfl rfl (by simp) ?_
    intro rr
    refine AWp.of_awpD [] hΓ hmix (by kernel_rfl) ?_
    simp -implicitDefEqProofs only [setP, go_sem]
    unfold BeginE
    refine ⟨rfl, ?_⟩
    simp -implicitDefEqProofs only [go_sem]
    refine AWp.of_awpD [] hΓ hmix (by kernel_rfl) ?_
    by_cases hp : 0 ≤ e
    · simp -implicitDefEqProofs only [hp, go_sem]
      have hs1 : sizeOK [PV.int .i64 e] 1 := by simp [sizeOK, PV.cells]
      have ho1 : oneOK [PV.int .i64 e] := by simp [oneOK, PV.cells, PV.isAgg]
      refine ⟨⟨hs1, by omega⟩, ⟨hs1, ho1⟩, ⟨pk_raw _, .inr (by simp), by omega, by omega⟩, by simp only [InR]; omega, ?_⟩
      unfold RoundE
      simp -implicitDefEqProofs only [killAll, List.foldl, AObj.kill, AV.kill, AV.kill.killL, go_sem]
      refine ⟨_, ?_, .inl rfl, ?_⟩
      rotate_left
      · rw [List.take_length]
        rw [outs_yes n hp, endS_snoc, pk_snoc]
        simp [psB, AV.kill]
      · simp
    · simp -implicitDefEqProofs only [hp, go_sem]
      refine ⟨by simp only [InR]; omega, ?_⟩
      unfold RoundE
      simp -implicitDefEqProofs only [go_sem]
      refine ⟨_, ?_, .inl rfl, ?_⟩
      rotate_left
      · rw [List.take_length]
        rw [outs_no n hp, endS_snoc]
        simp
      · simp
  · rintro v h' rfl
    unfold RangeK rnH
    simp -implicitDefEqProofs only [killAll, List.foldl, go_sem]
    refine AWp.freeze 3 rfl ?_
    simp -implicitDefEqProofs only [Frozen, AV.thaw, AObj.thaw, AV.thaw.thawL, List.map_cons, List.map_nil, List.set_cons_zero, List.set_cons_succ, go_sem]
    have htl := trail_len N E w sn
    refine AWp.of_awpD [(16, 5)] hΓ hmix (by kernel_rfl) ?_
    by_cases hfin : (trail N E sn w).length < w.length
    · have hfin' : ((trail N E sn w).length : Int) < w.length := by omega
      rw [if_pos hfin]
      simp -implicitDefEqProofs only [hfin, hfin', slI, go_sem]
      exact ⟨rfl, rfl⟩
    · rw [if_neg hfin]
      simp -implicitDefEqProofs only [hfin, slI, go_sem]
end Go.Proofs.Ytolopbodgkmenaa
end

section
namespace Go.Proofs.Ytolopbodgkmenaa
open Go Go.AM
set_option maxRecDepth 100000
set_option linter.unusedSimpArgs false

theorem ixB_hit (c : UInt8) : ∀ (l : List UInt8) (n : Nat), 0 ≤ ixB c l n → ∃ k : Nat, ixB c l n = ((n + k : Nat) : Int) ∧ l.getD k 0 = c
  | [], n, h => by simp [ixB] at h
  | a :: l, n, h => by
    unfold ixB at h ⊢
    split at h
    · rename_i hb
      refine ⟨0, rfl, ?_⟩
      have := Nat.eq_of_beq_eq_true hb
      simp only [List.getD_cons_zero]
      exact UInt8.toNat_inj.1 this
    · obtain ⟨k, h1, h2⟩ := ixB_hit c l (n + 1) h
      exact ⟨k + 1, by rw [h1]; congr 1; omega, by simpa using h2⟩
theorem Valid.strict {q : Int} {ws : List (List UInt8)} (hv : Valid q ws) : ws.Pairwise ltW := List.pairwise_iff_getElem.2 fun i j hi hj hij => by
  have := hv.lt i j hij hj
  rwa [List.getD_eq_getElem?_getD, List.getElem?_eq_getElem hi, Option.getD_some, List.getD_eq_getElem?_getD, List.getElem?_eq_getElem hj, Option.getD_some] at this

theorem word_ok {q : Int} {w : List UInt8} (hw : wordCheck q w = 0) : okW q w = true ∧ w.length ≤ 65536 := by
  unfold wordCheck at hw
  split at hw
  · cases hw
  · split at hw
    · cases hw
    · split at hw
      · rename_i h; exact ⟨h, by omega⟩
      · cases hw
/-- The last letter of a word, and the state before it. -/
theorem split_last {q : Int} {ws : List (List UInt8)} (hv : Valid q ws) {w : List UInt8} (hw : w ∈ ws) : ∃ (x : List UInt8) (a : Nat), x ∈ prefs ws ∧ (a : Int) < q ∧ w = stepW x a := by
  obtain ⟨hne, _, hwc⟩ := hv.words w hw
  obtain ⟨h1, _⟩ := word_ok hwc
  have hd := dig_of h1 (w.getLast hne) (List.getLast_mem hne)
  refine ⟨w.dropLast, digN (w.getLast hne), mem_prefs.2 ⟨w, hw, List.dropLast_prefix w, by rw [List.length_dropLast]; have := List.length_pos_iff.2 hne; omega⟩, by unfold digN; omega, ?_⟩
  obtain ⟨k, h2, h3⟩ := ixB_hit (w.getLast hne) L16 0 hd.1
  unfold stepW digN
  rw [h2, show ((0 + k : Nat) : Int).toNat = k by omega, h3, List.dropLast_concat_getLast]

theorem codeP_par {q : Int} {ws : List (List UInt8)} (hv : Valid q ws) : codeP (prefs ws) (emP q ws) = ws := by
  have hq16 := hv.q16
  unfold codeP
  rw [emP_length, Nat.min_self]
  refine made_of hv.strict fun x => ?_
  have key : ∀ s (hs : s < (prefs ws).length), (emP q ws).getD s [] = emL q.toNat ws (prefs ws)[s] := fun s hs => by
    unfold emP
    simp [List.getD_eq_getElem?_getD, hs]
  unfold emW
  constructor
  · intro hx
    obtain ⟨s, hs, hx⟩ := List.mem_flatMap.1 hx
    have hs' := List.mem_range.1 hs
    obtain ⟨a, ha, rfl, hge⟩ := rowW_all x hx
    rw [key s hs'] at hge ha
    rw [List.getD_eq_getElem?_getD, List.getElem?_eq_getElem hs', Option.getD_some]
    have hlen : (emL q.toNat ws (prefs ws)[s]).length = q.toNat := by simp [emL]
    have haq : a < q.toNat := by omega
    have : (emL q.toNat ws (prefs ws)[s]).getD a 0 = ixW ws (stepW (prefs ws)[s] a) := by
      unfold emL; simp [List.getD_eq_getElem?_getD, haq]
    rw [this] at hge
    exact ixW_ge.1 hge
  · intro hx
    obtain ⟨y, a, hy, ha, rfl⟩ := split_last hv hx
    obtain ⟨s, hs, rfl⟩ := List.getElem_of_mem hy
    refine List.mem_flatMap.2 ⟨s, List.mem_range.2 hs, ?_⟩
    rw [key s hs, List.getD_eq_getElem?_getD, List.getElem?_eq_getElem hs, Option.getD_some]
    unfold rowW
    have hlen : (emL q.toNat ws (prefs ws)[s]).length = q.toNat := by simp [emL]
    have haq : a < q.toNat := by omega
    refine List.mem_map.2 ⟨a, List.mem_filter.2 ⟨List.mem_range.2 (by omega), ?_⟩, rfl⟩
    have : (emL q.toNat ws (prefs ws)[s]).getD a 0 = ixW ws (stepW (prefs ws)[s] a) := by
      unfold emL; simp [List.getD_eq_getElem?_getD, haq]
    rw [this]
    exact decide_eq_true (ixW_ge.2 hx)

theorem isPar_of {q : Int} {ws : List (List UInt8)} (hc : codeCheck q ws = 0) (hp : preB ws = true) : IsPar q (prefs ws) (nxP q ws) (emP q ws) := by
  have h := codeP_par (valid_of hc)
  unfold IsPar
  rw [h]
  exact ⟨hc, hp, rfl, rfl, rfl⟩

/-! ### The examples -/
def exC : List (List UInt8) := [[48], [49, 48], [49, 49]]
def exD : List (List UInt8) := [[48], [49, 48]]
theorem prefs_exC : prefs exC = [[], [49]] := made_of (by unfold ltW; decide) fun x => by
  have : propers exC = [[], [], [49], [], [49]] := by decide
  rw [this]
  simp only [List.mem_cons, List.not_mem_nil, or_false]
  exact ⟨fun h => by rcases h with h | h | h | h | h <;> simp [h], fun h => by rcases h with h | h <;> simp [h]⟩
theorem prefs_exD : prefs exD = [[], [49]] := made_of (by unfold ltW; decide) fun x => by
  have : propers exD = [[], [], [49]] := by decide
  rw [this]
  simp only [List.mem_cons, List.not_mem_nil, or_false]
  exact ⟨fun h => by rcases h with h | h | h <;> simp [h], fun h => by rcases h with h | h <;> simp [h]⟩
theorem nx_exC : nxP 2 exC = [[0, 1], [0, 0]] := by unfold nxP; rw [prefs_exC]; kernel_rfl
theorem em_exC : emP 2 exC = [[0, -1], [1, 2]] := by unfold emP; rw [prefs_exC]; kernel_rfl
theorem nx_exD : nxP 2 exD = [[0, 1], [0, -1]] := by unfold nxP; rw [prefs_exD]; kernel_rfl
theorem em_exD : emP 2 exD = [[0, -1], [1, -1]] := by unfold emP; rw [prefs_exD]; kernel_rfl
theorem ck_exC : codeCheck 2 exC = 0 := by kernel_rfl
theorem ck_exD : codeCheck 2 exD = 0 := by kernel_rfl
theorem pre_exC : preB exC = true := by kernel_rfl
theorem pre_exD : preB exD = true := by kernel_rfl
def pvC : PV := psV 2 [[], [49]] [[0, 1], [0, 0]] [[0, -1], [1, 2]]
def pvD : PV := psV 2 [[], [49]] [[0, 1], [0, -1]] [[0, -1], [1, -1]]
theorem b_exC : PFn Try.prog 12 [codeV 2 exC] [pvC, .int .i64 0] := by
  have h := p12 2 exC
  unfold pR pE parV at h
  rw [if_pos ⟨ck_exC, pre_exC⟩, if_pos ck_exC, if_pos pre_exC, prefs_exC, nx_exC, em_exC] at h
  exact h
theorem b_exD : PFn Try.prog 12 [codeV 2 exD] [pvD, .int .i64 0] := by
  have h := p12 2 exD
  unfold pR pE parV at h
  rw [if_pos ⟨ck_exD, pre_exD⟩, if_pos ck_exD, if_pos pre_exD, prefs_exD, nx_exD, em_exD] at h
  exact h
theorem ip_exC : IsPar 2 [[], [49]] [[0, 1], [0, 0]] [[0, -1], [1, 2]] := by
  have h := isPar_of ck_exC pre_exC
  rwa [prefs_exC, nx_exC, em_exC] at h
theorem ip_exD : IsPar 2 [[], [49]] [[0, 1], [0, -1]] [[0, -1], [1, -1]] := by
  have h := isPar_of ck_exD pre_exD
  rwa [prefs_exD, nx_exD, em_exD] at h
theorem a_exC : PFn Try.prog 14 [codeV 2 exC] [auV 2 [[0, 1], [0, 0]], .int .i64 0] := by
  have h := p14 2 exC
  have hh : holeB 2 exC = false := by unfold holeB; rw [nx_exC]; decide
  unfold aR aE at h
  rw [if_pos ⟨ck_exC, pre_exC, hh⟩, if_pos ⟨ck_exC, pre_exC⟩, if_neg (by rw [hh]; simp), nx_exC] at h
  exact h
theorem r_exC : PFn Try.prog 29 [pvC, .int .i64 0, .str [48, 49, 48, 49, 49]] [slI [0, 1, 2], .int .i64 0, .int .i64 0] := by
  have h := p29 2 [[], [49]] [[0, 1], [0, 0]] [[0, -1], [1, 2]] 0 [48, 49, 48, 49, 49] (by decide) (by decide)
  have hp : posE 2 [[], [49]] [[0, 1], [0, 0]] [[0, -1], [1, 2]] [48, 49, 48, 49, 49] = 0 := by
    unfold posE parCheck
    rw [if_pos ip_exC, if_pos rfl]; kernel_rfl
  have ht : trail [[0, 1], [0, 0]] [[0, -1], [1, 2]] 0 [48, 49, 48, 49, 49] = [(0, 0), (-1, 1), (1, 0), (-1, 1), (2, 0)] := by kernel_rfl
  have hr : runE' 2 [[], [49]] [[0, 1], [0, 0]] [[0, -1], [1, 2]] 0 [48, 49, 48, 49, 49] = 0 := by
    unfold runE'
    rw [if_pos hp, if_neg (by decide), show (0 : Int).toNat = 0 from rfl, ht]; rfl
  unfold runL runS at h
  rw [hr, if_pos rfl, if_pos rfl, show (0 : Int).toNat = 0 from rfl, ht] at h
  exact h
theorem q_exD : PFn Try.prog 31 [pvD, .str [48, 49, 49]] [.int .i64 2, .int .i64 0] := by
  have h := p31 2 [[], [49]] [[0, 1], [0, -1]] [[0, -1], [1, -1]] [48, 49, 49] (by decide) (by decide)
  have hp : posE 2 [[], [49]] [[0, 1], [0, -1]] [[0, -1], [1, -1]] [48, 49, 49] = 0 := by
    unfold posE parCheck
    rw [if_pos ip_exD, if_pos rfl]; kernel_rfl
  have ht : trail [[0, 1], [0, -1]] [[0, -1], [1, -1]] 0 [48, 49, 49] = [(0, 0), (-1, 1)] := by kernel_rfl
  rw [hp, if_pos rfl, ht] at h
  exact h
theorem ex_ok : PFn Try.prog 42 [] [codeV 2 exC] := by
  refine PFn.of_body hΓ Try.func42 (by kernel_rfl) rfl (AWp.of_awpD [] hΓ hmix (by kernel_rfl) ?_)
  simp -implicitDefEqProofs only [Try.ntmps42, Try.results42, Nat.reduceAdd, Nat.reduceSub, codeV, exC, List.map_cons, List.map_nil, go_sem]
  exact ⟨by simp [sizeOK, PV.cells], by omega⟩

theorem awake_ok : PFn Try.prog 11 [] [.bool true] := by
  have g2 : ((1 + 1 : Nat) : Int) = 2 := rfl
  have g3 : Int.toNat 0 = 0 := rfl
  have g4 : Int.toNat 1 = 1 := rfl
  have e1 := p43 [[], [49]] [[], [49]] (by decide)
  have e2 := p36 [0, 1, 2] [0, 1, 2] (by decide)
  have e3 := p36 [0, 1] [0, 1] (by decide)
  have e4 := p36 [0, 0] [0, 0] (by decide)
  have b1 := b_exC
  have b2 := b_exD
  have a1 := a_exC
  have r1 := r_exC
  have q1 := q_exD
  simp only [codeV, exC, exD, pvC, pvD, psV, auV, slI, List.map_cons, List.map_nil] at b1 b2 a1 r1 q1 e1 e2 e3 e4
  have x1 := ex_ok
  simp only [codeV, exC, List.map_cons, List.map_nil] at x1
  refine PFn.of_body hΓ Try.func11 (by kernel_rfl) rfl (AWp.of_awpD [] hΓ hmix (by kernel_rfl) ?_)
  simp -implicitDefEqProofs only [Try.ntmps11, Try.results11, Nat.reduceAdd, Nat.reduceSub, go_sem]
  refine callK_fn x1 (.pures rfl) ?_
  simp -implicitDefEqProofs only [go_sem]
  refine callK_fn b1 (.pures rfl) ?_
  simp -implicitDefEqProofs only [go_sem]
  refine callK_fn r1 (.still rfl) ?_
  simp -implicitDefEqProofs only [go_sem]
  refine callK_fn x1 (.pures rfl) ?_
  simp -implicitDefEqProofs only [go_sem]
  refine callK_fn a1 (.pures rfl) ?_
  simp -implicitDefEqProofs only [go_sem]
  refine ⟨⟨by simp [sizeOK, PV.cells], by omega⟩, by omega, callK_fn b2 (.still rfl) ?_⟩
  simp -implicitDefEqProofs only [go_sem]
  refine callK_fn q1 (.still rfl) ?_
  simp -implicitDefEqProofs only [ite_self, go_sem]
  refine ⟨⟨by simp [sizeOK, PV.cells], by omega⟩, callK_fn e1 (.pures rfl) ?_⟩
  simp -implicitDefEqProofs only [go_sem]
  refine ⟨⟨by simp [sizeOK, PV.cells], by omega⟩, callK_fn e2 (.pures rfl) ?_⟩
  simp -implicitDefEqProofs only [g2, g3, g4, List.getD_cons_zero, List.getD_cons_succ, go_sem]
  refine ⟨by omega, ⟨by simp [sizeOK, PV.cells], by omega⟩, callK_fn e3 (.pures rfl) ?_⟩
  simp -implicitDefEqProofs only [g2, g3, g4, List.getD_cons_zero, List.getD_cons_succ, go_sem]
  refine ⟨by omega, ⟨by simp [sizeOK, PV.cells], by omega⟩, callK_fn e4 (.pures rfl) ?_⟩
  simp -implicitDefEqProofs only [go_sem]
end Go.Proofs.Ytolopbodgkmenaa
end

section
namespace Go.Proofs.Ytolopbodgkmenaa
open Go Go.AM
set_option maxRecDepth 100000
set_option linter.unusedSimpArgs false

theorem pR_form (q : Int) (ws : List (List UInt8)) : ∃ a B C D, pR q ws = psV a B C D ∧ B.length ≤ 3000 ∧ C.length ≤ 3000 ∧ D.length ≤ 3000 ∧ (∀ x ∈ C, x.length ≤ 3000) ∧ (∀ x ∈ D, x.length ≤ 3000) := by
  unfold pR
  split
  · rename_i h
    have hv := valid_of h.1
    have hq := hv.q16
    have h1 := prefs_len hv
    have h2 := nxP_len hv
    have h3 := emP_len hv
    exact ⟨_, _, _, _, rfl, by omega, by omega, by omega, fun x hx => by rw [h2.2 x hx]; omega, fun x hx => by rw [h3.2 x hx]; omega⟩
  · exact ⟨_, _, _, _, rfl, by simp, by simp, by simp, by simp, by simp⟩
theorem aR_form (q : Int) (ws : List (List UInt8)) : ∃ a N, aR q ws = auV a N ∧ N.length ≤ 3000 ∧ (∀ x ∈ N, x.length ≤ 3000) := by
  unfold aR
  split
  · rename_i h
    have hv := valid_of h.1
    have hq := hv.q16
    have h2 := nxP_len hv
    exact ⟨_, _, rfl, by omega, fun x hx => by rw [h2.2 x hx]; omega⟩
  · exact ⟨_, _, rfl, by simp, by simp⟩
theorem great_facts {P : List (List UInt8)} {N E : List (List Int)} (h : greatP P N E = false) : P.length ≤ 40 ∧ N.length ≤ 40 ∧ E.length ≤ 40 ∧ (∀ x ∈ P, x.length ≤ 40) ∧ (∀ l ∈ N, l.length ≤ 20) ∧ (∀ l ∈ E, l.length ≤ 20) := by
  unfold greatP at h
  simp only [Bool.or_eq_false_iff, decide_eq_false_iff_not, List.any_eq_false, longW, longR, decide_eq_true_eq] at h
  obtain ⟨⟨⟨⟨⟨h1, h2⟩, h3⟩, h4⟩, h5⟩, h6⟩ := h
  exact ⟨by omega, by omega, by omega, fun x hx => by have := h4 x hx; omega, fun x hx => by have := h5 x hx; omega, fun x hx => by have := h6 x hx; omega⟩

theorem p3 (q : Int) (ws : List (List UInt8)) (r : Int) (P : List (List UInt8)) (N E : List (List Int)) (hws : ws.length ≤ 9223372036854775807) : PFn Try.prog 3 [codeV q ws, psV r P N E] [.bool true] := by
  have e9 := t11 q ws hws
  have e10 := p10 r P N E
  refine PFn.of_body hΓ Try.func3 (by kernel_rfl) rfl (AWp.seq (AWp.of_awpD [] hΓ hmix (by kernel_rfl) ?_))
  simp -implicitDefEqProofs only [Try.ntmps3, Try.results3, Nat.reduceAdd, Nat.reduceSub, codeV, psV, go_sem]
  refine AWp.seq (AWp.seq (AWp.of_awpD [] hΓ hmix (by kernel_rfl) ?_))
  simp -implicitDefEqProofs only [go_sem]
  refine callK_fn e9 (.still rfl) ?_
  cases hg : (greatC ws || ws.any greatW)
  rotate_left
  · simp -implicitDefEqProofs only [go_sem]
    refine AWp.of_awpD [] hΓ hmix (by kernel_rfl) ?_
    simp -implicitDefEqProofs only [go_sem]
    refine callK_fn awake_ok (.pures rfl) ?_
    simp -implicitDefEqProofs only [go_sem]
  unfold psV at e10
  simp -implicitDefEqProofs only [go_sem]
  refine callK_fn e10 (.still rfl) ?_
  cases hg2 : greatP P N E
  rotate_left
  · simp -implicitDefEqProofs only [go_sem]
    refine AWp.of_awpD [] hΓ hmix (by kernel_rfl) ?_
    simp -implicitDefEqProofs only [go_sem]
    refine callK_fn awake_ok (.pures rfl) ?_
    simp -implicitDefEqProofs only [go_sem]
  obtain ⟨g1, g2, g3, g4, g5, g6⟩ := great_facts hg2
  have e12 := p12 q ws
  have e13 := p13 q ws
  have e14 := p14 q ws
  have e15 := p15 q ws
  have e18 := p18 r P N E (by omega) (fun l hl => by have := g4 l hl; omega)
  have e19 := p19 r P N E (by omega) (fun l hl => by have := g6 l hl; omega) (fun l hl => by have := g4 l hl; omega)
  unfold psV at e18 e19
  obtain ⟨a, B, C, D, hp, f1, f2, f3, f4, f5⟩ := pR_form q ws
  obtain ⟨a2, M, ha, f6, f7⟩ := aR_form q ws
  have e16 := p16 a a B B C D C D (by omega) (by omega) (by omega) (fun x hx => by have := f4 x hx; omega) (fun x hx => by have := f5 x hx; omega)
  have e17 := p17 a2 M (by omega) (fun x hx => by have := f7 x hx; omega)
  rw [decide_eq_true ⟨rfl, rfl, rfl, rfl⟩] at e16
  rw [hp] at e12 e13
  rw [ha] at e14 e15
  unfold psV at e12 e13 e16
  unfold auV at e14 e15 e17
  generalize pE q ws = x1 at *
  generalize aE q ws = x2 at *
  generalize parCheck r P N E = x3 at *
  simp -implicitDefEqProofs only [go_sem]
  refine AWp.of_awpD [] hΓ hmix (by kernel_rfl) ?_
  simp -implicitDefEqProofs only [go_sem]
  refine AWp.of_awpD [(7, 29)] hΓ hmix (by kernel_rfl) ?_
  simp -implicitDefEqProofs only [go_sem]
  refine callK_fn e12 (.still rfl) ?_
  simp -implicitDefEqProofs only [go_sem]
  refine callK_fn e13 (.still rfl) ?_
  simp -implicitDefEqProofs only [go_sem]
  refine callK_fn e14 (.still rfl) ?_
  simp -implicitDefEqProofs only [go_sem]
  refine callK_fn e15 (.still rfl) ?_
  simp -implicitDefEqProofs only [go_sem]
  refine callVPK_fn e16 (.still rfl) ?_
  simp -implicitDefEqProofs only [go_sem]
  refine callVPK_fn e17 (.still rfl) ?_
  simp -implicitDefEqProofs only [go_sem]
  refine callVPK_fn e18 (.still rfl) ?_
  simp -implicitDefEqProofs only [go_sem]
  refine callVPK_fn e19 (.still rfl) ?_
  simp -implicitDefEqProofs only [go_sem]
  refine callVPK_fn awake_ok (.pures rfl) ?_
  simp -implicitDefEqProofs only [go_sem]
end Go.Proofs.Ytolopbodgkmenaa
end

section
namespace Go.Proofs.Ytolopbodgkmenaa
open Go Go.AM Go.RowKit Go.ChangeShapes
set_option maxRecDepth 100000

theorem own : ownKnob Try.prog.godebug = none := by kernel_rfl
theorem laidOut : laidOutB Try.prog = true := by kernel_rfl

def codeSh : Sh := .agg [.int .i64, .sl .str]

theorem strs_of {l : List PV} (h : ∀ i, i < l.length → Fit .str (l.getD i default)) : ∃ ws : List (List UInt8), l = ws.map .str ∧ ∀ w ∈ ws, w.length ≤ maxLen := by
  induction l with
  | nil => exact ⟨[], rfl, by simp⟩
  | cons x l ih =>
    obtain ⟨ws, h1, h2⟩ := ih (fun i hi => h (i + 1) (by simpa using hi))
    have h0 := h 0 (by simp)
    simp only [List.getD_cons_zero] at h0
    cases h0 with
    | str s hs => exact ⟨s :: ws, by rw [h1]; rfl, fun w hw => by
        rcases List.mem_cons.1 hw with rfl | hw
        · exact hs
        · exact h2 w hw⟩
theorem ints_of {l : List PV} (h : ∀ i, i < l.length → Fit (.int .i64) (l.getD i default)) : ∃ a : List Int, l = a.map (.int .i64) ∧ ∀ x ∈ a, InR .i64 x := by
  induction l with
  | nil => exact ⟨[], rfl, by simp⟩
  | cons x l ih =>
    obtain ⟨a, h1, h2⟩ := ih (fun i hi => h (i + 1) (by simpa using hi))
    have h0 := h 0 (by simp)
    simp only [List.getD_cons_zero] at h0
    cases h0 with
    | int _ n hn => exact ⟨n :: a, by rw [h1]; rfl, fun w hw => by
        rcases List.mem_cons.1 hw with rfl | hw
        · exact hn
        · exact h2 w hw⟩
theorem words_of {p : PV} (h : Fit (.sl .str) p) : ∃ ws : List (List UInt8), p = .sl (ws.map .str) ∧ ws.length ≤ maxLen ∧ ∀ w ∈ ws, w.length ≤ maxLen := by
  cases h with
  | sl _ l h1 h2 =>
    obtain ⟨ws, rfl, h3⟩ := strs_of h2
    exact ⟨ws, rfl, by simpa using h1, h3⟩
theorem nums_of {p : PV} (h : Fit (.sl (.int .i64)) p) : ∃ a : List Int, p = .sl (a.map (.int .i64)) ∧ a.length ≤ maxLen ∧ ∀ x ∈ a, InR .i64 x := by
  cases h with
  | sl _ l h1 h2 =>
    obtain ⟨a, rfl, h3⟩ := ints_of h2
    exact ⟨a, rfl, by simpa using h1, h3⟩
theorem code_of {p : PV} (h : Fit codeSh p) : ∃ (q : Int) (ws : List (List UInt8)), p = codeV q ws ∧ InR .i64 q ∧ ws.length ≤ maxLen ∧ ∀ w ∈ ws, w.length ≤ maxLen := by
  cases h with
  | agg _ l h1 h2 =>
    match l, h1 with
    | [x, y], _ =>
      have h3 := h2 0 (by simp)
      have h4 := h2 1 (by simp)
      simp only [List.getD_cons_zero, List.getD_cons_succ] at h3 h4
      obtain ⟨ws, rfl, h5⟩ := words_of h4
      cases h3 with
      | int _ n hn => exact ⟨n, ws, rfl, hn, h5⟩
end Go.Proofs.Ytolopbodgkmenaa
end

section
namespace Go.Proofs.Ytolopbodgkmenaa
open Go Go.AM Go.RowKit Go.ChangeShapes
set_option maxRecDepth 100000

def parSh : Sh := .agg [.int .i64, .sl .str, .sl (.sl (.int .i64)), .sl (.sl (.int .i64))]
theorem rows_of {p : PV} (h : Fit (.sl (.sl (.int .i64))) p) : ∃ N : List (List Int), p = .sl (N.map slI) := by
  cases h with
  | sl _ l h1 h2 =>
    have : ∃ N : List (List Int), l = N.map slI := by
      clear h1
      induction l with
      | nil => exact ⟨[], rfl⟩
      | cons x l ih =>
        obtain ⟨N, h3⟩ := ih (fun i hi => h2 (i + 1) (by simpa using hi))
        have h0 := h2 0 (by simp)
        simp only [List.getD_cons_zero] at h0
        obtain ⟨a, rfl, _⟩ := nums_of h0
        exact ⟨a :: N, by rw [h3]; rfl⟩
    obtain ⟨N, rfl⟩ := this
    exact ⟨N, rfl⟩
theorem par_of {p : PV} (h : Fit parSh p) : ∃ (q : Int) (P : List (List UInt8)) (N E : List (List Int)), p = psV q P N E := by
  cases h with
  | agg _ l h1 h2 =>
    match l, h1 with
    | [x, y, z, u], _ =>
      have h3 := h2 0 (by simp)
      have h4 := h2 1 (by simp)
      have h5 := h2 2 (by simp)
      have h6 := h2 3 (by simp)
      simp only [List.getD_cons_zero, List.getD_cons_succ] at h3 h4 h5 h6
      obtain ⟨ws, rfl, _⟩ := words_of h4
      obtain ⟨N, rfl⟩ := rows_of h5
      obtain ⟨E, rfl⟩ := rows_of h6
      cases h3 with
      | int _ n hn => exact ⟨n, ws, N, E, rfl⟩

theorem builds_lifted (os : Os) (started : os.Started) (H : Type) (enc : TypeId × Value → H) :
    ReturnsInHanded {} Try.checked os 3 .any (Rows.parserBuildsSpec.pre6 enc Try.prog Try.f3 Rows.parserBuildsRow.domain false) (Rows.parserBuildsSpec.post enc Try.prog Try.f3 false true false false) := by
  refine lift (C := Try.checked) (shs := [codeSh, parSh]) (tb := 4) own laidOut started (by kernel_rfl) Try.func3
    (ChangeSpec.witness6 (enc := enc) (C := Try.checked) false ⟨#[], #[.agg #[.int .i64 0, .slice none 0 0], .agg #[.int .i64 0, .slice none 0 0, .slice none 0 0, .slice none 0 0]], []⟩ 8 (by kernel_rfl) (by kernel_rfl) (by kernel_rfl) (by kernel_rfl))
    (by kernel_rfl) (by kernel_rfl) (by kernel_rfl) (by kernel_rfl) rfl ?_ ?_
  · intro ds hd
    match ds, hd with
    | [d1, d2], _ => rfl
  · intro pv h
    obtain ⟨p1, _, rfl, h1, h⟩ := h.cons
    obtain ⟨p2, _, rfl, h2, h⟩ := h.cons
    have := h.zero
    subst this
    obtain ⟨q, ws, rfl, _, hws, _⟩ := code_of h1
    obtain ⟨r, P, N, E, rfl⟩ := par_of h2
    exact p3 q ws r P N E hws

theorem builds_holds : Rows.ParserBuildsSaid :=
  OpenClaim.holds_of_wide 3 Try.f3 rfl rfl rfl rfl rfl rfl rfl ⟨rfl, rfl, rfl, rfl, rfl⟩ rfl rfl rfl rfl rfl (by kernel_rfl) Try.func3 (by kernel_rfl)
    (of_decide_eq_true (by kernel_rfl)) (by unfold Func.isWrapper; first | (rw [if_pos (by decide +kernel)]; kernel_rfl) | (rw [if_neg (by decide +kernel)]; exact ⟨rfl, rfl⟩))
    (fun os started H enc _ => builds_lifted os started H enc)
#print axioms builds_holds
end Go.Proofs.Ytolopbodgkmenaa
end

section
namespace Go.Proofs.Ytolopbodgkmenaa
open Go Go.AM
set_option maxRecDepth 100000
set_option linter.unusedSimpArgs false

/-- The longest word that begins a string: its index, or -1. -/
def bestTo (ws : List (List UInt8)) (w : List UInt8) : Nat → Int
  | 0 => -1
  | n + 1 => if (ws.getD n []).isPrefixOf w = true ∧ (bestTo ws w n < 0 ∨ (ws.getD (bestTo ws w n).toNat []).length < (ws.getD n []).length) then (n : Int) else bestTo ws w n
theorem bestTo_lt (ws : List (List UInt8)) (w : List UInt8) : ∀ n, -1 ≤ bestTo ws w n ∧ bestTo ws w n < n
  | 0 => by simp [bestTo]
  | n + 1 => by
    have h := bestTo_lt ws w n
    unfold bestTo
    split <;> omega
theorem bestTo_pre (ws : List (List UInt8)) (w : List UInt8) : ∀ n, 0 ≤ bestTo ws w n → (ws.getD (bestTo ws w n).toNat []).isPrefixOf w = true
  | 0, h => by simp [bestTo] at h
  | n + 1, h => by
    unfold bestTo at h ⊢
    by_cases hc : (ws.getD n []).isPrefixOf w = true ∧ (bestTo ws w n < 0 ∨ (ws.getD (bestTo ws w n).toNat []).length < (ws.getD n []).length)
    · rw [if_pos hc, Int.toNat_natCast]; exact hc.1
    · rw [if_neg hc] at h ⊢; exact bestTo_pre ws w n h
def best (ws : List (List UInt8)) (w : List UInt8) : Int := bestTo ws w ws.length
theorem best_in {ws : List (List UInt8)} {w : List UInt8} (h : 0 ≤ best ws w) : (best ws w).toNat < ws.length := by
  have := bestTo_lt ws w ws.length
  unfold best at h ⊢; omega
def bestW (ws : List (List UInt8)) (w : List UInt8) : List UInt8 := ws.getD (best ws w).toNat []
theorem best_pos {ws : List (List UInt8)} (hn : ∀ x ∈ ws, x ≠ []) {w : List UInt8} (h : 0 ≤ best ws w) : 0 < (bestW ws w).length ∧ (bestW ws w).length ≤ w.length := by
  have h1 := best_in h
  have h2 : bestW ws w ∈ ws := by
    unfold bestW; rw [List.getD_eq_getElem?_getD, List.getElem?_eq_getElem h1]; exact List.getElem_mem h1
  exact ⟨List.length_pos_iff.2 (hn _ h2), (List.isPrefixOf_iff_prefix.1 (bestTo_pre ws w ws.length h)).length_le⟩

def gre (ws : List (List UInt8)) : Nat → List UInt8 → List Int × List UInt8
  | 0, w => ([], w)
  | f + 1, w => if best ws w < 0 then ([], w) else (best ws w :: (gre ws f (w.drop (bestW ws w).length)).1, (gre ws f (w.drop (bestW ws w).length)).2)
def greedy (ws : List (List UInt8)) (w : List UInt8) : List Int × List UInt8 := gre ws w.length w
theorem gre_more {ws : List (List UInt8)} (hn : ∀ x ∈ ws, x ≠ []) : ∀ (f : Nat) (w : List UInt8), w.length ≤ f → gre ws f w = greedy ws w := by
  intro f
  induction f using Nat.strongRecOn with
  | _ f ih =>
    intro w hw
    unfold greedy
    cases f with
    | zero => rw [Nat.le_zero.1 hw]
    | succ f =>
      by_cases hb : best ws w < 0
      · cases hl : w.length with
        | zero => unfold gre; rw [if_pos hb]
        | succ m => unfold gre; rw [if_pos hb, if_pos hb]
      · obtain ⟨h1, h2⟩ := best_pos hn (show 0 ≤ best ws w by omega)
        cases hl : w.length with
        | zero => omega
        | succ m =>
          have hd : (w.drop (bestW ws w).length).length ≤ m := by rw [List.length_drop]; omega
          unfold gre
          rw [if_neg hb, if_neg hb, ih f (by omega) _ (by omega)]
          by_cases hmf : m < f + 1
          · rw [ih m hmf _ hd]
          · omega
theorem greedy_stop {ws : List (List UInt8)} {w : List UInt8} (h : best ws w < 0) : greedy ws w = ([], w) := by
  unfold greedy
  cases hl : w.length with
  | zero => rfl
  | succ m => unfold gre; rw [if_pos h]
theorem greedy_step {ws : List (List UInt8)} (hn : ∀ x ∈ ws, x ≠ []) {w : List UInt8} (h : ¬ best ws w < 0) : greedy ws w = (best ws w :: (greedy ws (w.drop (bestW ws w).length)).1, (greedy ws (w.drop (bestW ws w).length)).2) := by
  obtain ⟨h1, h2⟩ := best_pos hn (show 0 ≤ best ws w by omega)
  have hd : (w.drop (bestW ws w).length).length ≤ w.length - 1 := by rw [List.length_drop]; omega
  rw [← gre_more hn _ _ hd]
  conv => lhs; unfold greedy
  rw [show w.length = (w.length - 1) + 1 by omega]
  conv => lhs; unfold gre
  rw [if_neg h, Nat.add_sub_cancel]
theorem greedy_len {ws : List (List UInt8)} (hn : ∀ x ∈ ws, x ≠ []) : ∀ (n : Nat) (w : List UInt8), w.length ≤ n → (greedy ws w).1.length ≤ w.length
  | n, w, hw => by
    by_cases hb : best ws w < 0
    · rw [greedy_stop hb]; simp
    · obtain ⟨h1, h2⟩ := best_pos hn (show 0 ≤ best ws w by omega)
      rw [greedy_step hn hb]
      cases n with
      | zero => omega
      | succ n =>
        have := greedy_len hn n (w.drop (bestW ws w).length) (by rw [List.length_drop]; omega)
        rw [List.length_drop] at this
        simp only [List.length_cons]; omega

def gE (q : Int) (ws : List (List UInt8)) (w : List UInt8) : Int := if codeCheck q ws = 0 then wordCheck q w else 1
def gL (q : Int) (ws : List (List UInt8)) (w : List UInt8) : List Int := if gE q ws w = 0 then (greedy ws w).1 else []
def gR (q : Int) (ws : List (List UInt8)) (w : List UInt8) : List UInt8 := if gE q ws w = 0 then (greedy ws w).2 else []

theorem p34 (q : Int) (ws : List (List UInt8)) (w : List UInt8) : PFn Try.prog 34 [codeV q ws, .str w] [slI (gL q ws w), .str (gR q ws w), .int .i64 (gE q ws w)] := by
  by_cases h : codeCheck q ws = 0
  rotate_left
  · have e0 : gE q ws w = 1 := by unfold gE; rw [if_neg h]
    have e1 : gL q ws w = [] := by unfold gL; rw [e0, if_neg (by decide)]
    have e2 : gR q ws w = [] := by unfold gR; rw [e0, if_neg (by decide)]
    rw [e0, e1, e2]
    refine PFn.of_body hΓ Try.func34 (by kernel_rfl) rfl (AWp.of_awpD [(16, 1000)] hΓ hmix (by kernel_rfl) ?_)
    simp -implicitDefEqProofs only [Try.ntmps34, Try.results34, Nat.reduceAdd, Nat.reduceSub, codeV, go_sem]
    refine callK_fn (t45 q ws) (.still rfl) ?_
    simp -implicitDefEqProofs only [h, slI, List.map_nil, go_sem]
  have hv := valid_of h
  by_cases h2 : wordCheck q w = 0
  rotate_left
  · have e0 : gE q ws w = wordCheck q w := by unfold gE; rw [if_pos h]
    have e1 : gL q ws w = [] := by unfold gL; rw [e0, if_neg h2]
    have e2 : gR q ws w = [] := by unfold gR; rw [e0, if_neg h2]
    rw [e0, e1, e2]
    have e45 := t45 q ws
    rw [h] at e45
    have e80 := t80 q w
    generalize wordCheck q w = ee at *
    refine PFn.of_body hΓ Try.func34 (by kernel_rfl) rfl (AWp.of_awpD [(16, 1000)] hΓ hmix (by kernel_rfl) ?_)
    simp -implicitDefEqProofs only [Try.ntmps34, Try.results34, Nat.reduceAdd, Nat.reduceSub, codeV, go_sem]
    refine callK_fn e45 (.still rfl) ?_
    simp -implicitDefEqProofs only [go_sem]
    refine callK_fn e80 (.pures rfl) ?_
    simp -implicitDefEqProofs only [h2, slI, List.map_nil, go_sem]
  have e0 : gE q ws w = 0 := by unfold gE; rw [if_pos h, h2]
  have e1 : gL q ws w = (greedy ws w).1 := by unfold gL; rw [e0, if_pos rfl]
  have e2 : gR q ws w = (greedy ws w).2 := by unfold gR; rw [e0, if_pos rfl]
  rw [e0, e1, e2]
  have e45 := t45 q ws
  rw [h] at e45
  have e80 := t80 q w
  rw [h2] at e80
  have hn : ∀ x ∈ ws, x ≠ [] := hv.ne'
  have hlen := hv.len
  have hwl := (word_ok h2).2
  have hgl := greedy_len hn w.length w (Nat.le_refl _)
  refine PFn.of_body hΓ Try.func34 (by kernel_rfl) rfl (AWp.seq (AWp.of_awpD [] hΓ hmix (by kernel_rfl) ?_))
  simp -implicitDefEqProofs only [Try.ntmps34, Try.results34, Nat.reduceAdd, Nat.reduceSub, codeV, go_sem]
  refine AWp.seq (AWp.of_awpD [] hΓ hmix (by kernel_rfl) ?_)
  simp -implicitDefEqProofs only [go_sem]
  refine callK_fn e45 (.still rfl) ?_
  simp -implicitDefEqProofs only [go_sem]
  refine AWp.seq (AWp.of_awpD [] hΓ hmix (by kernel_rfl) ?_)
  simp -implicitDefEqProofs only [go_sem]
  refine callK_fn e80 (.pures rfl) ?_
  simp -implicitDefEqProofs only [go_sem]
  refine AWp.seq (AWp.of_awpD [] hΓ hmix (by kernel_rfl) ?_)
  simp -implicitDefEqProofs only [go_sem]
  refine AWp.adopt (l := []) 8 3 1 rfl (by simp) ?_
  simp -implicitDefEqProofs only [List.set_cons_zero, List.set_cons_succ, go_sem]
  refine AWp.block ?_
  refine AWp.loopI (fun p : List Int × List UInt8 => ⟨mkF 66 [(1, .p (.str p.2)), (2, .ptr 0 0), (8, .own 1 p.1.length)], [codeB q ws, .row 3 1 (p.1.map (.int .i64)) .lax]⟩)
    (fun p => (greedy ws w).1 = p.1 ++ (greedy ws p.2).1 ∧ (greedy ws w).2 = (greedy ws p.2).2 ∧ p.1.length + p.2.length ≤ w.length) (fun p => p.2.length) ([], w) (by simp [go_sem, codeB]) (by simp) ?_
  rintro ⟨L, v⟩ ⟨hL, hv2, hLv⟩
  simp only at hL hv2 hLv
  simp -implicitDefEqProofs only [codeB, go_sem]
  refine AWp.of_awpD [(16, 1000)] hΓ hmix (by kernel_rfl) ?_
  simp -implicitDefEqProofs only [List.length_map, go_sem]
  refine AWp.loopI (fun i : Nat => ⟨mkF 66 [(1, .p (.str v)), (2, .ptr 0 0), (8, .own 1 L.length), (9, .p (.int .i64 (bestTo ws v i))), (23, .p (.sl (ws.map .str))), (24, .p (.int .i64 ws.length)), (25, .p (.int .i64 i))], [codeB q ws, .row 3 1 (L.map (.int .i64)) .lax]⟩)
    (fun i => i ≤ ws.length) (fun i => ws.length - i) 0 (by simp [go_sem, codeB, bestTo]) (by simp) ?_
  intro i hi
  simp -implicitDefEqProofs only [codeB, go_sem]
  refine AWp.of_awpD [(16, 1000)] hΓ hmix (by kernel_rfl) ?_
  have hbl := bestTo_lt ws v i
  by_cases hlt : i < ws.length
  · have hgi : ws.getD i [] = ws[i] := by rw [List.getD_eq_getElem?_getD, List.getElem?_eq_getElem hlt]; rfl
    have hir : InR IntKind.i64 ((i : Int) + 1) := by simp only [InR]; omega
    have e69 := t69 v ws[i]
    simp -implicitDefEqProofs only [hlt, getD_map_lt, ↓reduceIte, go_sem]
    refine callK_fn e69 (.pures rfl) ?_
    cases hp : ws[i].isPrefixOf v
    · have hb : bestTo ws v (i + 1) = bestTo ws v i := by conv => lhs; unfold bestTo
                                                          rw [if_neg (fun e => by rw [hgi, hp] at e; cases e.1)]
      simp -implicitDefEqProofs only [go_sem]
      exact ⟨hir, i + 1, ⟨⟨hb, by simp⟩, .inr rfl⟩, hlt, by omega⟩
    · by_cases hneg : bestTo ws v i < 0
      · have hb : bestTo ws v (i + 1) = i := by conv => lhs; unfold bestTo
                                                rw [if_pos ⟨by rw [hgi]; exact hp, .inl hneg⟩]
        simp -implicitDefEqProofs only [hneg, go_sem]
        exact ⟨hir, i + 1, ⟨⟨hb, by simp⟩, .inr rfl⟩, hlt, by omega⟩
      · have hbn : (bestTo ws v i).toNat < ws.length := by omega
        have hgb : ws.getD (bestTo ws v i).toNat [] = ws[(bestTo ws v i).toNat] := by rw [List.getD_eq_getElem?_getD, List.getElem?_eq_getElem hbn]; rfl
        by_cases hgt : ws[(bestTo ws v i).toNat].length < ws[i].length
        · have hb : bestTo ws v (i + 1) = i := by conv => lhs; unfold bestTo
                                                  rw [if_pos ⟨by rw [hgi]; exact hp, .inr (by rw [hgb, hgi]; exact hgt)⟩]
          simp -implicitDefEqProofs only [hneg, hbn, getD_map_lt, ↓reduceIte, List.length_map, hgt, go_sem]
          exact ⟨⟨by omega, by omega⟩, hir, i + 1, ⟨⟨hb, by simp⟩, .inr rfl⟩, hlt, by omega⟩
        · have hb : bestTo ws v (i + 1) = bestTo ws v i := by conv => lhs; unfold bestTo
                                                              rw [if_neg (fun e => e.2.elim hneg (fun e => hgt (by rw [hgb, hgi] at e; exact e)))]
          simp -implicitDefEqProofs only [hneg, hbn, getD_map_lt, ↓reduceIte, List.length_map, hgt, go_sem]
          exact ⟨⟨by omega, by omega⟩, hir, i + 1, ⟨⟨hb, by simp⟩, .inr rfl⟩, hlt, by omega⟩
  · have hil : i = ws.length := by omega
    rw [hil]
    change _ at hbl
    by_cases hneg : best ws v < 0
    · have hb := greedy_stop hneg
      unfold best at hneg
      simp -implicitDefEqProofs only [Nat.lt_irrefl, hneg, go_sem]
      rw [hb] at hL hv2
      rw [hL, hv2, List.append_nil]
      exact ⟨rfl, rfl⟩
    · have hb := greedy_step hn hneg
      have hbi := best_in (show 0 ≤ best ws v by omega)
      have hbp := best_pos hn (show 0 ≤ best ws v by omega)
      unfold bestW at hbp hb
      unfold best at hneg hbi hbp hb
      generalize bestTo ws v ws.length = bb at *
      simp -implicitDefEqProofs only [Nat.lt_irrefl, hneg, go_sem]
      refine AWp.planL (.q 0 (.q 1 (.q 2 (.q 4 (.q 5 (.q 6 (.q 7 (.q 8 (.q 9 (.q 10 (.q 11 (.e 3 (.s 4 (.s 5 (.s 6 (.s 7 (.s 8 (.s 9 (.s 10 (.s 11 (.q 12 (.q 13 .fin)))))))))) .nil)))))))))))) hΓ hmix (by kernel_rfl) ?_
      simp -implicitDefEqProofs only [hbi, getD_map_lt, ↓reduceIte, List.length_map, go_sem]
      have hs1 : sizeOK [PV.int .i64 bb] 1 := by simp [sizeOK, PV.cells]
      have ho1 : oneOK [PV.int .i64 bb] := by simp [oneOK, PV.cells, PV.isAgg]
      have hgb : ws.getD bb.toNat [] = ws[bb.toNat] := by rw [List.getD_eq_getElem?_getD, List.getElem?_eq_getElem hbi]; rfl
      rw [hgb] at hbp hb
      rw [hb] at hL hv2
      refine ⟨⟨hs1, by omega⟩, ⟨by omega, by omega⟩, hbp.2, ⟨hs1, ho1⟩, ⟨.inl (by omega), by omega, by omega⟩, ⟨by omega, by omega⟩, hbp.2, (L ++ [bb], v.drop ws[bb.toNat].length), ⟨⟨rfl, by simp⟩, .inr rfl, .inr ?_⟩, ⟨?_, hv2, ?_⟩, ?_⟩
      · rw [List.map_append]; rfl
      · rw [hL, List.append_assoc]; rfl
      · simp only [List.length_append, List.length_singleton, List.length_drop]; omega
      · simp only [List.length_drop]; omega
end Go.Proofs.Ytolopbodgkmenaa
end

