/-
  slices.ContainsFunc of numbers; measure.Kraft, Fits.
  The law ParserMaximal: the measured sum.
  The law ParserMaximal: what it computes.
-/
import Derived.Test.YtoajffhlbogdaaaGreatJd36f2e949e8c
import Derived.Test.YtoajffhlbogdaaaGreatJ9b6ef26a30db
import Derived.Test.YtoajffhlbogdaaaGreatJ86bbf2e5bc6e

section
namespace Go.Proofs.YtoajffhlbogdaaaGreat.Kn
open Go Go.AM
set_option maxRecDepth 100000
set_option linter.unusedSimpArgs false

def iV (n : Int) : PV := .int .i64 n
def intsV (l : List Int) : PV := .sl (l.map iV)

theorem c92 {h : List AObj} {g : FuncId} {caps : List AV} {pr : Int → Bool} (ws : List Int) (hl : ws.length ≤ 9223372036854775807)
    (hg : ∀ w ∈ ws, AC Tryz.prog g (.p (.int .i64 w) :: caps) h [] (fun v h' => v = .p (.bool (pr w)) ∧ h' = h)) :
    AC Tryz.prog 71 [.p (.sl (ws.map iV)), .fn g caps] h [] (fun v h' => (∃ i : Int, v = .p (.int .i64 i) ∧ decide (0 ≤ i) = ws.any pr) ∧ h' = h) := by
  refine AC.of_bodyE hΓ Tryz.func71 (by kernel_rfl) rfl (AWp.mono (Q := fun e st => AM.Ends e ∧ (∃ i : Int, st.tmps.getD 4 .junk = .p (.int .i64 i) ∧ decide (0 ≤ i) = ws.any pr) ∧ st.h = h) ?_ ?_)
  rotate_left
  · rintro e ⟨tm, h'⟩ ⟨he, ⟨i, h1, h3⟩, h2⟩
    simp only at h1 h2
    subst h2
    refine ⟨he, _, Less.refl _, ?_⟩
    unfold DoneE
    simp +contextual -implicitDefEqProofs only [Tryz.results71, h1, go_sem]
    exact ⟨_, Nat.le_refl _, .inl rfl, ⟨i, rfl, h3⟩, List.take_length⟩
  refine AWp.of_awpD [] hΓ hmix (by kernel_rfl) ?_
  simp +contextual -implicitDefEqProofs only [Tryz.ntmps71, Nat.reduceAdd, Nat.reduceSub, go_sem]
  refine AWp.loopI (fun k : Nat => ⟨mkF 19 [(0, .p (.sl (ws.map iV))), (1, .fn g caps), (7, .p (.int .i64 ws.length)), (8, .p (.int .i64 k))], h⟩)
    (fun k => k ≤ ws.length ∧ (ws.take k).any pr = false) (fun k => ws.length - k) 0 (by simp [go_sem, weakH_self]) (by simp) ?_
  rintro k ⟨hk, h0⟩
  refine AWp.of_awpD [] hΓ hmix (by kernel_rfl) ?_
  by_cases hlt : k < ws.length
  · have hgk : (ws.map iV).getD k default = .int .i64 ws[k] := by rw [getD_map_lt _ _ _ _ hlt]; rfl
    simp -implicitDefEqProofs only [List.length_map, hlt, hgk, Int.toNat_natCast, go_sem]
    refine callK_ac (hg ws[k] (List.getElem_mem hlt)) (by simp) ?_
    rintro v h' ⟨rfl, rfl⟩
    cases hp : pr ws[k]
    · simp -implicitDefEqProofs only [killAll, List.foldl, go_sem]
      refine ⟨by simp only [InR]; omega, k + 1, by simp [weakH_self], ⟨hlt, ?_⟩, by omega⟩
      rw [List.take_succ_eq_append_getElem hlt, List.any_append, h0]; simp [hp]
    · simp -implicitDefEqProofs only [killAll, List.foldl, go_sem]
      refine ⟨k, rfl, ?_⟩
      rw [List.any_eq_true.2 ⟨_, List.getElem_mem hlt, hp⟩]; simp
  · simp -implicitDefEqProofs only [hlt, go_sem]
    exact ⟨-1, rfl, by rw [List.take_of_length_le (by omega)] at h0; rw [h0]; rfl⟩

theorem c48 {h : List AObj} {g : FuncId} {caps : List AV} {pr : Int → Bool} (ws : List Int) (hl : ws.length ≤ 9223372036854775807)
    (hg : ∀ w ∈ ws, AC Tryz.prog g (.p (.int .i64 w) :: caps) h [] (fun v h' => v = .p (.bool (pr w)) ∧ h' = h)) :
    AC Tryz.prog 48 [.p (.sl (ws.map iV)), .fn g caps] h [] (fun v h' => v = .p (.bool (ws.any pr)) ∧ h' = h) := by
  refine AC.of_bodyE hΓ Tryz.func48 (by kernel_rfl) rfl (AWp.mono (Q := fun e st => AM.Ends e ∧ st.tmps.getD 4 .junk = .p (.bool (ws.any pr)) ∧ st.h = h) ?_ ?_)
  rotate_left
  · rintro e ⟨tm, h'⟩ ⟨he, h1, h2⟩
    simp only at h1 h2
    subst h2
    refine ⟨he, _, Less.refl _, ?_⟩
    unfold DoneE
    simp +contextual -implicitDefEqProofs only [Tryz.results48, h1, go_sem]
    exact ⟨_, Nat.le_refl _, .inl rfl, List.take_length⟩
  refine AWp.of_awpD [] hΓ hmix (by kernel_rfl) ?_
  simp +contextual -implicitDefEqProofs only [Tryz.ntmps48, Nat.reduceAdd, Nat.reduceSub, go_sem]
  refine callK_ac (c92 ws hl hg) (by simp) ?_
  rintro v h' ⟨⟨i, rfl, hi⟩, rfl⟩
  simp -implicitDefEqProofs only [killAll, List.foldl, go_sem]
  exact hi

/-- A length is out of range. -/
def badL (n : Int) : Bool := decide (n < 1) || decide (32 < n)
theorem v93 (n : Int) : PFn Tryz.prog 49 [.int .i64 n] [.bool (badL n)] := by
  unfold badL
  refine PFn.of_body hΓ Tryz.func49 (by kernel_rfl) rfl (AWp.of_awpD [] hΓ hmix (by kernel_rfl) ?_)
  by_cases h1 : n < 1
  · simp -implicitDefEqProofs only [Tryz.ntmps49, Tryz.results49, Nat.reduceAdd, Nat.reduceSub, h1, go_sem]
    try simp [h1]
  · simp -implicitDefEqProofs only [Tryz.ntmps49, Tryz.results49, Nat.reduceAdd, Nat.reduceSub, h1, go_sem]
    try simp [h1]
theorem c93a {h : List AObj} (n : Int) : AC Tryz.prog 49 [.p (.int .i64 n)] h [] (fun v h' => v = .p (.bool (badL n)) ∧ h' = h) := by
  have := AC.of_fn (h := h) (v93 n) (args := [.p (.int .i64 n)]) (.inl rfl)
  exact this
theorem v48 (ws : List Int) (hl : ws.length ≤ 9223372036854775807) {h : List AObj} : AC Tryz.prog 48 [.p (.sl (ws.map iV)), .fn 49 []] h [] (fun v h' => v = .p (.bool (ws.any badL)) ∧ h' = h) :=
  c48 ws hl fun w _ => c93a w

/-- Kraft's sum, in units of q^-32. -/
def krS (q : Nat) (l : List Nat) : Nat := (l.map fun n => q ^ (32 - n)).sum
theorem krS_nil (q : Nat) : krS q [] = 0 := rfl
theorem krS_snoc (q : Nat) (l : List Nat) (n : Nat) : krS q (l ++ [n]) = krS q l + q ^ (32 - n) := by simp [krS]
theorem pow_le16 {q n : Nat} (h : q ≤ 16) : q ^ (32 - n) ≤ 16 ^ 32 := Nat.le_trans (Nat.pow_le_pow_left h _) (Nat.pow_le_pow_right (by decide) (by omega))
theorem krS_le {q : Nat} (hq : q ≤ 16) : ∀ l : List Nat, krS q l ≤ l.length * 16 ^ 32
  | [] => Nat.zero_le _
  | n :: l => by
    have ih := krS_le hq l
    have h1 := pow_le16 (q := q) (n := n) hq
    have e : krS q (n :: l) = q ^ (32 - n) + krS q l := by simp [krS]
    rw [e, List.length_cons, Nat.succ_mul]
    omega
theorem krS_cap {q : Nat} (hq : q ≤ 16) {l : List Nat} (hl : l.length ≤ 4096) : krS q l < capN := by
  have h1 := krS_le hq l
  have h2 : l.length * 16 ^ 32 ≤ 4096 * 16 ^ 32 := Nat.mul_le_mul_right _ hl
  have h3 : 4096 * 16 ^ 32 < capN := cap_of (n := 4096 * 16 ^ 32) (k := 18) (by decide) (by decide)
  omega
theorem q32_cap {q : Nat} (hq : q ≤ 16) : q ^ 32 < capN := by
  have h1 := pow_le16 (q := q) (n := 0) hq
  have h3 : 16 ^ 32 < capN := cap_of (n := 16 ^ 32) (k := 17) (by decide) (by decide)
  rw [Nat.sub_zero] at h1
  omega
/-- The errors of Kraft. -/
def krE (q : Int) (l : List Int) : Int := if q < 2 ∨ 16 < q then 12 else if 4096 < l.length then 4 else if l.any badL then 2 else 0
def zeroR : PV := .agg [.bool false, .str [], .bool false, .str []]

theorem v50e (q : Int) (l : List Int) (hl : l.length ≤ 9223372036854775807) (he : krE q l ≠ 0) : PFn Tryz.prog 29 [.int .i64 q, intsV l] [zeroR, .int .i64 (krE q l)] := by
  unfold krE at *
  by_cases h1 : q < 2
  · rw [if_pos (.inl h1)]
    refine PFn.of_body hΓ Tryz.func29 (by kernel_rfl) rfl (AWp.of_awpD [] hΓ hmix (by kernel_rfl) ?_)
    simp -implicitDefEqProofs only [Tryz.ntmps29, Tryz.results29, Nat.reduceAdd, Nat.reduceSub, intsV, h1, go_sem]
    try rfl
  by_cases h2 : 16 < q
  · rw [if_pos (.inr h2)]
    refine PFn.of_body hΓ Tryz.func29 (by kernel_rfl) rfl (AWp.of_awpD [] hΓ hmix (by kernel_rfl) ?_)
    simp -implicitDefEqProofs only [Tryz.ntmps29, Tryz.results29, Nat.reduceAdd, Nat.reduceSub, intsV, h1, h2, go_sem]
    try rfl
  rw [if_neg (by omega)] at he ⊢
  by_cases h3 : 4096 < l.length
  · rw [if_pos h3]
    have h3' : (4096 : Int) < (l.length : Int) := by omega
    refine PFn.of_body hΓ Tryz.func29 (by kernel_rfl) rfl (AWp.of_awpD [] hΓ hmix (by kernel_rfl) ?_)
    simp -implicitDefEqProofs only [Tryz.ntmps29, Tryz.results29, Nat.reduceAdd, Nat.reduceSub, intsV, h1, h2, List.length_map, h3', go_sem]
    try rfl
  rw [if_neg h3] at he ⊢
  by_cases h4 : l.any badL = true
  · rw [if_pos h4]
    have h3' : ¬ (4096 : Int) < (l.length : Int) := by omega
    refine PFn.of_body hΓ Tryz.func29 (by kernel_rfl) rfl (AWp.of_awpD [] hΓ hmix (by kernel_rfl) ?_)
    simp -implicitDefEqProofs only [Tryz.ntmps29, Tryz.results29, Nat.reduceAdd, Nat.reduceSub, intsV, h1, h2, List.length_map, h3', go_sem]
    refine callK_ac (v48 l hl) (by simp) ?_
    rintro v h' ⟨rfl, rfl⟩
    simp -implicitDefEqProofs only [killAll, List.foldl, h4, go_sem]
    try rfl
  · rw [if_neg h4] at he
    exact absurd rfl he

def nV (n : Nat) : PV := .int .i64 (n : Int)
def natsV (l : List Nat) : PV := .sl (l.map nV)
theorem v50 (q : Nat) (ns : List Nat) (hq2 : 2 ≤ q) (hq : q ≤ 16) (hl : ns.length ≤ 4096) (hn : ∀ n ∈ ns, 1 ≤ n ∧ n ≤ 32) : PFn Tryz.prog 29 [.int .i64 q, .sl (ns.map nV)] [ratV (krS q ns) (q ^ 32), .int .i64 0] := by
  have hq1 : ¬ (q : Int) < 2 := by omega
  have hq3 : ¬ (16 : Int) < (q : Int) := by omega
  have hl' : ¬ (4096 : Int) < (ns.length : Int) := by omega
  have hmap : (ns.map nV) = (ns.map fun n : Nat => (n : Int)).map iV := by rw [List.map_map]; rfl
  have hany : (ns.map fun n : Nat => (n : Int)).any badL = false := by
    rw [List.any_eq_false]
    intro x hx
    obtain ⟨n, hn', rfl⟩ := List.mem_map.1 hx
    have := hn n hn'
    unfold badL
    simp only [Bool.or_eq_true, decide_eq_true_eq]
    omega
  have hc := v48 (ns.map fun n : Nat => (n : Int)) (by simp; omega) (h := [.box [.p (.bool false), .p (.str []), .p (.bool false), .p (.str [])]])
  rw [← hmap, hany] at hc
  have eq := u34 q (by omega)
  have e32 := v94 q 32 (by omega) hq (by omega)
  have enew := v96 (krS q ns) (q ^ 32) (krS_cap hq hl) (q32_cap hq) (Nat.ne_of_gt (Nat.pow_pos (by omega)))
  refine PFn.of_body hΓ Tryz.func29 (by kernel_rfl) rfl (AWp.of_awpD [] hΓ hmix (by kernel_rfl) ?_)
  simp -implicitDefEqProofs only [Tryz.ntmps29, Tryz.results29, Nat.reduceAdd, Nat.reduceSub, hq1, hq3, List.length_map, hl', go_sem]
  refine callK_ac hc (by simp) ?_
  rintro v h' ⟨rfl, rfl⟩
  simp -implicitDefEqProofs only [killAll, List.foldl, go_sem]
  refine AWp.loopJ (fun i : Nat => ⟨mkF 59 [(0, .p (.int .i64 q)), (4, .ptr 0 0), (6, .ptr 1 0), (30, .p (.sl (ns.map nV))), (31, .p (.int .i64 ns.length)), (32, .p (.int .i64 i))], [.box [.p (.bool false), .p (.str []), .p (.bool false), .p (.str [])], .box [.p (.bool false), .p (.str (magB (krS q (ns.take i))))]]⟩)
    (fun i => i ≤ ns.length) (fun i => ns.length - i) 0 (fun i => ⟨by simp, by simp [mkF, AV.blw, AV.blw.blwL], by simp [blwH, AObj.blw, AV.blw, AV.blw.blwL]⟩) (by simp [go_sem, krS_nil, magB_zero]) (by simp) ?_
  rintro i hi
  refine AWp.of_awpD [] hΓ hmix (by kernel_rfl) ?_
  by_cases hlt : i < ns.length
  · have hlt' : (i : Int) < (ns.length : Int) := by omega
    have hni := hn ns[i] (List.getElem_mem hlt)
    have hgi : (ns.map nV).getD i default = .int .i64 (ns[i] : Int) := getD_map_lt _ _ _ _ hlt
    have hsub : (32 : Int) - (ns[i] : Int) = ((32 - ns[i] : Nat) : Int) := by omega
    have ep := v94 q (32 - ns[i]) (by omega) hq (by omega)
    have htk : ns.take (i + 1) = ns.take i ++ [ns[i]] := List.take_succ_eq_append_getElem hlt
    have hcap1 := krS_cap hq (l := ns.take i) (by rw [List.length_take]; omega)
    have hp16 := pow_le16 (q := q) (n := ns[i]) hq
    have hcap2 : q ^ (32 - ns[i]) < capN := Nat.lt_of_le_of_lt hp16 (cap_of (n := 16 ^ 32) (k := 17) (by decide) (by decide))
    have ea := u89 (krS q (ns.take i)) (q ^ (32 - ns[i])) hcap1 hcap2
    rw [← krS_snoc, ← htk] at ea
    simp -implicitDefEqProofs only [hlt', hgi, Int.toNat_natCast, go_sem]
    refine callK_fn eq (.pures rfl) ?_
    simp -implicitDefEqProofs only [hsub, intN_pos, go_sem]
    refine ⟨by simp only [InR]; omega, callK_fn ep (.pures rfl) ?_⟩
    simp -implicitDefEqProofs only [intN_pos, go_sem]
    refine callK_fn ea (.still rfl) ?_
    simp -implicitDefEqProofs only [intN_pos, go_sem]
    exact ⟨by simp only [InR]; omega, i + 1, ⟨by simp, rfl⟩, hlt, by omega⟩
  · have hlt' : ¬ (i : Int) < (ns.length : Int) := by omega
    have : i = ns.length := by omega
    subst this
    rw [List.take_length]
    simp -implicitDefEqProofs only [hlt', Int.lt_irrefl, Nat.lt_irrefl, go_sem]
    refine callK_fn eq (.pures rfl) ?_
    simp -implicitDefEqProofs only [intN_pos, go_sem]
    refine callK_fn e32 (.still rfl) ?_
    simp -implicitDefEqProofs only [intN_pos, go_sem]
    refine callK_fn enew (.still rfl) ?_
    simp -implicitDefEqProofs only [ratV, go_sem]
end Go.Proofs.YtoajffhlbogdaaaGreat.Kn
end

section
namespace Go.Proofs.YtoajffhlbogdaaaGreat
open Go Go.AM
set_option maxRecDepth 100000
set_option maxHeartbeats 4000000
set_option linter.unusedSimpArgs false

theorem o10 (q : Int) (ws : List (List UInt8)) (hc : codeCheck q ws = 0) : PFn Tryz.prog 10 [codeV q ws] [Kn.ratV (Kn.krS q.toNat (ws.map List.length)) (q.toNat ^ 32), .int .i64 0] := by
  have hv := valid_of hc
  have h2 := hv.q2
  have h16 := hv.q16
  have hq : ((q.toNat : Nat) : Int) = q := by omega
  have hlen := hv.len
  have e45 := t45 q ws
  rw [hc] at e45
  have hz : ((0 : Int) = 0) = True := by simp
  have ek := Kn.v50 q.toNat (ws.map List.length) (by omega) (by omega) (by simp; omega) (fun n hn => by
    obtain ⟨w, hw, rfl⟩ := List.mem_map.1 hn
    obtain ⟨h1, h3, _⟩ := hv.words w hw
    have := List.length_pos_iff.2 h1
    omega)
  rw [hq] at ek
  refine PFn.of_body hΓ Tryz.func10 (by kernel_rfl) rfl (AWp.of_awpD [] hΓ hmix (by kernel_rfl) ?_)
  simp -implicitDefEqProofs only [Tryz.ntmps10, Tryz.results10, Nat.reduceAdd, Nat.reduceSub, codeV, go_sem]
  refine callK_fn e45 (.still rfl) ?_
  simp -implicitDefEqProofs only [go_sem]
  refine AWp.adopt (l := []) 4 3 1 (by rfl) (by simp) ?_
  simp -implicitDefEqProofs only [go_sem]
  refine AWp.loopI (fun i : Nat => ⟨mkF 30 [(1, .ptr 0 0), (2, .ptr 1 0), (4, .own 2 ((ws.map List.length).take i).length), (12, .p (.sl (ws.map .str))), (13, .p (.int .i64 ws.length)), (14, .p (.int .i64 i))], [codeB q ws, .box [.p (.bool false), .p (.str []), .p (.bool false), .p (.str [])], .row 3 1 (((ws.map List.length).take i).map Kn.nV) .lax]⟩)
    (fun i => i ≤ ws.length) (fun i => ws.length - i) 0 (by simp [go_sem, codeB]) (by simp) ?_
  intro i hi
  refine AWp.of_awpD [] hΓ hmix (by kernel_rfl) ?_
  by_cases hlt : i < ws.length
  · have hlt' : (i : Int) < (ws.length : Int) := by omega
    have hgi : (ws.map PV.str).getD i default = .str ws[i] := getD_map_lt _ _ _ _ hlt
    have htk : (ws.map List.length).take (i + 1) = (ws.map List.length).take i ++ [ws[i].length] := by
      rw [List.take_succ_eq_append_getElem (by simpa using hlt), List.getElem_map]
    have hli : ((ws.map List.length).take i).length = i := by simp; omega
    have hs1 : sizeOK [PV.int .i64 (ws[i].length : Int)] 1 := by simp [sizeOK, PV.cells]
    have ho1 : oneOK [PV.int .i64 (ws[i].length : Int)] := by simp [oneOK, PV.cells, PV.isAgg]
    simp -implicitDefEqProofs only [hlt', hgi, codeB, Int.toNat_natCast, go_sem]
    refine ⟨⟨hs1, by omega⟩, ⟨hs1, ho1⟩, ⟨by simp, by rw [hli]; omega, by rw [hli]; omega⟩, by simp only [InR]; omega, i + 1, ⟨⟨by rw [htk]; simp, by simp⟩, .inr ?_⟩, hlt, by omega⟩
    rw [htk]
    simp [Kn.nV]
  · have hlt' : ¬ (i : Int) < (ws.length : Int) := by omega
    have : i = ws.length := by omega
    subst this
    rw [List.take_of_length_le (by simp)]
    simp -implicitDefEqProofs only [Int.lt_irrefl, Nat.lt_irrefl, codeB, go_sem]
    refine callK_fn ek (.owned rfl rfl) ?_
    simp -implicitDefEqProofs only [Kn.ratV, go_sem]
end Go.Proofs.YtoajffhlbogdaaaGreat
end

section
namespace Go.Proofs.YtoajffhlbogdaaaGreat
open Go Go.AM
set_option maxRecDepth 100000
set_option maxHeartbeats 4000000
set_option linter.unusedSimpArgs false

theorem parCheck_par {q : Int} {ws : List (List UInt8)} (hc : codeCheck q ws = 0) (hp : preB ws = true) : parCheck q (prefs ws) (nxP q ws) (emP q ws) = 0 := by
  unfold parCheck; rw [if_pos (isPar_of hc hp)]
theorem small_of {q : Int} {ws : List (List UInt8)} (hv : Valid q ws) (hg : (greatC ws || ws.any greatW) = false) : ws.length ≤ 8 ∧ ∀ w ∈ ws, w.length ≤ 8 := by
  have h64 := hv.len
  simp only [Bool.or_eq_false_iff, greatC, List.any_eq_false, decide_eq_false_iff_not, Bool.and_eq_false_iff] at hg
  refine ⟨by omega, fun w hw => ?_⟩
  have h1 := hg.2 w hw
  have h2 := (hv.words w hw).2.1
  simp only [greatW, Bool.or_eq_true, Bool.and_eq_true, decide_eq_true_eq] at h1
  omega
theorem prefs_small {q : Int} {ws : List (List UInt8)} (hv : Valid q ws) (hg : (greatC ws || ws.any greatW) = false) : (prefs ws).length ≤ 64 ∧ ∀ x ∈ prefs ws, x.length ≤ 8 := by
  obtain ⟨h1, h2⟩ := small_of hv hg
  refine ⟨?_, fun x hx => ?_⟩
  · have h3 := made_le (propers ws)
    have h4 := propers_len h2
    have : ws.length * 8 ≤ 8 * 8 := Nat.mul_le_mul_right _ h1
    unfold prefs; omega
  · obtain ⟨w, hw, _, h3⟩ := mem_prefs.1 hx
    have := h2 w hw
    omega
def prB (q : Int) (ws : List (List UInt8)) : Bool := !(greatC ws || ws.any greatW) && (decide (codeCheck q ws = 0) && preB ws)
theorem p21 (q : Int) (ws : List (List UInt8)) (hws : ws.length ≤ 9223372036854775807) : PFn Tryz.prog 9 [codeV q ws] [.bool (prB q ws)] := by
  have e9 := t11 q ws hws
  have e20 := t45 q ws
  have e59 := t38 q ws
  refine PFn.of_body hΓ Tryz.func9 (by kernel_rfl) rfl (AWp.of_awpD [] hΓ hmix (by kernel_rfl) ?_)
  simp -implicitDefEqProofs only [Tryz.ntmps9, Tryz.results9, Nat.reduceAdd, Nat.reduceSub, codeV, go_sem]
  refine callK_fn e9 (.still rfl) ?_
  unfold prB
  cases hg : (greatC ws || ws.any greatW)
  rotate_left
  · simp -implicitDefEqProofs only [go_sem]
    rfl
  simp -implicitDefEqProofs only [go_sem]
  refine callK_fn e20 (.still rfl) ?_
  by_cases hc : codeCheck q ws = 0
  rotate_left
  · simp -implicitDefEqProofs only [hc, go_sem]
    rfl
  have h0 : ¬ (ws.length : Int) = 0 := by have := (valid_of hc).pos; omega
  rw [hc]
  rw [if_pos hc, if_pos hc] at e59
  simp -implicitDefEqProofs only [h0, List.length_map, go_sem]
  refine callK_fn e59 (.still rfl) ?_
  simp -implicitDefEqProofs only [go_sem]
  rfl

/-- The law's comparison of two rows of numbers. -/
theorem o17 (a b : List Int) (hl : a.length ≤ 1000000) : PFn Tryz.prog 17 [slI a, slI b] [.bool (decide (a = b))] := by
  refine PFn.of_body hΓ Tryz.func17 (by kernel_rfl) rfl (AWp.of_awpD [] hΓ hmix (by kernel_rfl) ?_)
  simp +contextual -implicitDefEqProofs only [Tryz.ntmps17, Tryz.results17, Nat.reduceAdd, Nat.reduceSub, go_sem]
  refine callK_fn (p36 a b hl) (.pures rfl) ?_
  simp -implicitDefEqProofs only [go_sem]

/-- slices.EqualFunc of a table with itself. -/
theorem o16 {h : List AObj} (a : List (List Int)) (hl : a.length ≤ 1000000) (hs : ∀ x ∈ a, x.length ≤ 1000000) :
    AC Tryz.prog 16 [.p (.sl (a.map slI)), .p (.sl (a.map slI)), .fn 17 []] h [] (fun v h' => v = .p (.bool true) ∧ h' = h) := by
  refine AC.of_bodyE hΓ Tryz.func16 (by kernel_rfl) rfl (AWp.mono (Q := fun e st => AM.Ends e ∧ st.tmps.getD 6 .junk = .p (.bool true) ∧ st.h = h) ?_ ?_)
  rotate_left
  · rintro e ⟨tm, h'⟩ ⟨he, h1, h2⟩
    simp only at h1 h2
    subst h2
    refine ⟨he, _, Less.refl _, ?_⟩
    unfold DoneE
    simp +contextual -implicitDefEqProofs only [Tryz.results16, h1, go_sem]
    exact ⟨_, Nat.le_refl _, .inl rfl, List.take_length⟩
  refine AWp.of_awpD [] hΓ hmix (by kernel_rfl) ?_
  simp -implicitDefEqProofs only [Tryz.ntmps16, Nat.reduceAdd, Nat.reduceSub, List.length_map, go_sem]
  refine AWp.loopI (fun k : Nat => ⟨mkF 32 [(0, .p (.sl (a.map slI))), (1, .p (.sl (a.map slI))), (2, .fn 17 []), (15, .p (.sl (a.map slI))), (16, .p (.int .i64 a.length)), (17, .p (.int .i64 k))], h⟩)
    (fun k => k ≤ a.length) (fun k => a.length - k) 0 (by simp [go_sem, weakH_self]) (by simp) ?_
  intro k hk
  refine AWp.of_awpD [] hΓ hmix (by kernel_rfl) ?_
  by_cases hlt : k < a.length
  · have hlt' : (k : Int) < (a.length : Int) := by omega
    have hg : (a.map slI).getD k default = slI a[k] := getD_map_lt _ _ _ _ hlt
    have e := o17 a[k] a[k] (hs _ (List.getElem_mem hlt))
    rw [decide_eq_true rfl] at e
    unfold slI at e
    simp -implicitDefEqProofs only [hlt', hg, List.length_map, Int.toNat_natCast, slI, go_sem]
    refine callK_fn e (.pures rfl) ?_
    simp -implicitDefEqProofs only [go_sem]
    exact ⟨by simp only [InR]; omega, k + 1, ⟨by simp, weakH_self _⟩, hlt, by omega⟩
  · have hlt' : ¬ (k : Int) < (a.length : Int) := by omega
    simp -implicitDefEqProofs only [hlt', go_sem]
    try trivial

def ratX (A B : List UInt8) : PV := .agg [.bool false, .str A, .bool false, .str B]

theorem o3c (q : Int) (ws : List (List UInt8)) (w : List UInt8) (hws : ws.length ≤ 9223372036854775807)
    (hm : codeCheck q ws = 0 → ∃ A B C D i1 c, PFn Tryz.prog 10 [codeV q ws] [ratX A B, .int .i64 0] ∧ PFn Tryz.prog 13 [.int .i64 1] [.agg [.bool false, .str i1]] ∧ PFn Tryz.prog 12 [.agg [.bool false, .str i1]] [ratX C D] ∧
      PFn Tryz.prog 11 [ratX A B, ratX C D] [.int .i64 c] ∧ (preB ws = true → (c = 0 ↔ holeB q ws = false))) : PFn Tryz.prog 3 [codeV q ws, .str w] [.bool true] := by
  have e4 := t11 q ws hws
  have e5 := t45 q ws
  have e6 := t78 q w
  have e7 := awake_ok
  have e8 := p14 q ws
  have e9 := p21 q ws hws
  have hff : (false != false) = false := rfl
  have htt : (true != true) = false := rfl
  have htf : (true != false) = true := rfl
  refine PFn.of_body hΓ Tryz.func3 (by kernel_rfl) rfl (AWp.of_awpD [(7, 12)] hΓ hmix (by kernel_rfl) ?_)
  simp -implicitDefEqProofs only [Tryz.ntmps3, Tryz.results3, Nat.reduceAdd, Nat.reduceSub, codeV, go_sem]
  refine callK_fn e4 (.still rfl) ?_
  cases hg : (greatC ws || ws.any greatW)
  rotate_left
  · simp -implicitDefEqProofs only [go_sem]
    refine callK_fn e7 (.pures rfl) ?_
    simp -implicitDefEqProofs only [go_sem]
  simp -implicitDefEqProofs only [go_sem]
  refine callK_fn e5 (.still rfl) ?_
  by_cases hc : codeCheck q ws = 0
  rotate_left
  · simp -implicitDefEqProofs only [hc, go_sem]
    refine callK_fn e7 (.pures rfl) ?_
    simp -implicitDefEqProofs only [go_sem]
  rw [hc]
  by_cases hl : (40 : Int) < (w.length : Int)
  · simp -implicitDefEqProofs only [hl, go_sem]
    refine callK_fn e7 (.pures rfl) ?_
    simp -implicitDefEqProofs only [go_sem]
  simp -implicitDefEqProofs only [hl, go_sem]
  refine callK_fn e6 (.pures rfl) ?_
  by_cases hwc : wordCheck q w = 0
  rotate_left
  · simp -implicitDefEqProofs only [hwc, go_sem]
    refine callK_fn e7 (.pures rfl) ?_
    simp -implicitDefEqProofs only [go_sem]
  rw [hwc]
  have hv := valid_of hc
  have hwl := word_ok hwc
  obtain ⟨A, B, C, D, i1, c, e10, e13, e12, e11, hcm⟩ := hm hc
  unfold prB at e9
  rw [hg, hc] at e9
  unfold ratX at *
  unfold aR aE pE at e8
  by_cases hp : preB ws = true
  rotate_left
  · have hp' : preB ws = false := by simpa using hp
    rw [if_neg (fun h => hp h.2.1), if_neg (fun h => hp h.2), if_pos hc, if_neg hp] at e8
    rw [hp'] at e9
    have e9' : PFn Tryz.prog 9 [codeV q ws] [.bool false] := e9
    unfold codeV at e8 e9'
    unfold auV at e8
    simp -implicitDefEqProofs only [go_sem]
    refine callK_fn e8 (.still rfl) ?_
    simp -implicitDefEqProofs only [go_sem]
    refine callK_fn e9' (.still rfl) ?_
    have h00 : ((0 : Nat) : Int) = 0 := rfl
    simp -implicitDefEqProofs only [List.map_nil, List.length_nil, h00, go_sem]
    refine callK_fn e7 (.pures rfl) ?_
    simp -implicitDefEqProofs only [go_sem]
  have e9' : PFn Tryz.prog 9 [codeV q ws] [.bool true] := by
    rw [hp] at e9
    exact e9
  have hcm := hcm hp
  cases hh : holeB q ws
  rotate_left
  · rw [if_neg (fun h => by rw [h.2.2] at hh; cases hh), if_pos ⟨hc, hp⟩, if_pos hh] at e8
    have hc0 : ¬ c = 0 := fun h => by have := hcm.1 h; rw [this] at hh; cases hh
    unfold codeV at e8 e9' e10
    unfold auV at e8
    have h00 : ((0 : Nat) : Int) = 0 := rfl
    have h80 : ¬ (8 : Int) = 0 := by omega
    simp -implicitDefEqProofs only [go_sem]
    refine callK_fn e8 (.still rfl) ?_
    simp -implicitDefEqProofs only [go_sem]
    refine callK_fn e9' (.still rfl) ?_
    simp -implicitDefEqProofs only [go_sem]
    refine callK_fn e10 (.still rfl) ?_
    simp -implicitDefEqProofs only [go_sem]
    refine callVPK_fn e13 (.pures rfl) ?_
    simp -implicitDefEqProofs only [go_sem]
    refine callVPK_fn e12 (.pures rfl) ?_
    simp -implicitDefEqProofs only [go_sem]
    refine callVPK_fn e11 (.still rfl) ?_
    simp -implicitDefEqProofs only [hc0, h80, List.map_nil, List.length_nil, h00, hff, htt, htf, go_sem]
    refine callK_fn e7 (.pures rfl) ?_
    simp -implicitDefEqProofs only [go_sem]
  · rw [if_pos ⟨hc, hp, hh⟩, if_pos ⟨hc, hp⟩, if_neg (by rw [hh]; decide)] at e8
    have hc0 : c = 0 := hcm.2 hh
    subst hc0
    have e12b := p12 q ws
    unfold pR pE at e12b
    rw [if_pos ⟨hc, hp⟩, if_pos hc, if_pos hp] at e12b
    obtain ⟨hP1, hP2⟩ := prefs_small hv hg
    have e31 := p31 q (prefs ws) (nxP q ws) (emP q ws) w hP1 (fun x hx => by have := hP2 x hx; omega)
    have hpos : posE q (prefs ws) (nxP q ws) (emP q ws) w = 0 := by
      unfold posE
      rw [if_pos (parCheck_par hc hp)]
      exact hwc
    rw [hpos, if_pos rfl, trail_code hv hc hp hh hwl.1] at e31
    have hnl := nxP_len hv
    have e16 := fun h => o16 (h := h) (nxP q ws) (by omega) (fun x hx => by rw [hnl.2 x hx]; have := hv.q16; omega)
    unfold codeV at e8 e9' e10 e12b
    unfold auV at e8
    unfold parV at e12b
    unfold psV at e12b e31
    simp -implicitDefEqProofs only [go_sem]
    refine callK_fn e8 (.still rfl) ?_
    simp -implicitDefEqProofs only [go_sem]
    refine callK_fn e9' (.still rfl) ?_
    simp -implicitDefEqProofs only [go_sem]
    refine callK_fn e10 (.still rfl) ?_
    simp -implicitDefEqProofs only [go_sem]
    refine callVPK_fn e13 (.pures rfl) ?_
    simp -implicitDefEqProofs only [go_sem]
    refine callVPK_fn e12 (.pures rfl) ?_
    simp -implicitDefEqProofs only [go_sem]
    refine callVPK_fn e11 (.still rfl) ?_
    simp -implicitDefEqProofs only [hff, htt, htf, go_sem]
    refine callK_fn e12b (.still rfl) ?_
    simp -implicitDefEqProofs only [go_sem]
    refine callK_fn e31 (.still rfl) ?_
    simp -implicitDefEqProofs only [hff, htt, htf, hnl.1, go_sem]
    refine callK_ac (e16 _) (by simp) ?_
    rintro v h' ⟨rfl, rfl⟩
    simp -implicitDefEqProofs only [killAll, List.foldl, go_sem]
    refine callK_fn e7 (.pures rfl) ?_
    simp -implicitDefEqProofs only [go_sem]

/-- The law answers true. -/
theorem o3 (q : Int) (ws : List (List UInt8)) (w : List UInt8) (hws : ws.length ≤ 9223372036854775807) : PFn Tryz.prog 3 [codeV q ws, .str w] [.bool true] := by
  refine o3c q ws w hws fun hc => ?_
  have hv := valid_of hc
  have h2 := hv.q2
  have h16 := hv.q16
  have hlen := hv.len
  have hq : q.toNat ≤ 16 := by omega
  have hq0 : q.toNat ≠ 0 := by omega
  have hS := Kn.krS_cap hq (l := ws.map List.length) (by simp; omega)
  have hQ := Kn.q32_cap hq
  have hQ0 : q.toNat ^ 32 ≠ 0 := Nat.ne_of_gt (Nat.pow_pos (by omega))
  have e11 := Kn.v51 (Kn.krS q.toNat (ws.map List.length)) (q.toNat ^ 32) 1 1 hS hQ Kn.one_cap Kn.one_cap hQ0 (by omega) (by rw [Nat.mul_one]; exact hS) (by rw [Nat.one_mul]; exact hQ)
  refine ⟨_, _, _, _, _, _, o10 q ws hc, u34 1 (by omega), Kn.v52 1 Kn.one_cap, e11, fun hp => ?_⟩
  rw [hole_one hv hp, Nat.mul_one, Nat.one_mul]
  unfold Kn.krS cmpN
  by_cases h1 : (((ws.map List.length).map fun n => q.toNat ^ (32 - n)).sum) < q.toNat ^ 32
  · rw [if_pos h1]
    exact ⟨fun h => by omega, fun h => by omega⟩
  · rw [if_neg h1]
    by_cases h3 : (((ws.map List.length).map fun n => q.toNat ^ (32 - n)).sum) = q.toNat ^ 32
    · rw [if_pos h3]
      exact ⟨fun _ => h3, fun _ => rfl⟩
    · rw [if_neg h3]
      exact ⟨fun h => by omega, fun h => absurd h h3⟩
end Go.Proofs.YtoajffhlbogdaaaGreat
end

