/-
  slices.ContainsFunc of numbers; measure.Kraft, Fits.
  slices.Concat of empty lists; slices.Contains of numbers; Prune's test of indices.
  slices.SortFunc by code.before.
-/
import Derived.Test.YtjjedaikbgfmmaaGreatJe0374de47c44
import Derived.Test.YtjjedaikbgfmmaaGreatJc7925ed230f2
import Derived.Test.YtjjedaikbgfmmaaGreatJ8df0f086fdec
import Derived.Test.YtjjedaikbgfmmaaGreatJe5ec75338621

section
namespace Go.Proofs.YtjjedaikbgfmmaaGreat.Kn
open Go Go.AM
set_option maxRecDepth 100000
set_option linter.unusedSimpArgs false

def iV (n : Int) : PV := .int .i64 n
def intsV (l : List Int) : PV := .sl (l.map iV)

theorem c92 {h : List AObj} {g : FuncId} {caps : List AV} {pr : Int → Bool} (ws : List Int) (hl : ws.length ≤ 9223372036854775807)
    (hg : ∀ w ∈ ws, AC Tryz.prog g (.p (.int .i64 w) :: caps) h [] (fun v h' => v = .p (.bool (pr w)) ∧ h' = h)) :
    AC Tryz.prog 92 [.p (.sl (ws.map iV)), .fn g caps] h [] (fun v h' => (∃ i : Int, v = .p (.int .i64 i) ∧ decide (0 ≤ i) = ws.any pr) ∧ h' = h) := by
  refine AC.of_bodyE hΓ Tryz.func92 (by kernel_rfl) rfl (AWp.mono (Q := fun e st => AM.Ends e ∧ (∃ i : Int, st.tmps.getD 4 .junk = .p (.int .i64 i) ∧ decide (0 ≤ i) = ws.any pr) ∧ st.h = h) ?_ ?_)
  rotate_left
  · rintro e ⟨tm, h'⟩ ⟨he, ⟨i, h1, h3⟩, h2⟩
    simp only at h1 h2
    subst h2
    refine ⟨he, _, Less.refl _, ?_⟩
    unfold DoneE
    simp +contextual -implicitDefEqProofs only [Tryz.results92, h1, go_sem]
    exact ⟨_, Nat.le_refl _, .inl rfl, ⟨i, rfl, h3⟩, List.take_length⟩
  refine AWp.of_awpD [] hΓ hmix (by kernel_rfl) ?_
  simp +contextual -implicitDefEqProofs only [Tryz.ntmps92, Nat.reduceAdd, Nat.reduceSub, go_sem]
  refine AWp.loopI (fun k : Nat => ⟨mkF 19 [(0, .p (.sl (ws.map iV))), (1, .fn g caps), (7, .p (.int .i64 ws.length)), (8, .p (.int .i64 k))], h⟩)
    (fun k => k ≤ ws.length ∧ (ws.take k).any pr = false) (fun k => ws.length - k) 0 (by simp [go_sem, weakH_self]) (by simp) ?_
  rintro k ⟨hk, h0⟩
  refine AWp.of_awpD [] hΓ hmix (by kernel_rfl) ?_
  by_cases hlt : k < ws.length
  · have hgk : (ws.map iV).getD k default = .int .i64 ws[k] := by rw [getD_map_lt _ _ _ _ hlt]; rfl
    simp -implicitDefEqProofs only [List.length_map, hlt, hgk, Int.toNat_natCast, go_sem]
    refine callK_ac (hg ws[k] (List.getElem_mem hlt)) (by simp) ?_
    rintro v h' ⟨rfl, rfl⟩
    cases hp : pr ws[k]
    · simp -implicitDefEqProofs only [killAll, List.foldl, go_sem]
      refine ⟨by simp only [InR]; omega, k + 1, by simp [weakH_self], ⟨hlt, ?_⟩, by omega⟩
      rw [List.take_succ_eq_append_getElem hlt, List.any_append, h0]; simp [hp]
    · simp -implicitDefEqProofs only [killAll, List.foldl, go_sem]
      refine ⟨k, rfl, ?_⟩
      rw [List.any_eq_true.2 ⟨_, List.getElem_mem hlt, hp⟩]; simp
  · simp -implicitDefEqProofs only [hlt, go_sem]
    exact ⟨-1, rfl, by rw [List.take_of_length_le (by omega)] at h0; rw [h0]; rfl⟩

theorem c48 {h : List AObj} {g : FuncId} {caps : List AV} {pr : Int → Bool} (ws : List Int) (hl : ws.length ≤ 9223372036854775807)
    (hg : ∀ w ∈ ws, AC Tryz.prog g (.p (.int .i64 w) :: caps) h [] (fun v h' => v = .p (.bool (pr w)) ∧ h' = h)) :
    AC Tryz.prog 48 [.p (.sl (ws.map iV)), .fn g caps] h [] (fun v h' => v = .p (.bool (ws.any pr)) ∧ h' = h) := by
  refine AC.of_bodyE hΓ Tryz.func48 (by kernel_rfl) rfl (AWp.mono (Q := fun e st => AM.Ends e ∧ st.tmps.getD 4 .junk = .p (.bool (ws.any pr)) ∧ st.h = h) ?_ ?_)
  rotate_left
  · rintro e ⟨tm, h'⟩ ⟨he, h1, h2⟩
    simp only at h1 h2
    subst h2
    refine ⟨he, _, Less.refl _, ?_⟩
    unfold DoneE
    simp +contextual -implicitDefEqProofs only [Tryz.results48, h1, go_sem]
    exact ⟨_, Nat.le_refl _, .inl rfl, List.take_length⟩
  refine AWp.of_awpD [] hΓ hmix (by kernel_rfl) ?_
  simp +contextual -implicitDefEqProofs only [Tryz.ntmps48, Nat.reduceAdd, Nat.reduceSub, go_sem]
  refine callK_ac (c92 ws hl hg) (by simp) ?_
  rintro v h' ⟨⟨i, rfl, hi⟩, rfl⟩
  simp -implicitDefEqProofs only [killAll, List.foldl, go_sem]
  exact hi

/-- A length is out of range. -/
def badL (n : Int) : Bool := decide (n < 1) || decide (32 < n)
theorem v93 (n : Int) : PFn Tryz.prog 93 [.int .i64 n] [.bool (badL n)] := by
  unfold badL
  refine PFn.of_body hΓ Tryz.func93 (by kernel_rfl) rfl (AWp.of_awpD [] hΓ hmix (by kernel_rfl) ?_)
  by_cases h1 : n < 1
  · simp -implicitDefEqProofs only [Tryz.ntmps93, Tryz.results93, Nat.reduceAdd, Nat.reduceSub, h1, go_sem]
    try simp [h1]
  · simp -implicitDefEqProofs only [Tryz.ntmps93, Tryz.results93, Nat.reduceAdd, Nat.reduceSub, h1, go_sem]
    try simp [h1]
theorem c93a {h : List AObj} (n : Int) : AC Tryz.prog 93 [.p (.int .i64 n)] h [] (fun v h' => v = .p (.bool (badL n)) ∧ h' = h) := by
  have := AC.of_fn (h := h) (v93 n) (args := [.p (.int .i64 n)]) (.inl rfl)
  exact this
theorem v48 (ws : List Int) (hl : ws.length ≤ 9223372036854775807) {h : List AObj} : AC Tryz.prog 48 [.p (.sl (ws.map iV)), .fn 93 []] h [] (fun v h' => v = .p (.bool (ws.any badL)) ∧ h' = h) :=
  c48 ws hl fun w _ => c93a w

theorem v58 : PFn Tryz.prog 58 [] [ratV 1 1] := by
  have e1 := u34 1 (by omega)
  have e2 := v52 1 one_cap
  refine PFn.of_body hΓ Tryz.func58 (by kernel_rfl) rfl (AWp.of_awpD [] hΓ hmix (by kernel_rfl) ?_)
  simp -implicitDefEqProofs only [Tryz.ntmps58, Tryz.results58, Nat.reduceAdd, Nat.reduceSub, go_sem]
  refine callK_fn e1 (.pures rfl) ?_
  simp -implicitDefEqProofs only [go_sem]
  refine callK_fn e2 (.pures rfl) ?_
  simp -implicitDefEqProofs only [ratV, go_sem]

/-- Kraft's sum, in units of q^-32. -/
def krS (q : Nat) (l : List Nat) : Nat := (l.map fun n => q ^ (32 - n)).sum
theorem krS_nil (q : Nat) : krS q [] = 0 := rfl
theorem krS_snoc (q : Nat) (l : List Nat) (n : Nat) : krS q (l ++ [n]) = krS q l + q ^ (32 - n) := by simp [krS]
theorem pow_le16 {q n : Nat} (h : q ≤ 16) : q ^ (32 - n) ≤ 16 ^ 32 := Nat.le_trans (Nat.pow_le_pow_left h _) (Nat.pow_le_pow_right (by decide) (by omega))
theorem krS_le {q : Nat} (hq : q ≤ 16) : ∀ l : List Nat, krS q l ≤ l.length * 16 ^ 32
  | [] => Nat.zero_le _
  | n :: l => by
    have ih := krS_le hq l
    have h1 := pow_le16 (q := q) (n := n) hq
    have e : krS q (n :: l) = q ^ (32 - n) + krS q l := by simp [krS]
    rw [e, List.length_cons, Nat.succ_mul]
    omega
theorem krS_cap {q : Nat} (hq : q ≤ 16) {l : List Nat} (hl : l.length ≤ 4096) : krS q l < capN := by
  have h1 := krS_le hq l
  have h2 : l.length * 16 ^ 32 ≤ 4096 * 16 ^ 32 := Nat.mul_le_mul_right _ hl
  have h3 : 4096 * 16 ^ 32 < capN := cap_of (n := 4096 * 16 ^ 32) (k := 18) (by decide) (by decide)
  omega
theorem q32_cap {q : Nat} (hq : q ≤ 16) : q ^ 32 < capN := by
  have h1 := pow_le16 (q := q) (n := 0) hq
  have h3 : 16 ^ 32 < capN := cap_of (n := 16 ^ 32) (k := 17) (by decide) (by decide)
  rw [Nat.sub_zero] at h1
  omega
/-- The errors of Kraft. -/
def krE (q : Int) (l : List Int) : Int := if q < 2 ∨ 16 < q then 12 else if 4096 < l.length then 4 else if l.any badL then 2 else 0
def zeroR : PV := .agg [.bool false, .str [], .bool false, .str []]

theorem v50e (q : Int) (l : List Int) (hl : l.length ≤ 9223372036854775807) (he : krE q l ≠ 0) : PFn Tryz.prog 50 [.int .i64 q, intsV l] [zeroR, .int .i64 (krE q l)] := by
  unfold krE at *
  by_cases h1 : q < 2
  · rw [if_pos (.inl h1)]
    refine PFn.of_body hΓ Tryz.func50 (by kernel_rfl) rfl (AWp.of_awpD [] hΓ hmix (by kernel_rfl) ?_)
    simp -implicitDefEqProofs only [Tryz.ntmps50, Tryz.results50, Nat.reduceAdd, Nat.reduceSub, intsV, h1, go_sem]
    try rfl
  by_cases h2 : 16 < q
  · rw [if_pos (.inr h2)]
    refine PFn.of_body hΓ Tryz.func50 (by kernel_rfl) rfl (AWp.of_awpD [] hΓ hmix (by kernel_rfl) ?_)
    simp -implicitDefEqProofs only [Tryz.ntmps50, Tryz.results50, Nat.reduceAdd, Nat.reduceSub, intsV, h1, h2, go_sem]
    try rfl
  rw [if_neg (by omega)] at he ⊢
  by_cases h3 : 4096 < l.length
  · rw [if_pos h3]
    have h3' : (4096 : Int) < (l.length : Int) := by omega
    refine PFn.of_body hΓ Tryz.func50 (by kernel_rfl) rfl (AWp.of_awpD [] hΓ hmix (by kernel_rfl) ?_)
    simp -implicitDefEqProofs only [Tryz.ntmps50, Tryz.results50, Nat.reduceAdd, Nat.reduceSub, intsV, h1, h2, List.length_map, h3', go_sem]
    try rfl
  rw [if_neg h3] at he ⊢
  by_cases h4 : l.any badL = true
  · rw [if_pos h4]
    have h3' : ¬ (4096 : Int) < (l.length : Int) := by omega
    refine PFn.of_body hΓ Tryz.func50 (by kernel_rfl) rfl (AWp.of_awpD [] hΓ hmix (by kernel_rfl) ?_)
    simp -implicitDefEqProofs only [Tryz.ntmps50, Tryz.results50, Nat.reduceAdd, Nat.reduceSub, intsV, h1, h2, List.length_map, h3', go_sem]
    refine callK_ac (v48 l hl) (by simp) ?_
    rintro v h' ⟨rfl, rfl⟩
    simp -implicitDefEqProofs only [killAll, List.foldl, h4, go_sem]
    try rfl
  · rw [if_neg h4] at he
    exact absurd rfl he

def nV (n : Nat) : PV := .int .i64 (n : Int)
def natsV (l : List Nat) : PV := .sl (l.map nV)
theorem v50 (q : Nat) (ns : List Nat) (hq2 : 2 ≤ q) (hq : q ≤ 16) (hl : ns.length ≤ 4096) (hn : ∀ n ∈ ns, 1 ≤ n ∧ n ≤ 32) : PFn Tryz.prog 50 [.int .i64 q, .sl (ns.map nV)] [ratV (krS q ns) (q ^ 32), .int .i64 0] := by
  have hq1 : ¬ (q : Int) < 2 := by omega
  have hq3 : ¬ (16 : Int) < (q : Int) := by omega
  have hl' : ¬ (4096 : Int) < (ns.length : Int) := by omega
  have hmap : (ns.map nV) = (ns.map fun n : Nat => (n : Int)).map iV := by rw [List.map_map]; rfl
  have hany : (ns.map fun n : Nat => (n : Int)).any badL = false := by
    rw [List.any_eq_false]
    intro x hx
    obtain ⟨n, hn', rfl⟩ := List.mem_map.1 hx
    have := hn n hn'
    unfold badL
    simp only [Bool.or_eq_true, decide_eq_true_eq]
    omega
  have hc := v48 (ns.map fun n : Nat => (n : Int)) (by simp; omega) (h := [.box [.p (.bool false), .p (.str []), .p (.bool false), .p (.str [])]])
  rw [← hmap, hany] at hc
  have eq := u34 q (by omega)
  have e32 := v94 q 32 (by omega) hq (by omega)
  have enew := v96 (krS q ns) (q ^ 32) (krS_cap hq hl) (q32_cap hq) (Nat.ne_of_gt (Nat.pow_pos (by omega)))
  refine PFn.of_body hΓ Tryz.func50 (by kernel_rfl) rfl (AWp.of_awpD [] hΓ hmix (by kernel_rfl) ?_)
  simp -implicitDefEqProofs only [Tryz.ntmps50, Tryz.results50, Nat.reduceAdd, Nat.reduceSub, hq1, hq3, List.length_map, hl', go_sem]
  refine callK_ac hc (by simp) ?_
  rintro v h' ⟨rfl, rfl⟩
  simp -implicitDefEqProofs only [killAll, List.foldl, go_sem]
  refine AWp.loopJ (fun i : Nat => ⟨mkF 59 [(0, .p (.int .i64 q)), (4, .ptr 0 0), (6, .ptr 1 0), (30, .p (.sl (ns.map nV))), (31, .p (.int .i64 ns.length)), (32, .p (.int .i64 i))], [.box [.p (.bool false), .p (.str []), .p (.bool false), .p (.str [])], .box [.p (.bool false), .p (.str (magB (krS q (ns.take i))))]]⟩)
    (fun i => i ≤ ns.length) (fun i => ns.length - i) 0 (fun i => ⟨by simp, by simp [mkF, AV.blw, AV.blw.blwL], by simp [blwH, AObj.blw, AV.blw, AV.blw.blwL]⟩) (by simp [go_sem, krS_nil, magB_zero]) (by simp) ?_
  rintro i hi
  refine AWp.of_awpD [] hΓ hmix (by kernel_rfl) ?_
  by_cases hlt : i < ns.length
  · have hlt' : (i : Int) < (ns.length : Int) := by omega
    have hni := hn ns[i] (List.getElem_mem hlt)
    have hgi : (ns.map nV).getD i default = .int .i64 (ns[i] : Int) := getD_map_lt _ _ _ _ hlt
    have hsub : (32 : Int) - (ns[i] : Int) = ((32 - ns[i] : Nat) : Int) := by omega
    have ep := v94 q (32 - ns[i]) (by omega) hq (by omega)
    have htk : ns.take (i + 1) = ns.take i ++ [ns[i]] := List.take_succ_eq_append_getElem hlt
    have hcap1 := krS_cap hq (l := ns.take i) (by rw [List.length_take]; omega)
    have hp16 := pow_le16 (q := q) (n := ns[i]) hq
    have hcap2 : q ^ (32 - ns[i]) < capN := Nat.lt_of_le_of_lt hp16 (cap_of (n := 16 ^ 32) (k := 17) (by decide) (by decide))
    have ea := u89 (krS q (ns.take i)) (q ^ (32 - ns[i])) hcap1 hcap2
    rw [← krS_snoc, ← htk] at ea
    simp -implicitDefEqProofs only [hlt', hgi, Int.toNat_natCast, go_sem]
    refine callK_fn eq (.pures rfl) ?_
    simp -implicitDefEqProofs only [hsub, intN_pos, go_sem]
    refine ⟨by simp only [InR]; omega, callK_fn ep (.pures rfl) ?_⟩
    simp -implicitDefEqProofs only [intN_pos, go_sem]
    refine callK_fn ea (.still rfl) ?_
    simp -implicitDefEqProofs only [intN_pos, go_sem]
    exact ⟨by simp only [InR]; omega, i + 1, ⟨by simp, rfl⟩, hlt, by omega⟩
  · have hlt' : ¬ (i : Int) < (ns.length : Int) := by omega
    have : i = ns.length := by omega
    subst this
    rw [List.take_length]
    simp -implicitDefEqProofs only [hlt', Int.lt_irrefl, Nat.lt_irrefl, go_sem]
    refine callK_fn eq (.pures rfl) ?_
    simp -implicitDefEqProofs only [intN_pos, go_sem]
    refine callK_fn e32 (.still rfl) ?_
    simp -implicitDefEqProofs only [intN_pos, go_sem]
    refine callK_fn enew (.still rfl) ?_
    simp -implicitDefEqProofs only [ratV, go_sem]
end Go.Proofs.YtjjedaikbgfmmaaGreat.Kn
end

section
namespace Go.Proofs.YtjjedaikbgfmmaaGreat
open Go Go.AM Go.RowKit
set_option maxRecDepth 100000
set_option linter.unusedSimpArgs false

theorem c61z {h : List AObj} : AC Tryz.prog 112 [.full [], .p (.int .i64 (0 : Nat))] h [] (fun v h' => v = .full [] ∧ h' = h) := by
  refine ⟨entersF_of Tryz.func112 (by kernel_rfl) rfl, fun X I μ ob w cargs R hlen hargs _ => ?_⟩
  obtain ⟨a0, b0, rfl⟩ : ∃ a b, cargs = [a, b] := by
    match cargs, hlen with
    | [a, b], _ => exact ⟨a, b, rfl⟩
  have g0 := hargs 0 (by simp)
  have g1 := hargs 1 (by simp)
  simp only [List.getD_cons_zero, List.getD_cons_succ] at g0 g1
  obtain ⟨a, rfl, hp⟩ : ∃ a, a0 = .slice a 0 0 ∧ PR I w (.sl []) (.slice a 0 0) := by
    cases g0 with
    | full l a hp => exact ⟨a, rfl, hp⟩
  rw [g1.int_inv]
  have hc := Any8.slices_Grow_room (ρ := Tryz.growS_ren) Tryz.growS a 0 0 0 w (by omega) (by omega) (by omega) (by omega)
  refine Calls.mono (P := Tryz.prog) hc ?_
  rintro e w' ⟨rfl, rfl⟩
  exact ⟨_, .full [], h, I, μ, ob, rfl, R, .full [] a hp, fun _ h => h, fun _ _ _ => rfl, Nat.le_refl _, fun g hg => .inl hg, fun b g hb => .inl ⟨b, hb⟩, fun _ _ _ => rfl, rfl, rfl⟩

/-- slices.Concat of two empty lists. -/
theorem c29z {h : List AObj} (hK : h.map (AObj.kill h.length) = h) : AC Tryz.prog 66 [.p (.sl (wssV [[], []]))] h [] (fun v h' => v = .own h.length 0 ∧ h' = h ++ [.row 9 1 [] .lax]) := by
  refine AC.of_bodyE hΓ Tryz.func66 (by kernel_rfl) rfl (AWp.mono (Q := fun e st => AM.Ends e ∧ st.tmps.getD 2 .junk = .own h.length 0 ∧ st.h = h ++ [.row 9 1 [] .lax]) ?_ ?_)
  rotate_left
  · rintro e ⟨tm, h'⟩ ⟨he, h1, h2⟩
    simp only at h1 h2
    subst h2
    refine ⟨he, _, Less.refl _, ?_⟩
    unfold DoneE
    simp +contextual -implicitDefEqProofs only [Tryz.results66, h1, go_sem]
    exact ⟨h.length + 1, by omega, .inl (by simp), List.take_of_length_le (by simp)⟩
  have hw : wssV [[], []] = [.sl [], .sl []] := rfl
  rw [hw]
  refine AWp.of_awpD [] hΓ hmix (by kernel_rfl) ?_
  simp -implicitDefEqProofs only [Tryz.ntmps66, Nat.reduceAdd, Nat.reduceSub, go_sem]
  refine AWp.loopI (fun k : Nat => ⟨mkF 36 [(0, .p (.sl [.sl [], .sl []])), (2, .full []), (3, .p (.int .i64 (0 : Nat))), (9, .p (.sl [.sl [], .sl []])), (10, .p (.int .i64 2)), (11, .p (.int .i64 k))], h⟩)
    (fun k => k ≤ 2) (fun k => 2 - k) 0 (by simp [go_sem, weakH_self]) (by omega) ?_
  intro k hk
  refine AWp.of_awpD [] hΓ hmix (by kernel_rfl) ?_
  by_cases hlt : k < 2
  · have hlt' : (k : Int) < 2 := by omega
    have hg : ([PV.sl [], PV.sl []] : List PV).getD k default = .sl [] := by
      match k, hlt with
      | 0, _ => rfl
      | 1, _ => rfl
    have h6 : ¬ ((0 : Nat) : Int) + ((0 : Nat) : Int) < 0 := by omega
    simp -implicitDefEqProofs only [hlt', hg, Int.toNat_natCast, h6, ↓reduceIte, go_sem]
    exact ⟨by omega, by simp only [InR]; omega, by simp only [InR]; omega, k + 1, ⟨⟨by omega, by omega⟩, weakH_self _⟩, hlt, by omega⟩
  · have hlt' : ¬ (k : Int) < 2 := by omega
    simp -implicitDefEqProofs only [hlt', go_sem]
    refine callK_ac c61z (by simp) ?_
    rintro v h' ⟨rfl, rfl⟩
    have gL : ∀ o : AObj, (h' ++ [o])[h'.length]? = some o := fun o => by simp
    have sL : ∀ o o' : AObj, (h' ++ [o]).set h'.length o' = h' ++ [o'] := fun o o' => by simp
    simp -implicitDefEqProofs only [killAll, List.foldl, go_sem]
    refine AWp.adopt (l := []) 6 9 1 (by rfl) (by simp) ?_
    simp -implicitDefEqProofs only [go_sem]
    refine AWp.loopI (fun j : Nat => ⟨mkF 36 [(0, .p (.sl [.sl [], .sl []])), (6, .own h'.length 0), (25, .p (.sl [.sl [], .sl []])), (26, .p (.int .i64 2)), (27, .p (.int .i64 j))], h' ++ [.row 9 1 [] .lax]⟩)
      (fun j => j ≤ 2) (fun j => 2 - j) 0 (by simp [go_sem, weakH_self]) (by omega) ?_
    intro j hj
    refine AWp.of_awpD [] hΓ hmix (by kernel_rfl) ?_
    by_cases hlt2 : j < 2
    · have hlt2' : (j : Int) < 2 := by omega
      have hg : ([PV.sl [], PV.sl []] : List PV).getD j default = .sl [] := by
        match j, hlt2 with
        | 0, _ => rfl
        | 1, _ => rfl
      simp -implicitDefEqProofs only [hlt2', hg, Int.toNat_natCast, gL, sL, hK, List.append_nil, go_sem]
      refine ⟨by omega, ⟨by simp [sizeOK], by simp [oneOK]⟩, ⟨by omega, by omega⟩, by simp only [InR]; omega, j + 1, ⟨by omega, ?_⟩, by omega, by omega⟩
      simp only [List.map_append, hK, List.map_cons, List.map_nil, sL, List.isEmpty_nil, ↓reduceIte]
      exact weakH_self _
    · have hlt2' : ¬ (j : Int) < 2 := by omega
      simp -implicitDefEqProofs only [hlt2', go_sem]

/-- slices.Concat of two lists. -/
theorem c29b {h : List AObj} (hK : h.map (AObj.kill h.length) = h) (A B : List (List UInt8)) (hn : (A ++ B).length ≤ 1000000) :
    AC Tryz.prog 66 [.p (.sl (wssV [A, B]))] h [] (fun v h' => ∃ rk, rk ≠ .raw ∧ v = .own h.length (A ++ B).length ∧ h' = h ++ [.row 9 1 ((A ++ B).map .str) rk]) := by
  have hf : [A, B].flatten = A ++ B := by simp
  by_cases h0 : 0 < (A ++ B).length
  · have hc := c29 hK [A, B] (by rw [hf]; exact h0) (by rw [hf]; exact hn) (by simp)
    rw [hf] at hc
    exact hc.monoR fun v h' ⟨h1, h2⟩ => ⟨.own, by simp, h1, h2⟩
  · have hA : A = [] := List.length_eq_zero_iff.1 (by rw [List.length_append] at h0; omega)
    have hB : B = [] := List.length_eq_zero_iff.1 (by rw [List.length_append] at h0; omega)
    subst hA hB
    exact (c29z hK).monoR fun v h' ⟨h1, h2⟩ => ⟨.lax, by simp, h1, h2⟩

/-- slices.Contains of numbers. -/
theorem cm60 (a : List Int) (x : Int) (hl : a.length ≤ 9223372036854775807) : PFn Tryz.prog 60 [.sl (a.map Kn.iV), .int .i64 x] [.int .i64 (if x ∈ a then (a.idxOf x : Int) else -1)] := by
  refine PFn.of_body hΓ Tryz.func60 (by kernel_rfl) rfl (AWp.of_awpD [] hΓ hmix (by kernel_rfl) ?_)
  simp -implicitDefEqProofs only [Tryz.ntmps60, Tryz.results60, Nat.reduceAdd, Nat.reduceSub, go_sem]
  refine AWp.loopI (fun k : Nat => ⟨mkF 19 [(0, .p (.sl (a.map Kn.iV))), (1, .p (.int .i64 x)), (7, .p (.int .i64 a.length)), (8, .p (.int .i64 k))], []⟩)
    (fun k => k ≤ a.length ∧ x ∉ a.take k) (fun k => a.length - k) 0 (by simp [go_sem, weakH_self]) (by simp) ?_
  rintro k ⟨hk, h0⟩
  refine AWp.of_awpD [] hΓ hmix (by kernel_rfl) ?_
  by_cases hlt : k < a.length
  · have hlt' : (k : Int) < (a.length : Int) := by omega
    have hg : (a.map Kn.iV).getD k default = .int .i64 a[k] := by rw [getD_map_lt _ _ _ _ hlt]; rfl
    have htk : a.take (k + 1) = a.take k ++ [a[k]] := by rw [List.take_succ_eq_append_getElem hlt]
    by_cases he : x = a[k]
    · simp -implicitDefEqProofs only [hlt', hg, Int.toNat_natCast, he, List.length_map, go_sem]
      have hx : x ∈ a := he ▸ List.getElem_mem hlt
      have hi : a.idxOf x = k := by
        conv => lhs; rw [← List.take_append_drop k a, List.idxOf_append, if_neg h0]
        rw [List.drop_eq_getElem_cons hlt, he, List.idxOf_cons_self, List.length_take]
        omega
      rw [← he, if_pos hx, hi]
    · simp -implicitDefEqProofs only [hlt', hg, Int.toNat_natCast, he, List.length_map, go_sem]
      have h2 : x ∉ a.take (k + 1) := by
        rw [htk]; simp only [List.mem_append, List.mem_singleton]
        exact fun h => h.elim h0 he
      exact ⟨by simp only [InR]; omega, k + 1, by simp [weakH_self], ⟨hlt, h2⟩, by omega⟩
  · have hlt' : ¬ (k : Int) < (a.length : Int) := by omega
    simp -implicitDefEqProofs only [hlt', List.length_map, go_sem]
    rw [List.take_of_length_le (by omega)] at h0
    rw [if_neg h0]
theorem cm16 (a : List Int) (x : Int) (hl : a.length ≤ 9223372036854775807) : PFn Tryz.prog 16 [.sl (a.map Kn.iV), .int .i64 x] [.bool (decide (x ∈ a))] := by
  have e := cm60 a x hl
  by_cases hx : x ∈ a
  · rw [if_pos hx] at e
    refine PFn.of_body hΓ Tryz.func16 (by kernel_rfl) rfl (AWp.of_awpD [] hΓ hmix (by kernel_rfl) ?_)
    simp -implicitDefEqProofs only [Tryz.ntmps16, Tryz.results16, Nat.reduceAdd, Nat.reduceSub, go_sem]
    refine callK_fn e (.pures rfl) ?_
    simp -implicitDefEqProofs only [hx, go_sem]
    try simp
  · rw [if_neg hx] at e
    refine PFn.of_body hΓ Tryz.func16 (by kernel_rfl) rfl (AWp.of_awpD [] hΓ hmix (by kernel_rfl) ?_)
    simp -implicitDefEqProofs only [Tryz.ntmps16, Tryz.results16, Nat.reduceAdd, Nat.reduceSub, go_sem]
    refine callK_fn e (.pures rfl) ?_
    simp -implicitDefEqProofs only [hx, go_sem]
    try simp

/-- Prune: whether an index is out of range. -/
def outR (ws : List (List UInt8)) (k : Int) : Bool := decide (k < 0) || decide ((ws.length : Int) ≤ k)
theorem c72 {h : List AObj} {b : Nat} (q : Int) (ws : List (List UInt8)) (k : Int) (hb : h[b]? = some (codeB q ws)) :
    AC Tryz.prog 72 [.p (.int .i64 k), .ptr b 0] h [] (fun v h' => v = .p (.bool (outR ws k)) ∧ h' = h) := by
  refine AC.of_bodyE hΓ Tryz.func72 (by kernel_rfl) rfl (AWp.mono (Q := fun e st => AM.Ends e ∧ st.tmps.getD 3 .junk = .p (.bool (outR ws k)) ∧ st.h = h) ?_ ?_)
  rotate_left
  · rintro e ⟨tm, h'⟩ ⟨he, h1, h2⟩
    simp only at h1 h2
    subst h2
    refine ⟨he, _, Less.refl _, ?_⟩
    unfold DoneE
    simp +contextual -implicitDefEqProofs only [Tryz.results72, h1, go_sem]
    exact ⟨_, Nat.le_refl _, .inl rfl, List.take_length⟩
  unfold outR
  unfold codeB at hb
  refine AWp.of_awpD [(1, 3)] hΓ hmix (by kernel_rfl) ?_
  by_cases h1 : k < 0
  · simp -implicitDefEqProofs only [Tryz.ntmps72, Nat.reduceAdd, Nat.reduceSub, hb, h1, go_sem]
    try simp [h1]
  · simp -implicitDefEqProofs only [Tryz.ntmps72, Nat.reduceAdd, Nat.reduceSub, hb, h1, List.length_map, go_sem]
    try simp [h1]
end Go.Proofs.YtjjedaikbgfmmaaGreat
end

section
namespace Go.Proofs.YtjjedaikbgfmmaaGreat
open Go Go.AM Go.RowKit
set_option maxRecDepth 100000
set_option linter.unusedSimpArgs false

theorem k81 (a b : ByteArray) (w : World) : Calls Tryz.prog 111 #[.string a, .string b] w fun e w' => e = .returned (.int .i64 (cmpK a.data.toList b.data.toList)) ∧ ∃ q os, w' = Sort.grow (w.drewN q) os := by
  have hc1 := k103
  have hc2 := k104
  have hc3 := k102
  go_enter Tryz.func111, Tryz.ntmps111
  go_wp2_with (first | (go_at_call 56; refine (hc1 _ _ _).mono ?_; rintro e w' ⟨rfl, rfl⟩) | (go_at_call 148; refine (hc2 _ _ _).mono ?_; rintro e w' ⟨rfl, rfl⟩) | (go_at_call 147; refine (hc3 _ _ _ _ _ (newCells _ _ _ _ _ rfl) (newCells _ _ _ _ _ rfl)).mono ?_; rintro e w' ⟨rfl, rfl⟩))
  all_goals go_ret
  all_goals have e1 : ∀ x : ByteArray, x.data.toList.length = x.size := fun x => by simp
  · refine ⟨congrArg (fun n => Ending.returned (Value.int .i64 n)) ?_, 0, #[_], by rw [Sort.alloc_eq_grow]; rfl⟩
    have hs : a.size = b.size := by
      rcases Nat.lt_trichotomy a.size b.size with g | g | g
      · rw [if_pos g] at h; cases h
      · exact g
      · rw [if_neg (by omega), if_pos g] at h; cases h
    unfold cmpK
    simp only [e1, hs]
    rw [if_pos (by simp)]
  · refine ⟨congrArg (fun n => Ending.returned (Value.int .i64 n)) ?_, 0, #[_], by rw [Sort.alloc_eq_grow]; rfl⟩
    unfold cmpK
    simp only [e1]
    rw [if_pos (show (a.size : Int) < b.size by omega)]; rfl
  · refine ⟨congrArg (fun n => Ending.returned (Value.int .i64 n)) ?_, 0, #[_], by rw [Sort.alloc_eq_grow]; rfl⟩
    unfold cmpK
    simp only [e1]
    rw [if_neg (show ¬ (a.size : Int) < b.size by omega), if_pos (show (b.size : Int) < a.size by omega)]; rfl
theorem sort_calls81 (d : List (List UInt8)) (blk off cap : Nat) (w : World) (hH : Sort.Holds encW w blk off d.toArray) (hblk : blk < w.heap.size) (hsz : d.length < 4611686018427387904) :
    Calls Tryz.prog 106 #[.slice (some ⟨blk, off, none⟩) d.length cap, .func (.func 111) #[] #[]] w fun e w' => e = .returned (.tuple #[]) ∧ ∃ n os, w' = sortWorld encW w blk off n (sortW d).toArray os := by
  have eg : ∀ args w, (callFunc 111 args).run Tryz.prog w = .ok (.enter 111 args) w := entersF_of Tryz.func111 (by kernel_rfl) rfl
  have hcmp : CmpLays1 Tryz.prog 111 #[] encW cmpK blk off d.toArray.size w := fun m os dk _ x y => k81 ⟨x.toArray⟩ ⟨y.toArray⟩ _
  have h := Any.slices_SortFunc_total Tryz.sortS encW (fun _ => rfl) cmpK swoW 111 #[] blk off cap d.toArray w eg hcmp hH hblk (by simpa using hsz) (fun x y h1 h2 => ltW_total ((ltOf_false x y).1 h1) ((ltOf_false y x).1 h2))
  exact h
theorem c83b {h : List AObj} {b : Nat} (l : List (List UInt8)) (hb : h[b]? = some (.row 9 1 (l.map .str) .own)) (hsz : l.length ≤ 1000000) :
    AC Tryz.prog 106 [.own b l.length, .fn 111 []] h [] (fun v h' => v = .tup [] ∧ h' = h.set b (.row 9 1 ((sortW l).map .str) .own)) := c83_of sort_calls81 l hb hsz
end Go.Proofs.YtjjedaikbgfmmaaGreat
end

