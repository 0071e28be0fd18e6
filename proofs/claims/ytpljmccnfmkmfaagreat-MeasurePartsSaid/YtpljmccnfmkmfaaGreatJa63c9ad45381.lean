/-
  slices.ContainsFunc of numbers; measure.Kraft, Fits.
  What the chapter's texts stand on.
  completion.missing.
  The weight of a uniquely decodable code is at most 1: plain.
  A code whose messages have all words as parts weighs at least 1: plain.
  Parts of messages: what a machine that reads letter by letter knows of them. Plain.
  slices.AppendSeq over the ends of a word.
-/
import Derived.Test.YtpljmccnfmkmfaaGreatJ65d1e45f9173
import Derived.Test.YtpljmccnfmkmfaaGreatJ71f3c0694684
import Derived.Test.YtpljmccnfmkmfaaGreatJ3c93f543af5a
import Derived.Test.YtpljmccnfmkmfaaGreatJa272d51661b3
import Derived.Test.YtpljmccnfmkmfaaGreatJ5a034ce207fe
import Derived.Test.YtpljmccnfmkmfaaGreatJ71936c369bef
import Derived.Test.YtpljmccnfmkmfaaGreatJ97aa825dd01f

section
namespace Go.Proofs.YtpljmccnfmkmfaaGreat.Kn
open Go Go.AM
set_option maxRecDepth 100000
set_option linter.unusedSimpArgs false

def iV (n : Int) : PV := .int .i64 n
theorem c92 {h : List AObj} {g : FuncId} {caps : List AV} {pr : Int → Bool} (ws : List Int) (hl : ws.length ≤ 9223372036854775807)
    (hg : ∀ w ∈ ws, AC Tryz.prog g (.p (.int .i64 w) :: caps) h [] (fun v h' => v = .p (.bool (pr w)) ∧ h' = h)) :
    AC Tryz.prog 137 [.p (.sl (ws.map iV)), .fn g caps] h [] (fun v h' => (∃ i : Int, v = .p (.int .i64 i) ∧ decide (0 ≤ i) = ws.any pr) ∧ h' = h) := by
  refine AC.of_bodyE hΓ Tryz.func137 (by kernel_rfl) rfl (AWp.mono (Q := fun e st => AM.Ends e ∧ (∃ i : Int, st.tmps.getD 4 .junk = .p (.int .i64 i) ∧ decide (0 ≤ i) = ws.any pr) ∧ st.h = h) ?_ ?_)
  rotate_left
  · rintro e ⟨tm, h'⟩ ⟨he, ⟨i, h1, h3⟩, h2⟩
    simp only at h1 h2
    subst h2
    refine ⟨he, _, Less.refl _, ?_⟩
    unfold DoneE
    simp +contextual -implicitDefEqProofs only [Tryz.results137, h1, go_sem]
    exact ⟨_, Nat.le_refl _, .inl rfl, ⟨i, rfl, h3⟩, List.take_length⟩
  refine AWp.of_awpD [] hΓ hmix (by kernel_rfl) ?_
  simp +contextual -implicitDefEqProofs only [Tryz.ntmps137, Nat.reduceAdd, Nat.reduceSub, go_sem]
  refine AWp.loopI (fun k : Nat => ⟨mkF 19 [(0, .p (.sl (ws.map iV))), (1, .fn g caps), (7, .p (.int .i64 ws.length)), (8, .p (.int .i64 k))], h⟩)
    (fun k => k ≤ ws.length ∧ (ws.take k).any pr = false) (fun k => ws.length - k) 0 (by simp [go_sem, weakH_self]) (by simp) ?_
  rintro k ⟨hk, h0⟩
  refine AWp.of_awpD [] hΓ hmix (by kernel_rfl) ?_
  by_cases hlt : k < ws.length
  · have hgk : (ws.map iV).getD k default = .int .i64 ws[k] := by rw [getD_map_lt _ _ _ _ hlt]; rfl
    simp -implicitDefEqProofs only [List.length_map, hlt, hgk, Int.toNat_natCast, go_sem]
    refine callK_ac (hg ws[k] (List.getElem_mem hlt)) (by simp) ?_
    rintro v h' ⟨rfl, rfl⟩
    cases hp : pr ws[k]
    · simp -implicitDefEqProofs only [killAll, List.foldl, go_sem]
      refine ⟨by simp only [InR]; omega, k + 1, by simp [weakH_self], ⟨hlt, ?_⟩, by omega⟩
      rw [List.take_succ_eq_append_getElem hlt, List.any_append, h0]; simp [hp]
    · simp -implicitDefEqProofs only [killAll, List.foldl, go_sem]
      refine ⟨k, rfl, ?_⟩
      rw [List.any_eq_true.2 ⟨_, List.getElem_mem hlt, hp⟩]; simp
  · simp -implicitDefEqProofs only [hlt, go_sem]
    exact ⟨-1, rfl, by rw [List.take_of_length_le (by omega)] at h0; rw [h0]; rfl⟩

theorem c48 {h : List AObj} {g : FuncId} {caps : List AV} {pr : Int → Bool} (ws : List Int) (hl : ws.length ≤ 9223372036854775807)
    (hg : ∀ w ∈ ws, AC Tryz.prog g (.p (.int .i64 w) :: caps) h [] (fun v h' => v = .p (.bool (pr w)) ∧ h' = h)) :
    AC Tryz.prog 70 [.p (.sl (ws.map iV)), .fn g caps] h [] (fun v h' => v = .p (.bool (ws.any pr)) ∧ h' = h) := by
  refine AC.of_bodyE hΓ Tryz.func70 (by kernel_rfl) rfl (AWp.mono (Q := fun e st => AM.Ends e ∧ st.tmps.getD 4 .junk = .p (.bool (ws.any pr)) ∧ st.h = h) ?_ ?_)
  rotate_left
  · rintro e ⟨tm, h'⟩ ⟨he, h1, h2⟩
    simp only at h1 h2
    subst h2
    refine ⟨he, _, Less.refl _, ?_⟩
    unfold DoneE
    simp +contextual -implicitDefEqProofs only [Tryz.results70, h1, go_sem]
    exact ⟨_, Nat.le_refl _, .inl rfl, List.take_length⟩
  refine AWp.of_awpD [] hΓ hmix (by kernel_rfl) ?_
  simp +contextual -implicitDefEqProofs only [Tryz.ntmps70, Nat.reduceAdd, Nat.reduceSub, go_sem]
  refine callK_ac (c92 ws hl hg) (by simp) ?_
  rintro v h' ⟨⟨i, rfl, hi⟩, rfl⟩
  simp -implicitDefEqProofs only [killAll, List.foldl, go_sem]
  exact hi

def badL (n : Int) : Bool := decide (n < 1) || decide (32 < n)
theorem v93 (n : Int) : PFn Tryz.prog 97 [.int .i64 n] [.bool (badL n)] := by
  unfold badL
  refine PFn.of_body hΓ Tryz.func97 (by kernel_rfl) rfl (AWp.of_awpD [] hΓ hmix (by kernel_rfl) ?_)
  by_cases h1 : n < 1
  · simp -implicitDefEqProofs only [Tryz.ntmps97, Tryz.results97, Nat.reduceAdd, Nat.reduceSub, h1, go_sem]
    try simp [h1]
  · simp -implicitDefEqProofs only [Tryz.ntmps97, Tryz.results97, Nat.reduceAdd, Nat.reduceSub, h1, go_sem]
    try simp [h1]
theorem c93a {h : List AObj} (n : Int) : AC Tryz.prog 97 [.p (.int .i64 n)] h [] (fun v h' => v = .p (.bool (badL n)) ∧ h' = h) := by
  have := AC.of_fn (h := h) (v93 n) (args := [.p (.int .i64 n)]) (.inl rfl)
  exact this
theorem v48 (ws : List Int) (hl : ws.length ≤ 9223372036854775807) {h : List AObj} : AC Tryz.prog 70 [.p (.sl (ws.map iV)), .fn 97 []] h [] (fun v h' => v = .p (.bool (ws.any badL)) ∧ h' = h) :=
  c48 ws hl fun w _ => c93a w

theorem v58 : PFn Tryz.prog 91 [] [ratV 1 1] := by
  have e1 := u34 1 (by omega)
  have e2 := v52 1 one_cap
  refine PFn.of_body hΓ Tryz.func91 (by kernel_rfl) rfl (AWp.of_awpD [] hΓ hmix (by kernel_rfl) ?_)
  simp -implicitDefEqProofs only [Tryz.ntmps91, Tryz.results91, Nat.reduceAdd, Nat.reduceSub, go_sem]
  refine callK_fn e1 (.pures rfl) ?_
  simp -implicitDefEqProofs only [go_sem]
  refine callK_fn e2 (.pures rfl) ?_
  simp -implicitDefEqProofs only [ratV, go_sem]

def krS (q : Nat) (l : List Nat) : Nat := (l.map fun n => q ^ (32 - n)).sum
theorem krS_nil (q : Nat) : krS q [] = 0 := rfl
theorem krS_snoc (q : Nat) (l : List Nat) (n : Nat) : krS q (l ++ [n]) = krS q l + q ^ (32 - n) := by simp [krS]
theorem pow_le16 {q n : Nat} (h : q ≤ 16) : q ^ (32 - n) ≤ 16 ^ 32 := Nat.le_trans (Nat.pow_le_pow_left h _) (Nat.pow_le_pow_right (by decide) (by omega))
theorem krS_le {q : Nat} (hq : q ≤ 16) : ∀ l : List Nat, krS q l ≤ l.length * 16 ^ 32
  | [] => Nat.zero_le _
  | n :: l => by
    have ih := krS_le hq l
    have h1 := pow_le16 (q := q) (n := n) hq
    have e : krS q (n :: l) = q ^ (32 - n) + krS q l := by simp [krS]
    rw [e, List.length_cons, Nat.succ_mul]
    omega
theorem krS_cap {q : Nat} (hq : q ≤ 16) {l : List Nat} (hl : l.length ≤ 4096) : krS q l < capN := by
  have h1 := krS_le hq l
  have h2 : l.length * 16 ^ 32 ≤ 4096 * 16 ^ 32 := Nat.mul_le_mul_right _ hl
  have h3 : 4096 * 16 ^ 32 < capN := cap_of (n := 4096 * 16 ^ 32) (k := 18) (by decide) (by decide)
  omega
theorem q32_cap {q : Nat} (hq : q ≤ 16) : q ^ 32 < capN := by
  have h1 := pow_le16 (q := q) (n := 0) hq
  have h3 : 16 ^ 32 < capN := cap_of (n := 16 ^ 32) (k := 17) (by decide) (by decide)
  rw [Nat.sub_zero] at h1
  omega
def nV (n : Nat) : PV := .int .i64 (n : Int)
theorem v50 (q : Nat) (ns : List Nat) (hq2 : 2 ≤ q) (hq : q ≤ 16) (hl : ns.length ≤ 4096) (hn : ∀ n ∈ ns, 1 ≤ n ∧ n ≤ 32) : PFn Tryz.prog 47 [.int .i64 q, .sl (ns.map nV)] [ratV (krS q ns) (q ^ 32), .int .i64 0] := by
  have hq1 : ¬ (q : Int) < 2 := by omega
  have hq3 : ¬ (16 : Int) < (q : Int) := by omega
  have hl' : ¬ (4096 : Int) < (ns.length : Int) := by omega
  have hmap : (ns.map nV) = (ns.map fun n : Nat => (n : Int)).map iV := by rw [List.map_map]; rfl
  have hany : (ns.map fun n : Nat => (n : Int)).any badL = false := by
    rw [List.any_eq_false]
    intro x hx
    obtain ⟨n, hn', rfl⟩ := List.mem_map.1 hx
    have := hn n hn'
    unfold badL
    simp only [Bool.or_eq_true, decide_eq_true_eq]
    omega
  have hc := v48 (ns.map fun n : Nat => (n : Int)) (by simp; omega) (h := [.box [.p (.bool false), .p (.str []), .p (.bool false), .p (.str [])]])
  rw [← hmap, hany] at hc
  have eq := u34 q (by omega)
  have e32 := v94 q 32 (by omega) hq (by omega)
  have enew := v96 (krS q ns) (q ^ 32) (krS_cap hq hl) (q32_cap hq) (Nat.ne_of_gt (Nat.pow_pos (by omega)))
  refine PFn.of_body hΓ Tryz.func47 (by kernel_rfl) rfl (AWp.of_awpD [] hΓ hmix (by kernel_rfl) ?_)
  simp -implicitDefEqProofs only [Tryz.ntmps47, Tryz.results47, Nat.reduceAdd, Nat.reduceSub, hq1, hq3, List.length_map, hl', go_sem]
  refine callK_ac hc (by simp) ?_
  rintro v h' ⟨rfl, rfl⟩
  simp -implicitDefEqProofs only [killAll, List.foldl, go_sem]
  refine AWp.loopJ (fun i : Nat => ⟨mkF 59 [(0, .p (.int .i64 q)), (4, .ptr 0 0), (6, .ptr 1 0), (30, .p (.sl (ns.map nV))), (31, .p (.int .i64 ns.length)), (32, .p (.int .i64 i))], [.box [.p (.bool false), .p (.str []), .p (.bool false), .p (.str [])], .box [.p (.bool false), .p (.str (magB (krS q (ns.take i))))]]⟩)
    (fun i => i ≤ ns.length) (fun i => ns.length - i) 0 (fun i => ⟨by simp, by simp [mkF, AV.blw, AV.blw.blwL], by simp [blwH, AObj.blw, AV.blw, AV.blw.blwL]⟩) (by simp [go_sem, krS_nil, magB_zero]) (by simp) ?_
  rintro i hi
  refine AWp.of_awpD [] hΓ hmix (by kernel_rfl) ?_
  by_cases hlt : i < ns.length
  · have hlt' : (i : Int) < (ns.length : Int) := by omega
    have hni := hn ns[i] (List.getElem_mem hlt)
    have hgi : (ns.map nV).getD i default = .int .i64 (ns[i] : Int) := getD_map_lt _ _ _ _ hlt
    have hsub : (32 : Int) - (ns[i] : Int) = ((32 - ns[i] : Nat) : Int) := by omega
    have ep := v94 q (32 - ns[i]) (by omega) hq (by omega)
    have htk : ns.take (i + 1) = ns.take i ++ [ns[i]] := List.take_succ_eq_append_getElem hlt
    have hcap1 := krS_cap hq (l := ns.take i) (by rw [List.length_take]; omega)
    have hp16 := pow_le16 (q := q) (n := ns[i]) hq
    have hcap2 : q ^ (32 - ns[i]) < capN := Nat.lt_of_le_of_lt hp16 (cap_of (n := 16 ^ 32) (k := 17) (by decide) (by decide))
    have ea := u89 (krS q (ns.take i)) (q ^ (32 - ns[i])) hcap1 hcap2
    rw [← krS_snoc, ← htk] at ea
    simp -implicitDefEqProofs only [hlt', hgi, Int.toNat_natCast, go_sem]
    refine callK_fn eq (.pures rfl) ?_
    simp -implicitDefEqProofs only [hsub, intN_pos, go_sem]
    refine ⟨by simp only [InR]; omega, callK_fn ep (.pures rfl) ?_⟩
    simp -implicitDefEqProofs only [intN_pos, go_sem]
    refine callK_fn ea (.still rfl) ?_
    simp -implicitDefEqProofs only [intN_pos, go_sem]
    exact ⟨by simp only [InR]; omega, i + 1, ⟨by simp, rfl⟩, hlt, by omega⟩
  · have hlt' : ¬ (i : Int) < (ns.length : Int) := by omega
    have : i = ns.length := by omega
    subst this
    rw [List.take_length]
    simp -implicitDefEqProofs only [hlt', Int.lt_irrefl, Nat.lt_irrefl, go_sem]
    refine callK_fn eq (.pures rfl) ?_
    simp -implicitDefEqProofs only [intN_pos, go_sem]
    refine callK_fn e32 (.still rfl) ?_
    simp -implicitDefEqProofs only [intN_pos, go_sem]
    refine callK_fn enew (.still rfl) ?_
    simp -implicitDefEqProofs only [ratV, go_sem]
end Go.Proofs.YtpljmccnfmkmfaaGreat.Kn
end

section
namespace Go.Proofs.YtpljmccnfmkmfaaGreat
end Go.Proofs.YtpljmccnfmkmfaaGreat
end

section
namespace Go.Proofs.YtpljmccnfmkmfaaGreat
open Go Go.AM Go.RowKit
set_option maxRecDepth 100000
set_option maxHeartbeats 4000000
set_option linter.unusedSimpArgs false

def letA (a : Nat) : UInt8 := L16.getD a 0
def begB (ws : List (List UInt8)) (x : List UInt8) : Bool := ws.any fun y => x.isPrefixOf y
def missA (ws : List (List UInt8)) (p : List UInt8) (a : Nat) : List (List UInt8) := if begB ws (p ++ [letA a]) = true then [] else [p ++ [letA a]]
def missP (ws : List (List UInt8)) (p : List UInt8) (k : Nat) : List (List UInt8) := (List.range k).flatMap (missA ws p)
def missW (q : Nat) (ws : List (List UInt8)) (w : List UInt8) (n : Nat) : List (List UInt8) := (List.range n).flatMap fun m => missP ws (w.take m) q
def missL (q : Nat) (ws : List (List UInt8)) (i : Nat) : List (List UInt8) := (List.range i).flatMap fun j => missW q ws (ws.getD j []) (ws.getD j []).length
def missing (q : Nat) (ws : List (List UInt8)) : List (List UInt8) := made (missL q ws ws.length)

def rkOf (l : List (List UInt8)) : RK := if l = [] then .lax else .own
theorem rkOf_snoc (l : List (List UInt8)) (x : List UInt8) : rkOf (l ++ [x]) = .own := by unfold rkOf; rw [if_neg (by simp)]
end Go.Proofs.YtpljmccnfmkmfaaGreat
end

section
namespace Go.Mc
set_option linter.unusedSimpArgs false

abbrev W := List UInt8

def tl1 (b : UInt8) : W → List W
  | [] => []
  | c :: y => if c = b then [y] else []
theorem tl1_cons (b c : UInt8) (y : W) : tl1 b (c :: y) = if c = b then [y] else [] := rfl
def tails (b : UInt8) (l : List W) : List W := l.flatMap (tl1 b)
theorem mem_tails {b : UInt8} {l : List W} {y : W} : y ∈ tails b l ↔ b :: y ∈ l := by
  unfold tails
  rw [List.mem_flatMap]
  constructor
  · rintro ⟨x, hx, hy⟩
    cases x with
    | nil => cases hy
    | cons c z =>
      rw [tl1_cons] at hy
      split at hy
      · rename_i h
        rw [List.mem_singleton] at hy
        subst h hy; exact hx
      · cases hy
  · intro h
    exact ⟨_, h, by rw [tl1_cons, if_pos rfl]; exact List.mem_singleton.2 rfl⟩
def tup (X : List W) : Nat → List (List W)
  | 0 => [[]]
  | m + 1 => X.flatMap fun w => (tup X m).map (w :: ·)
end Go.Mc
end

section
namespace Go.Mc
set_option linter.unusedSimpArgs false

section
variable {A : List UInt8} {n : UInt8 → Nat} {X : List W} {L : Nat}
end
end Go.Mc
end

section
namespace Go.Mc
set_option linter.unusedSimpArgs false
set_option linter.unusedVariables false

def Part (X : List W) (w : W) : Prop := ∃ (a : List W) (p s : W), (∀ x ∈ a, x ∈ X) ∧ p ++ w ++ s = a.flatten
def ends (w : W) : List W := (List.range (w.length + 1)).map fun k => w.drop k
theorem mem_ends {w x : W} : x ∈ ends w ↔ x <:+ w := by
  unfold ends
  rw [List.mem_map]
  constructor
  · rintro ⟨k, _, rfl⟩
    exact List.drop_suffix k w
  · rintro ⟨p, rfl⟩
    exact ⟨p.length, List.mem_range.2 (by rw [List.length_append]; omega), List.drop_left⟩
def begL (X : List W) : List W := X.flatMap ends
def rdS (X S : List W) (c : UInt8) : List W := tails c S ++ if [] ∈ S then tails c X else []
def runSt (can : List W → List W) (X : List W) (w : W) : List W := w.foldl (fun S c => can (rdS X S c)) (can (begL X))
theorem runSt_snoc (can : List W → List W) (X : List W) (w : W) (c : UInt8) : runSt can X (w ++ [c]) = can (rdS X (runSt can X w) c) := by
  unfold runSt; rw [List.foldl_append]; rfl
theorem rev_ind {P : W → Prop} (h0 : P []) (h1 : ∀ w c, P w → P (w ++ [c])) (w : W) : P w := by
  have : ∀ n (w : W), w.length = n → P w := by
    intro n
    induction n with
    | zero => intro w hw; rw [List.length_eq_zero_iff.1 hw]; exact h0
    | succ n ih =>
      intro w hw
      have hne : w ≠ [] := fun e => by rw [e] at hw; simp at hw
      rw [← List.dropLast_concat_getLast hne]
      exact h1 _ _ (ih _ (by rw [List.length_dropLast, hw]; rfl))
  exact this _ w rfl
section
variable {can : List W → List W} (hcan : ∀ l x, x ∈ can l ↔ x ∈ l) {X : List W}
include hcan
theorem run_sound : ∀ (w r : W), r ∈ runSt can X w → ∃ (a : List W) (p : W), (∀ x ∈ a, x ∈ X) ∧ p ++ w ++ r = a.flatten := by
  intro w
  refine rev_ind (P := fun w => ∀ r, r ∈ runSt can X w → ∃ (a : List W) (p : W), (∀ x ∈ a, x ∈ X) ∧ p ++ w ++ r = a.flatten) ?_ ?_ w
  · intro r hr
    obtain ⟨x, hx, h⟩ := List.mem_flatMap.1 ((hcan _ _).1 hr)
    obtain ⟨p, h⟩ := mem_ends.1 h
    exact ⟨[x], p, fun y hy => by rw [List.mem_singleton.1 hy]; exact hx, by simp [h]⟩
  · intro w c ih r hr
    rw [runSt_snoc, hcan] at hr
    unfold rdS at hr
    rcases List.mem_append.1 hr with h | h
    · obtain ⟨a, p, h1, h2⟩ := ih _ (mem_tails.1 h)
      exact ⟨a, p, h1, by rw [← h2]; simp⟩
    · split at h
      · rename_i h0
        obtain ⟨a, p, h1, h2⟩ := ih _ h0
        refine ⟨a ++ [c :: r], p, fun x hx => ?_, by rw [List.flatten_append, ← h2]; simp⟩
        rcases List.mem_append.1 hx with hx | hx
        · exact h1 x hx
        · rw [List.mem_singleton.1 hx]; exact mem_tails.1 h
      · cases h
theorem run_compl (hne : ∀ x ∈ X, x ≠ []) (hX : X ≠ []) : ∀ (w s : W) (a : List W) (p : W), (∀ x ∈ a, x ∈ X) → p ++ w ++ s = a.flatten → ∃ (r : W) (b : List W), r ∈ runSt can X w ∧ (∀ x ∈ b, x ∈ X) ∧ s = r ++ b.flatten := by
  intro w
  refine rev_ind (P := fun w => ∀ (s : W) (a : List W) (p : W), (∀ x ∈ a, x ∈ X) → p ++ w ++ s = a.flatten → ∃ (r : W) (b : List W), r ∈ runSt can X w ∧ (∀ x ∈ b, x ∈ X) ∧ s = r ++ b.flatten) ?_ ?_ w
  · intro s a
    induction a generalizing s with
    | nil =>
      intro p _ h
      have : s = [] := (List.append_eq_nil_iff.1 h).2
      subst this
      cases X with
      | nil => exact absurd rfl hX
      | cons x X => exact ⟨[], [], (hcan _ _).2 (List.mem_flatMap.2 ⟨x, by simp, mem_ends.2 (List.nil_suffix)⟩), by simp, by simp⟩
    | cons x a ih =>
      intro p ha h
      rw [List.append_nil, List.flatten_cons] at h
      rcases List.append_eq_append_iff.1 h with ⟨u, h1, h2⟩ | ⟨u, h1, h2⟩
      · exact ⟨u, a, (hcan _ _).2 (List.mem_flatMap.2 ⟨x, ha x (by simp), mem_ends.2 ⟨p, h1.symm⟩⟩), fun y hy => ha y (by simp [hy]), h2⟩
      · exact ih s u (fun y hy => ha y (by simp [hy])) (by rw [List.append_nil]; exact h2.symm)
  · intro w c ih s a p ha h
    obtain ⟨r, b, h1, h2, h3⟩ := ih (c :: s) a p ha (by rw [← h]; simp)
    rw [runSt_snoc]
    cases r with
    | cons d r =>
      rw [List.cons_append] at h3
      injection h3 with h4 h5
      subst h4
      exact ⟨r, b, (hcan _ _).2 (List.mem_append_left _ (mem_tails.2 h1)), h2, h5⟩
    | nil =>
      cases b with
      | nil => simp at h3
      | cons x b =>
        have hx := h2 x (by simp)
        cases x with
        | nil => exact absurd rfl (hne _ hx)
        | cons d x =>
          rw [List.nil_append, List.flatten_cons, List.cons_append] at h3
          injection h3 with h4 h5
          subst h4
          refine ⟨x, b, (hcan _ _).2 (List.mem_append_right _ ?_), fun y hy => h2 y (by simp [hy]), h5⟩
          rw [if_pos h1]
          exact mem_tails.2 hx
theorem run_iff (hne : ∀ x ∈ X, x ≠ []) (hX : X ≠ []) (w : W) : runSt can X w ≠ [] ↔ Part X w := by
  constructor
  · intro h
    obtain ⟨r, hr⟩ := List.exists_mem_of_ne_nil _ h
    obtain ⟨a, p, h1, h2⟩ := run_sound hcan w r hr
    exact ⟨a, p, r, h1, h2⟩
  · rintro ⟨a, p, s, h1, h2⟩ he
    obtain ⟨r, b, h3, _⟩ := run_compl hcan hne hX w s a p h1 h2
    rw [he] at h3; cases h3
end
theorem part_infix {X : List W} {v w : W} (h : v <:+: w) (hw : Part X w) : Part X v := by
  obtain ⟨q, t, rfl⟩ := h
  obtain ⟨a, p, s, h1, h2⟩ := hw
  exact ⟨a, p ++ q, t ++ s, h1, by rw [← h2]; simp⟩
theorem part_msg {X : List W} {a : List W} (h : ∀ x ∈ a, x ∈ X) : Part X a.flatten := ⟨a, [], [], h, by simp⟩
theorem part_rev {X Y : List W} (h : ∀ x ∈ X, x.reverse ∈ Y) {w : W} (hw : Part X w) : Part Y w.reverse := by
  obtain ⟨a, p, s, h1, h2⟩ := hw
  refine ⟨(a.map List.reverse).reverse, s.reverse, p.reverse, fun x hx => ?_, ?_⟩
  · obtain ⟨y, hy, rfl⟩ := List.mem_map.1 (List.mem_reverse.1 hx)
    exact h y (h1 y hy)
  · have := congrArg List.reverse h2
    rw [List.reverse_append, List.reverse_append, ← List.append_assoc] at this
    rw [this, List.reverse_flatten]
end Go.Mc
end

section
namespace Go.Proofs.YtpljmccnfmkmfaaGreat
open Go Go.AM Go.Mc
set_option maxRecDepth 100000
set_option maxHeartbeats 4000000
set_option linter.unusedSimpArgs false

theorem ends_take {w : List UInt8} {n : Nat} (hn : n ≤ w.length) : (ends w).take (n + 1) = (ends w).take n ++ [w.drop n] := by
  have hl : n < (ends w).length := by unfold ends; simp; omega
  have e : (ends w)[n] = w.drop n := by
    have h : (ends w)[n]? = some (w.drop n) := by unfold ends; rw [List.getElem?_map, List.getElem?_range (by omega)]; rfl
    rw [List.getElem?_eq_getElem hl] at h
    exact Option.some.inj h
  rw [List.take_succ_eq_append_getElem hl, e]
theorem ends_len (w : List UInt8) : (ends w).length = w.length + 1 := by unfold ends; simp
def apH (q : Int) (ws l : List (List UInt8)) (w : List UInt8) (n : Nat) (rec : AObj) : List AObj :=
  [.box [.p (.int .i64 q), .p (.sl (ws.map .str))], .row 9 1 ((l ++ (ends w).take n).map .str) (rkOf (l ++ (ends w).take n)), .box [.p (.str w)], .box [.own 1 (l ++ (ends w).take n).length], rec]
theorem c196m {q : Int} {ws l : List (List UInt8)} {w : List UInt8} (hwl : w.length ≤ 100000) {tm : List AV} {ps : List Nat} {cs bd : Code}
    (hround : ∀ n, n < w.length + 1 → n ≤ w.length → YC Tryz.prog 4 [.p (.str (w.drop n))] (apH q ws l w n (.lp tm ps cs bd .ready)) [1] (fun v h' => v = .p (.bool true) ∧ h' = apH q ws l w (n + 1) (.lp tm ps cs bd .ready))) :
    AC Tryz.prog 196 [.yld 4, .ptr 2 0] (apH q ws l w 0 (.lp tm ps cs bd .ready)) [1] (fun _ h' => h' = apH q ws l w (w.length + 1) (.lp tm ps cs bd .ready)) :=
  c196 (by simp) (by simp) w hwl (fun n => apH q ws l w n (.lp tm ps cs bd .ready)) (w.length + 1) (w.length + 1) (by simp [apH]) (fun n _ => rfl) hround (.inl ⟨rfl, rfl⟩)
theorem c147 (q : Int) (ws l : List (List UInt8)) (w : List UInt8) (hw : w.length ≤ 1000) (hl : l.length ≤ 1000000) :
    AC Tryz.prog 147 [.own 1 l.length, .fn 196 [.ptr 2 0]] [.box [.p (.int .i64 q), .p (.sl (ws.map .str))], .row 9 1 (l.map .str) (rkOf l), .box [.p (.str w)]] [1]
      (fun v h' => v = .own 1 (l ++ ends w).length ∧ h' = [.box [.p (.int .i64 q), .p (.sl (ws.map .str))], .row 9 1 ((l ++ ends w).map .str) .own, .box [.p (.str w)]]) := by
  refine AC.of_bodyE hΓ Tryz.func147 (by kernel_rfl) rfl (AWp.mono (Q := fun e st => AM.Ends e ∧ st.tmps.getD 4 .junk = .own 1 (l ++ ends w).length ∧ st.h = [.box [.p (.int .i64 q), .p (.sl (ws.map .str))], .row 9 1 ((l ++ ends w).map .str) .own, .box [.p (.str w)], .box [.own 1 (l ++ ends w).length], .dead]) ?_ ?_)
  rotate_left
  · rintro e ⟨tm, h'⟩ ⟨he, h1, h2⟩
    simp only at h1 h2
    subst h2
    refine ⟨he, _, Less.refl _, ?_⟩
    unfold DoneE
    simp +contextual -implicitDefEqProofs only [Tryz.results147, h1, go_sem]
    refine ⟨3, by simp, .inr ?_, ?_⟩
    · simp [AV.under, AObj.under, AV.under.underL]
    · simp
  refine AWp.seq (AWp.of_awpD [] hΓ hmix (by kernel_rfl) ?_)
  simp -implicitDefEqProofs only [Tryz.ntmps147, Nat.reduceAdd, Nat.reduceSub, go_sem]
  refine AWp.seq (AWp.seq (AWp.of_awpD [] hΓ hmix (by kernel_rfl) ?_))
  simp -implicitDefEqProofs only [go_sem]
  refine AWp.block ?_
  refine AWp.weak (st' := ⟨mkF 13 [(2, .ptr 3 0), (6, .fn 196 [.ptr 2 0])], [.box [.p (.int .i64 q), .p (.sl (ws.map .str))], .row 9 1 ((l ++ (ends w).take 0).map .str) (rkOf (l ++ (ends w).take 0)), .box [.p (.str w)], .box [.own 1 (l ++ (ends w).take 0).length]]⟩) (by simp [go_sem, weakH_self]) ?_
  rw [show (#[7] : Array Nat) = [7].toArray from rfl]
  refine AWp.rangeFunc (ks := [1]) rfl (c196m (q := q) (ws := ws) (l := l) (w := w) (by omega) ?_) (by simp) (by simp) ?_
  · intro n hn hnx
    have hsuc := ends_take (w := w) hnx
    have htl : ((ends w).take n).length ≤ n := by rw [List.length_take]; omega
    unfold apH
    rw [hsuc, ← List.append_assoc]
    generalize hoe : l ++ (ends w).take n = out at *
    have hol : out.length ≤ l.length + 1001 := by rw [← hoe, List.length_append]; omega
    refine YC.of_body (Γ := Γ) rfl rfl (by simp) ?_
    intro rr
    refine AWp.of_awpD [] hΓ hmix (by kernel_rfl) ?_
    simp -implicitDefEqProofs only [setP, go_sem]
    unfold BeginE
    refine ⟨rfl, ?_⟩
    simp -implicitDefEqProofs only [go_sem]
    refine AWp.of_awpD [] hΓ hmix (by kernel_rfl) ?_
    have hs1 : sizeOK [PV.str (w.drop n)] 1 := by simp [sizeOK, PV.cells]
    have ho1 : oneOK [PV.str (w.drop n)] := by simp [oneOK, PV.cells, PV.isAgg]
    simp -implicitDefEqProofs only [go_sem]
    refine ⟨⟨hs1, by omega⟩, ⟨hs1, ho1⟩, ⟨by unfold rkOf; split <;> simp, .inr (by simp), by omega, by omega⟩, ?_⟩
    unfold RoundE
    simp -implicitDefEqProofs only [killAll, List.foldl, AObj.kill, AV.kill, AV.kill.killL, go_sem]
    refine ⟨_, ?_, .inl rfl, ?_⟩
    rotate_left
    · rw [List.take_length, rkOf_snoc]
      simp
      try omega
    · simp
  · rintro v h' rfl
    unfold apH RangeK
    simp -implicitDefEqProofs only [killAll, List.foldl, go_sem]
    have ht : (ends w).take (w.length + 1) = ends w := List.take_of_length_le (by rw [ends_len]; exact Nat.le_refl _)
    have hr : rkOf (l ++ ends w) = .own := by
      unfold rkOf
      rw [if_neg]
      intro e
      have := congrArg List.length e
      rw [List.length_append, ends_len] at this
      simp at this
    rw [ht, hr]
    refine AWp.of_awpD [] hΓ hmix (by kernel_rfl) ?_
    simp -implicitDefEqProofs only [go_sem]
end Go.Proofs.YtpljmccnfmkmfaaGreat
end

