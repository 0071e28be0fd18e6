/-
  Texts of this claim, joined.
-/
import Derived.Test.YtpljmccnfmkmfaaGreatJ02141047724e
import Derived.Test.YtpljmccnfmkmfaaGreatJ3bcda6c5808f
import Derived.Test.YtpljmccnfmkmfaaGreatJ72f161f3b035
import Derived.Test.YtpljmccnfmkmfaaGreatJa031b9cf500e
import Derived.Test.YtpljmccnfmkmfaaGreatJ1faccba7ec4a
import Derived.Test.YtpljmccnfmkmfaaGreatJ108f0c0dd468
import Derived.Test.YtpljmccnfmkmfaaGreatJef50d3f09210

set_option linter.unusedSimpArgs false
set_option linter.unusedVariables false
set_option maxRecDepth 100000
set_option maxHeartbeats 4000000
section
namespace Go.Proofs.YtpljmccnfmkmfaaGreat.Kn
open Go Go.AM

def iV (n : Int) : PV := .int .i64 n
theorem c92 {h : List AObj} {g : FuncId} {caps : List AV} {pr : Int → Bool} (ws : List Int) (hl : ws.length ≤ 9223372036854775807)
    (hg : ∀ w ∈ ws, AC Tryz.prog g (.p (.int .i64 w) :: caps) h [] (fun v h' => v = .p (.bool (pr w)) ∧ h' = h)) :
    AC Tryz.prog 137 [.p (.sl (ws.map iV)), .fn g caps] h [] (fun v h' => (∃ i : Int, v = .p (.int .i64 i) ∧ decide (0 ≤ i) = ws.any pr) ∧ h' = h) := by
  refine AC.of_bodyE hΓ Tryz.func137 (by kernel_rfl) rfl (AWp.mono (Q := fun e st => AM.Ends e ∧ (∃ i : Int, st.tmps.getD 4 .junk = .p (.int .i64 i) ∧ decide (0 ≤ i) = ws.any pr) ∧ st.h = h) ?_ ?_)
  rotate_left
  · rintro e ⟨tm, h'⟩ ⟨he, ⟨i, h1, h3⟩, h2⟩
    simp only at h1 h2
    subst h2
    refine ⟨he, _, Less.refl _, ?_⟩
    unfold DoneE
    simp +contextual -implicitDefEqProofs only [Tryz.results137, h1, go_sem]
    exact ⟨_, Nat.le_refl _, .inl rfl, ⟨i, rfl, h3⟩, List.take_length⟩
  refine AWp.of_awpD [] hΓ hmix (by kernel_rfl) ?_
  simp +contextual -implicitDefEqProofs only [Tryz.ntmps137, Nat.reduceAdd, Nat.reduceSub, go_sem]
  refine AWp.loopI (fun k : Nat => ⟨mkF 19 [(0, .p (.sl (ws.map iV))), (1, .fn g caps), (7, .p (.int .i64 ws.length)), (8, .p (.int .i64 k))], h⟩)
    (fun k => k ≤ ws.length ∧ (ws.take k).any pr = false) (fun k => ws.length - k) 0 (by simp [go_sem, weakH_self]) (by simp) ?_
  rintro k ⟨hk, h0⟩
  refine AWp.of_awpD [] hΓ hmix (by kernel_rfl) ?_
  by_cases hlt : k < ws.length
  · have hgk : (ws.map iV).getD k default = .int .i64 ws[k] := by rw [getD_map_lt _ _ _ _ hlt]; rfl
    simp -implicitDefEqProofs only [List.length_map, hlt, hgk, Int.toNat_natCast, go_sem]
    refine callK_ac (hg ws[k] (List.getElem_mem hlt)) (by simp) ?_
    rintro v h' ⟨rfl, rfl⟩
    cases hp : pr ws[k]
    · simp -implicitDefEqProofs only [killAll, List.foldl, go_sem]
      refine ⟨by simp only [InR]; omega, k + 1, by simp [weakH_self], ⟨hlt, ?_⟩, by omega⟩
      rw [List.take_succ_eq_append_getElem hlt, List.any_append, h0]; simp [hp]
    · simp -implicitDefEqProofs only [killAll, List.foldl, go_sem]
      refine ⟨k, rfl, ?_⟩
      rw [List.any_eq_true.2 ⟨_, List.getElem_mem hlt, hp⟩]; simp
  · simp -implicitDefEqProofs only [hlt, go_sem]
    exact ⟨-1, rfl, by rw [List.take_of_length_le (by omega)] at h0; rw [h0]; rfl⟩

theorem c48 {h : List AObj} {g : FuncId} {caps : List AV} {pr : Int → Bool} (ws : List Int) (hl : ws.length ≤ 9223372036854775807)
    (hg : ∀ w ∈ ws, AC Tryz.prog g (.p (.int .i64 w) :: caps) h [] (fun v h' => v = .p (.bool (pr w)) ∧ h' = h)) :
    AC Tryz.prog 70 [.p (.sl (ws.map iV)), .fn g caps] h [] (fun v h' => v = .p (.bool (ws.any pr)) ∧ h' = h) := by
  refine AC.of_bodyE hΓ Tryz.func70 (by kernel_rfl) rfl (AWp.mono (Q := fun e st => AM.Ends e ∧ st.tmps.getD 4 .junk = .p (.bool (ws.any pr)) ∧ st.h = h) ?_ ?_)
  rotate_left
  · rintro e ⟨tm, h'⟩ ⟨he, h1, h2⟩
    simp only at h1 h2
    subst h2
    refine ⟨he, _, Less.refl _, ?_⟩
    unfold DoneE
    simp +contextual -implicitDefEqProofs only [Tryz.results70, h1, go_sem]
    exact ⟨_, Nat.le_refl _, .inl rfl, List.take_length⟩
  refine AWp.of_awpD [] hΓ hmix (by kernel_rfl) ?_
  simp +contextual -implicitDefEqProofs only [Tryz.ntmps70, Nat.reduceAdd, Nat.reduceSub, go_sem]
  refine callK_ac (c92 ws hl hg) (by simp) ?_
  rintro v h' ⟨⟨i, rfl, hi⟩, rfl⟩
  simp -implicitDefEqProofs only [killAll, List.foldl, go_sem]
  exact hi

def badL (n : Int) : Bool := decide (n < 1) || decide (32 < n)
theorem v93 (n : Int) : PFn Tryz.prog 97 [.int .i64 n] [.bool (badL n)] := by
  unfold badL
  refine PFn.of_body hΓ Tryz.func97 (by kernel_rfl) rfl (AWp.of_awpD [] hΓ hmix (by kernel_rfl) ?_)
  by_cases h1 : n < 1
  · simp -implicitDefEqProofs only [Tryz.ntmps97, Tryz.results97, Nat.reduceAdd, Nat.reduceSub, h1, go_sem]
    try simp [h1]
  · simp -implicitDefEqProofs only [Tryz.ntmps97, Tryz.results97, Nat.reduceAdd, Nat.reduceSub, h1, go_sem]
    try simp [h1]
theorem c93a {h : List AObj} (n : Int) : AC Tryz.prog 97 [.p (.int .i64 n)] h [] (fun v h' => v = .p (.bool (badL n)) ∧ h' = h) := by
  have := AC.of_fn (h := h) (v93 n) (args := [.p (.int .i64 n)]) (.inl rfl)
  exact this
theorem v48 (ws : List Int) (hl : ws.length ≤ 9223372036854775807) {h : List AObj} : AC Tryz.prog 70 [.p (.sl (ws.map iV)), .fn 97 []] h [] (fun v h' => v = .p (.bool (ws.any badL)) ∧ h' = h) :=
  c48 ws hl fun w _ => c93a w

theorem v58 : PFn Tryz.prog 91 [] [ratV 1 1] := by
  have e1 := u34 1 (by omega)
  have e2 := v52 1 one_cap
  refine PFn.of_body hΓ Tryz.func91 (by kernel_rfl) rfl (AWp.of_awpD [] hΓ hmix (by kernel_rfl) ?_)
  simp -implicitDefEqProofs only [Tryz.ntmps91, Tryz.results91, Nat.reduceAdd, Nat.reduceSub, go_sem]
  refine callK_fn e1 (.pures rfl) ?_
  simp -implicitDefEqProofs only [go_sem]
  refine callK_fn e2 (.pures rfl) ?_
  simp -implicitDefEqProofs only [ratV, go_sem]

def krS (q : Nat) (l : List Nat) : Nat := (l.map fun n => q ^ (32 - n)).sum
theorem krS_nil (q : Nat) : krS q [] = 0 := rfl
theorem krS_snoc (q : Nat) (l : List Nat) (n : Nat) : krS q (l ++ [n]) = krS q l + q ^ (32 - n) := by simp [krS]
theorem pow_le16 {q n : Nat} (h : q ≤ 16) : q ^ (32 - n) ≤ 16 ^ 32 := Nat.le_trans (Nat.pow_le_pow_left h _) (Nat.pow_le_pow_right (by decide) (by omega))
theorem krS_le {q : Nat} (hq : q ≤ 16) : ∀ l : List Nat, krS q l ≤ l.length * 16 ^ 32
  | [] => Nat.zero_le _
  | n :: l => by
    have ih := krS_le hq l
    have h1 := pow_le16 (q := q) (n := n) hq
    have e : krS q (n :: l) = q ^ (32 - n) + krS q l := by simp [krS]
    rw [e, List.length_cons, Nat.succ_mul]
    omega
theorem krS_cap {q : Nat} (hq : q ≤ 16) {l : List Nat} (hl : l.length ≤ 4096) : krS q l < capN := by
  have h1 := krS_le hq l
  have h2 : l.length * 16 ^ 32 ≤ 4096 * 16 ^ 32 := Nat.mul_le_mul_right _ hl
  have h3 : 4096 * 16 ^ 32 < capN := cap_of (n := 4096 * 16 ^ 32) (k := 18) (by decide) (by decide)
  omega
theorem q32_cap {q : Nat} (hq : q ≤ 16) : q ^ 32 < capN := by
  have h1 := pow_le16 (q := q) (n := 0) hq
  have h3 : 16 ^ 32 < capN := cap_of (n := 16 ^ 32) (k := 17) (by decide) (by decide)
  rw [Nat.sub_zero] at h1
  omega
def nV (n : Nat) : PV := .int .i64 (n : Int)
theorem v50 (q : Nat) (ns : List Nat) (hq2 : 2 ≤ q) (hq : q ≤ 16) (hl : ns.length ≤ 4096) (hn : ∀ n ∈ ns, 1 ≤ n ∧ n ≤ 32) : PFn Tryz.prog 47 [.int .i64 q, .sl (ns.map nV)] [ratV (krS q ns) (q ^ 32), .int .i64 0] := by
  have hq1 : ¬ (q : Int) < 2 := by omega
  have hq3 : ¬ (16 : Int) < (q : Int) := by omega
  have hl' : ¬ (4096 : Int) < (ns.length : Int) := by omega
  have hmap : (ns.map nV) = (ns.map fun n : Nat => (n : Int)).map iV := by rw [List.map_map]; rfl
  have hany : (ns.map fun n : Nat => (n : Int)).any badL = false := by
    rw [List.any_eq_false]
    intro x hx
    obtain ⟨n, hn', rfl⟩ := List.mem_map.1 hx
    have := hn n hn'
    unfold badL
    simp only [Bool.or_eq_true, decide_eq_true_eq]
    omega
  have hc := v48 (ns.map fun n : Nat => (n : Int)) (by simp; omega) (h := [.box [.p (.bool false), .p (.str []), .p (.bool false), .p (.str [])]])
  rw [← hmap, hany] at hc
  have eq := u34 q (by omega)
  have e32 := v94 q 32 (by omega) hq (by omega)
  have enew := v96 (krS q ns) (q ^ 32) (krS_cap hq hl) (q32_cap hq) (Nat.ne_of_gt (Nat.pow_pos (by omega)))
  refine PFn.of_body hΓ Tryz.func47 (by kernel_rfl) rfl (AWp.of_awpD [] hΓ hmix (by kernel_rfl) ?_)
  simp -implicitDefEqProofs only [Tryz.ntmps47, Tryz.results47, Nat.reduceAdd, Nat.reduceSub, hq1, hq3, List.length_map, hl', go_sem]
  refine callK_ac hc (by simp) ?_
  rintro v h' ⟨rfl, rfl⟩
  simp -implicitDefEqProofs only [killAll, List.foldl, go_sem]
  refine AWp.loopJ (fun i : Nat => ⟨mkF 59 [(0, .p (.int .i64 q)), (4, .ptr 0 0), (6, .ptr 1 0), (30, .p (.sl (ns.map nV))), (31, .p (.int .i64 ns.length)), (32, .p (.int .i64 i))], [.box [.p (.bool false), .p (.str []), .p (.bool false), .p (.str [])], .box [.p (.bool false), .p (.str (magB (krS q (ns.take i))))]]⟩)
    (fun i => i ≤ ns.length) (fun i => ns.length - i) 0 (fun i => ⟨by simp, by simp [mkF, AV.blw, AV.blw.blwL], by simp [blwH, AObj.blw, AV.blw, AV.blw.blwL]⟩) (by simp [go_sem, krS_nil, magB_zero]) (by simp) ?_
  rintro i hi
  refine AWp.of_awpD [] hΓ hmix (by kernel_rfl) ?_
  by_cases hlt : i < ns.length
  · have hlt' : (i : Int) < (ns.length : Int) := by omega
    have hni := hn ns[i] (List.getElem_mem hlt)
    have hgi : (ns.map nV).getD i default = .int .i64 (ns[i] : Int) := getD_map_lt _ _ _ _ hlt
    have hsub : (32 : Int) - (ns[i] : Int) = ((32 - ns[i] : Nat) : Int) := by omega
    have ep := v94 q (32 - ns[i]) (by omega) hq (by omega)
    have htk : ns.take (i + 1) = ns.take i ++ [ns[i]] := List.take_succ_eq_append_getElem hlt
    have hcap1 := krS_cap hq (l := ns.take i) (by rw [List.length_take]; omega)
    have hp16 := pow_le16 (q := q) (n := ns[i]) hq
    have hcap2 : q ^ (32 - ns[i]) < capN := Nat.lt_of_le_of_lt hp16 (cap_of (n := 16 ^ 32) (k := 17) (by decide) (by decide))
    have ea := u89 (krS q (ns.take i)) (q ^ (32 - ns[i])) hcap1 hcap2
    rw [← krS_snoc, ← htk] at ea
    simp -implicitDefEqProofs only [hlt', hgi, Int.toNat_natCast, go_sem]
    refine callK_fn eq (.pures rfl) ?_
    simp -implicitDefEqProofs only [hsub, intN_pos, go_sem]
    refine ⟨by simp only [InR]; omega, callK_fn ep (.pures rfl) ?_⟩
    simp -implicitDefEqProofs only [intN_pos, go_sem]
    refine callK_fn ea (.still rfl) ?_
    simp -implicitDefEqProofs only [intN_pos, go_sem]
    exact ⟨by simp only [InR]; omega, i + 1, ⟨by simp, rfl⟩, hlt, by omega⟩
  · have hlt' : ¬ (i : Int) < (ns.length : Int) := by omega
    have : i = ns.length := by omega
    subst this
    rw [List.take_length]
    simp -implicitDefEqProofs only [hlt', Int.lt_irrefl, Nat.lt_irrefl, go_sem]
    refine callK_fn eq (.pures rfl) ?_
    simp -implicitDefEqProofs only [intN_pos, go_sem]
    refine callK_fn e32 (.still rfl) ?_
    simp -implicitDefEqProofs only [intN_pos, go_sem]
    refine callK_fn enew (.still rfl) ?_
    simp -implicitDefEqProofs only [ratV, go_sem]
end Go.Proofs.YtpljmccnfmkmfaaGreat.Kn
end

section
namespace Go.Proofs.YtpljmccnfmkmfaaGreat
end Go.Proofs.YtpljmccnfmkmfaaGreat
end

section
namespace Go.Proofs.YtpljmccnfmkmfaaGreat
open Go Go.AM Go.RowKit

def rkOf (l : List (List UInt8)) : RK := if l = [] then .lax else .own
theorem rkOf_snoc (l : List (List UInt8)) (x : List UInt8) : rkOf (l ++ [x]) = .own := by unfold rkOf; rw [if_neg (by simp)]
end Go.Proofs.YtpljmccnfmkmfaaGreat
end

section
namespace Go.Mc

abbrev W := List UInt8

def nu (n : UInt8 → Nat) : W → Nat
  | [] => 1
  | b :: w => n b * nu n w
theorem nu_nil (n : UInt8 → Nat) : nu n [] = 1 := rfl
theorem nu_cons (n : UInt8 → Nat) (b : UInt8) (w : W) : nu n (b :: w) = n b * nu n w := rfl
theorem nu_app (n : UInt8 → Nat) : ∀ a b : W, nu n (a ++ b) = nu n a * nu n b
  | [], b => by rw [List.nil_append, nu_nil, Nat.one_mul]
  | c :: a, b => by rw [List.cons_append, nu_cons, nu_cons, nu_app n a b, Nat.mul_assoc]
def tot (n : UInt8 → Nat) (S N : Nat) (l : List W) : Nat := (l.map fun x => nu n x * S ^ (N - x.length)).sum
theorem tot_cons (n : UInt8 → Nat) (S N : Nat) (x : W) (l : List W) : tot n S N (x :: l) = nu n x * S ^ (N - x.length) + tot n S N l := by unfold tot; rw [List.map_cons, List.sum_cons]
theorem tot_app (n : UInt8 → Nat) (S N : Nat) (k l : List W) : tot n S N (k ++ l) = tot n S N k + tot n S N l := by unfold tot; rw [List.map_append, List.sum_append]
def tl1 (b : UInt8) : W → List W
  | [] => []
  | c :: y => if c = b then [y] else []
theorem tl1_cons (b c : UInt8) (y : W) : tl1 b (c :: y) = if c = b then [y] else [] := rfl
def tails (b : UInt8) (l : List W) : List W := l.flatMap (tl1 b)
theorem mem_tails {b : UInt8} {l : List W} {y : W} : y ∈ tails b l ↔ b :: y ∈ l := by
  unfold tails
  rw [List.mem_flatMap]
  constructor
  · rintro ⟨x, hx, hy⟩
    cases x with
    | nil => cases hy
    | cons c z =>
      rw [tl1_cons] at hy
      split at hy
      · rename_i h
        rw [List.mem_singleton] at hy
        subst h hy; exact hx
      · cases hy
  · intro h
    exact ⟨_, h, by rw [tl1_cons, if_pos rfl]; exact List.mem_singleton.2 rfl⟩
theorem tails_nodup {b : UInt8} : ∀ {l : List W}, l.Nodup → (tails b l).Nodup
  | [], _ => List.nodup_nil
  | x :: l, h => by
    rw [List.nodup_cons] at h
    have ih := tails_nodup (b := b) h.2
    show (tl1 b x ++ tails b l).Nodup
    cases x with
    | nil => exact ih
    | cons c y =>
      rw [tl1_cons]
      split
      · rename_i hc
        subst hc
        rw [List.singleton_append, List.nodup_cons]
        exact ⟨fun hm => h.1 (mem_tails.1 hm), ih⟩
      · exact ih
def emp (l : List W) : Nat := l.countP fun x => x.isEmpty
theorem emp_le {l : List W} (h : l.Nodup) : emp l ≤ 1 := by
  induction l with
  | nil => simp [emp]
  | cons x l ih =>
    rw [List.nodup_cons] at h
    unfold emp at ih ⊢
    rw [List.countP_cons]
    cases x with
    | cons c y => simpa using ih h.2
    | nil =>
      have h0 : l.countP (fun x => x.isEmpty) = 0 := by
        rw [List.countP_eq_zero]
        intro y hy he
        have : y = [] := List.isEmpty_iff.1 he
        subst this; exact h.1 hy
      rw [h0]; simp
theorem sum_one {A : List UInt8} {b : UInt8} (hb : b ∈ A) (f g : UInt8 → Nat) (h : ∀ c ∈ A, f c ≤ g c) {d : Nat} (hd : f b + d ≤ g b) : (A.map f).sum + d ≤ (A.map g).sum := by
  induction A with
  | nil => cases hb
  | cons a A ih =>
    rw [List.map_cons, List.map_cons, List.sum_cons, List.sum_cons]
    have ha := h a (by simp)
    rcases List.mem_cons.1 hb with rfl | hb
    · have : ∀ {B : List UInt8}, (∀ c ∈ B, f c ≤ g c) → (B.map f).sum ≤ (B.map g).sum := fun {B} hB => by
        induction B with
        | nil => exact Nat.le_refl _
        | cons e B ihB =>
          rw [List.map_cons, List.map_cons, List.sum_cons, List.sum_cons]
          have := hB e (by simp)
          have := ihB fun c hc => hB c (by simp [hc])
          omega
      have := this (B := A) fun c hc => h c (by simp [hc])
      omega
    · have := ih hb fun c hc => h c (by simp [hc])
      omega
theorem tot_split {A : List UInt8} {n : UInt8 → Nat} {S N : Nat} : ∀ {l : List W}, (∀ x ∈ l, ∀ b ∈ x, b ∈ A) →
    tot n S (N + 1) l ≤ emp l * S ^ (N + 1) + (A.map fun b => n b * tot n S N (tails b l)).sum
  | [], _ => by simp [tot]
  | x :: l, h => by
    have ih := tot_split (n := n) (S := S) (N := N) (l := l) fun y hy => h y (by simp [hy])
    rw [tot_cons]
    cases x with
    | nil =>
      have e1 : emp ([] :: l) = emp l + 1 := by simp [emp]
      have e2 : ∀ b, tails b ([] :: l) = tails b l := fun b => rfl
      rw [e1, Nat.add_mul, Nat.one_mul]
      simp only [e2, nu_nil, List.length_nil, Nat.sub_zero, Nat.one_mul]
      omega
    | cons c y =>
      have e1 : emp ((c :: y) :: l) = emp l := by simp [emp]
      have hc : c ∈ A := h (c :: y) (by simp) c (by simp)
      have e2 : nu n (c :: y) * S ^ (N + 1 - (c :: y).length) = n c * (nu n y * S ^ (N - y.length)) := by
        rw [List.length_cons, Nat.add_sub_add_right]; rw [nu_cons, Nat.mul_assoc]
      have e3 : ∀ b, tot n S N (tails b ((c :: y) :: l)) = (if c = b then nu n y * S ^ (N - y.length) else 0) + tot n S N (tails b l) := fun b => by
        show tot n S N (tl1 b (c :: y) ++ tails b l) = _
        rw [tot_app]
        rw [tl1_cons]
        split
        · rw [tot_cons]; simp [tot]
        · simp [tot]
      have := sum_one (A := A) hc (fun b => n b * tot n S N (tails b l)) (fun b => n b * tot n S N (tails b ((c :: y) :: l))) (fun b _ => by
        rw [e3]; exact Nat.mul_le_mul_left _ (Nat.le_add_left _ _)) (d := n c * (nu n y * S ^ (N - y.length))) (by
        show _ ≤ n c * tot n S N (tails c ((c :: y) :: l))
        rw [e3, if_pos rfl, Nat.mul_add]; omega)
      rw [e1, e2]
      omega
theorem tot_le {A : List UInt8} {n : UInt8 → Nat} : ∀ {N : Nat} {l : List W}, l.Nodup → (∀ x ∈ l, ∀ b ∈ x, b ∈ A) → (∀ x ∈ l, x.length ≤ N) →
    tot n (A.map n).sum N l ≤ (N + 1) * (A.map n).sum ^ N
  | 0, l, hd, hA, hl => by
    have he : ∀ l : List W, (∀ x ∈ l, x.length ≤ 0) → tot n (A.map n).sum 0 l = emp l := by
      intro l
      induction l with
      | nil => intro _; simp [tot, emp]
      | cons x l ih =>
        intro h
        have hx : x = [] := List.length_eq_zero_iff.1 (Nat.le_zero.1 (h x (by simp)))
        subst hx
        rw [tot_cons, ih fun y hy => h y (by simp [hy])]
        simp [emp, nu]; omega
    rw [he l hl]
    have := emp_le hd
    simp; omega
  | N + 1, l, hd, hA, hl => by
    refine Nat.le_trans (tot_split hA) ?_
    have h1 : emp l * (A.map n).sum ^ (N + 1) ≤ (A.map n).sum ^ (N + 1) := by
      have := Nat.mul_le_mul_right ((A.map n).sum ^ (N + 1)) (emp_le hd)
      rwa [Nat.one_mul] at this
    have h2 : (A.map fun b => n b * tot n (A.map n).sum N (tails b l)).sum ≤ (A.map n).sum * ((N + 1) * (A.map n).sum ^ N) := by
      have key : ∀ (C : Nat) (B : List UInt8), (∀ b ∈ B, tot n (A.map n).sum N (tails b l) ≤ C) → (B.map fun b => n b * tot n (A.map n).sum N (tails b l)).sum ≤ (B.map n).sum * C := by
        intro C B hB
        induction B with
        | nil => simp
        | cons b B ih =>
          rw [List.map_cons, List.map_cons, List.sum_cons, List.sum_cons, Nat.add_mul]
          have i1 := Nat.mul_le_mul_left (n b) (hB b (by simp))
          have i2 := ih fun c hc => hB c (by simp [hc])
          omega
      refine key _ A fun b _ => tot_le (tails_nodup hd) (fun x hx c hc => hA _ (mem_tails.1 hx) c (by simp [hc])) fun x hx => ?_
      have := hl _ (mem_tails.1 hx)
      rw [List.length_cons] at this
      omega
    have h3 : (A.map n).sum * ((N + 1) * (A.map n).sum ^ N) = (N + 1) * (A.map n).sum ^ (N + 1) := by
      rw [Nat.pow_succ, Nat.mul_left_comm, Nat.mul_comm ((A.map n).sum) (_ ^ N)]
    rw [h3] at h2
    have h4 : (N + 1 + 1) * (A.map n).sum ^ (N + 1) = (N + 1) * (A.map n).sum ^ (N + 1) + (A.map n).sum ^ (N + 1) := by rw [Nat.add_mul, Nat.one_mul]
    omega

def tup (X : List W) : Nat → List (List W)
  | 0 => [[]]
  | m + 1 => X.flatMap fun w => (tup X m).map (w :: ·)
theorem mem_tup {X : List W} : ∀ {m : Nat} {a : List W}, a ∈ tup X m ↔ a.length = m ∧ ∀ w ∈ a, w ∈ X
  | 0, a => by
    unfold tup
    rw [List.mem_singleton]
    exact ⟨fun h => by subst h; simp, fun h => List.length_eq_zero_iff.1 h.1⟩
  | m + 1, a => by
    unfold tup
    simp only [List.mem_flatMap, List.mem_map]
    constructor
    · rintro ⟨w, hw, b, hb, rfl⟩
      obtain ⟨h1, h2⟩ := mem_tup.1 hb
      refine ⟨by rw [List.length_cons, h1], fun x hx => ?_⟩
      rcases List.mem_cons.1 hx with rfl | hx
      · exact hw
      · exact h2 x hx
    · rintro ⟨h1, h2⟩
      cases a with
      | nil => simp at h1
      | cons w b => exact ⟨w, h2 w (by simp), b, mem_tup.2 ⟨by simpa using h1, fun x hx => h2 x (by simp [hx])⟩, rfl⟩
theorem nodup_map' {α β : Type} {f : α → β} : ∀ {l : List α}, l.Nodup → (∀ a ∈ l, ∀ b ∈ l, f a = f b → a = b) → (l.map f).Nodup
  | [], _, _ => List.nodup_nil
  | a :: l, h, hf => by
    rw [List.nodup_cons] at h
    rw [List.map_cons, List.nodup_cons]
    refine ⟨fun hm => ?_, nodup_map' h.2 fun x hx y hy => hf x (by simp [hx]) y (by simp [hy])⟩
    obtain ⟨b, hb, he⟩ := List.mem_map.1 hm
    exact h.1 (hf b (by simp [hb]) a (by simp) he ▸ hb)
theorem tup_nodup {X : List W} (hX : X.Nodup) : ∀ m, (tup X m).Nodup
  | 0 => by simp [tup]
  | m + 1 => by
    unfold tup
    have ih := tup_nodup hX m
    have key : ∀ Y : List W, Y.Nodup → (Y.flatMap fun w => (tup X m).map (w :: ·)).Nodup := by
      intro Y
      induction Y with
      | nil => intro _; exact List.nodup_nil
      | cons w Y ihY =>
        intro hY
        rw [List.nodup_cons] at hY
        rw [List.flatMap_cons, List.nodup_append]
        refine ⟨nodup_map' ih fun a _ b _ h => by injection h, ihY hY.2, fun a ha b hb he => ?_⟩
        subst he
        obtain ⟨x, _, rfl⟩ := List.mem_map.1 ha
        obtain ⟨v, hv, h3⟩ := List.mem_flatMap.1 hb
        obtain ⟨y, _, h4⟩ := List.mem_map.1 h3
        injection h4 with h5 h6
        exact hY.1 (h5 ▸ hv)
    exact key X hX
def msgs (X : List W) (m : Nat) : List W := (tup X m).map List.flatten
def UD (X : List W) : Prop := ∀ a b : List W, (∀ w ∈ a, w ∈ X) → (∀ w ∈ b, w ∈ X) → a.flatten = b.flatten → a = b
theorem msgs_nodup {X : List W} (hX : X.Nodup) (hU : UD X) (m : Nat) : (msgs X m).Nodup :=
  nodup_map' (tup_nodup hX m) fun a ha b hb h => hU a b (mem_tup.1 ha).2 (mem_tup.1 hb).2 h
theorem flat_len {X : List W} {L : Nat} (hL : ∀ w ∈ X, w.length ≤ L) : ∀ {a : List W}, (∀ w ∈ a, w ∈ X) → a.flatten.length ≤ a.length * L
  | [], _ => by simp
  | w :: a, h => by
    have h1 := hL w (h w (by simp))
    have h2 := flat_len hL (a := a) fun x hx => h x (by simp [hx])
    rw [List.flatten_cons, List.length_append, List.length_cons, Nat.add_mul, Nat.one_mul]
    omega
theorem tot_msgs {X : List W} {n : UInt8 → Nat} {S L : Nat} (hL : ∀ w ∈ X, w.length ≤ L) : ∀ m, tot n S (m * L) (msgs X m) = tot n S L X ^ m
  | 0 => by simp [msgs, tup, tot, nu]
  | m + 1 => by
    have ih := tot_msgs (n := n) (S := S) hL m
    have key : ∀ Y : List W, (∀ w ∈ Y, w ∈ X) → tot n S ((m + 1) * L) ((Y.flatMap fun w => (tup X m).map (w :: ·)).map List.flatten) = tot n S L Y * tot n S (m * L) (msgs X m) := by
      intro Y
      induction Y with
      | nil => intro _; simp [tot]
      | cons w Y ihY =>
        intro hY
        rw [List.flatMap_cons, List.map_append, tot_app, ihY fun x hx => hY x (by simp [hx]), tot_cons, Nat.add_mul (nu n w * _)]
        congr 1
        have hw := hL w (hY w (by simp))
        have k2 : ∀ T : List (List W), (∀ a ∈ T, a ∈ tup X m) → tot n S ((m + 1) * L) ((T.map (w :: ·)).map List.flatten) = nu n w * S ^ (L - w.length) * tot n S (m * L) (T.map List.flatten) := by
          intro T
          induction T with
          | nil => intro _; simp [tot]
          | cons a T ihT =>
            intro hT
            rw [List.map_cons, List.map_cons, List.map_cons, tot_cons, tot_cons, ihT fun x hx => hT x (by simp [hx]), Nat.mul_add]
            congr 1
            obtain ⟨h1, h2⟩ := mem_tup.1 (hT a (by simp))
            have h3 := flat_len hL h2
            rw [h1] at h3
            rw [List.flatten_cons, nu_app, List.length_append, show (m + 1) * L - (w.length + a.flatten.length) = (L - w.length) + (m * L - a.flatten.length) by rw [Nat.add_mul, Nat.one_mul]; omega, Nat.pow_add]
            simp only [Nat.mul_assoc, Nat.mul_left_comm, Nat.mul_comm]
        exact k2 _ fun a ha => ha
    show tot n S ((m + 1) * L) ((X.flatMap fun w => (tup X m).map (w :: ·)).map List.flatten) = _
    rw [key X fun w h => h, ih, Nat.pow_succ, Nat.mul_comm]

theorem bern (Q : Nat) : ∀ k, (Q + k) * Q ^ k ≤ Q * (Q + 1) ^ k
  | 0 => by simp
  | k + 1 => by
    have ih := bern Q k
    have h1 : (Q + (k + 1)) * Q ^ (k + 1) ≤ (Q + k) * Q ^ k * (Q + 1) := by
      have e1 : (Q + (k + 1)) * Q ^ (k + 1) = (Q + (k + 1)) * Q * Q ^ k := by rw [Nat.pow_succ, Nat.mul_comm (Q ^ k) Q, Nat.mul_assoc]
      have e2 : (Q + k) * Q ^ k * (Q + 1) = (Q + k) * (Q + 1) * Q ^ k := by rw [Nat.mul_right_comm]
      rw [e1, e2]
      refine Nat.mul_le_mul_right _ ?_
      have e3 : (Q + k) * (Q + 1) = (Q + k) * Q + (Q + k) := by rw [Nat.mul_add, Nat.mul_one]
      have e4 : (Q + (k + 1)) * Q = (Q + k) * Q + Q := by rw [← Nat.add_assoc, Nat.add_mul, Nat.one_mul]
      omega
    refine Nat.le_trans h1 ?_
    have h2 := Nat.mul_le_mul_right (Q + 1) ih
    rw [Nat.pow_succ, ← Nat.mul_assoc]
    exact h2
theorem lin_pow {Q V c : Nat} (hQ : 0 < Q) (h : ∀ m, V ^ m ≤ (m * c + 1) * Q ^ m) : V ≤ Q := by
  refine Nat.le_of_not_lt fun hlt => ?_
  obtain ⟨k, hk⟩ : ∃ k, k = 2 * c * (Q * Q) := ⟨_, rfl⟩
  have h1 := h (k + k)
  have h2 : (Q + 1) ^ (k + k) ≤ ((k + k) * c + 1) * Q ^ (k + k) := Nat.le_trans (Nat.pow_le_pow_left hlt _) h1
  have h3 := bern Q k
  have h4 := Nat.mul_le_mul h3 h3
  have h5 : Q * (Q + 1) ^ k * (Q * (Q + 1) ^ k) = Q * Q * (Q + 1) ^ (k + k) := by rw [Nat.pow_add]; simp only [Nat.mul_assoc, Nat.mul_left_comm, Nat.mul_comm]
  have h6 : (Q + k) * Q ^ k * ((Q + k) * Q ^ k) = (Q + k) * (Q + k) * Q ^ (k + k) := by rw [Nat.pow_add]; simp only [Nat.mul_assoc, Nat.mul_left_comm, Nat.mul_comm]
  rw [h5, h6] at h4
  have h7 := Nat.mul_le_mul_left (Q * Q) h2
  have h8 : (Q + k) * (Q + k) * Q ^ (k + k) ≤ Q * Q * ((k + k) * c + 1) * Q ^ (k + k) := by rw [Nat.mul_assoc (Q * Q)]; exact Nat.le_trans h4 h7
  have h9 := Nat.le_of_mul_le_mul_right h8 (Nat.pow_pos hQ)
  have e1 : (Q + k) * (Q + k) = Q * Q + 2 * (Q * k) + k * k := by
    rw [Nat.add_mul, Nat.mul_add, Nat.mul_add, Nat.mul_comm k Q]; omega
  have e2 : Q * Q * ((k + k) * c + 1) = k * (2 * c * (Q * Q)) + Q * Q := by
    rw [Nat.mul_add, Nat.mul_one]
    congr 1
    rw [← Nat.two_mul]
    simp only [Nat.mul_assoc, Nat.mul_left_comm, Nat.mul_comm]
  rw [e1, e2, ← hk] at h9
  by_cases hk0 : k = 0
  · have hc0 : c = 0 := by
      rcases Nat.mul_eq_zero.1 (hk ▸ hk0 : 2 * c * (Q * Q) = 0) with h | h
      · omega
      · have := Nat.mul_pos hQ hQ; omega
    subst hc0
    have g1 := h Q
    have g2 := bern Q Q
    have g3 := Nat.pow_le_pow_left hlt Q
    have g4 : V ^ Q ≤ Q ^ Q := by simpa using g1
    have g5 : (Q + Q) * Q ^ Q ≤ Q * Q ^ Q := Nat.le_trans g2 (Nat.mul_le_mul_left _ (Nat.le_trans g3 g4))
    have := Nat.le_of_mul_le_mul_right g5 (Nat.pow_pos hQ)
    omega
  · have := Nat.mul_pos hQ (Nat.pos_of_ne_zero hk0)
    omega
theorem mcmillan {A : List UInt8} {n : UInt8 → Nat} {X : List W} {L : Nat} (hX : X.Nodup) (hU : UD X) (hA : ∀ x ∈ X, ∀ b ∈ x, b ∈ A) (hL : ∀ w ∈ X, w.length ≤ L) (hS : 0 < (A.map n).sum) :
    tot n (A.map n).sum L X ≤ (A.map n).sum ^ L := by
  refine lin_pow (c := L) (Nat.pow_pos hS) fun m => ?_
  rw [← tot_msgs hL m, ← Nat.pow_mul, Nat.mul_comm L m]
  refine tot_le (msgs_nodup hX hU m) (fun x hx b hb => ?_) fun x hx => ?_
  · obtain ⟨a, ha, rfl⟩ := List.mem_map.1 hx
    obtain ⟨w, hw, hb⟩ := List.mem_flatten.1 hb
    exact hA w ((mem_tup.1 ha).2 w hw) b hb
  · obtain ⟨a, ha, rfl⟩ := List.mem_map.1 hx
    obtain ⟨h1, h2⟩ := mem_tup.1 ha
    have := flat_len hL h2
    rwa [h1] at this
end Go.Mc
end

section
namespace Go.Mc

theorem sum_not {A : List UInt8} {c : UInt8} (hc : c ∉ A) (n t : UInt8 → Nat) (v : Nat) : (A.map fun b => n b * ((if c = b then v else 0) + t b)).sum = (A.map fun b => n b * t b).sum := by
  congr 1
  refine List.map_congr_left fun b hb => ?_
  have hcb : ¬ c = b := fun e => hc (by rw [e]; exact hb)
  rw [if_neg hcb, Nat.zero_add]
theorem sum_in {c : UInt8} (n t : UInt8 → Nat) (v : Nat) : ∀ {A : List UInt8}, A.Nodup → (A.map fun b => n b * ((if c = b then v else 0) + t b)).sum ≤ (A.map fun b => n b * t b).sum + n c * v
  | [], _ => by simp
  | a :: A, h => by
    rw [List.nodup_cons] at h
    rw [List.map_cons, List.map_cons, List.sum_cons, List.sum_cons]
    by_cases he : c = a
    · subst he
      rw [sum_not h.1, if_pos rfl, Nat.mul_add]; omega
    · have := sum_in (c := c) n t v h.2
      rw [if_neg he, Nat.zero_add]; omega
theorem tot_split_ge {A : List UInt8} (hA : A.Nodup) {n : UInt8 → Nat} {S N : Nat} : ∀ l : List W, emp l * S ^ (N + 1) + (A.map fun b => n b * tot n S N (tails b l)).sum ≤ tot n S (N + 1) l
  | [] => by
    have : (A.map fun b => n b * tot n S N (tails b [])).sum = 0 := by
      induction A with
      | nil => rfl
      | cons a A ih => rw [List.map_cons, List.sum_cons, ih (List.nodup_cons.1 hA).2]; simp [tails, tot]
    rw [this]; simp [emp]
  | x :: l => by
    have ih := tot_split_ge hA (n := n) (S := S) (N := N) l
    rw [tot_cons]
    cases x with
    | nil =>
      have e1 : emp ([] :: l) = emp l + 1 := by simp [emp]
      have e2 : ∀ b, tails b ([] :: l) = tails b l := fun b => rfl
      rw [e1, Nat.add_mul, Nat.one_mul]
      simp only [e2, nu_nil, List.length_nil, Nat.sub_zero, Nat.one_mul]
      omega
    | cons c y =>
      have e1 : emp ((c :: y) :: l) = emp l := by simp [emp]
      have e2 : nu n (c :: y) * S ^ (N + 1 - (c :: y).length) = n c * (nu n y * S ^ (N - y.length)) := by
        rw [List.length_cons, Nat.add_sub_add_right]; rw [nu_cons, Nat.mul_assoc]
      have e3 : ∀ b, tot n S N (tails b ((c :: y) :: l)) = (if c = b then nu n y * S ^ (N - y.length) else 0) + tot n S N (tails b l) := fun b => by
        show tot n S N (tl1 b (c :: y) ++ tails b l) = _
        rw [tot_app]
        rw [tl1_cons]
        split
        · rw [tot_cons]; simp [tot]
        · simp [tot]
      have := sum_in (c := c) n (fun b => tot n S N (tails b l)) (nu n y * S ^ (N - y.length)) hA
      simp only [e3]
      rw [e1, e2]
      omega
theorem tot_ge {A : List UInt8} (hA : A.Nodup) {n : UInt8 → Nat} : ∀ {N : Nat} {l : List W}, (∀ x : W, (∀ b ∈ x, b ∈ A) → x.length ≤ N → x ∈ l) → (N + 1) * (A.map n).sum ^ N ≤ tot n (A.map n).sum N l
  | N, l, h => by
    have he : 1 ≤ emp l := by
      unfold emp
      exact List.countP_pos_iff.2 ⟨[], h [] (by simp) (Nat.zero_le _), rfl⟩
    cases N with
    | zero =>
      have : ∀ l : List W, emp l ≤ tot n (A.map n).sum 0 l := by
        intro l
        induction l with
        | nil => simp [tot, emp]
        | cons x l ih =>
          rw [tot_cons]
          cases x with
          | nil => simp [emp, nu_nil] at ih ⊢; omega
          | cons c y => simp [emp] at ih ⊢; omega
      have := this l
      simp; omega
    | succ N =>
      refine Nat.le_trans ?_ (tot_split_ge hA l)
      have h1 := Nat.mul_le_mul_right ((A.map n).sum ^ (N + 1)) he
      rw [Nat.one_mul] at h1
      have h2 : (A.map n).sum * ((N + 1) * (A.map n).sum ^ N) ≤ (A.map fun b => n b * tot n (A.map n).sum N (tails b l)).sum := by
        have key : ∀ (C : Nat) (B : List UInt8), (∀ b ∈ B, C ≤ tot n (A.map n).sum N (tails b l)) → (B.map n).sum * C ≤ (B.map fun b => n b * tot n (A.map n).sum N (tails b l)).sum := by
          intro C B hB
          induction B with
          | nil => simp
          | cons b B ih =>
            rw [List.map_cons, List.map_cons, List.sum_cons, List.sum_cons, Nat.add_mul]
            have i1 := Nat.mul_le_mul_left (n b) (hB b (by simp))
            have i2 := ih fun c hc => hB c (by simp [hc])
            omega
        refine key _ A fun b hb => tot_ge hA fun x hx hl => ?_
        refine mem_tails.2 (h _ (fun c hc => ?_) (by rw [List.length_cons]; omega))
        rcases List.mem_cons.1 hc with rfl | hc
        · exact hb
        · exact hx c hc
      have h3 : (A.map n).sum * ((N + 1) * (A.map n).sum ^ N) = (N + 1) * (A.map n).sum ^ (N + 1) := by
        rw [Nat.pow_succ, Nat.mul_left_comm, Nat.mul_comm ((A.map n).sum) (_ ^ N)]
      rw [h3] at h2
      have h4 : (N + 1 + 1) * (A.map n).sum ^ (N + 1) = (N + 1) * (A.map n).sum ^ (N + 1) + (A.map n).sum ^ (N + 1) := by rw [Nat.add_mul, Nat.one_mul]
      omega

def fac (w : W) : List W := (List.range (w.length + 1)).flatMap fun i => (List.range (w.length + 1)).map fun j => (w.drop i).take j
def facs (X : List W) : List W := [] :: X.flatMap fac
theorem mem_fac {w f : W} (h : f <:+: w) : f ∈ fac w := by
  obtain ⟨p, s, rfl⟩ := h
  unfold fac
  rw [List.mem_flatMap]
  refine ⟨p.length, List.mem_range.2 (by simp only [List.length_append]; omega), List.mem_map.2 ⟨f.length, List.mem_range.2 (by simp only [List.length_append]; omega), ?_⟩⟩
  rw [List.append_assoc, List.drop_left, List.take_left]
theorem mem_facs {X : List W} {w f : W} (hw : w ∈ X) (h : f <:+: w) : f ∈ facs X := List.mem_cons_of_mem _ (List.mem_flatMap.2 ⟨w, hw, mem_fac h⟩)
theorem fac_in {w f : W} (h : f ∈ fac w) : f <:+: w := by
  obtain ⟨i, _, h2⟩ := List.mem_flatMap.1 h
  obtain ⟨j, _, rfl⟩ := List.mem_map.1 h2
  exact ⟨w.take i, (w.drop i).drop j, by rw [List.append_assoc, List.take_append_drop, List.take_append_drop]⟩
theorem begin_of {X : List W} : ∀ {a : List W} {x s : W}, (∀ w ∈ a, w ∈ X) → x ++ s = a.flatten → ∃ (b : List W) (g : W), (∀ w ∈ b, w ∈ X) ∧ g ∈ facs X ∧ x = b.flatten ++ g
  | [], x, s, _, h => by
    have : x = [] := (List.append_eq_nil_iff.1 h).1
    subst this
    exact ⟨[], [], by simp, by simp [facs], rfl⟩
  | w :: a, x, s, hX, h => by
    rw [List.flatten_cons] at h
    rcases List.append_eq_append_iff.1 h with ⟨u, h1, h2⟩ | ⟨u, h1, h2⟩
    · exact ⟨[], x, by simp, mem_facs (hX w (by simp)) ⟨[], u, by rw [h1]; rfl⟩, rfl⟩
    · obtain ⟨b, g, i1, i2, i3⟩ := begin_of (a := a) (x := u) (s := s) (fun v hv => hX v (by simp [hv])) h2.symm
      refine ⟨w :: b, g, fun v hv => ?_, i2, by rw [h1, i3, List.flatten_cons, List.append_assoc]⟩
      rcases List.mem_cons.1 hv with rfl | hv
      · exact hX _ (by simp)
      · exact i1 v hv
theorem part_of {X : List W} : ∀ {a : List W} {p x s : W}, (∀ w ∈ a, w ∈ X) → p ++ x ++ s = a.flatten → ∃ (f : W) (b : List W) (g : W), f ∈ facs X ∧ (∀ w ∈ b, w ∈ X) ∧ g ∈ facs X ∧ x = f ++ b.flatten ++ g
  | [], p, x, s, _, h => by
    have : x = [] := (List.append_eq_nil_iff.1 (List.append_eq_nil_iff.1 h).1).2
    subst this
    exact ⟨[], [], [], by simp [facs], by simp, by simp [facs], rfl⟩
  | w :: a, p, x, s, hX, h => by
    rw [List.flatten_cons, List.append_assoc] at h
    rcases List.append_eq_append_iff.1 h with ⟨u, h1, h2⟩ | ⟨u, h1, h2⟩
    · -- the part begins within the first word
      rcases List.append_eq_append_iff.1 h2 with ⟨v, h3, h4⟩ | ⟨v, h3, h4⟩
      · exact ⟨x, [], [], mem_facs (hX w (by simp)) ⟨p, v, by rw [h1, h3, List.append_assoc]⟩, by simp, by simp [facs], by simp⟩
      · obtain ⟨b, g, i1, i2, i3⟩ := begin_of (a := a) (x := v) (s := s) (fun y hy => hX y (by simp [hy])) h4.symm
        exact ⟨u, b, g, mem_facs (hX w (by simp)) ⟨p, [], by rw [h1, List.append_nil]⟩, i1, i2, by rw [h3, i3, List.append_assoc]⟩
    · have h3 : u ++ x ++ s = a.flatten := by rw [List.append_assoc]; exact h2.symm
      obtain ⟨f, b, g, i1, i2, i3, i4⟩ := part_of (a := a) (fun y hy => hX y (by simp [hy])) h3
      exact ⟨f, b, g, i1, i2, i3, i4⟩

theorem nu_le {A : List UInt8} {n : UInt8 → Nat} : ∀ {x : W}, (∀ b ∈ x, b ∈ A) → nu n x ≤ (A.map n).sum ^ x.length
  | [], _ => by simp [nu_nil]
  | b :: x, h => by
    rw [nu_cons, List.length_cons, Nat.pow_succ, Nat.mul_comm (_ ^ _)]
    refine Nat.mul_le_mul ?_ (nu_le fun c hc => h c (by simp [hc]))
    have hb := h b (by simp)
    clear h
    induction A with
    | nil => cases hb
    | cons a A ih =>
      rw [List.map_cons, List.sum_cons]
      rcases List.mem_cons.1 hb with rfl | hb
      · omega
      · have := ih hb; omega

def geo (V Q : Nat) : Nat → Nat
  | 0 => 1
  | N + 1 => Q * geo V Q N + V ^ (N + 1)
theorem geo_le {V Q : Nat} (h : V + 1 ≤ Q) : ∀ N, geo V Q N + V ^ (N + 1) ≤ Q ^ (N + 1)
  | 0 => by simp [geo]; omega
  | N + 1 => by
    have ih := Nat.mul_le_mul_left Q (geo_le h N)
    have e : geo V Q (N + 1) = Q * geo V Q N + V ^ (N + 1) := rfl
    rw [e, Nat.pow_succ Q, Nat.mul_comm (Q ^ _) Q]
    refine Nat.le_trans ?_ ih
    rw [Nat.mul_add, Nat.pow_succ V (N + 1)]
    have := Nat.mul_le_mul_left (V ^ (N + 1)) h
    rw [Nat.mul_add, Nat.mul_one, Nat.mul_comm _ Q] at this
    omega

def mid (X : List W) (N : Nat) (f g : W) (j : Nat) : List W := ((tup X j).map fun a => f ++ a.flatten ++ g).filter fun x => decide (x.length ≤ N)
theorem tot_flat (n : UInt8 → Nat) (S N : Nat) {α : Type} (f : α → List W) : ∀ l : List α, tot n S N (l.flatMap f) = (l.map fun a => tot n S N (f a)).sum
  | [] => rfl
  | a :: l => by rw [List.flatMap_cons, tot_app, tot_flat n S N f l, List.map_cons, List.sum_cons]
theorem sum_le_len {α : Type} (f : α → Nat) (C : Nat) : ∀ l : List α, (∀ a ∈ l, f a ≤ C) → (l.map f).sum ≤ l.length * C
  | [], _ => by simp
  | a :: l, h => by
    have h1 := h a (by simp)
    have h2 := sum_le_len f C l fun b hb => h b (by simp [hb])
    rw [List.map_cons, List.sum_cons, List.length_cons, Nat.add_mul, Nat.one_mul]; omega
section
variable {A : List UInt8} {n : UInt8 → Nat} {X : List W} {L : Nat}
theorem mid_le (hA : ∀ x ∈ X, ∀ b ∈ x, b ∈ A) (hL : ∀ w ∈ X, w.length ≤ L) {N j : Nat} {f g : W} (hf : ∀ b ∈ f, b ∈ A) (hg : ∀ b ∈ g, b ∈ A) :
    tot n (A.map n).sum N (mid X N f g j) * ((A.map n).sum ^ L) ^ j ≤ tot n (A.map n).sum L X ^ j * (A.map n).sum ^ N := by
  rw [← tot_msgs hL j]
  have key : ∀ T : List (List W), (∀ a ∈ T, a ∈ tup X j) →
      tot n (A.map n).sum N ((T.map fun a => f ++ a.flatten ++ g).filter fun x => decide (x.length ≤ N)) * ((A.map n).sum ^ L) ^ j ≤ tot n (A.map n).sum (j * L) (T.map List.flatten) * (A.map n).sum ^ N := by
    intro T
    induction T with
    | nil => intro _; simp [tot]
    | cons a T ih =>
      intro hT
      have ih := ih fun b hb => hT b (by simp [hb])
      obtain ⟨t1, t2⟩ := mem_tup.1 (hT a (by simp))
      have t3 := flat_len hL t2
      rw [t1] at t3
      rw [List.map_cons, List.map_cons, tot_cons, Nat.add_mul]
      by_cases hl : (f ++ a.flatten ++ g).length ≤ N
      · rw [List.filter_cons_of_pos (by simpa using hl), tot_cons, Nat.add_mul]
        refine Nat.add_le_add ?_ ih
        rw [nu_app, nu_app]
        simp only [List.length_append] at hl ⊢
        have n1 := nu_le (n := n) hf
        have n2 := nu_le (n := n) hg
        have e1 : ((A.map n).sum ^ L) ^ j = (A.map n).sum ^ (j * L) := by rw [← Nat.pow_mul, Nat.mul_comm]
        have e2 : (A.map n).sum ^ (j * L - a.flatten.length) * (A.map n).sum ^ N =
            (A.map n).sum ^ f.length * (A.map n).sum ^ g.length * (A.map n).sum ^ (N - (f.length + a.flatten.length + g.length)) * (A.map n).sum ^ (j * L) := by
          rw [← Nat.pow_add, ← Nat.pow_add, ← Nat.pow_add, ← Nat.pow_add]
          congr 1; omega
        rw [e1, Nat.mul_assoc (nu n a.flatten), e2]
        have n3 := Nat.mul_le_mul n1 n2
        have n4 := Nat.mul_le_mul_left (nu n a.flatten * ((A.map n).sum ^ (N - (f.length + a.flatten.length + g.length)) * (A.map n).sum ^ (j * L))) n3
        calc _ = nu n a.flatten * ((A.map n).sum ^ (N - (f.length + a.flatten.length + g.length)) * (A.map n).sum ^ (j * L)) * (nu n f * nu n g) := by simp only [Nat.mul_assoc, Nat.mul_left_comm, Nat.mul_comm]
          _ ≤ _ := n4
          _ = _ := by simp only [Nat.mul_assoc, Nat.mul_left_comm, Nat.mul_comm]
      · rw [List.filter_cons_of_neg (by simpa using hl)]
        omega
  exact key _ fun a ha => ha
theorem mids_le (hA : ∀ x ∈ X, ∀ b ∈ x, b ∈ A) (hL : ∀ w ∈ X, w.length ≤ L) {N : Nat} {f g : W} (hf : ∀ b ∈ f, b ∈ A) (hg : ∀ b ∈ g, b ∈ A) : ∀ M,
    tot n (A.map n).sum N ((List.range (M + 1)).flatMap (mid X N f g)) * ((A.map n).sum ^ L) ^ M ≤ (A.map n).sum ^ N * geo (tot n (A.map n).sum L X) ((A.map n).sum ^ L) M
  | 0 => by
    have := mid_le (n := n) hA hL (N := N) (j := 0) hf hg
    simpa [geo] using this
  | M + 1 => by
    have ih := mids_le hA hL (N := N) hf hg M
    have h1 := mid_le (n := n) hA hL (N := N) (j := M + 1) hf hg
    rw [List.range_succ, List.flatMap_append, tot_app, List.flatMap_singleton, Nat.add_mul]
    have e : geo (tot n (A.map n).sum L X) ((A.map n).sum ^ L) (M + 1) = (A.map n).sum ^ L * geo (tot n (A.map n).sum L X) ((A.map n).sum ^ L) M + tot n (A.map n).sum L X ^ (M + 1) := rfl
    rw [e, Nat.mul_add, Nat.mul_comm ((A.map n).sum ^ N) (_ ^ (M + 1))]
    refine Nat.add_le_add ?_ h1
    rw [Nat.pow_succ, ← Nat.mul_assoc, Nat.mul_left_comm ((A.map n).sum ^ N), Nat.mul_comm _ ((A.map n).sum ^ L)]
    exact Nat.mul_le_mul_left _ ih
theorem complete_ge (hd : A.Nodup) (hA : ∀ x ∈ X, ∀ b ∈ x, b ∈ A) (hL : ∀ w ∈ X, w.length ≤ L) (hne : ∀ w ∈ X, w ≠ []) (hS : 0 < (A.map n).sum)
    (hc : ∀ x : W, (∀ b ∈ x, b ∈ A) → ∃ (a : List W) (p s : W), (∀ w ∈ a, w ∈ X) ∧ p ++ x ++ s = a.flatten) : (A.map n).sum ^ L ≤ tot n (A.map n).sum L X := by
  refine Nat.le_of_not_lt fun hlt => ?_
  have hfa : ∀ f ∈ facs X, ∀ b ∈ f, b ∈ A := fun f hf b hb => by
    rcases List.mem_cons.1 hf with rfl | hf
    · cases hb
    · obtain ⟨w, hw, hf⟩ := List.mem_flatMap.1 hf
      exact hA w hw b ((fac_in hf).subset hb)
  obtain ⟨N, hN⟩ : ∃ N, N = (facs X).length * (facs X).length * (A.map n).sum ^ L := ⟨_, rfl⟩
  have h1 : (N + 1) * (A.map n).sum ^ N ≤ tot n (A.map n).sum N ((facs X).flatMap fun f => (facs X).flatMap fun g => (List.range (N + 1)).flatMap (mid X N f g)) := by
    refine tot_ge hd fun x hx hl => ?_
    obtain ⟨a, p, s, c1, c2⟩ := hc x hx
    obtain ⟨f, b, g, i1, i2, i3, i4⟩ := part_of c1 c2
    refine List.mem_flatMap.2 ⟨f, i1, List.mem_flatMap.2 ⟨g, i3, List.mem_flatMap.2 ⟨b.length, List.mem_range.2 ?_, ?_⟩⟩⟩
    · have hbl : ∀ b : List W, (∀ w ∈ b, w ∈ X) → b.length ≤ b.flatten.length := by
        intro b
        induction b with
        | nil => intro _; simp
        | cons w b ih =>
          intro h
          have h1 := ih fun v hv => h v (by simp [hv])
          have h2 := List.length_pos_iff.2 (hne w (h w (by simp)))
          rw [List.flatten_cons, List.length_append, List.length_cons]; omega
      have := hbl b i2
      rw [i4] at hl
      simp only [List.length_append] at hl
      omega
    · unfold mid
      rw [List.mem_filter]
      exact ⟨List.mem_map.2 ⟨b, mem_tup.2 ⟨rfl, i2⟩, i4.symm⟩, by simpa using hl⟩
  rw [tot_flat] at h1
  have hQ : 0 < ((A.map n).sum ^ L) ^ N := Nat.pow_pos (Nat.pow_pos hS)
  have hg := geo_le (show tot n (A.map n).sum L X + 1 ≤ (A.map n).sum ^ L from hlt) N
  have h2 : ∀ f ∈ facs X, tot n (A.map n).sum N ((facs X).flatMap fun g => (List.range (N + 1)).flatMap (mid X N f g)) ≤ (facs X).length * ((A.map n).sum ^ N * (A.map n).sum ^ L) := fun f hf => by
    rw [tot_flat]
    refine sum_le_len _ _ _ fun g hg' => ?_
    have h3 := mids_le (n := n) hA hL (N := N) (hfa f hf) (hfa g hg') N
    have h4 : (A.map n).sum ^ N * geo (tot n (A.map n).sum L X) ((A.map n).sum ^ L) N ≤ (A.map n).sum ^ N * (A.map n).sum ^ L * ((A.map n).sum ^ L) ^ N := by
      rw [Nat.mul_assoc, ← Nat.pow_succ']
      exact Nat.mul_le_mul_left _ (by rw [Nat.succ_eq_add_one]; omega)
    exact Nat.le_of_mul_le_mul_right (Nat.le_trans h3 h4) hQ
  have h5 := Nat.le_trans h1 (sum_le_len _ _ _ h2)
  have h6 : (facs X).length * ((facs X).length * ((A.map n).sum ^ N * (A.map n).sum ^ L)) = N * (A.map n).sum ^ N := by rw [hN]; simp only [Nat.mul_assoc, Nat.mul_left_comm, Nat.mul_comm]
  rw [h6] at h5
  have := Nat.le_of_mul_le_mul_right h5 (Nat.pow_pos hS)
  omega
end
end Go.Mc
end

section
namespace Go.Mc

def Part (X : List W) (w : W) : Prop := ∃ (a : List W) (p s : W), (∀ x ∈ a, x ∈ X) ∧ p ++ w ++ s = a.flatten
def ends (w : W) : List W := (List.range (w.length + 1)).map fun k => w.drop k
theorem mem_ends {w x : W} : x ∈ ends w ↔ x <:+ w := by
  unfold ends
  rw [List.mem_map]
  constructor
  · rintro ⟨k, _, rfl⟩
    exact List.drop_suffix k w
  · rintro ⟨p, rfl⟩
    exact ⟨p.length, List.mem_range.2 (by rw [List.length_append]; omega), List.drop_left⟩
def begL (X : List W) : List W := X.flatMap ends
def rdS (X S : List W) (c : UInt8) : List W := tails c S ++ if [] ∈ S then tails c X else []
def runSt (can : List W → List W) (X : List W) (w : W) : List W := w.foldl (fun S c => can (rdS X S c)) (can (begL X))
theorem runSt_snoc (can : List W → List W) (X : List W) (w : W) (c : UInt8) : runSt can X (w ++ [c]) = can (rdS X (runSt can X w) c) := by
  unfold runSt; rw [List.foldl_append]; rfl
theorem rev_ind {P : W → Prop} (h0 : P []) (h1 : ∀ w c, P w → P (w ++ [c])) (w : W) : P w := by
  have : ∀ n (w : W), w.length = n → P w := by
    intro n
    induction n with
    | zero => intro w hw; rw [List.length_eq_zero_iff.1 hw]; exact h0
    | succ n ih =>
      intro w hw
      have hne : w ≠ [] := fun e => by rw [e] at hw; simp at hw
      rw [← List.dropLast_concat_getLast hne]
      exact h1 _ _ (ih _ (by rw [List.length_dropLast, hw]; rfl))
  exact this _ w rfl
section
variable {can : List W → List W} (hcan : ∀ l x, x ∈ can l ↔ x ∈ l) {X : List W}
include hcan
theorem run_sound : ∀ (w r : W), r ∈ runSt can X w → ∃ (a : List W) (p : W), (∀ x ∈ a, x ∈ X) ∧ p ++ w ++ r = a.flatten := by
  intro w
  refine rev_ind (P := fun w => ∀ r, r ∈ runSt can X w → ∃ (a : List W) (p : W), (∀ x ∈ a, x ∈ X) ∧ p ++ w ++ r = a.flatten) ?_ ?_ w
  · intro r hr
    obtain ⟨x, hx, h⟩ := List.mem_flatMap.1 ((hcan _ _).1 hr)
    obtain ⟨p, h⟩ := mem_ends.1 h
    exact ⟨[x], p, fun y hy => by rw [List.mem_singleton.1 hy]; exact hx, by simp [h]⟩
  · intro w c ih r hr
    rw [runSt_snoc, hcan] at hr
    unfold rdS at hr
    rcases List.mem_append.1 hr with h | h
    · obtain ⟨a, p, h1, h2⟩ := ih _ (mem_tails.1 h)
      exact ⟨a, p, h1, by rw [← h2]; simp⟩
    · split at h
      · rename_i h0
        obtain ⟨a, p, h1, h2⟩ := ih _ h0
        refine ⟨a ++ [c :: r], p, fun x hx => ?_, by rw [List.flatten_append, ← h2]; simp⟩
        rcases List.mem_append.1 hx with hx | hx
        · exact h1 x hx
        · rw [List.mem_singleton.1 hx]; exact mem_tails.1 h
      · cases h
theorem run_compl (hne : ∀ x ∈ X, x ≠ []) (hX : X ≠ []) : ∀ (w s : W) (a : List W) (p : W), (∀ x ∈ a, x ∈ X) → p ++ w ++ s = a.flatten → ∃ (r : W) (b : List W), r ∈ runSt can X w ∧ (∀ x ∈ b, x ∈ X) ∧ s = r ++ b.flatten := by
  intro w
  refine rev_ind (P := fun w => ∀ (s : W) (a : List W) (p : W), (∀ x ∈ a, x ∈ X) → p ++ w ++ s = a.flatten → ∃ (r : W) (b : List W), r ∈ runSt can X w ∧ (∀ x ∈ b, x ∈ X) ∧ s = r ++ b.flatten) ?_ ?_ w
  · intro s a
    induction a generalizing s with
    | nil =>
      intro p _ h
      have : s = [] := (List.append_eq_nil_iff.1 h).2
      subst this
      cases X with
      | nil => exact absurd rfl hX
      | cons x X => exact ⟨[], [], (hcan _ _).2 (List.mem_flatMap.2 ⟨x, by simp, mem_ends.2 (List.nil_suffix)⟩), by simp, by simp⟩
    | cons x a ih =>
      intro p ha h
      rw [List.append_nil, List.flatten_cons] at h
      rcases List.append_eq_append_iff.1 h with ⟨u, h1, h2⟩ | ⟨u, h1, h2⟩
      · exact ⟨u, a, (hcan _ _).2 (List.mem_flatMap.2 ⟨x, ha x (by simp), mem_ends.2 ⟨p, h1.symm⟩⟩), fun y hy => ha y (by simp [hy]), h2⟩
      · exact ih s u (fun y hy => ha y (by simp [hy])) (by rw [List.append_nil]; exact h2.symm)
  · intro w c ih s a p ha h
    obtain ⟨r, b, h1, h2, h3⟩ := ih (c :: s) a p ha (by rw [← h]; simp)
    rw [runSt_snoc]
    cases r with
    | cons d r =>
      rw [List.cons_append] at h3
      injection h3 with h4 h5
      subst h4
      exact ⟨r, b, (hcan _ _).2 (List.mem_append_left _ (mem_tails.2 h1)), h2, h5⟩
    | nil =>
      cases b with
      | nil => simp at h3
      | cons x b =>
        have hx := h2 x (by simp)
        cases x with
        | nil => exact absurd rfl (hne _ hx)
        | cons d x =>
          rw [List.nil_append, List.flatten_cons, List.cons_append] at h3
          injection h3 with h4 h5
          subst h4
          refine ⟨x, b, (hcan _ _).2 (List.mem_append_right _ ?_), fun y hy => h2 y (by simp [hy]), h5⟩
          rw [if_pos h1]
          exact mem_tails.2 hx
theorem run_iff (hne : ∀ x ∈ X, x ≠ []) (hX : X ≠ []) (w : W) : runSt can X w ≠ [] ↔ Part X w := by
  constructor
  · intro h
    obtain ⟨r, hr⟩ := List.exists_mem_of_ne_nil _ h
    obtain ⟨a, p, h1, h2⟩ := run_sound hcan w r hr
    exact ⟨a, p, r, h1, h2⟩
  · rintro ⟨a, p, s, h1, h2⟩ he
    obtain ⟨r, b, h3, _⟩ := run_compl hcan hne hX w s a p h1 h2
    rw [he] at h3; cases h3
end
end Go.Mc
end

section
namespace Go.Proofs.YtpljmccnfmkmfaaGreat
open Go Go.AM Go.Mc

theorem ends_take {w : List UInt8} {n : Nat} (hn : n ≤ w.length) : (ends w).take (n + 1) = (ends w).take n ++ [w.drop n] := by
  have hl : n < (ends w).length := by unfold ends; simp; omega
  have e : (ends w)[n] = w.drop n := by
    have h : (ends w)[n]? = some (w.drop n) := by unfold ends; rw [List.getElem?_map, List.getElem?_range (by omega)]; rfl
    rw [List.getElem?_eq_getElem hl] at h
    exact Option.some.inj h
  rw [List.take_succ_eq_append_getElem hl, e]
theorem ends_len (w : List UInt8) : (ends w).length = w.length + 1 := by unfold ends; simp
def apH (q : Int) (ws l : List (List UInt8)) (w : List UInt8) (n : Nat) (rec : AObj) : List AObj :=
  [.box [.p (.int .i64 q), .p (.sl (ws.map .str))], .row 9 1 ((l ++ (ends w).take n).map .str) (rkOf (l ++ (ends w).take n)), .box [.p (.str w)], .box [.own 1 (l ++ (ends w).take n).length], rec]
theorem c196m {q : Int} {ws l : List (List UInt8)} {w : List UInt8} (hwl : w.length ≤ 100000) {tm : List AV} {ps : List Nat} {cs bd : Code}
    (hround : ∀ n, n < w.length + 1 → n ≤ w.length → YC Tryz.prog 4 [.p (.str (w.drop n))] (apH q ws l w n (.lp tm ps cs bd .ready)) [1] (fun v h' => v = .p (.bool true) ∧ h' = apH q ws l w (n + 1) (.lp tm ps cs bd .ready))) :
    AC Tryz.prog 196 [.yld 4, .ptr 2 0] (apH q ws l w 0 (.lp tm ps cs bd .ready)) [1] (fun _ h' => h' = apH q ws l w (w.length + 1) (.lp tm ps cs bd .ready)) :=
  c196 (by simp) (by simp) w hwl (fun n => apH q ws l w n (.lp tm ps cs bd .ready)) (w.length + 1) (w.length + 1) (by simp [apH]) (fun n _ => rfl) hround (.inl ⟨rfl, rfl⟩)
theorem c147 (q : Int) (ws l : List (List UInt8)) (w : List UInt8) (hw : w.length ≤ 1000) (hl : l.length ≤ 1000000) :
    AC Tryz.prog 147 [.own 1 l.length, .fn 196 [.ptr 2 0]] [.box [.p (.int .i64 q), .p (.sl (ws.map .str))], .row 9 1 (l.map .str) (rkOf l), .box [.p (.str w)]] [1]
      (fun v h' => v = .own 1 (l ++ ends w).length ∧ h' = [.box [.p (.int .i64 q), .p (.sl (ws.map .str))], .row 9 1 ((l ++ ends w).map .str) .own, .box [.p (.str w)]]) := by
  refine AC.of_bodyE hΓ Tryz.func147 (by kernel_rfl) rfl (AWp.mono (Q := fun e st => AM.Ends e ∧ st.tmps.getD 4 .junk = .own 1 (l ++ ends w).length ∧ st.h = [.box [.p (.int .i64 q), .p (.sl (ws.map .str))], .row 9 1 ((l ++ ends w).map .str) .own, .box [.p (.str w)], .box [.own 1 (l ++ ends w).length], .dead]) ?_ ?_)
  rotate_left
  · rintro e ⟨tm, h'⟩ ⟨he, h1, h2⟩
    simp only at h1 h2
    subst h2
    refine ⟨he, _, Less.refl _, ?_⟩
    unfold DoneE
    simp +contextual -implicitDefEqProofs only [Tryz.results147, h1, go_sem]
    refine ⟨3, by simp, .inr ?_, ?_⟩
    · simp [AV.under, AObj.under, AV.under.underL]
    · simp
  refine AWp.seq (AWp.of_awpD [] hΓ hmix (by kernel_rfl) ?_)
  simp -implicitDefEqProofs only [Tryz.ntmps147, Nat.reduceAdd, Nat.reduceSub, go_sem]
  refine AWp.seq (AWp.seq (AWp.of_awpD [] hΓ hmix (by kernel_rfl) ?_))
  simp -implicitDefEqProofs only [go_sem]
  refine AWp.block ?_
  refine AWp.weak (st' := ⟨mkF 13 [(2, .ptr 3 0), (6, .fn 196 [.ptr 2 0])], [.box [.p (.int .i64 q), .p (.sl (ws.map .str))], .row 9 1 ((l ++ (ends w).take 0).map .str) (rkOf (l ++ (ends w).take 0)), .box [.p (.str w)], .box [.own 1 (l ++ (ends w).take 0).length]]⟩) (by simp [go_sem, weakH_self]) ?_
  rw [show (#[7] : Array Nat) = [7].toArray from rfl]
  refine AWp.rangeFunc (ks := [1]) rfl (c196m (q := q) (ws := ws) (l := l) (w := w) (by omega) ?_) (by simp) (by simp) ?_
  · intro n hn hnx
    have hsuc := ends_take (w := w) hnx
    have htl : ((ends w).take n).length ≤ n := by rw [List.length_take]; omega
    unfold apH
    rw [hsuc, ← List.append_assoc]
    generalize hoe : l ++ (ends w).take n = out at *
    have hol : out.length ≤ l.length + 1001 := by rw [← hoe, List.length_append]; omega
    refine YC.of_body (Γ := Γ) rfl rfl (by simp) ?_
    intro rr
    refine AWp.of_awpD [] hΓ hmix (by kernel_rfl) ?_
    simp -implicitDefEqProofs only [setP, go_sem]
    unfold BeginE
    refine ⟨rfl, ?_⟩
    simp -implicitDefEqProofs only [go_sem]
    refine AWp.of_awpD [] hΓ hmix (by kernel_rfl) ?_
    have hs1 : sizeOK [PV.str (w.drop n)] 1 := by simp [sizeOK, PV.cells]
    have ho1 : oneOK [PV.str (w.drop n)] := by simp [oneOK, PV.cells, PV.isAgg]
    simp -implicitDefEqProofs only [go_sem]
    refine ⟨⟨hs1, by omega⟩, ⟨hs1, ho1⟩, ⟨by unfold rkOf; split <;> simp, .inr (by simp), by omega, by omega⟩, ?_⟩
    unfold RoundE
    simp -implicitDefEqProofs only [killAll, List.foldl, AObj.kill, AV.kill, AV.kill.killL, go_sem]
    refine ⟨_, ?_, .inl rfl, ?_⟩
    rotate_left
    · rw [List.take_length, rkOf_snoc]
      simp
      try omega
    · simp
  · rintro v h' rfl
    unfold apH RangeK
    simp -implicitDefEqProofs only [killAll, List.foldl, go_sem]
    have ht : (ends w).take (w.length + 1) = ends w := List.take_of_length_le (by rw [ends_len]; exact Nat.le_refl _)
    have hr : rkOf (l ++ ends w) = .own := by
      unfold rkOf
      rw [if_neg]
      intro e
      have := congrArg List.length e
      rw [List.length_append, ends_len] at this
      simp at this
    rw [ht, hr]
    refine AWp.of_awpD [] hΓ hmix (by kernel_rfl) ?_
    simp -implicitDefEqProofs only [go_sem]
end Go.Proofs.YtpljmccnfmkmfaaGreat
end

