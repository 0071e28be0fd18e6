/-
  Texts of this claim, joined.
-/
import Derived.Test.YtpljmccnfmkmfaaGreatJaba7192866c2
import Derived.Test.YtpljmccnfmkmfaaGreatJ5eec9807ac87
import Derived.Test.YtpljmccnfmkmfaaGreatJ68c5aa50e6a9
import Derived.Test.YtpljmccnfmkmfaaGreatJb379843f5219
import Derived.Test.YtpljmccnfmkmfaaGreatJ87370f26952d
import Derived.Test.YtpljmccnfmkmfaaGreatJ990e56e05f3e
import Derived.Test.YtpljmccnfmkmfaaGreatJ5229d75e92a6
import Derived.Test.YtpljmccnfmkmfaaGreatJ4f3daeb92d9a

set_option linter.unusedSimpArgs false
set_option maxRecDepth 100000
set_option maxHeartbeats 4000000
section
namespace Go.Proofs.YtpljmccnfmkmfaaGreat.Kn
open Go Go.AM

def iV (n : Int) : PV := .int .i64 n
theorem c92 {h : List AObj} {g : FuncId} {caps : List AV} {pr : Int → Bool} (ws : List Int) (hl : ws.length ≤ 9223372036854775807)
    (hg : ∀ w ∈ ws, AC Tryz.prog g (.p (.int .i64 w) :: caps) h [] (fun v h' => v = .p (.bool (pr w)) ∧ h' = h)) :
    AC Tryz.prog 137 [.p (.sl (ws.map iV)), .fn g caps] h [] (fun v h' => (∃ i : Int, v = .p (.int .i64 i) ∧ decide (0 ≤ i) = ws.any pr) ∧ h' = h) := by
  refine AC.of_bodyE hΓ Tryz.func137 (by kernel_rfl) rfl (AWp.mono (Q := fun e st => AM.Ends e ∧ (∃ i : Int, st.tmps.getD 4 .junk = .p (.int .i64 i) ∧ decide (0 ≤ i) = ws.any pr) ∧ st.h = h) ?_ ?_)
  rotate_left
  · rintro e ⟨tm, h'⟩ ⟨he, ⟨i, h1, h3⟩, h2⟩
    simp only at h1 h2; subst h2; refine ⟨he, _, Less.refl _, ?_⟩; unfold Z56; simp +contextual -implicitDefEqProofs only [Tryz.results137, h1, go_sem]; exact ⟨_, Nat.le_refl _, .inl rfl, ⟨i, rfl, h3⟩, List.take_length⟩
  refine Wd [] ?_; simp +contextual -implicitDefEqProofs only [Tryz.ntmps137, Nat.reduceAdd, Nat.reduceSub, go_sem]
  refine AWp.loopI (fun k : Nat => ⟨mkF 19 [(0, .p (.sl (ws.map iV))), (1, .fn g caps), (7, .p (.int .i64 ws.length)), (8, .p (.int .i64 k))], h⟩)
    (fun k => k ≤ ws.length ∧ (ws.take k).any pr = false) (fun k => ws.length - k) 0 (by simp [go_sem, Z8]) (by simp) ?_
  rintro k ⟨hk, h0⟩; refine Wd [] ?_; by_cases hlt : k < ws.length
  · have hgk : (ws.map iV).getD k default = .int .i64 ws[k] := by rw [Z2 _ _ _ _ hlt]; rfl
    simp -implicitDefEqProofs only [List.length_map, hlt, hgk, Int.toNat_natCast, go_sem]; refine Zt (hg ws[k] (List.getElem_mem hlt)) (by simp) ?_; rintro v h' ⟨rfl, rfl⟩
    cases hp : pr ws[k]
    · simp -implicitDefEqProofs only [Za, List.foldl, go_sem]
      refine ⟨by simp only [InR]; omega, k + 1, by simp [Z8], ⟨hlt, ?_⟩, by omega⟩; rw [List.take_succ_eq_append_getElem hlt, List.any_append, h0]; simp [hp]
    · simp -implicitDefEqProofs only [Za, List.foldl, go_sem]
      refine ⟨k, rfl, ?_⟩; rw [List.any_eq_true.2 ⟨_, List.getElem_mem hlt, hp⟩]; simp
  · simp -implicitDefEqProofs only [hlt, go_sem]
    exact ⟨-1, rfl, by rw [List.take_of_length_le (by omega)] at h0; rw [h0]; rfl⟩

theorem c48 {h : List AObj} {g : FuncId} {caps : List AV} {pr : Int → Bool} (ws : List Int) (hl : ws.length ≤ 9223372036854775807)
    (hg : ∀ w ∈ ws, AC Tryz.prog g (.p (.int .i64 w) :: caps) h [] (fun v h' => v = .p (.bool (pr w)) ∧ h' = h)) :
    AC Tryz.prog 70 [.p (.sl (ws.map iV)), .fn g caps] h [] (fun v h' => v = .p (.bool (ws.any pr)) ∧ h' = h) := by
  refine AC.of_bodyE hΓ Tryz.func70 (by kernel_rfl) rfl (AWp.mono (Q := fun e st => AM.Ends e ∧ st.tmps.getD 4 .junk = .p (.bool (ws.any pr)) ∧ st.h = h) ?_ ?_)
  rotate_left
  · rintro e ⟨tm, h'⟩ ⟨he, h1, h2⟩
    simp only at h1 h2; subst h2; refine ⟨he, _, Less.refl _, ?_⟩; unfold Z56; simp +contextual -implicitDefEqProofs only [Tryz.results70, h1, go_sem]; exact ⟨_, Nat.le_refl _, .inl rfl, List.take_length⟩
  refine Wd [] ?_; simp +contextual -implicitDefEqProofs only [Tryz.ntmps70, Nat.reduceAdd, Nat.reduceSub, go_sem]; refine Zt (c92 ws hl hg) (by simp) ?_; rintro v h' ⟨⟨i, rfl, hi⟩, rfl⟩; simp -implicitDefEqProofs only [Za, List.foldl, go_sem]; exact hi

def badL (n : Int) : Bool := decide (n < 1) || decide (32 < n)
theorem v93 (n : Int) : PFn Tryz.prog 97 [.int .i64 n] [.bool (badL n)] := by
  unfold badL; refine PFn.of_body hΓ Tryz.func97 (by kernel_rfl) rfl (Wd [] ?_); by_cases h1 : n < 1
  · simp -implicitDefEqProofs only [Tryz.ntmps97, Tryz.results97, Nat.reduceAdd, Nat.reduceSub, h1, go_sem]
    try simp [h1]
  · simp -implicitDefEqProofs only [Tryz.ntmps97, Tryz.results97, Nat.reduceAdd, Nat.reduceSub, h1, go_sem]
    try simp [h1]
theorem c93a {h : List AObj} (n : Int) : AC Tryz.prog 97 [.p (.int .i64 n)] h [] (fun v h' => v = .p (.bool (badL n)) ∧ h' = h) := by
  have := AC.of_fn (h := h) (v93 n) (args := [.p (.int .i64 n)]) (.inl rfl); exact this
theorem v48 (ws : List Int) (hl : ws.length ≤ 9223372036854775807) {h : List AObj} : AC Tryz.prog 70 [.p (.sl (ws.map iV)), .fn 97 []] h [] (fun v h' => v = .p (.bool (ws.any badL)) ∧ h' = h) :=
  c48 ws hl fun w _ => c93a w

theorem v58 : PFn Tryz.prog 91 [] [ratV 1 1] := by
  have e1 := u34 1 (by omega); have e2 := v52 1 one_cap; refine PFn.of_body hΓ Tryz.func91 (by kernel_rfl) rfl (Wd [] ?_); simp -implicitDefEqProofs only [Tryz.ntmps91, Tryz.results91, Nat.reduceAdd, Nat.reduceSub, go_sem]; refine Z0 e1 (.pures rfl) ?_; simp -implicitDefEqProofs only [go_sem]; refine Z0 e2 (.pures rfl) ?_; simp -implicitDefEqProofs only [ratV, go_sem]

def krS (q : Nat) (l : List Nat) : Nat := (l.map fun n => q ^ (32 - n)).sum
theorem Zpn (q : Nat) : krS q [] = 0 := rfl
theorem krS_snoc (q : Nat) (l : List Nat) (n : Nat) : krS q (l ++ [n]) = krS q l + q ^ (32 - n) := by simp [krS]
theorem Zaf {q n : Nat} (h : q ≤ 16) : q ^ (32 - n) ≤ 16 ^ 32 := Nat.le_trans (Nat.pow_le_pow_left h _) (Nat.pow_le_pow_right (by decide) (by omega))
theorem krS_le {q : Nat} (hq : q ≤ 16) : ∀ l : List Nat, krS q l ≤ l.length * 16 ^ 32
  | [] => Nat.zero_le _
  | n :: l => by
    have ih := krS_le hq l; have h1 := Zaf (q := q) (n := n) hq; have e : krS q (n :: l) = q ^ (32 - n) + krS q l := by simp [krS]
    rw [e, List.length_cons, Nat.succ_mul]; omega
theorem Zia {q : Nat} (hq : q ≤ 16) {l : List Nat} (hl : l.length ≤ 4096) : krS q l < capN := by
  have h1 := krS_le hq l; have h2 : l.length * 16 ^ 32 ≤ 4096 * 16 ^ 32 := Nat.mul_le_mul_right _ hl; have h3 : 4096 * 16 ^ 32 < capN := Z4s (n := 4096 * 16 ^ 32) (k := 18) (by decide) (by decide); omega
theorem Zoj {q : Nat} (hq : q ≤ 16) : q ^ 32 < capN := by
  have h1 := Zaf (q := q) (n := 0) hq; have h3 : 16 ^ 32 < capN := Z4s (n := 16 ^ 32) (k := 17) (by decide) (by decide); rw [Nat.sub_zero] at h1; omega
def nV (n : Nat) : PV := .int .i64 (n : Int)
theorem v50 (q : Nat) (ns : List Nat) (hq2 : 2 ≤ q) (hq : q ≤ 16) (hl : ns.length ≤ 4096) (hn : ∀ n ∈ ns, 1 ≤ n ∧ n ≤ 32) : PFn Tryz.prog 47 [.int .i64 q, .sl (ns.map nV)] [ratV (krS q ns) (q ^ 32), .int .i64 0] := by
  have hq1 : ¬ (q : Int) < 2 := by omega
  have hq3 : ¬ (16 : Int) < (q : Int) := by omega
  have hl' : ¬ (4096 : Int) < (ns.length : Int) := by omega
  have hmap : (ns.map nV) = (ns.map fun n : Nat => (n : Int)).map iV := by rw [List.map_map]; rfl
  have hany : (ns.map fun n : Nat => (n : Int)).any badL = false := by
    rw [List.any_eq_false]; intro x hx; obtain ⟨n, hn', rfl⟩ := List.mem_map.1 hx; have := hn n hn'; unfold badL; simp only [Bool.or_eq_true, decide_eq_true_eq]; omega
  have hc := v48 (ns.map fun n : Nat => (n : Int)) (by simp; omega) (h := [.box [.p (.bool false), .p (.str []), .p (.bool false), .p (.str [])]]); rw [← hmap, hany] at hc; have eq := u34 q (by omega); have e32 := v94 q 32 (by omega) hq (by omega); have enew := v96 (krS q ns) (q ^ 32) (Zia hq hl) (Zoj hq) (Nat.ne_of_gt (Nat.pow_pos (by omega))); refine PFn.of_body hΓ Tryz.func47 (by kernel_rfl) rfl (Wd [] ?_); simp -implicitDefEqProofs only [Tryz.ntmps47, Tryz.results47, Nat.reduceAdd, Nat.reduceSub, hq1, hq3, List.length_map, hl', go_sem]; refine Zt hc (by simp) ?_; rintro v h' ⟨rfl, rfl⟩; simp -implicitDefEqProofs only [Za, List.foldl, go_sem]
  refine AWp.loopJ (fun i : Nat => ⟨mkF 59 [(0, .p (.int .i64 q)), (4, .ptr 0 0), (6, .ptr 1 0), (30, .p (.sl (ns.map nV))), (31, .p (.int .i64 ns.length)), (32, .p (.int .i64 i))], [.box [.p (.bool false), .p (.str []), .p (.bool false), .p (.str [])], .box [.p (.bool false), .p (.str (magB (krS q (ns.take i))))]]⟩)
    (fun i => i ≤ ns.length) (fun i => ns.length - i) 0 (fun i => ⟨by simp, by simp [mkF, AV.blw, AV.blw.blwL], by simp [blwH, AObj.blw, AV.blw, AV.blw.blwL]⟩) (by simp [go_sem, Zpn, magB_zero]) (by simp) ?_
  rintro i hi; refine Wd [] ?_; by_cases hlt : i < ns.length
  · have hlt' : (i : Int) < (ns.length : Int) := by omega
    have hni := hn ns[i] (List.getElem_mem hlt); have hgi : (ns.map nV).getD i default = .int .i64 (ns[i] : Int) := Z2 _ _ _ _ hlt; have hsub : (32 : Int) - (ns[i] : Int) = ((32 - ns[i] : Nat) : Int) := by omega
    have ep := v94 q (32 - ns[i]) (by omega) hq (by omega); have htk : ns.take (i + 1) = ns.take i ++ [ns[i]] := List.take_succ_eq_append_getElem hlt; have hcap1 := Zia hq (l := ns.take i) (by rw [List.length_take]; omega); have hp16 := Zaf (q := q) (n := ns[i]) hq; have hcap2 : q ^ (32 - ns[i]) < capN := Nat.lt_of_le_of_lt hp16 (Z4s (n := 16 ^ 32) (k := 17) (by decide) (by decide)); have ea := u89 (krS q (ns.take i)) (q ^ (32 - ns[i])) hcap1 hcap2; rw [← krS_snoc, ← htk] at ea; simp -implicitDefEqProofs only [hlt', hgi, Int.toNat_natCast, go_sem]; refine Z0 eq (.pures rfl) ?_; simp -implicitDefEqProofs only [hsub, Z9, go_sem]; refine ⟨by simp only [InR]; omega, Z0 ep (.pures rfl) ?_⟩; simp -implicitDefEqProofs only [Z9, go_sem]; refine Z0 ea (.still rfl) ?_; simp -implicitDefEqProofs only [Z9, go_sem]; exact ⟨by simp only [InR]; omega, i + 1, ⟨by simp, rfl⟩, hlt, by omega⟩
  · have hlt' : ¬ (i : Int) < (ns.length : Int) := by omega
    have : i = ns.length := by omega
    subst this; rw [List.take_length]; simp -implicitDefEqProofs only [hlt', Int.lt_irrefl, Nat.lt_irrefl, go_sem]; refine Z0 eq (.pures rfl) ?_; simp -implicitDefEqProofs only [Z9, go_sem]; refine Z0 e32 (.still rfl) ?_; simp -implicitDefEqProofs only [Z9, go_sem]; refine Z0 enew (.still rfl) ?_; simp -implicitDefEqProofs only [ratV, go_sem]
end Go.Proofs.YtpljmccnfmkmfaaGreat.Kn
end

section
namespace Go.Proofs.YtpljmccnfmkmfaaGreat
end Go.Proofs.YtpljmccnfmkmfaaGreat
end

section
namespace Go.Proofs.YtpljmccnfmkmfaaGreat
open Go Go.AM



def cutW (w x : List UInt8) : List UInt8 := if x.isPrefixOf w then w.drop x.length else w
theorem t51 (w x : List UInt8) : PFn Tryz.prog 275 [.str w, .str x] [.str (cutW w x), .bool (x.isPrefixOf w)] := by
  refine PFn.of_body hΓ Tryz.func275 (by kernel_rfl) rfl (Wd [] ?_); simp +contextual -implicitDefEqProofs only [Tryz.ntmps275, Tryz.results275, Nat.reduceAdd, Nat.reduceSub, go_sem]; refine Z0 (t85 w x) (.pures rfl) ?_
  cases hp : x.isPrefixOf w
  · simp -implicitDefEqProofs only [go_sem]
    unfold cutW; rw [if_neg (by rw [hp]; simp)]
  · simp -implicitDefEqProofs only [go_sem]
    exact ⟨(List.isPrefixOf_iff_prefix.1 hp).length_le, by unfold cutW; rw [if_pos hp]⟩

theorem t20 (w x : List UInt8) : PFn Tryz.prog 253 [.str w, .str x] [.str (cutW w x), .bool (x.isPrefixOf w)] := by
  refine PFn.of_body hΓ Tryz.func253 (by kernel_rfl) rfl (Wd [] ?_); simp +contextual -implicitDefEqProofs only [Tryz.ntmps253, Tryz.results253, Nat.reduceAdd, Nat.reduceSub, go_sem]; refine Z0 (t51 w x) (.pures rfl) ?_; simp +contextual -implicitDefEqProofs only [go_sem]

end Go.Proofs.YtpljmccnfmkmfaaGreat
end

section
namespace Go.Proofs.YtpljmccnfmkmfaaGreat.Dc
open Go Go.AM

def Z2e (ws : List (List UInt8)) (i k : Nat) : List (List UInt8) :=
  if i ≠ k ∧ (ws.getD k []).isPrefixOf (ws.getD i []) then [(ws.getD i []).drop (ws.getD k []).length] else []
def Zq (ws : List (List UInt8)) (i n : Nat) : List (List UInt8) := (List.range n).flatMap (Z2e ws i)
def Z0e (ws : List (List UInt8)) (n : Nat) : List (List UInt8) := (List.range n).flatMap fun i => Zq ws i ws.length
def Z0w (ws : List (List UInt8)) : List (List UInt8) := Z0e ws ws.length

theorem Zfh (ws : List (List UInt8)) (i k : Nat) : (Z2e ws i k).length ≤ 1 := by unfold Z2e; split <;> simp
theorem Z0j (ws : List (List UInt8)) (i n : Nat) : Zq ws i (n + 1) = Zq ws i n ++ Z2e ws i n := by
  unfold Zq; rw [List.range_succ, List.flatMap_append]; simp
theorem Z36 (ws : List (List UInt8)) (i : Nat) : ∀ n, (Zq ws i n).length ≤ n
  | 0 => by simp [Zq]
  | n + 1 => by
    rw [Z0j, List.length_append]; have := Z36 ws i n; have := Zfh ws i n; omega
theorem Z52 (ws : List (List UInt8)) (n : Nat) : Z0e ws (n + 1) = Z0e ws n ++ Zq ws n ws.length := by
  unfold Z0e; rw [List.range_succ, List.flatMap_append]; simp
theorem Z4g (ws : List (List UInt8)) : ∀ n, (Z0e ws n).length ≤ n * ws.length
  | 0 => by simp [Z0e]
  | n + 1 => by
    rw [Z52, List.length_append, Nat.succ_mul]; have := Z4g ws n; have := Z36 ws n ws.length; omega

def Z3w (r x : List UInt8) : List (List UInt8) := if x.isPrefixOf r then [r.drop x.length] else if r.isPrefixOf x then [x.drop r.length] else []
def Z1c (ws : List (List UInt8)) (r : List UInt8) : List (List UInt8) := ws.flatMap (Z3w r)
theorem Z86 (r : List UInt8) : ∀ ws : List (List UInt8), (Z1c ws r).length ≤ ws.length
  | [] => by simp [Z1c]
  | x :: ws => by
    have := Z86 r ws; have h : (Z3w r x).length ≤ 1 := by unfold Z3w; split; simp; split <;> simp
    unfold Z1c at this ⊢; simp only [List.flatMap_cons, List.length_append, List.length_cons]; omega
theorem Zfm {ws : List (List UInt8)} {k : Nat} (r : List UInt8) (hk : k < ws.length) : Z1c (ws.take (k + 1)) r = Z1c (ws.take k) r ++ Z3w r ws[k] := by
  rw [List.take_succ_eq_append_getElem hk]; unfold Z1c; rw [List.flatMap_append]; simp


theorem Z2i {E : Env} {tm : List AV} {h : List AObj} {KS : St → Prop} {d : Option Nat} {b : Nat} {args : List AV} {ks : List Nat} {R : AV → List AObj → Prop} (hf : YC E.P b args h ks R) (hks : ∀ k ∈ ks, E.n0 ≤ k ∨ k ∈ E.ks)
    (hk : ∀ v h', R v h' → KS ⟨putD (Za ks tm) d v, h'⟩) : Z3k E ⟨tm, h⟩ d (.yld b) args KS := ⟨ks, R, hf, hks, hk⟩

def Z2f (x y : List UInt8) : List (List UInt8 × List UInt8) := if x.isPrefixOf y ∧ y.drop x.length ≠ [] then [(y, y.drop x.length)] else []
def Z21 (ws : List (List UInt8)) (i k : Nat) : List (List UInt8 × List UInt8) := (ws.take k).flatMap (Z2f (ws.getD i []))
def Z3g (ws : List (List UInt8)) (i : Nat) : List (List UInt8 × List UInt8) := (List.range i).flatMap fun i => Z21 ws i ws.length
def Z3a (ws : List (List UInt8)) : List (List UInt8 × List UInt8) := Z3g ws ws.length

theorem Z39 (ws : List (List UInt8)) (n : Nat) : Z3g ws (n + 1) = Z3g ws n ++ Z21 ws n ws.length := by
  unfold Z3g; rw [List.range_succ, List.flatMap_append]; simp
theorem Zd5 {ws : List (List UInt8)} {i k : Nat} (hk : k < ws.length) : Z21 ws i (k + 1) = Z21 ws i k ++ Z2f (ws.getD i []) ws[k] := by
  unfold Z21; rw [List.take_succ_eq_append_getElem hk, List.flatMap_append]; simp
theorem Zhh (ws : List (List UInt8)) : ∀ {n : Nat}, n ≤ ws.length → ∃ l, Z3g ws n ++ l = Z3a ws := by
  intro n hn
  induction hd : ws.length - n generalizing n with
  | zero => exact ⟨[], by rw [show n = ws.length by omega]; simp [Z3a]⟩
  | succ d ih =>
    obtain ⟨l, hl⟩ := ih (n := n + 1) (by omega) (by omega); exact ⟨Z21 ws n ws.length ++ l, by rw [← List.append_assoc, ← Z39]; exact hl⟩
theorem Zhi (ws : List (List UInt8)) (i : Nat) : ∀ {k : Nat}, k ≤ ws.length → ∃ l, Z21 ws i k ++ l = Z21 ws i ws.length := by
  intro k hk; refine ⟨(ws.drop k).flatMap (Z2f (ws.getD i [])), ?_⟩; unfold Z21; rw [List.take_length, ← List.flatMap_append, List.take_append_drop]

theorem c86 {h : List AObj} {b c : Nat} {ks : List Nat} (hbk : b ∉ ks) (hck : c ∉ ks) (q : Int) (ws : List (List UInt8)) (hws : ws.length ≤ 1000) {J : List (List UInt8 × List UInt8) → List AObj → Prop} {D : List AObj → Prop} (hJ0 : J [] h)
    (hbox : ∀ done h', J done h' → h'[c]? = some (Zn q ws) ∧ h.length ≤ h'.length) (hD : ∀ h', D h' → h.length ≤ h'.length)
    (hround : ∀ done y r h', (∃ l, done ++ (y, r) :: l = Z3a ws) → J done h' → YC Tryz.prog b [.p (.str y), .p (.str r)] h' ks (fun v h'' => (v = .p (.bool true) ∧ J (done ++ [(y, r)]) h'') ∨ (v = .p (.bool false) ∧ D h''))) :
    AC Tryz.prog 252 [.yld b, .ptr c 0] h ks (fun _ h' => J (Z3a ws) h' ∨ D h') := by
  have nb : ∀ {k}, k ∈ ks → b ≠ k := fun h e => hbk (e ▸ h)
  have nc : ∀ {k}, k ∈ ks → c ≠ k := fun h e => hck (e ▸ h)
  refine AC.of_bodyE hΓ Tryz.func252 (by kernel_rfl) rfl (AWp.mono (Q := fun e st => AM.Ends e ∧ (J (Z3a ws) st.h ∨ D st.h)) ?_ ?_)
  rotate_left
  · rintro e st ⟨he, hst⟩
    refine ⟨he, st, Less.refl st, ?_⟩; refine ⟨st.h.length, hst.elim (fun hj => (hbox _ _ hj).2) (hD _), .inl rfl, ?_⟩; rw [List.take_length]; exact hst
  refine Wd [] ?_; have hb0 := (hbox _ _ hJ0).1; simp +contextual -implicitDefEqProofs only [Tryz.ntmps252, Nat.reduceAdd, Nat.reduceSub, hb0, Zn, go_sem]
  refine AWp.loopI (fun p : Nat × List AObj => ⟨mkF 43 [(0, .yld b), (1, .ptr c 0), (10, .p (.sl (ws.map .str))), (11, .p (.int .i64 ws.length)), (12, .p (.int .i64 p.1))], p.2⟩)
    (fun p => p.1 ≤ ws.length ∧ J (Z3g ws p.1) p.2) (fun p => ws.length - p.1) (0, h) (by simp [go_sem, Z8]) ⟨Nat.zero_le _, hJ0⟩ ?_
  rintro ⟨i, h1⟩ ⟨hi, hJ1⟩; simp only at hi hJ1; refine Wd [] ?_; have hb1 := (hbox _ _ hJ1).1; simp +contextual -implicitDefEqProofs only [hb1, Z2, ↓reduceIte, Zn, go_sem]; refine ⟨fun hlt => ?_, fun hge => .inl (by rw [show i = ws.length by omega] at hJ1; exact hJ1)⟩; have hwi : ws.getD i [] = ws[i] := by rw [List.getD_eq_getElem?_getD, List.getElem?_eq_getElem hlt, Option.getD_some]
  refine AWp.loopI (fun p : Nat × List AObj => ⟨mkF 43 [(0, .yld b), (1, .ptr c 0), (4, .p (.str ws[i])), (10, .p (.sl (ws.map .str))), (11, .p (.int .i64 ws.length)), (12, .p (.int .i64 i)),
      (17, .p (.sl (ws.map .str))), (18, .p (.int .i64 ws.length)), (19, .p (.int .i64 p.1))], p.2⟩)
    (fun p => p.1 ≤ ws.length ∧ J (Z3g ws i ++ Z21 ws i p.1) p.2) (fun p => ws.length - p.1) (0, h1) (by simp [go_sem, Z8]) ⟨Nat.zero_le _, by simpa [Z21] using hJ1⟩ ?_
  rintro ⟨k, h2⟩ ⟨hk, hJ2⟩; simp only at hk hJ2; refine Wd [] ?_; simp +contextual -implicitDefEqProofs only [Z2, ↓reduceIte, Zn, go_sem]; refine ⟨fun hlt2 => ?_, fun hge => ⟨by simp only [InR]; omega, (i + 1, h2), by simp [Z8], ⟨hlt, by rw [Z39, show ws.length = k by omega]; exact hJ2⟩, by simp only; omega⟩⟩; refine Z0 (t20 ws[k] ws[i]) (.pures rfl) ?_; have hs := Zd5 (i := i) hlt2; rw [hwi] at hs
  cases hp : ws[i].isPrefixOf ws[k]
  · simp -implicitDefEqProofs only [go_sem]
    have : Z2f ws[i] ws[k] = [] := by unfold Z2f; rw [if_neg (by simp [hp])]
    rw [this, List.append_nil] at hs; exact ⟨by simp only [InR]; omega, (k + 1, h2), by simp [Z8], ⟨hlt2, by simp only; rw [hs]; exact hJ2⟩, by simp only; omega⟩
  · have hcut : cutW ws[k] ws[i] = ws[k].drop ws[i].length := by unfold cutW; rw [if_pos hp]
    by_cases he : cutW ws[k] ws[i] = []
    · simp -implicitDefEqProofs only [he, go_sem]
      have : Z2f ws[i] ws[k] = [] := by unfold Z2f; rw [if_neg (fun e => e.2 (hcut ▸ he))]
      rw [this, List.append_nil] at hs; exact ⟨by simp only [InR]; omega, (k + 1, h2), by simp [Z8], ⟨hlt2, by simp only; rw [hs]; exact hJ2⟩, by simp only; omega⟩
    · simp -implicitDefEqProofs only [he, go_sem]
      have : Z2f ws[i] ws[k] = [(ws[k], cutW ws[k] ws[i])] := by unfold Z2f; rw [hcut, if_pos ⟨hp, hcut ▸ he⟩]
      rw [this] at hs; obtain ⟨l1, hl1⟩ := Zhi ws i (k := k + 1) hlt2; obtain ⟨l2, hl2⟩ := Zhh ws (n := i + 1) hlt; have hdone : ∃ l, (Z3g ws i ++ Z21 ws i k) ++ (ws[k], cutW ws[k] ws[i]) :: l = Z3a ws := ⟨l1 ++ l2, by
        rw [← hl2, Z39, ← hl1, hs]; simp⟩
      refine Z2i (hround _ _ _ _ hdone hJ2) (fun k hk => .inr hk) ?_; rintro v h' (⟨rfl, hj⟩ | ⟨rfl, hd⟩)
      · rw [Z08 (fun k hk => by simp [AV.kill, AV.kill.killL, nb hk, nc hk])]
        simp -implicitDefEqProofs only [go_sem]; exact ⟨by simp only [InR]; omega, (k + 1, h'), by simp [Z8], ⟨hlt2, by simp only; rw [hs, ← List.append_assoc]; exact hj⟩, by simp only; omega⟩
      · rw [Z08 (fun k hk => by simp [AV.kill, AV.kill.killL, nb hk, nc hk])]
        simp -implicitDefEqProofs only [go_sem]; exact .inr hd

def Z72 (r x : List UInt8) : List (List UInt8 × Nat) := if x.isPrefixOf r then [(r.drop x.length, 0)] else if r.isPrefixOf x then [(x.drop r.length, (x.drop r.length).length)] else []
def Z0b (ws : List (List UInt8)) (r : List UInt8) : List (List UInt8 × Nat) := ws.flatMap (Z72 r)
theorem Zd7 {ws : List (List UInt8)} {k : Nat} (r : List UInt8) (hk : k < ws.length) : Z0b (ws.take (k + 1)) r = Z0b (ws.take k) r ++ Z72 r ws[k] := by
  rw [List.take_succ_eq_append_getElem hk]; unfold Z0b; rw [List.flatMap_append]; simp
theorem Zhs (ws : List (List UInt8)) (r : List UInt8) (k : Nat) : ∃ l, Z0b (ws.take k) r ++ l = Z0b ws r :=
  ⟨Z0b (ws.drop k) r, by unfold Z0b; rw [← List.flatMap_append, List.take_append_drop]⟩

theorem c87 {h : List AObj} {b c d : Nat} {ks : List Nat} (hbk : b ∉ ks) (hck : c ∉ ks) (hdk : d ∉ ks) (q : Int) (ws : List (List UInt8)) (r : List UInt8) (hws : ws.length ≤ 1000) {J : List (List UInt8 × Nat) → List AObj → Prop} {D : List AObj → Prop} (hJ0 : J [] h)
    (hbox : ∀ done h', J done h' → h'[c]? = some (Zn q ws) ∧ h'[d]? = some (.box [.p (.str r)]) ∧ h.length ≤ h'.length) (hD : ∀ h', D h' → h.length ≤ h'.length)
    (hround : ∀ done u n h', (∃ l, done ++ (u, n) :: l = Z0b ws r) → J done h' → YC Tryz.prog b [.p (.str u), .p (.int .i64 (n : Nat))] h' ks (fun v h'' => (v = .p (.bool true) ∧ J (done ++ [(u, n)]) h'') ∨ (v = .p (.bool false) ∧ D h''))) :
    AC Tryz.prog 254 [.yld b, .ptr c 0, .ptr d 0] h ks (fun _ h' => J (Z0b ws r) h' ∨ D h') := by
  have nb : ∀ {k}, k ∈ ks → b ≠ k := fun h e => hbk (e ▸ h)
  have nc : ∀ {k}, k ∈ ks → c ≠ k := fun h e => hck (e ▸ h)
  have nd : ∀ {k}, k ∈ ks → d ≠ k := fun h e => hdk (e ▸ h)
  refine AC.of_bodyE hΓ Tryz.func254 (by kernel_rfl) rfl (AWp.mono (Q := fun e st => AM.Ends e ∧ (J (Z0b ws r) st.h ∨ D st.h)) ?_ ?_)
  rotate_left
  · rintro e st ⟨he, hst⟩
    refine ⟨he, st, Less.refl st, ?_⟩; refine ⟨st.h.length, hst.elim (fun hj => (hbox _ _ hj).2.2) (hD _), .inl rfl, ?_⟩; rw [List.take_length]; exact hst
  refine Wd [] ?_; have hb0 := (hbox _ _ hJ0).1; simp +contextual -implicitDefEqProofs only [Tryz.ntmps254, Nat.reduceAdd, Nat.reduceSub, hb0, Zn, go_sem]
  refine AWp.loopI (fun p : Nat × List AObj => ⟨mkF 44 [(0, .yld b), (1, .ptr c 0), (2, .ptr d 0), (11, .p (.sl (ws.map .str))), (12, .p (.int .i64 ws.length)), (13, .p (.int .i64 p.1))], p.2⟩)
    (fun p => p.1 ≤ ws.length ∧ J (Z0b (ws.take p.1) r) p.2) (fun p => ws.length - p.1) (0, h) (by simp [go_sem, Z8]) ⟨Nat.zero_le _, by simpa [Z0b] using hJ0⟩ ?_
  rintro ⟨k, h2⟩ ⟨hk, hJ2⟩; simp only at hk hJ2; refine Wd [] ?_; have hb2 := (hbox _ _ hJ2).2.1; simp +contextual -implicitDefEqProofs only [hb2, Z2, ↓reduceIte, Zn, go_sem]; refine ⟨fun hlt => Z0 (t20 r ws[k]) (.pures rfl) ?_, fun hge => .inl (by rw [List.take_of_length_le (by omega)] at hJ2; exact hJ2)⟩; have hs := Zd7 r hlt; obtain ⟨l1, hl1⟩ := Zhs ws r (k + 1); have fin : ∀ u n, Z72 r ws[k] = [(u, n)] → ∃ l, Z0b (ws.take k) r ++ (u, n) :: l = Z0b ws r := fun u n e => ⟨l1, by rw [← hl1, hs, e]; simp⟩
  cases hp : ws[k].isPrefixOf r
  · simp -implicitDefEqProofs only [hb2, go_sem]
    refine Z0 (t20 ws[k] r) (.pures rfl) ?_
    cases hp2 : r.isPrefixOf ws[k]
    · simp -implicitDefEqProofs only [go_sem]
      have : Z72 r ws[k] = [] := by unfold Z72; rw [if_neg (by simp [hp]), if_neg (by simp [hp2])]
      rw [this, List.append_nil] at hs; exact ⟨by simp only [InR]; omega, (k + 1, h2), by simp [Z8], ⟨hlt, by simp only; rw [hs]; exact hJ2⟩, by simp only; omega⟩
    · simp -implicitDefEqProofs only [go_sem]
      have hcut : cutW ws[k] r = ws[k].drop r.length := by unfold cutW; rw [if_pos hp2]
      have he : Z72 r ws[k] = [(cutW ws[k] r, (cutW ws[k] r).length)] := by unfold Z72; rw [if_neg (by simp [hp]), if_pos hp2, hcut]
      refine Z2i (hround _ _ _ _ (fin _ _ he) hJ2) (fun k hk => .inr hk) ?_; rw [he] at hs; rintro v h' (⟨rfl, hj⟩ | ⟨rfl, hd⟩)
      · rw [Z08 (fun k hk => by simp [AV.kill, AV.kill.killL, nb hk, nc hk, nd hk])]
        simp -implicitDefEqProofs only [go_sem]; exact ⟨by simp only [InR]; omega, (k + 1, h'), by simp [Z8], ⟨hlt, by simp only; rw [hs]; exact hj⟩, by simp only; omega⟩
      · rw [Z08 (fun k hk => by simp [AV.kill, AV.kill.killL, nb hk, nc hk, nd hk])]
        simp -implicitDefEqProofs only [go_sem]; exact .inr hd
  · simp -implicitDefEqProofs only [go_sem]
    have hcut : cutW r ws[k] = r.drop ws[k].length := by unfold cutW; rw [if_pos hp]
    have he : Z72 r ws[k] = [(cutW r ws[k], 0)] := by unfold Z72; rw [if_pos hp, hcut]
    refine Z2i (hround _ _ _ _ (fin _ _ he) hJ2) (fun k hk => .inr hk) ?_; rw [he] at hs; rintro v h' (⟨rfl, hj⟩ | ⟨rfl, hd⟩)
    · rw [Z08 (fun k hk => by simp [AV.kill, AV.kill.killL, nb hk, nc hk, nd hk])]
      simp -implicitDefEqProofs only [go_sem]; exact ⟨by simp only [InR]; omega, (k + 1, h'), by simp [Z8], ⟨hlt, by simp only; rw [hs]; exact hj⟩, by simp only; omega⟩
    · rw [Z08 (fun k hk => by simp [AV.kill, AV.kill.killL, nb hk, nc hk, nd hk])]
      simp -implicitDefEqProofs only [go_sem]; exact .inr hd

/-! A map to bools, all true: a set of words, in the order of their coming. -/
def entT (k : List UInt8) : List UInt8 × PV := (k, .bool true)
def addK (ks : List (List UInt8)) (k : List UInt8) : List (List UInt8) := if k ∈ ks then ks else ks ++ [k]
def Zk (l : List (List UInt8)) : List (List UInt8) := l.foldl addK []
def setM (l : List (List UInt8)) : List (List UInt8 × PV) := (Zk l).map entT

theorem Z5n (k : List UInt8) : ∀ ks : List (List UInt8), (k ∉ ks → midx k (ks.map entT) = none) ∧ (k ∈ ks → ∃ j, midx k (ks.map entT) = some j ∧ ∃ h : j < ks.length, ks[j] = k)
  | [] => ⟨fun _ => rfl, fun h => by cases h⟩
  | a :: ks => by
    obtain ⟨h1, h2⟩ := Z5n k ks
    constructor
    · intro h
      simp only [List.mem_cons, not_or] at h; rw [List.map_cons]; unfold midx; rw [if_neg (show ¬ k = (entT a).1 from h.1)]; rw [h1 h.2]; rfl
    · intro h
      by_cases e : k = a
      · exact ⟨0, by simp [midx, entT, e], by simp, e.symm⟩
      · simp only [List.mem_cons, e, false_or] at h
        obtain ⟨j, h3, h4, h5⟩ := h2 h; refine ⟨j + 1, ?_, by simpa using h4, by simpa using h5⟩; rw [List.map_cons]; unfold midx; rw [if_neg (show ¬ k = (entT a).1 from e)]; rw [h3]; rfl
theorem Zlh (k : List UInt8) (ks : List (List UInt8)) : mset k (.bool true) (ks.map entT) = (addK ks k).map entT := by
  unfold mset addK; by_cases h : k ∈ ks
  · obtain ⟨j, h1, h2, h3⟩ := (Z5n k ks).2 h
    rw [h1, if_pos h]
    apply List.ext_getElem (by simp)
    intro i hi _; simp only [List.getElem_set, List.getElem_map]
    split
    · subst_vars; rfl
    · rfl
  · rw [(Z5n k ks).1 h, if_neg h]; simp [entT]
theorem Zlk (k : List UInt8) (ks : List (List UInt8)) : (mget k (ks.map entT)).getD (.bool false) = .bool (decide (k ∈ ks)) := by
  unfold mget; by_cases h : k ∈ ks
  · obtain ⟨j, h1, h2, h3⟩ := (Z5n k ks).2 h
    rw [h1, decide_eq_true h]; simp only [Option.map_some, Option.getD_some, List.getD_eq_getElem?_getD, List.getElem?_map, List.getElem?_eq_getElem h2, entT]
  · rw [(Z5n k ks).1 h, decide_eq_false h]; rfl
theorem Z4x (l : List (List UInt8)) (k : List UInt8) : Zk (l ++ [k]) = addK (Zk l) k := by unfold Zk; rw [List.foldl_append]; rfl
theorem Zbs (k : List UInt8) : ∀ (l acc : List (List UInt8)), k ∈ l.foldl addK acc ↔ k ∈ acc ∨ k ∈ l
  | [], acc => by simp
  | a :: l, acc => by
    rw [List.foldl_cons, Zbs k l]; unfold addK
    split
    · rename_i h
      simp only [List.mem_cons]; exact ⟨fun h' => h'.elim .inl (fun h => .inr (.inr h)), fun h' => h'.elim .inl (fun h' => h'.elim (fun e => .inl (e ▸ h)) .inr)⟩
    · simp only [List.mem_append, List.mem_cons, List.not_mem_nil, or_false, or_assoc]
theorem Z14 (l : List (List UInt8)) (k : List UInt8) : k ∈ Zk l ↔ k ∈ l := by unfold Zk; rw [Zbs]; simp
theorem Z89 : ∀ (l acc : List (List UInt8)), (l.foldl addK acc).length ≤ acc.length + l.length
  | [], acc => by simp
  | a :: l, acc => by
    rw [List.foldl_cons]; have h1 := Z89 l (addK acc a); have h2 : (addK acc a).length ≤ acc.length + 1 := by unfold addK; split <;> simp
    simp only [List.length_cons]; omega
theorem Zft (l : List (List UInt8)) : (Zk l).length ≤ l.length := by have := Z89 l []; simpa [Zk] using this
theorem Zgu (l : List (List UInt8)) (k : List UInt8) : mset k (.bool true) (setM l) = setM (l ++ [k]) := by unfold setM; rw [Zlh, Z4x]
theorem Zkq (l : List (List UInt8)) (k : List UInt8) : (mget k (setM l)).getD (.bool false) = .bool (decide (k ∈ l)) := by
  unfold setM; rw [Zlk]; simp only [Z14]

theorem c52 {h : List AObj} (q : Int) (ws : List (List UInt8)) : AC Tryz.prog 221 [.agg [.p (.int .i64 q), .p (.sl (ws.map .str))]] h [] (fun v h' => v = .fn 252 [.ptr h.length 0] ∧ h' = h ++ [Zn q ws]) := by
  refine AC.of_bodyE hΓ Tryz.func221 (by kernel_rfl) rfl (AWp.mono (Q := fun e st => AM.Ends e ∧ st.tmps.getD 2 .junk = .fn 252 [.ptr h.length 0] ∧ st.h = h ++ [Zn q ws]) ?_ ?_)
  rotate_left
  · rintro e ⟨tm, h'⟩ ⟨he, h1, h2⟩
    simp only at h1 h2; subst h2; refine ⟨he, _, Less.refl _, ?_⟩; unfold Z56; simp +contextual -implicitDefEqProofs only [Tryz.results221, h1, go_sem]; exact ⟨h.length + 1, by omega, .inl (by simp), List.take_of_length_le (by simp)⟩
  refine Wd [] ?_; simp +contextual -implicitDefEqProofs only [Tryz.ntmps221, Nat.reduceAdd, Nat.reduceSub, Zn, go_sem]

theorem c53 {h : List AObj} (q : Int) (ws : List (List UInt8)) (r : List UInt8) : AC Tryz.prog 222 [.agg [.p (.int .i64 q), .p (.sl (ws.map .str))], .p (.str r)] h []
    (fun v h' => v = .fn 254 [.ptr h.length 0, .ptr (h.length + 1) 0] ∧ h' = h ++ [Zn q ws, .box [.p (.str r)]]) := by
  refine AC.of_bodyE hΓ Tryz.func222 (by kernel_rfl) rfl (AWp.mono (Q := fun e st => AM.Ends e ∧ st.tmps.getD 4 .junk = .fn 254 [.ptr h.length 0, .ptr (h.length + 1) 0] ∧ st.h = h ++ [Zn q ws, .box [.p (.str r)]]) ?_ ?_)
  rotate_left
  · rintro e ⟨tm, h'⟩ ⟨he, h1, h2⟩
    simp only at h1 h2; subst h2; refine ⟨he, _, Less.refl _, ?_⟩; unfold Z56; simp +contextual -implicitDefEqProofs only [Tryz.results222, h1, go_sem]; exact ⟨h.length + 2, by omega, .inl (by simp), List.take_of_length_le (by simp)⟩
  refine Wd [] ?_; simp +contextual -implicitDefEqProofs only [Tryz.ntmps222, Nat.reduceAdd, Nat.reduceSub, Zn, List.length_append, List.append_assoc, go_sem]

theorem Z95 : ∀ h : List AObj, Z8z h (List.replicate h.length .dead)
  | [] => trivial
  | _ :: h => ⟨.inl rfl, Z95 h⟩

def ltW (a b : List UInt8) : Prop := a.length < b.length ∨ (a.length = b.length ∧ bLt a b = true)
theorem Z0p (x y : UInt8) (a b : List UInt8) : bLt (x :: a) (y :: b) = true ↔ x.toNat < y.toNat ∨ (x.toNat = y.toNat ∧ bLt a b = true) := by
  have e : bLt (x :: a) (y :: b) = (match Nat.blt x.toNat y.toNat with | true => true | false => (match Nat.beq x.toNat y.toNat with | true => bLt a b | false => false)) := rfl; rw [e]
  cases h1 : Nat.blt x.toNat y.toNat
  · have h2 : ¬ x.toNat < y.toNat := fun h => by rw [(Nat.blt_eq (x := x.toNat)).symm.mp h] at h1; cases h1
    cases h3 : Nat.beq x.toNat y.toNat
    · have : ¬ x.toNat = y.toNat := fun h => by rw [h] at h3; simp at h3
      simp [h2, this]
    · have := Nat.eq_of_beq_eq_true h3
      simp [h2, this]
  · have := (Nat.blt_eq (x := x.toNat)).mp h1
    simp [this]
theorem Z47 : ∀ {a b c : List UInt8}, bLt a b = true → bLt b c = true → bLt a c = true
  | a, [], c, h, _ => by cases a <;> cases h
  | [], _ :: _, [], _, h => by cases h
  | [], _ :: _, _ :: _, _, _ => rfl
  | x :: a, y :: b, [], _, h => by cases h
  | x :: a, y :: b, z :: c, h1, h2 => by
    rw [Z0p] at h1 h2 ⊢; rcases h1 with h1 | ⟨h1, h3⟩
    · rcases h2 with h2 | ⟨h2, _⟩
      · exact .inl (by omega)
      · exact .inl (by omega)
    · rcases h2 with h2 | ⟨h2, h4⟩
      · exact .inl (by omega)
      · exact .inr ⟨by omega, Z47 h3 h4⟩
theorem Z30 : ∀ a : List UInt8, bLt a a = false
  | [] => rfl
  | x :: a => by
    rw [Bool.eq_false_iff]; intro h; rw [Z0p] at h; rcases h with h | ⟨_, h⟩
    · omega
    · rw [Z30 a] at h; cases h
theorem Zal (a b : List UInt8) : cmpW a b < 0 ↔ ltW a b := by
  unfold cmpW ltW; by_cases h1 : a.length < b.length
  · rw [if_pos h1]; simp [h1]
  · by_cases h2 : b.length < a.length
    · rw [if_neg h1, if_pos h2]; simp [h1]; omega
    · rw [if_neg h1, if_neg h2]
      have h3 : a.length = b.length := by omega
      unfold cmpB
      cases bLt a b
      · cases bEq a b <;> simp [h1]
      · simp [h3]
theorem Z0l {a b c : List UInt8} (h1 : ltW a b) (h2 : ltW b c) : ltW a c := by
  rcases h1 with h1 | ⟨h1, h3⟩ <;> rcases h2 with h2 | ⟨h2, h4⟩
  · exact .inl (by omega)
  · exact .inl (by omega)
  · exact .inl (by omega)
  · exact .inr ⟨by omega, Z47 h3 h4⟩
theorem Z0d (a : List UInt8) : ¬ ltW a a := by
  rintro (h | ⟨_, h⟩)
  · omega
  · rw [Z30] at h; cases h

theorem Z43 {l : List Int} (h : Z26 l = 0) : ∀ x ∈ l, x = 0 := by
  intro x hx; unfold Z26 at h
  cases hf : l.find? (fun x => decide (x ≠ 0)) with
  | none => simpa using List.find?_eq_none.1 hf x hx
  | some y =>
    have h1 := List.find?_some hf; rw [hf] at h; simp only [decide_eq_true_eq] at h1; exact absurd h h1

structure Valid (q : Int) (ws : List (List UInt8)) : Prop where
  q2 : 2 ≤ q
  q16 : q ≤ 16
  pos : 0 < ws.length
  len : ws.length ≤ 64
  ne : ∀ i, i < ws.length → ws.getD i [] ≠ []
  short : ∀ i, i < ws.length → (ws.getD i []).length ≤ 32
  word : ∀ i, i < ws.length → Ze q (ws.getD i []) = 0
  lt : ∀ i j, i < j → j < ws.length → ltW (ws.getD i []) (ws.getD j [])

theorem valid_of {q : Int} {ws : List (List UInt8)} (h : Z6 q ws = 0) : Valid q ws := by
  unfold Z6 at h
  split at h
  · omega
  rename_i h1
  split at h
  · omega
  rename_i h2
  split at h
  · omega
  rename_i h3
  have h4 : ∀ i, i < ws.length → Zl q ws i = 0 := fun i hi => Z43 h _ (List.mem_map.2 ⟨i, List.mem_range.2 hi, rfl⟩)
  have h5 : ∀ i, i < ws.length → ws.getD i [] ≠ [] ∧ ¬ 32 < (ws.getD i []).length ∧ Ze q (ws.getD i []) = 0 ∧ ¬ (0 < i ∧ 0 ≤ cmpW (ws.getD (i - 1) []) (ws.getD i [])) := fun i hi => by
    have := h4 i hi; unfold Zl at this; simp only at this
    split at this
    · omega
    rename_i g1
    split at this
    · omega
    rename_i g2
    split at this
    · omega
    rename_i g3
    split at this
    · omega
    rename_i g4
    exact ⟨g1, g2, by omega, g4⟩
  have step : ∀ i, i + 1 < ws.length → ltW (ws.getD i []) (ws.getD (i + 1) []) := fun i hi => by
    have := (h5 (i + 1) hi).2.2.2; rw [← Zal]; simp only [Nat.add_sub_cancel] at this; omega
  refine ⟨by omega, by omega, by omega, by omega, fun i hi => (h5 i hi).1, fun i hi => by have := (h5 i hi).2.1; omega, fun i hi => (h5 i hi).2.2.1, ?_⟩; intro i j hij hj; obtain ⟨d, rfl⟩ : ∃ d, j = i + 1 + d := ⟨j - i - 1, by omega⟩; clear hij
  induction d with
  | zero => exact step i hj
  | succ d ih => exact Z0l (ih (by omega)) (step (i + 1 + d) hj)

theorem Z81 {ws : List (List UInt8)} (hd : ∀ i j, i < ws.length → j < ws.length → ws.getD i [] = ws.getD j [] → i = j) (l : List (List UInt8)) : (∀ p ∈ Z3a ws, p.2 ∈ l) ↔ ∀ u ∈ Z0w ws, u ∈ l := by
  have get : ∀ i, i < ws.length → ∀ (h : i < ws.length), ws.getD i [] = ws[i] := fun i hi h => by rw [List.getD_eq_getElem?_getD, List.getElem?_eq_getElem h, Option.getD_some]
  constructor
  · intro h u hu
    unfold Z0w Z0e Zq at hu; obtain ⟨i, hi, hu⟩ := List.mem_flatMap.1 hu; obtain ⟨k, hk, hu⟩ := List.mem_flatMap.1 hu; have hi := List.mem_range.1 hi; have hk := List.mem_range.1 hk; unfold Z2e at hu
    split at hu
    · rename_i hc
      simp only [List.mem_singleton] at hu; subst hu; refine h (ws.getD i [], _) ?_; unfold Z3a Z3g Z21; refine List.mem_flatMap.2 ⟨k, List.mem_range.2 hk, List.mem_flatMap.2 ⟨ws.getD i [], ?_, ?_⟩⟩
      · rw [List.take_length, get i hi hi]; exact List.getElem_mem hi
      · unfold Z2f
        have hne : List.drop (ws.getD k []).length (ws.getD i []) ≠ [] := fun e => by
          refine hc.1 (hd i k hi hk ?_); have h1 := List.isPrefixOf_iff_prefix.1 hc.2; obtain ⟨t, ht⟩ := h1; have : t = [] := by rw [← ht] at e; simpa using e
          rw [this, List.append_nil] at ht; exact ht.symm
        rw [if_pos ⟨hc.2, hne⟩]; exact List.mem_singleton.2 rfl
    · cases hu
  · intro h p hp
    unfold Z3a Z3g Z21 at hp; obtain ⟨k, hk, hp⟩ := List.mem_flatMap.1 hp; obtain ⟨y, hy, hp⟩ := List.mem_flatMap.1 hp; have hk := List.mem_range.1 hk; rw [List.take_length] at hy; obtain ⟨i, hi, rfl⟩ := List.getElem_of_mem hy; unfold Z2f at hp
    split at hp
    · rename_i hc
      simp only [List.mem_singleton] at hp; subst hp; refine h _ ?_; unfold Z0w Z0e Zq; refine List.mem_flatMap.2 ⟨i, List.mem_range.2 hi, List.mem_flatMap.2 ⟨k, List.mem_range.2 hk, ?_⟩⟩; unfold Z2e; have hne : i ≠ k := fun e => hc.2 (by subst e; rw [get i hi hi]; simp)
      rw [get i hi hi, if_pos ⟨hne, hc.1⟩]; exact List.mem_singleton.2 rfl
    · cases hp

def Z01 (q : Int) (ws done : List (List UInt8)) (rk : RK) (T : List AObj) : List AObj :=
  Zn q ws :: .mp (setM done) :: .box [.map 1] :: .box [.own 6 (Zk done).length] :: .box [.fn 220 [.ptr 2 0, .ptr 3 0]] :: Zn q ws :: .row 9 1 ((Zk done).map .str) rk :: T

theorem Z9m {l : List (List UInt8)} {k : List UInt8} (h : k ∈ l) : Zk (l ++ [k]) = Zk l := by
  rw [Z4x]; unfold addK; rw [if_pos ((Z14 l k).2 h)]
theorem Zfs {l : List (List UInt8)} {k : List UInt8} (h : k ∉ l) : Zk (l ++ [k]) = Zk l ++ [k] := by
  rw [Z4x]; unfold addK; rw [if_neg (fun e => h ((Z14 l k).1 e))]

theorem c82 (q : Int) (ws done : List (List UInt8)) (rk : RK) (T : List AObj) (r : List UInt8) (hrk : rk ≠ .raw ∧ (done ≠ [] → rk = .own)) (hT : T.map (AObj.kill 6) = T) (hlen : (Zk done).length ≤ 1000000) :
    AC Tryz.prog 220 [.p (.str r), .ptr 2 0, .ptr 3 0] (Z01 q ws done rk T) [6] (fun v h' => v = .tup [] ∧ ∃ rk', (rk' ≠ .raw ∧ (done ++ [r] ≠ [] → rk' = .own)) ∧ h' = Z01 q ws (done ++ [r]) rk' T) := by
  refine AC.of_bodyE hΓ Tryz.func220 (by kernel_rfl) rfl (AWp.mono (Q := fun e st => AM.Ends e ∧ ∃ rk', (rk' ≠ .raw ∧ (done ++ [r] ≠ [] → rk' = .own)) ∧ st.h = Z01 q ws (done ++ [r]) rk' T) ?_ ?_)
  rotate_left
  · rintro e st ⟨he, rk', h1, h2⟩
    refine ⟨he, st, Less.refl st, ?_⟩; have h3 : (Z01 q ws done rk T).length = st.h.length := by rw [h2]; simp [Z01]
    refine ⟨st.h.length, by omega, .inl rfl, ?_⟩; rw [List.take_length]; exact ⟨rfl, rk', h1, h2⟩
  refine Wd [] ?_; unfold Z01; simp -implicitDefEqProofs only [Tryz.ntmps220, Nat.reduceAdd, Nat.reduceSub, Zn, Zkq, go_sem]; by_cases hm : r ∈ done
  · simp -implicitDefEqProofs only [hm, go_sem]
    refine ⟨rk, ⟨hrk.1, fun _ => hrk.2 (fun e => by rw [e] at hm; cases hm)⟩, ?_⟩; have e1 : setM (done ++ [r]) = setM done := by unfold setM; rw [Z9m hm]
    rw [e1, Z9m hm]; simp
  · simp -implicitDefEqProofs only [hm, Zgu, hT, go_sem]
    rw [Zfs hm]; exact ⟨⟨by simp [Zc, PV.cells], by omega⟩, ⟨by simp [Zc, PV.cells], by simp [Z0k, PV.cells, PV.isAgg]⟩, ⟨hrk.1, .inr (by simp), by omega, by omega⟩, RK.own, ⟨by simp, fun _ => rfl⟩, by simp⟩

theorem Zqa (a b : List UInt8) : cmpK a b = cmpW a b := by
  unfold cmpK cmpW; by_cases h1 : a.length < b.length
  · rw [if_pos h1, if_pos (show (a.length : Int) < b.length by omega)]; rfl
  · by_cases h2 : b.length < a.length
    · rw [if_neg h1, if_pos h2, if_neg (show ¬ (a.length : Int) < b.length by omega), if_pos (show (b.length : Int) < a.length by omega)]; rfl
    · rw [if_neg h1, if_neg h2, if_neg (show ¬ (a.length : Int) < b.length by omega), if_neg (show ¬ (b.length : Int) < a.length by omega), if_pos rfl, Zdq]

theorem Zcl : ∀ {a b : List UInt8}, bLt a b = false → bLt b a = false → a = b
  | [], [], _, _ => rfl
  | [], _ :: _, h, _ => by cases h
  | _ :: _, [], _, h => by cases h
  | x :: a, y :: b, h1, h2 => by
    have n1 := mt (Z0p x y a b).2 (by rw [h1]; simp); have n2 := mt (Z0p y x b a).2 (by rw [h2]; simp); simp only [not_or, not_and, Bool.not_eq_true] at n1 n2; have e : x.toNat = y.toNat := by omega
    rw [UInt8.toNat_inj.1 e, Zcl (n1.2 e) (n2.2 e.symm)]
theorem Z2x {a b : List UInt8} (h1 : ¬ ltW a b) (h2 : ¬ ltW b a) : a = b := by
  unfold ltW at h1 h2; simp only [not_or, not_and, Bool.not_eq_true] at h1 h2; have e : a.length = b.length := by omega
  exact Zcl (h1.2 e) (h2.2 e.symm)

theorem Z7b (a b : List UInt8) : ltOf cmpK a b = true ↔ ltW a b := by
  unfold ltOf; rw [decide_eq_true_eq, Zqa]; exact Zal a b
theorem Z1d (a b : List UInt8) : ltOf cmpK a b = false ↔ ¬ ltW a b := by
  rw [← Z7b]; simp

theorem swoW : Sort.SWO (ltOf cmpK) where
  irrefl x := (Z1d x x).2 (Z0d x)
  trans x y z h1 h2 := (Z7b x z).2 (Z0l ((Z7b x y).1 h1) ((Z7b y z).1 h2))
  ntrans x y z h1 h2 := by
    rw [Z1d] at *; intro h; by_cases hyz : ltW z y
    · exact h1 (Z0l h hyz)
    · have := Z2x h2 hyz
      subst this; exact h1 h

def encW (x : List UInt8) : Value := .string ⟨x.toArray⟩
def Z0s (l : List (List UInt8)) : List (List UInt8) := l.mergeSort fun x y => !(ltOf cmpK) y x

theorem k84 (a b : ByteArray) (w : World) : Calls Tryz.prog 223 #[.string a, .string b] w fun e w' => e = .returned (.int .i64 (cmpK a.data.toList b.data.toList)) ∧ ∃ q os, w' = Sort.grow (w.drewN q) os := by
  have hc1 := k103; have hc2 := k104; have hc3 := k102
  go_enter Tryz.func223, Tryz.ntmps223
  go_wp2_with (first | (go_at_call 76; refine (hc1 _ _ _).mono ?_; rintro e w' ⟨rfl, rfl⟩) | (go_at_call 163; refine (hc2 _ _ _).mono ?_; rintro e w' ⟨rfl, rfl⟩) | (go_at_call 162; refine (hc3 _ _ _ _ _ (Zek _ _ _ _ _ rfl) (Zek _ _ _ _ _ rfl)).mono ?_; rintro e w' ⟨rfl, rfl⟩))
  all_goals go_ret
  all_goals have e1 : ∀ x : ByteArray, x.data.toList.length = x.size := fun x => by simp
  · refine ⟨congrArg (fun n => Ending.returned (Value.int .i64 n)) ?_, 0, #[_], by rw [Sort.alloc_eq_grow]; rfl⟩
    have hs : a.size = b.size := by
      rcases Nat.lt_trichotomy a.size b.size with g | g | g
      · rw [if_pos g] at h; cases h
      · exact g
      · rw [if_neg (by omega), if_pos g] at h; cases h
    unfold cmpK; simp only [e1, hs]; rw [if_pos (by simp)]
  · refine ⟨congrArg (fun n => Ending.returned (Value.int .i64 n)) ?_, 0, #[_], by rw [Sort.alloc_eq_grow]; rfl⟩
    unfold cmpK; simp only [e1]; rw [if_pos (show (a.size : Int) < b.size by omega)]; rfl
  · refine ⟨congrArg (fun n => Ending.returned (Value.int .i64 n)) ?_, 0, #[_], by rw [Sort.alloc_eq_grow]; rfl⟩
    unfold cmpK; simp only [e1]; rw [if_neg (show ¬ (a.size : Int) < b.size by omega), if_pos (show (b.size : Int) < a.size by omega)]; rfl

theorem Zfe (d : List (List UInt8)) (blk off cap : Nat) (w : World) (hH : Sort.Holds encW w blk off d.toArray) (hblk : blk < w.heap.size) (hsz : d.length < 4611686018427387904) :
    Calls Tryz.prog 127 #[.slice (some ⟨blk, off, none⟩) d.length cap, .func (.func 223) #[] #[]] w fun e w' => e = .returned (.tuple #[]) ∧ ∃ n os, w' = sortWorld encW w blk off n (Z0s d).toArray os := by
  have eg : ∀ args w, (callFunc 223 args).run Tryz.prog w = .ok (.enter 223 args) w := Zx Tryz.func223 (by kernel_rfl) rfl; have hcmp : CmpLays1 Tryz.prog 223 #[] encW cmpK blk off d.toArray.size w := fun m os dk _ x y => k84 ⟨x.toArray⟩ ⟨y.toArray⟩ _
  have h := Any.slices_SortFunc_total Tryz.sortS encW (fun _ => rfl) cmpK swoW 223 #[] blk off cap d.toArray w eg hcmp hH hblk (by simpa using hsz) (fun x y h1 h2 => Z2x ((Z1d x y).1 h1) ((Z1d y x).1 h2)); exact h
end Go.Proofs.YtpljmccnfmkmfaaGreat.Dc
end

section
namespace Go.Proofs.YtpljmccnfmkmfaaGreat.Dc
open Go Go.AM Go.RowKit

theorem Z25 (l : List (List UInt8)) : Z02 (l.map .str) = l.map .str := by
  induction l with
  | nil => rfl
  | cons x l ih =>
    have e : Z02 ((x :: l).map PV.str) = PV.str x :: Z02 (l.map .str) := rfl; rw [e, ih]; rfl
theorem Z00 (l : List (List UInt8)) : (Z0s l).length = l.length := by unfold Z0s; simp
theorem Zap {I : Nat → Prop} {w : World} {x : List UInt8} {v : Value} (h : PR I w (.str x) v) : v = encW x := by
  cases h with | str s => rfl
theorem Zae {I : Nat → Prop} {w : World} (x : List UInt8) : PR I w (.str x) (encW x) := .mkStr (by simp)

def Zqt (g : FuncId) : Prop := ∀ (d : List (List UInt8)) (blk off cap : Nat) (w : World), Sort.Holds encW w blk off d.toArray → blk < w.heap.size → d.length < 4611686018427387904 →
    Calls Tryz.prog 127 #[.slice (some ⟨blk, off, none⟩) d.length cap, .func (.func g) #[] #[]] w fun e w' => e = .returned (.tuple #[]) ∧ ∃ n os, w' = sortWorld encW w blk off n (Z0s d).toArray os

theorem Zv2 {g : FuncId} (hs : Zqt g) {h : List AObj} {b : Nat} (l : List (List UInt8)) (hb : h[b]? = some (.row 9 1 (l.map .str) .own)) (hsz : l.length ≤ 1000000) :
    AC Tryz.prog 127 [.own b l.length, .fn g []] h [] (fun v h' => v = .tup [] ∧ h' = h.set b (.row 9 1 ((Z0s l).map .str) .own)) := by
  refine ⟨Zx Tryz.func127 (by kernel_rfl) rfl, fun X I μ ob w cargs R hlen hargs _ => ?_⟩; obtain ⟨a0, f0, rfl⟩ : ∃ a f, cargs = [a, f] := by
    match cargs, hlen with
    | [a, f], _ => exact ⟨a, f, rfl⟩
  have g0 := hargs 0 (by simp); have g1 := hargs 1 (by simp); simp only [List.getD_cons_zero, List.getD_cons_succ] at g0 g1; obtain ⟨a, c, rfl, hbn, hbm⟩ := g0.own_inv; obtain ⟨cs, rfl, hcl, _⟩ := g1.fn_inv; have hcs : cs = [] := by simpa using hcl.symm
  subst hcs; obtain ⟨hall, hrow⟩ := R.objs _ _ hb; rcases hrow with ⟨g, hg, off, cap, cur, fr, vs, e1, e2, e3, e4, e5, e6, e7, e8, e9, e10⟩ | ⟨hk, _⟩
  rotate_left
  · cases hk
  rw [hbm] at e1; simp only [List.length_map] at e1 e5 e7 e8 e9 e10
  injection e1 with e1a _ e1c
  subst e1a e1c; have hfr := e3 rfl; subst hfr; have hgl := (R.own b g hg).2.2; have cell : ∀ j (hj : j < l.length), cur[off + j]? = some (encW l[j]) := fun j hj => by
    have h1 := e10 j (by omega); rw [Z25, Z2 _ _ _ _ hj] at h1; have h2 := Zap h1; have h3 : cur.toList[off + j]? = some (vs.getD j undef) := by
      have : vs[j]? = some (vs.getD j undef) := by rw [List.getD_eq_getElem?_getD, List.getElem?_eq_getElem (by omega)]; rfl
      rw [← e8, List.getElem?_take_of_lt (by omega), List.getElem?_drop] at this; exact this.trans (by rw [e8])
    rw [Array.getElem?_toList, h2] at h3; exact h3
  have hH : Sort.Holds encW w g off l.toArray := fun j hj => by
    have hj' : j < l.length := by simpa using hj
    refine ⟨?_, ?_⟩
    · unfold World.cell?
      simp only [e2]; rw [cell j hj', getElem!_pos l.toArray j hj]; simp
    · unfold World.frozen?
      simp only [e2]; simp
  have hc := hs l g off c w hH hgl (by omega); refine Calls.mono (P := Tryz.prog) hc ?_; rintro e w' ⟨rfl, n, os, rfl⟩; have hsl : (Z0s l).toArray.size = l.length := by simp [Z00]
  -- the world that is left
  have hnew : (sortWorld encW w g off n (Z0s l).toArray os).heap[g]? = some (.cells (Sort.putCells encW off (Z0s l).toArray cur) 9 (0, 0)) := by
    unfold sortWorld; rw [Sort.heap_grow_old _ _ (by simp [Sort.ahead]; exact hgl)]; show (w.heap.modify g _)[g]? = _; rw [Array.getElem?_modify, if_pos rfl, e2]; rfl
  have hold : ∀ k, k < w.heap.size → k ≠ g → (sortWorld encW w g off n (Z0s l).toArray os).heap[k]? = w.heap[k]? := fun k hk hne => by
    unfold sortWorld; rw [Sort.heap_grow_old _ _ (by simp [Sort.ahead]; exact hk)]; show (w.heap.modify g _)[k]? = _; rw [Array.getElem?_modify, if_neg (fun e => hne e.symm)]
  have hgrow : w.grownBy (sortWorld encW w g off n (Z0s l).toArray os) (some g) := ⟨rfl, rfl, rfl, by simp [sortWorld, Sort.ahead], fun k hk hk2 => hold k hk (fun e => hk2 (by rw [e]))⟩; have hput : ∀ j, j < l.length → (Sort.putCells encW off (Z0s l).toArray cur)[off + j]? = some (encW ((Z0s l).getD j [])) := fun j hj => by
    unfold Sort.putCells; rw [Array.getElem?_mapIdx, cell j hj]; simp only [Option.map_some]; rw [if_pos ⟨Nat.le_add_right _ _, by rw [hsl]; omega⟩, Nat.add_sub_cancel_left, getElem!_pos (Z0s l).toArray j (by rw [hsl]; exact hj), List.getD_eq_getElem?_getD, List.getElem?_eq_getElem (by rw [Z00]; exact hj)]; simp
  have hps : (Sort.putCells encW off (Z0s l).toArray cur).size = cur.size := by unfold Sort.putCells; rw [Array.size_mapIdx]
  have hpl : (((Sort.putCells encW off (Z0s l).toArray cur).toList.drop off).take l.length).length = l.length := by
    have h1 : (Sort.putCells encW off (Z0s l).toArray cur).toList.length = cur.size := by simpa using hps
    rw [List.length_take, List.length_drop, h1]; omega
  have R2 := R.write (b0 := b) (g0 := g) (o := .row 9 1 ((Z0s l).map .str) .own) hbn hg hgrow ⟨fun x hx => by
      obtain ⟨u, _, rfl⟩ := List.mem_map.1 hx; rfl, .inl ⟨g, hg, off, c, Sort.putCells encW off (Z0s l).toArray cur, (0, 0), ((Sort.putCells encW off (Z0s l).toArray cur).toList.drop off).take l.length, by rw [hbm, List.length_map, Z00], hnew, fun _ => rfl, by simp,
        by rw [List.length_map, Z00]; exact e5, e6, by rw [hps]; exact e7, by rw [List.length_map, Z00, Nat.mul_one], by
          rw [List.length_map, Z00, hpl, Nat.mul_one], fun j hj => ?_⟩⟩
  · exact ⟨_, .tup [], _, I, μ, ob, rfl, R2, .tup [] [] rfl (by simp), fun _ h => h, fun _ _ _ => rfl, by simp, fun g hg => .inl hg, fun b g hb => .inl ⟨b, hb⟩, fun k hk hno => hold k hk (fun e => hno b (by rw [e]; exact hg)), rfl, rfl⟩
  · rw [List.length_map, Z00, Nat.mul_one] at hj
    rw [Z25, Z2 _ _ _ _ (by rw [Z00]; exact hj)]; have : (((Sort.putCells encW off (Z0s l).toArray cur).toList.drop off).take l.length).getD j undef = encW ((Z0s l).getD j []) := by
      rw [List.getD_eq_getElem?_getD, List.getElem?_take_of_lt hj, List.getElem?_drop, Array.getElem?_toList, hput j hj]; rfl
    rw [this, List.getD_eq_getElem?_getD, List.getElem?_eq_getElem (by rw [Z00]; exact hj)]; exact Zae _

theorem c83 {h : List AObj} {b : Nat} (l : List (List UInt8)) (hb : h[b]? = some (.row 9 1 (l.map .str) .own)) (hsz : l.length ≤ 1000000) :
    AC Tryz.prog 127 [.own b l.length, .fn 223 []] h [] (fun v h' => v = .tup [] ∧ h' = h.set b (.row 9 1 ((Z0s l).map .str) .own)) := Zv2 Zfe l hb hsz

theorem c83n {g : FuncId} {h : List AObj} {b : Nat} : AC Tryz.prog 127 [.own b 0, .fn g []] h [] (fun v h' => v = .tup [] ∧ h' = h) := by
  refine ⟨Zx Tryz.func127 (by kernel_rfl) rfl, fun X I μ ob w cargs R hlen hargs _ => ?_⟩; obtain ⟨a0, f0, rfl⟩ : ∃ a f, cargs = [a, f] := by
    match cargs, hlen with
    | [a, f], _ => exact ⟨a, f, rfl⟩
  have g0 := hargs 0 (by simp); simp only [List.getD_cons_zero] at g0; obtain ⟨a, c, rfl, hbn, hbm⟩ := g0.own_inv; have hc : Calls Tryz.prog 127 #[.slice a 0 c, f0] w fun e w' => e = .returned (.tuple #[]) ∧ w' = w := AnyF.slices_SortFunc_none (ρ := Tryz.sortS_ren) { Tryz.sortS with } a c f0 w
  refine Calls.mono (P := Tryz.prog) hc ?_; rintro e w' ⟨rfl, rfl⟩; exact ⟨_, .tup [], _, I, μ, ob, rfl, R, .tup [] [] rfl (by simp), fun _ h => h, fun _ _ _ => rfl, Nat.le_refl _, fun g hg => .inl hg, fun b g hb => .inl ⟨b, hb⟩, fun k hk hno => rfl, rfl, rfl⟩
end Go.Proofs.YtpljmccnfmkmfaaGreat.Dc
end

section
namespace Go.Proofs.YtpljmccnfmkmfaaGreat.Dc
open Go Go.AM

inductive Z6l (ws : List (List UInt8)) : List UInt8 → Prop
  | first (u : List UInt8) (h : u ∈ Z0w ws) : Z6l ws u
  | next (r u : List UInt8) (hr : Z6l ws r) (hne : r ≠ []) (h : u ∈ Z1c ws r) : Z6l ws u

theorem Zhx {ws : List (List UInt8)} {r u : List UInt8} : u ∈ Z1c ws r ↔ ∃ x ∈ ws, (x.isPrefixOf r = true ∧ u = r.drop x.length) ∨ (x.isPrefixOf r = false ∧ r.isPrefixOf x = true ∧ u = x.drop r.length) := by
  unfold Z1c; rw [List.mem_flatMap]
  constructor
  · rintro ⟨x, hx, hu⟩
    refine ⟨x, hx, ?_⟩; unfold Z3w at hu
    split at hu
    · rename_i h; exact .inl ⟨h, by simpa using hu⟩
    · rename_i h
      split at hu
      · rename_i h2; exact .inr ⟨Bool.eq_false_iff.2 h, h2, by simpa using hu⟩
      · cases hu
  · rintro ⟨x, hx, h | h⟩
    · exact ⟨x, hx, by unfold Z3w; rw [if_pos h.1, h.2]; simp⟩
    · exact ⟨x, hx, by unfold Z3w; rw [if_neg (by simp [h.1]), if_pos h.2.1, h.2.2]; simp⟩
theorem Zfo {ws : List (List UInt8)} {u : List UInt8} : u ∈ Z0w ws ↔ ∃ i k, i < ws.length ∧ k < ws.length ∧ i ≠ k ∧ (ws.getD k []).isPrefixOf (ws.getD i []) = true ∧ u = (ws.getD i []).drop (ws.getD k []).length := by
  unfold Z0w Z0e Zq; simp only [List.mem_flatMap, List.mem_range]
  constructor
  · rintro ⟨i, hi, k, hk, hu⟩
    unfold Z2e at hu
    split at hu
    · rename_i h; exact ⟨i, k, hi, hk, h.1, h.2, by simpa using hu⟩
    · cases hu
  · rintro ⟨i, k, hi, hk, h1, h2, rfl⟩
    exact ⟨i, hi, k, hk, by unfold Z2e; rw [if_pos ⟨h1, h2⟩]; simp⟩

theorem Z1o {ws : List (List UInt8)} {x : List UInt8} (h : Z6l ws x) : ∃ w ∈ ws, x <:+ w := by
  induction h with
  | first u h =>
    obtain ⟨i, k, hi, _, _, _, rfl⟩ := Zfo.1 h; refine ⟨ws.getD i [], ?_, List.drop_suffix _ _⟩; rw [List.getD_eq_getElem?_getD, List.getElem?_eq_getElem hi, Option.getD_some]; exact List.getElem_mem hi
  | next r u hr hne h ih =>
    obtain ⟨w, hw, hs⟩ := ih; obtain ⟨x, hx, ⟨_, rfl⟩ | ⟨_, _, rfl⟩⟩ := Zhx.1 h
    · exact ⟨w, hw, (List.drop_suffix _ _).trans hs⟩
    · exact ⟨x, hx, List.drop_suffix _ _⟩

def Znp (w : List UInt8) : List (List UInt8) := (List.range (w.length + 1)).map fun k => w.drop k
def sufs (ws : List (List UInt8)) : List (List UInt8) := ws.flatMap Znp
theorem Z5o {ws : List (List UInt8)} {x : List UInt8} (h : ∃ w ∈ ws, x <:+ w) : x ∈ sufs ws := by
  obtain ⟨w, hw, t, ht⟩ := h; refine List.mem_flatMap.2 ⟨w, hw, List.mem_map.2 ⟨t.length, List.mem_range.2 (by rw [← ht]; simp; omega), by rw [← ht]; simp⟩⟩
theorem Z4b : ∀ {ws : List (List UInt8)} {n : Nat}, (∀ w ∈ ws, w.length ≤ n) → (sufs ws).length ≤ ws.length * (n + 1)
  | [], n, _ => by simp [sufs]
  | w :: ws, n, h => by
    have := Z4b (ws := ws) (fun w hw => h w (by simp [hw])); have h1 := h w (by simp); unfold sufs at this ⊢; simp only [List.flatMap_cons, List.length_append, List.length_cons, Znp, List.length_map, List.length_range, Nat.succ_mul]; omega

/-! ### Sorted lists -/
theorem Z99 (l : List (List UInt8)) : (Z0s l).Perm l := List.mergeSort_perm l _
theorem Zbr (l : List (List UInt8)) (x : List UInt8) : x ∈ Z0s l ↔ x ∈ l := (Z99 l).mem_iff
theorem Zbe (l : List (List UInt8)) : (Z0s l).Pairwise fun a b => ¬ ltW b a := by
  have h := List.pairwise_mergeSort (le := fun x y => !(ltOf cmpK) y x) (fun a b c h1 h2 => by
    simp only [Bool.not_eq_true', Z1d] at *; intro h; by_cases hbc : ltW b c
    · exact h1 (by
        by_cases hab : ltW a b
        · exact absurd (Z0l hab (Z0l hbc h)) (Z0d a)
        · have := Z2x hab h1
          subst this; exact absurd (Z0l hbc h) (Z0d _))
    · have := Z2x hbc h2
      subst this; exact h1 h) (fun a b => by
    simp only [Bool.or_eq_true, Bool.not_eq_true', Z1d]; by_cases hab : ltW b a
    · exact .inr (fun h => Z0d a (Z0l h hab))
    · exact .inl hab) l
  refine h.imp ?_; intro a b hab
  simpa [Z1d] using hab
theorem Zcv {l : List (List UInt8)} (h : l.Nodup) : (Z0s l).Nodup := (Z99 l).nodup_iff.2 h
theorem Z6o {l : List (List UInt8)} (h : l.Nodup) : (Z0s l).Pairwise ltW := by
  refine (Zbe l).imp₂ ?_ (Zcv h); intro a b h1 h2; by_cases hab : ltW a b
  · exact hab
  · exact absurd (Z2x hab h1) h2

theorem Z32 : ∀ {l m : List (List UInt8)}, l.Pairwise ltW → m.Pairwise ltW → (∀ x, x ∈ l ↔ x ∈ m) → l = m
  | [], [], _, _, _ => rfl
  | [], b :: m, _, _, h => absurd ((h b).2 (by simp)) (by simp)
  | a :: l, [], _, _, h => absurd ((h a).1 (by simp)) (by simp)
  | a :: l, b :: m, hl, hm, h => by
    obtain ⟨ha, hl2⟩ := List.pairwise_cons.1 hl; obtain ⟨hb, hm2⟩ := List.pairwise_cons.1 hm; have e : a = b := by
      rcases List.mem_cons.1 ((h a).1 (by simp)) with e | e
      · exact e
      · rcases List.mem_cons.1 ((h b).2 (by simp)) with e2 | e2
        · exact e2.symm
        · exact absurd (Z0l (ha b e2) (hb a e)) (Z0d a)
    subst e; refine congrArg (List.cons a) (Z32 hl2 hm2 (fun x => ⟨fun hx => ?_, fun hx => ?_⟩))
    · rcases List.mem_cons.1 ((h x).1 (by simp [hx])) with e | e
      · subst e; exact absurd (ha x hx) (Z0d x)
      · exact e
    · rcases List.mem_cons.1 ((h x).2 (by simp [hx])) with e | e
      · subst e; exact absurd (hb x hx) (Z0d x)
      · exact e

theorem Z8e : ∀ (l acc : List (List UInt8)), acc.Nodup → (l.foldl addK acc).Nodup
  | [], acc, h => h
  | a :: l, acc, h => by
    rw [List.foldl_cons]; refine Z8e l _ ?_; unfold addK
    split
    · exact h
    · rename_i hn
      exact List.nodup_append.2 ⟨h, by simp, fun x hx y hy e => by simp only [List.mem_singleton] at hy; subst hy; subst e; exact hn hx⟩
theorem Z3z (l : List (List UInt8)) : (Zk l).Nodup := Z8e l [] List.nodup_nil

open Classical in
/-- The dangling suffixes, in order. -/
noncomputable def residL (ws : List (List UInt8)) : List (List UInt8) := Z0s ((Zk (sufs ws)).filter fun x => decide (Z6l ws x))
theorem Z1v {ws : List (List UInt8)} {x : List UInt8} : x ∈ residL ws ↔ Z6l ws x := by
  unfold residL; rw [Zbr, List.mem_filter, Z14]; simp only [decide_eq_true_eq]; exact ⟨fun h => h.2, fun h => ⟨Z5o (Z1o h), h⟩⟩
theorem Z1s (ws : List (List UInt8)) : (residL ws).Pairwise ltW := Z6o ((Z3z _).filter _)
theorem Zh4 {ws l : List (List UInt8)} (hn : l.Nodup) (h : ∀ x, x ∈ l ↔ Z6l ws x) : Z0s l = residL ws :=
  Z32 (Z6o hn) (Z1s ws) (fun x => by rw [Zbr, Z1v]; exact h x)


theorem Z9h (ws : List (List UInt8)) : ∀ n, (Z3g ws n).length ≤ n * ws.length
  | 0 => by simp [Z3g]
  | n + 1 => by
    have h1 : ∀ l : List (List UInt8), ∀ x, (l.flatMap (Z2f x)).length ≤ l.length := fun l x => by
      induction l with
      | nil => simp
      | cons y l ih =>
        have : (Z2f x y).length ≤ 1 := by unfold Z2f; split <;> simp
        simp only [List.flatMap_cons, List.length_append, List.length_cons]; omega
    have h2 := h1 (ws.take ws.length) (ws.getD n []); rw [List.take_length] at h2; have h3 := Z9h ws n; rw [Z39, List.length_append, Nat.succ_mul]; unfold Z21; rw [List.take_length]; omega

def RKok (done : List (List UInt8)) (rk : RK) : Prop := rk ≠ .raw ∧ (done ≠ [] → rk = .own)

theorem Z19 (q : Int) (ws done : List (List UInt8)) (rk : RK) (T : List AObj) : (Z01 q ws done rk T).length = T.length + 7 := by simp [Z01]
theorem Z9n (q : Int) (ws done : List (List UInt8)) (rk : RK) (T : List AObj) (o : AObj) : Z01 q ws done rk T ++ [o] = Z01 q ws done rk (T ++ [o]) := by simp [Z01]

theorem add86 {E : Env} (hP : E.P = Tryz.prog) (hn : E.n0 = 0) {tm : List AV} {Q : Exit → St → Prop} {f : Operand} {ps : List Nat} {assign body : Code} (q : Int) (ws : List (List UInt8)) (hws : ws.length ≤ 64)
    (hf : ev tm f = .fn 252 [.ptr 5 0]) (htm : Za [6] tm = tm)
    (hround : ∀ done rk y r, RKok done rk → done.length ≤ 5000 → YC Tryz.prog 7 [.p (.str y), .p (.str r)] (Z01 q ws done rk [.lp tm ps assign body .ready]) [6]
      (fun v h'' => v = .p (.bool true) ∧ ∃ rk', RKok (done ++ [r]) rk' ∧ h'' = Z01 q ws (done ++ [r]) rk' [.lp tm ps assign body .ready]))
    (h1 : ∀ rk, RKok ((Z3a ws).map (·.2)) rk → Q .normal ⟨tm, Z01 q ws ((Z3a ws).map (·.2)) rk [.dead]⟩) : AWp E none (.rangeFunc f ps.toArray assign body) Q ⟨tm, Z01 q ws [] .lax []⟩ := by
  have hlen : (Z3a ws).length ≤ 4096 := by
    have h1 := Z9h ws ws.length; have h2 : ws.length * ws.length ≤ 64 * 64 := Nat.mul_le_mul hws hws; unfold Z3a; omega
  have hac : AC Tryz.prog 252 [.yld 7, .ptr 5 0] (Z01 q ws [] .lax [.lp tm ps assign body .ready]) [6]
      (fun _ h' => (∃ rk, RKok ((Z3a ws).map (·.2)) rk ∧ h' = Z01 q ws ((Z3a ws).map (·.2)) rk [.lp tm ps assign body .ready]) ∨ False) := by
    refine c86 (b := 7) (c := 5) (ks := [6]) (by simp) (by simp) q ws (by omega) (J := fun done h' => ∃ rk, RKok (done.map (·.2)) rk ∧ h' = Z01 q ws (done.map (·.2)) rk [.lp tm ps assign body .ready]) (D := fun _ => False) ⟨.lax, ⟨by simp, fun h => absurd rfl h⟩, rfl⟩ ?_ ?_ ?_
    · rintro done h' ⟨rk, _, rfl⟩
      exact ⟨rfl, by rw [Z19, Z19]; exact Nat.le_refl _⟩
    · intro h' h; exact h.elim
    · rintro done y r h' ⟨l, hl⟩ ⟨rk, hrk, rfl⟩
      have hd : done.length ≤ 4096 := by
        have := congrArg List.length hl; simp only [List.length_append, List.length_cons] at this; omega
      have hy := hround (done.map (·.2)) rk y r hrk (by rw [List.length_map]; omega); intro X I μ ob w cargs R hl2 ha hk; obtain ⟨l', fn, tmps, a', b', e1, e2, e3⟩ := hy X I μ ob w cargs R hl2 ha hk; refine ⟨l', fn, tmps, a', b', e1, e2, ?_⟩; refine e3.mono ?_; rintro e w' ⟨cv, v, h', I', μ', ob', g1, g2, g3, g4, g5, g6, g7, g8, g9, k1, rk', k2, k3⟩; exact ⟨cv, v, h', I', μ', ob', g1, g2, g3, g4, g5, g6, g7, g8, g9, .inl ⟨k1, rk', by rw [List.map_append]; exact k2, by rw [List.map_append]; exact k3⟩⟩
  obtain ⟨P, Γ', n0, ks⟩ := E; simp only at hP hn; subst hP hn; refine AWp.rangeFunc (h := Z01 q ws [] .lax []) (ks := [6]) hf (by rw [Z9n]; exact hac) (fun k _ => .inl (Nat.zero_le k)) (by rw [Z19]; simp) ?_; rintro v h' (⟨rk, hrk, rfl⟩ | h)
  · have := h1 rk hrk
    unfold Z8x; rw [htm]; exact this
  · exact h.elim

theorem Z6q : ∀ (l acc : List (List UInt8)), acc <+: l.foldl addK acc
  | [], acc => List.prefix_refl _
  | a :: l, acc => by
    rw [List.foldl_cons]; refine List.IsPrefix.trans ?_ (Z6q l _); unfold addK
    split
    · exact List.prefix_refl _
    · exact List.prefix_append _ _
theorem Z5q (done l : List (List UInt8)) : Zk done <+: Zk (done ++ l) := by unfold Zk; rw [List.foldl_append]; exact Z6q l _
theorem Zd9 {done l : List (List UInt8)} {j : Nat} (hj : j < (Zk done).length) : (Zk (done ++ l)).getD j [] = (Zk done).getD j [] := by
  obtain ⟨t, ht⟩ := Z5q done l; rw [← ht]; simp only [List.getD_eq_getElem?_getD, List.getElem?_append_left hj]

theorem Z2n : ∀ {l m : List (List UInt8)}, l.Nodup → l ⊆ m → l.length ≤ m.length
  | [], _, _, _ => Nat.zero_le _
  | a :: l, m, h, hs => by
    obtain ⟨h1, h2⟩ := List.nodup_cons.1 h; have ha : a ∈ m := hs (by simp); have := Z2n (m := m.erase a) h2 (fun x hx => (List.mem_erase_of_ne (fun e : x = a => h1 (e ▸ hx))).2 (hs (by simp [hx]))); rw [List.length_erase_of_mem ha] at this; have := List.length_pos_of_mem ha; simp only [List.length_cons]; omega

structure Inv2 (ws : List (List UInt8)) (i : Nat) (done : List (List UInt8)) (rk : RK) : Prop where
  ok : RKok done rk
  sound : ∀ x ∈ done, Z6l ws x
  firsts : ∀ u ∈ Z0w ws, u ∈ done
  le : i ≤ (Zk done).length
  nexts : ∀ j, j < i → (Zk done).getD j [] ≠ [] → ∀ u ∈ Z1c ws ((Zk done).getD j []), u ∈ done

theorem Inv2.keys_len {ws : List (List UInt8)} {i : Nat} {done : List (List UInt8)} {rk : RK} (h : Inv2 ws i done rk) : (Zk done).length ≤ (sufs ws).length := by
  have h1 : Zk done ⊆ sufs ws := fun x hx => Z5o (Z1o (h.sound x ((Z14 _ _).1 hx)))
  exact Z2n (Z3z done) h1

theorem Zcd {q : Int} {ws : List (List UInt8)} (hv : Valid q ws) : ∀ i j, i < ws.length → j < ws.length → ws.getD i [] = ws.getD j [] → i = j := by
  intro i j hi hj e; rcases Nat.lt_trichotomy i j with h1 | h1 | h1
  · exact absurd (e ▸ hv.lt i j h1 hj) (Z0d _)
  · exact h1
  · exact absurd (e ▸ hv.lt j i h1 hi) (Z0d _)

theorem Zlb (ws : List (List UInt8)) (r : List UInt8) : Z1c ws r = (Z0b ws r).map (·.1) := by
  unfold Z1c Z0b; rw [List.map_flatMap]
  congr 1; funext x
  unfold Z3w Z72
  split
  · rfl
  · split <;> rfl

theorem Zfl (ws : List (List UInt8)) (r : List UInt8) : (Z0b ws r).length ≤ ws.length := by
  induction ws with
  | nil => simp [Z0b]
  | cons x ws ih =>
    have h : (Z72 r x).length ≤ 1 := by unfold Z72; split; simp; split <;> simp
    unfold Z0b at ih ⊢; simp only [List.flatMap_cons, List.length_append, List.length_cons]; omega

theorem add87 {E : Env} (hP : E.P = Tryz.prog) (hn : E.n0 = 0) {tm : List AV} {Q : Exit → St → Prop} {f : Operand} {ps : List Nat} {assign body : Code} (q : Int) (ws : List (List UInt8)) (hws : ws.length ≤ 64) (x : List UInt8) (done0 : List (List UInt8)) (rk0 : RK) (hrk0 : RKok done0 rk0) (T : List AObj) {c d : Nat}
    (hf : ev tm f = .fn 254 [.ptr (c + 7) 0, .ptr (d + 7) 0]) (hc : T[c]? = some (Zn q ws)) (hd : T[d]? = some (.box [.p (.str x)])) (htm : Za [6] tm = tm) (hd0 : (Zk done0).length ≤ 100000)
    (hround : ∀ done rk u n, RKok done rk → (Zk done).length ≤ 1000000 → YC Tryz.prog (T.length + 7) [.p (.str u), .p (.int .i64 (n : Nat))] (Z01 q ws done rk (T ++ [.lp tm ps assign body .ready])) [6]
      (fun v h'' => v = .p (.bool true) ∧ ∃ rk', RKok (done ++ [u]) rk' ∧ h'' = Z01 q ws (done ++ [u]) rk' (T ++ [.lp tm ps assign body .ready])))
    (h1 : ∀ rk, RKok (done0 ++ (Z0b ws x).map (·.1)) rk → Q .normal ⟨tm, Z01 q ws (done0 ++ (Z0b ws x).map (·.1)) rk (T ++ [.dead])⟩) : AWp E none (.rangeFunc f ps.toArray assign body) Q ⟨tm, Z01 q ws done0 rk0 T⟩ := by
  have hcl : c < T.length := (List.getElem?_eq_some_iff.1 hc).1; have hdl : d < T.length := (List.getElem?_eq_some_iff.1 hd).1; have look : ∀ done rk o k v, T[k]? = some v → (Z01 q ws done rk (T ++ [o]))[k + 7]? = some v := fun done rk o k v hk => by
    show (T ++ [o])[k]? = some v; rw [List.getElem?_append_left (List.getElem?_eq_some_iff.1 hk).1]; exact hk
  have grow : ∀ l : List (List UInt8), (Zk (done0 ++ l)).length ≤ (Zk done0).length + l.length := fun l => by
    unfold Zk; rw [List.foldl_append]; exact Z89 l _
  have hac : AC Tryz.prog 254 [.yld (T.length + 7), .ptr (c + 7) 0, .ptr (d + 7) 0] (Z01 q ws done0 rk0 (T ++ [.lp tm ps assign body .ready])) [6]
      (fun _ h' => (∃ rk, RKok (done0 ++ (Z0b ws x).map (·.1)) rk ∧ h' = Z01 q ws (done0 ++ (Z0b ws x).map (·.1)) rk (T ++ [.lp tm ps assign body .ready])) ∨ False) := by
    refine c87 (h := Z01 q ws done0 rk0 (T ++ [.lp tm ps assign body .ready])) (b := T.length + 7) (c := c + 7) (d := d + 7) (ks := [6]) (by simp) (by simp) (by simp) q ws x (by omega) (J := fun done h' => ∃ rk, RKok (done0 ++ done.map (·.1)) rk ∧ h' = Z01 q ws (done0 ++ done.map (·.1)) rk (T ++ [.lp tm ps assign body .ready])) (D := fun _ => False) ⟨rk0, by simpa using hrk0, by simp⟩ ?_ ?_ ?_
    · rintro done h' ⟨rk, _, rfl⟩
      exact ⟨look _ _ _ _ _ hc, look _ _ _ _ _ hd, by rw [Z19, Z19]; exact Nat.le_refl _⟩
    · intro h' h; exact h.elim
    · rintro done u n h' ⟨l, hl⟩ ⟨rk, hrk, rfl⟩
      have hdn : done.length ≤ 64 := by
        have := congrArg List.length hl; have h2 := Zfl ws x; simp only [List.length_append, List.length_cons] at this; omega
      have hg := grow (done.map (·.1)); rw [List.length_map] at hg; have hy := hround (done0 ++ done.map (·.1)) rk u n hrk (by omega); intro X I μ ob w cargs R hl2 ha hk; obtain ⟨l', fn, tmps, a', b', e1, e2, e3⟩ := hy X I μ ob w cargs R hl2 ha hk; refine ⟨l', fn, tmps, a', b', e1, e2, ?_⟩; refine e3.mono ?_; rintro e w' ⟨cv, v, h', I', μ', ob', g1, g2, g3, g4, g5, g6, g7, g8, g9, k1, rk', k2, k3⟩; exact ⟨cv, v, h', I', μ', ob', g1, g2, g3, g4, g5, g6, g7, g8, g9, .inl ⟨k1, rk', by rw [List.map_append, ← List.append_assoc]; exact k2, by rw [List.map_append, ← List.append_assoc]; exact k3⟩⟩
  obtain ⟨P, Γ', n0, ks⟩ := E; simp only at hP hn; subst hP hn; refine AWp.rangeFunc (h := Z01 q ws done0 rk0 T) (ks := [6]) hf (by rw [Z9n, Z19]; exact hac) (fun k _ => .inl (Nat.zero_le k)) (by rw [Z19]; simp) ?_; rintro v h' (⟨rk, hrk, rfl⟩ | h)
  · have := h1 rk hrk
    unfold Z8x; rw [htm, Z19]; have e1 : (Z01 q ws (done0 ++ (Z0b ws x).map (·.1)) rk (T ++ [.lp tm ps assign body .ready]))[T.length + 7]? = some (.lp tm ps assign body .ready) := by
      show (T ++ [_])[T.length]? = _; simp
    rw [e1]; have e2 : (Z01 q ws (done0 ++ (Z0b ws x).map (·.1)) rk (T ++ [.lp tm ps assign body .ready])).set (T.length + 7) .dead = Z01 q ws (done0 ++ (Z0b ws x).map (·.1)) rk (T ++ [.dead]) := by
      simp [Z01]
    simp only [e2]; exact this
  · exact h.elim

theorem r46 (q : Int) (ws : List (List UInt8)) (hv : Valid q ws) : PRow Tryz.prog 177 [Z7 q ws] 9 1 ((residL ws).map .str) := by
  refine AC.of_bodyE hΓ Tryz.func177 (by kernel_rfl) rfl (AWp.mono (Q := fun e st => AM.Ends e ∧ ∃ b rk, st.tmps.getD 2 .junk = .own b (residL ws).length ∧ st.h[b]? = some (.row 9 1 ((residL ws).map .str) rk) ∧ rk ≠ .raw) ?_ ?_)
  rotate_left
  · rintro e ⟨tm, h'⟩ ⟨he, b, rk, h1, h2, h3⟩
    simp only at h1 h2; refine ⟨he, _, Less.refl _, ?_⟩; unfold Z56; simp -implicitDefEqProofs only [Tryz.results177, h1, go_sem]; refine ⟨_, by simp, .inl rfl, b, ?_⟩; rw [List.take_length]; exact ⟨rk, by simp, h2, h3⟩
  refine Wd [] ?_; simp -implicitDefEqProofs only [Tryz.ntmps177, Nat.reduceAdd, Nat.reduceSub, Z7, List.map_cons, List.map_nil, go_sem]; refine Zt (c52 q ws) (by simp) ?_; rintro v h' ⟨rfl, rfl⟩; simp -implicitDefEqProofs only [Za, List.foldl, Zn, List.cons_append, List.nil_append, go_sem]; refine AWp.adoptBox (l := []) 3 9 1 rfl (by simp) ?_; simp -implicitDefEqProofs only [List.set_cons_zero, List.set_cons_succ, List.length_cons, List.length_nil, List.cons_append, List.nil_append, Nat.reduceAdd, go_sem]; refine add86 rfl rfl q ws hv.len rfl (by simp [Za, AV.kill, AV.kill.killL]) ?_ ?_
  · intro done rk y r hrk hdl
    refine YC.of_body (Γ := Γ) rfl rfl (by simp) ?_; intro rr; refine Wd [] ?_; unfold Z01; simp +contextual -implicitDefEqProofs only [setP, List.cons_append, List.nil_append, go_sem]; unfold Zcp; refine ⟨rfl, ?_⟩; simp +contextual -implicitDefEqProofs only [List.length_cons, List.length_nil, List.cons_append, List.nil_append, Zn, go_sem]; refine Wd [] ?_; simp -implicitDefEqProofs only [go_sem]; have hkl := Zft done; refine Zt (c82 q ws done rk _ r hrk (by simp [AObj.kill, AV.kill, AV.kill.killL]) (by omega)) (by simp) ?_; rintro v h' ⟨rfl, rk', hrk', rfl⟩; unfold Z01; simp -implicitDefEqProofs only [Za, List.foldl, Zn, go_sem]; exact ⟨8, by simp, .inl rfl, rfl, rk', hrk', rfl⟩
  · intro rk hrk
    unfold Z01; simp -implicitDefEqProofs only [Zn, go_sem]
    refine AWp.loopI (fun p : Nat × List (List UInt8) × RK × Nat => ⟨mkF 44 [(1, .ptr 0 0), (3, .ptr 2 0), (4, .ptr 3 0), (5, .ptr 4 0), (8, .p (.int .i64 p.1))], Z01 q ws p.2.1 p.2.2.1 (List.replicate p.2.2.2 .dead)⟩)
      (fun p => Inv2 ws p.1 p.2.1 p.2.2.1) (fun p => (sufs ws).length - p.1) (0, (Z3a ws).map (·.2), rk, 1) (by simp [go_sem, Z01, Zn]) ?_ ?_
    · have hd := Zcd hv
      have hf : ∀ u, u ∈ (Z3a ws).map (·.2) ↔ u ∈ Z0w ws := fun u => by
        constructor
        · intro hu
          obtain ⟨p, hp, rfl⟩ := List.mem_map.1 hu; exact (Z81 hd (Z0w ws)).2 (fun _ h => h) p hp
        · intro hu
          exact (Z81 hd ((Z3a ws).map (·.2))).1 (fun p hp => List.mem_map.2 ⟨p, hp, rfl⟩) u hu
      exact ⟨hrk, fun x hx => .first x ((hf x).1 hx), fun u hu => (hf u).2 hu, Nat.zero_le _, fun j hj => absurd hj (Nat.not_lt_zero j)⟩
    rintro ⟨i, done, rk, m⟩ hI; simp only at hI; generalize hTT : List.replicate m AObj.dead = T; by_cases hlt : i < (Zk done).length
    · have hdn : done ≠ [] := fun e => by subst e; simp [Zk] at hlt
      have hown := hI.ok.2 hdn; subst hown; refine Wd [(11, 5)] ?_; unfold Z01; simp -implicitDefEqProofs only [Z2, hlt, ↓reduceIte, Zn, go_sem]; have hkey : (Zk done).getD i [] = (Zk done)[i] := by rw [List.getD_eq_getElem?_getD, List.getElem?_eq_getElem hlt, Option.getD_some]
      have hk := hI.keys_len; have hsl := Z4b (ws := ws) (n := 32) (fun w hw => by
        obtain ⟨j, hj, rfl⟩ := List.getElem_of_mem hw; have := hv.short j hj
        rwa [List.getD_eq_getElem?_getD, List.getElem?_eq_getElem hj, Option.getD_some] at this)
      have hl3 : ws.length * (32 + 1) ≤ 64 * 33 := Nat.mul_le_mul_right _ hv.len; refine ⟨fun he => ⟨by simp only [InR]; omega, (i + 1, done, .own, m), ⟨by simp, rfl, rfl, .inl ⟨rfl, rfl⟩, by rw [← hTT]; exact Z8 _⟩, ⟨hI.ok, hI.sound, hI.firsts, hlt, fun j hj hne => ?_⟩, by simp only; omega⟩, fun hne => ?_⟩
      · by_cases hji : j < i
        · exact hI.nexts j hji hne
        · have : j = i := by omega
          subst this; rw [hkey] at hne; exact absurd he hne
      · refine Zt (c53 q ws (Zk done)[i]) (by simp) ?_
        rintro v h' ⟨rfl, rfl⟩; simp -implicitDefEqProofs only [Za, List.foldl, Zn, List.cons_append, List.nil_append, go_sem]; rw [show (#[36, 37] : Array Nat) = [36, 37].toArray from rfl]; generalize hT2 : T ++ [AObj.box [.p (.int .i64 q), .p (.sl (ws.map .str))], .box [.p (.str (Zk done)[i])]] = T2; have gl : ∀ done rk x, (Z01 q ws done rk (T2 ++ [x]))[T2.length + 7]? = some x := fun done rk x => by
          show (T2 ++ [x])[T2.length]? = _; simp
        have gs : ∀ done rk x y, (Z01 q ws done rk (T2 ++ [x])).set (T2.length + 7) y = Z01 q ws done rk (T2 ++ [y]) := fun done rk x y => by simp [Z01]
        have f4 : ∀ done rk T, (Z01 q ws done rk T)[4]? = some (.box [.fn 220 [.ptr 2 0, .ptr 3 0]]) := fun _ _ _ => rfl
        refine AWp.weak (st' := ⟨mkF 44 [(1, .ptr 0 0), (3, .ptr 2 0), (4, .ptr 3 0), (5, .ptr 4 0), (8, .p (.int .i64 i)), (35, .fn 254 [.ptr (T.length + 7) 0, .ptr (T.length + 1 + 7) 0])], Z01 q ws done .own T2⟩) ?_ ?_
        · rw [← hT2]; simp [go_sem, Z01, Zn, Z8]
        refine add87 (c := T.length) (d := T.length + 1) rfl rfl q ws hv.len (Zk done)[i] done .own hI.ok T2 rfl (by rw [← hT2]; simp [Zn]) (by rw [← hT2]; simp) (by simp [go_sem, Za, AV.kill, AV.kill.killL]) (by omega) ?_ ?_
        · intro done2 rk2 u n hrk2 hk2
          refine YC.of_body (Γ := Γ) (gl _ _ _) rfl (by simp) ?_; intro rr; refine Wd [] ?_; simp -implicitDefEqProofs only [setP, go_sem]; unfold Zcp; refine ⟨rfl, ?_⟩; simp only [gl, gs]; refine Wd [] ?_; simp -implicitDefEqProofs only [f4, go_sem]; refine Zt (c82 q ws done2 rk2 _ u hrk2 (by rw [← hT2, ← hTT]; simp [AObj.kill, AV.kill, AV.kill.killL]) (by omega)) (fun k hk => .inr hk) ?_; rintro v h' ⟨rfl, rk', hrk', rfl⟩; simp -implicitDefEqProofs only [Za, List.foldl, go_sem]; unfold Za1; simp only [gl, gs]; exact ⟨_, by simp [Z19], .inl rfl, trivial, rk', hrk', List.take_length⟩
        · intro rk2 hrk2
          unfold Z01; simp -implicitDefEqProofs only [Zn, go_sem]; refine ⟨by simp only [InR]; omega, (i + 1, done ++ (Z0b ws (Zk done)[i]).map (·.1), rk2, m + 3), ⟨by simp, rfl, rfl, .inl ⟨rfl, rfl⟩, ?_⟩, ?_, by simp only; omega⟩
          · have e3 : List.replicate (m + 3) AObj.dead = List.replicate (T2 ++ [AObj.dead]).length AObj.dead := by rw [← hT2, ← hTT]; simp
            simp only [e3]; exact Z95 _
          · have hN := Zlb ws (Zk done)[i]
            have hkr : Z6l ws (Zk done)[i] := hI.sound _ ((Z14 _ _).1 (List.getElem_mem hlt)); have hpre := (Z5q done ((Z0b ws (Zk done)[i]).map (·.1))).length_le; refine ⟨hrk2, fun x hx => ?_, fun u hu => List.mem_append.2 (.inl (hI.firsts u hu)), by simp only; omega, fun j hj hne2 u hu => ?_⟩
            · rcases List.mem_append.1 hx with hx | hx
              · exact hI.sound x hx
              · exact .next _ x hkr hne (by rw [hN]; exact hx)
            · rw [Zd9 (by omega)] at hne2 hu
              by_cases hji : j < i
              · exact List.mem_append.2 (.inl (hI.nexts j hji hne2 u hu))
              · have : j = i := by omega
                subst this; rw [hkey, hN] at hu; exact List.mem_append.2 (.inr hu)
    · refine Wd [(11, 5)] ?_
      unfold Z01; simp -implicitDefEqProofs only [Z2, hlt, ↓reduceIte, Zn, go_sem]; have hmem : ∀ x, x ∈ Zk done ↔ Z6l ws x := fun x => by
        rw [Z14]; refine ⟨hI.sound x, fun h => ?_⟩
        induction h with
        | first u h => exact hI.firsts u h
        | next r u hr hne h ih =>
          obtain ⟨j, hj, rfl⟩ := List.getElem_of_mem ((Z14 done r).2 ih); have e : (Zk done).getD j [] = (Zk done)[j] := by rw [List.getD_eq_getElem?_getD, List.getElem?_eq_getElem hj, Option.getD_some]
          exact hI.nexts j (by have := hI.le; omega) (by rw [e]; exact hne) u (by rw [e]; exact h)
      have hres : Z0s (Zk done) = residL ws := Zh4 (Z3z _) hmem; by_cases hdn : done = []
      · subst hdn
        refine Zt (c83n (b := 6)) (by simp) ?_; rintro v h' ⟨rfl, rfl⟩; simp -implicitDefEqProofs only [Za, List.foldl, go_sem]; have e0 : Zk [] = [] := rfl; have es : Z0s [] = [] := by simp [Z0s]
        rw [← hres, e0, es]; exact ⟨6, rk, ⟨rfl, rfl⟩, rfl, hI.ok.1⟩
      · have hown := hI.ok.2 hdn
        subst hown; have hk := hI.keys_len; have hsl := Z4b (ws := ws) (n := 32) (fun w hw => by
          obtain ⟨j, hj, rfl⟩ := List.getElem_of_mem hw; have := hv.short j hj
          rwa [List.getD_eq_getElem?_getD, List.getElem?_eq_getElem hj, Option.getD_some] at this)
        have hl2 := hv.len; have hl3 : ws.length * (32 + 1) ≤ 64 * 33 := Nat.mul_le_mul_right _ hl2; refine Zt (c83 (b := 6) (Zk done) rfl (by omega)) (by simp) ?_; rintro v h' ⟨rfl, rfl⟩; simp -implicitDefEqProofs only [Za, List.foldl, List.set_cons_succ, List.set_cons_zero, go_sem]; rw [hres]; exact ⟨6, .own, ⟨rfl, by rw [← hres, Z00]⟩, rfl, by simp⟩

def ixL (x : List UInt8) : List (List UInt8) → Nat → Int
  | [], _ => -1
  | a :: l, k => if a = x then k else ixL x l (k + 1)
theorem Znf (x : List UInt8) : ∀ (l : List (List UInt8)) (n k : Nat) (hk : k < l.length), (∀ j (hj : j < k), l[j] ≠ x) → l[k] = x → ixL x l n = ((n + k : Nat) : Int)
  | [], n, k, hk, _, _ => absurd hk (Nat.not_lt_zero k)
  | a :: l, n, 0, _, _, h => by
    have : a = x := h; subst this; unfold ixL; simp
  | a :: l, n, k + 1, hk, h0, h => by
    have h1 : a ≠ x := h0 0 (by omega); unfold ixL; rw [if_neg h1]; refine (Znf x l (n + 1) k (by simpa using hk) (fun j hj => h0 (j + 1) (by omega)) h).trans ?_
    congr 1; omega
theorem Zes (x : List UInt8) : ∀ (l : List (List UInt8)) (n : Nat), x ∉ l → ixL x l n = -1
  | [], _, _ => rfl
  | a :: l, n, h => by
    simp only [List.mem_cons, not_or] at h; unfold ixL; rw [if_neg (fun e => h.1 e.symm)]; exact Zes x l (n + 1) h.2
theorem Zic (x : List UInt8) : ∀ (l : List (List UInt8)) (n : Nat), decide (0 ≤ ixL x l n) = decide (x ∈ l)
  | [], _ => by simp [ixL]
  | a :: l, n => by
    unfold ixL; by_cases h : a = x
    · rw [if_pos h, decide_eq_true (by omega), decide_eq_true (by simp [h])]
    · rw [if_neg h, Zic x l (n + 1)]
      exact decide_eq_decide.2 ⟨fun h' => by simp [h'], fun h' => (List.mem_cons.1 h').resolve_left (fun e => h e.symm)⟩

theorem t48 (ws : List (List UInt8)) (x : List UInt8) (hl : ws.length ≤ 9223372036854775807) : PFn Tryz.prog 219 [.sl (ws.map .str), .str x] [.int .i64 (ixL x ws 0)] := by
  refine PFn.of_body hΓ Tryz.func219 (by kernel_rfl) rfl (Wd [] ?_); simp +contextual -implicitDefEqProofs only [Tryz.ntmps219, Tryz.results219, Nat.reduceAdd, Nat.reduceSub, go_sem]
  refine AWp.loopI (fun k : Nat => ⟨mkF 19 [(0, .p (.sl (ws.map .str))), (1, .p (.str x)), (7, .p (.int .i64 ws.length)), (8, .p (.int .i64 k))], []⟩)
    (fun k => k ≤ ws.length ∧ ∀ j (hj : j < ws.length), j < k → ws[j] ≠ x) (fun k => ws.length - k) 0 (by simp [go_sem]) (by simp) ?_
  rintro k ⟨hk, h0⟩; refine Wd [] ?_; simp +contextual -implicitDefEqProofs only [Z2, ↓reduceIte, go_sem]; refine ⟨fun hlt => ⟨fun he => ?_, fun hne => ⟨by simp only [InR]; omega, k + 1, by simp, ⟨hlt, fun j hj hjk => ?_⟩, by omega⟩⟩, fun hge => ?_⟩
  · rw [← he, Znf x ws 0 k hlt (fun j hj => h0 j (by omega) hj) he.symm]; simp
  · by_cases hjk' : j < k
    · exact h0 j hj hjk'
    · have : j = k := by omega
      subst this; exact fun e => hne e.symm
  · refine (Zes x ws 0 (fun hm => ?_)).symm
    obtain ⟨j, hj, e⟩ := List.getElem_of_mem hm; exact h0 j hj (by omega) e

theorem t16 (ws : List (List UInt8)) (x : List UInt8) (hl : ws.length ≤ 9223372036854775807) : PFn Tryz.prog 176 [.sl (ws.map .str), .str x] [.bool (decide (x ∈ ws))] := by
  refine PFn.of_body hΓ Tryz.func176 (by kernel_rfl) rfl (Wd [] ?_); simp +contextual -implicitDefEqProofs only [Tryz.ntmps176, Tryz.results176, Nat.reduceAdd, Nat.reduceSub, go_sem]; refine Z0 (t48 ws x hl) (.pures rfl) ?_; simp -implicitDefEqProofs only [go_sem]; exact Zic x ws 0

theorem Zfi {q : Int} {ws : List (List UInt8)} (hv : Valid q ws) : (residL ws).length ≤ 2112 := by
  have h1 : residL ws ⊆ sufs ws := fun x hx => Z5o (Z1o (Z1v.1 hx))
  have h2 := Z2n ((Z1s ws).imp (fun h e => by subst e; exact Z0d _ h)) h1; have h3 := Z4b (ws := ws) (n := 32) (fun w hw => by
    obtain ⟨j, hj, rfl⟩ := List.getElem_of_mem hw; have := hv.short j hj
    rwa [List.getD_eq_getElem?_getD, List.getElem?_eq_getElem hj, Option.getD_some] at this)
  have h4 : ws.length * (32 + 1) ≤ 64 * 33 := Nat.mul_le_mul_right _ hv.len; omega

theorem t47 (q : Int) (ws : List (List UInt8)) (hv : Valid q ws) : PFn Tryz.prog 118 [Z7 q ws] [.bool (!decide ([] ∈ residL ws))] := by
  have hr := Zfi hv; refine PFn.of_body hΓ Tryz.func118 (by kernel_rfl) rfl (Wd [] ?_); simp +contextual -implicitDefEqProofs only [Z7, Tryz.ntmps118, Tryz.results118, Nat.reduceAdd, Nat.reduceSub, go_sem]; refine Z0 (PFn.of_row (r46 q ws hv)) (.still rfl) ?_; simp -implicitDefEqProofs only [go_sem]; refine Z0 (t16 (residL ws) [] (by omega)) (.pures rfl) ?_; simp -implicitDefEqProofs only [go_sem]

theorem t15 (q : Int) (ws : List (List UInt8)) : PFn Tryz.prog 55 [Z7 q ws] [.bool (if Z6 q ws = 0 then !decide ([] ∈ residL ws) else false), .int .i64 (if Z6 q ws = 0 then 0 else 1)] := by
  refine PFn.of_body hΓ Tryz.func55 (by kernel_rfl) rfl (Wd [] ?_); simp +contextual -implicitDefEqProofs only [Z7, Tryz.ntmps55, Tryz.results55, Nat.reduceAdd, Nat.reduceSub, go_sem]; refine Z0 (t45 q ws) (.still rfl) ?_; by_cases h : Z6 q ws = 0
  · rw [h]
    simp -implicitDefEqProofs only [go_sem]; refine Z0 (t47 q ws (valid_of h)) (.still rfl) ?_; simp -implicitDefEqProofs only [go_sem]
  · simp -implicitDefEqProofs only [h, go_sem]



theorem t60 (w x : List UInt8) : PFn Tryz.prog 241 [.str w, .str x] [.bool (x.isPrefixOf w)] := by
  refine PFn.of_body hΓ Tryz.func241 (by kernel_rfl) rfl (Wd [] ?_); simp +contextual -implicitDefEqProofs only [Tryz.ntmps241, Tryz.results241, Nat.reduceAdd, Nat.reduceSub, go_sem]; refine ⟨fun h => ?_, fun h => ?_⟩
  · rw [Bool.eq_iff_iff, List.isPrefixOf_iff_prefix, List.prefix_iff_eq_take, decide_eq_true_eq]; exact eq_comm
  · rw [Bool.eq_iff_iff, List.isPrefixOf_iff_prefix]
    exact ⟨fun h => by simp at h, fun h' => absurd h'.length_le h⟩

theorem t55 (ws : List (List UInt8)) (x : List UInt8) (hl : ws.length ≤ 9223372036854775807) : PFn Tryz.prog 154 [.sl (ws.map .str), .str x] [.bool (decide (x ∈ ws))] := by
  refine PFn.of_body hΓ Tryz.func154 (by kernel_rfl) rfl (Wd [] ?_); simp +contextual -implicitDefEqProofs only [Tryz.ntmps154, Tryz.results154, Nat.reduceAdd, Nat.reduceSub, go_sem]
  refine AWp.loopI (fun k : Nat => ⟨mkF 18 [(0, .p (.sl (ws.map .str))), (1, .p (.str x)), (4, .p (.bool false)), (5, .p (.int .i64 k))], []⟩)
    (fun k => k ≤ ws.length ∧ x ∉ ws.take k) (fun k => ws.length - k) 0 (by simp [go_sem]) (by simp) ?_
  rintro k ⟨hk, hnot⟩; refine Wd [] ?_; simp +contextual -implicitDefEqProofs only [go_sem, Z2, ↓reduceIte]; refine ⟨fun hlt => ⟨fun he => ?_, fun hne => ⟨by simp only [InR]; omega, k + 1, by simp, ⟨hlt, ?_⟩, by omega⟩⟩, fun hge => ?_⟩
  · simp [← he]
  · rw [List.take_succ_eq_append_getElem hlt]
    simp only [List.mem_append, List.mem_singleton, hnot, false_or]; exact fun h => hne h.symm
  · rw [List.take_of_length_le (by omega)] at hnot; simp [hnot]

theorem t57 (a b : List UInt8) : PFn Tryz.prog 201 [.str a, .str b] [.bool (decide (a.length < b.length) || (decide (a.length = b.length) && Op.bytesLess a b))] := by
  refine PFn.of_body hΓ Tryz.func201 (by kernel_rfl) rfl (Wd [] ?_); simp +contextual -implicitDefEqProofs only [Tryz.ntmps201, Tryz.results201, Nat.reduceAdd, Nat.reduceSub, go_sem, Bool.false_or, Bool.true_or, Bool.true_and, Bool.false_and]; intro h1 h2; simp

theorem r54 (q : Int) (ws : List (List UInt8)) (hl : ws.length ≤ 1000) : PRow Tryz.prog 199 [Z7 q ws] 9 1 ((Z0w ws).map .str) := by
  refine AC.of_body 2 hΓ Tryz.func199 (by kernel_rfl) rfl (by simp) (Wd [] ?_); simp +contextual -implicitDefEqProofs only [Z7, Tryz.ntmps199, Tryz.results199, Nat.reduceAdd, Nat.reduceSub, List.map_cons, List.map_nil, go_sem]; refine ⟨⟨fun x h => (by cases h), by omega⟩, ?_⟩; refine AWp.adopt (l := []) 3 9 1 (by rfl) (by simp) ?_; simp +contextual -implicitDefEqProofs only [go_sem]
  refine AWp.loopI (fun i : Nat => ⟨mkF 53 [(1, .ptr 0 0), (3, .own 1 (Z0e ws i).length), (4, .p (.int .i64 i))], [Zn q ws, .row 9 1 ((Z0e ws i).map .str) .lax]⟩)
    (fun i => i ≤ ws.length) (fun i => ws.length - i) 0 (by simp [go_sem, Zn, Z0e]) (by simp) ?_
  rintro i hk; refine Wd [] ?_; simp +contextual -implicitDefEqProofs only [↓reduceIte, Zn, go_sem]; refine ⟨fun hlt => ?_, fun hge => by rw [show i = ws.length by omega]; exact ⟨rfl, 1, .lax, ⟨rfl, rfl⟩, rfl, by simp⟩⟩
  refine AWp.loopI (fun k : Nat => ⟨mkF 53 [(1, .ptr 0 0), (3, .own 1 (Z0e ws i ++ Zq ws i k).length), (4, .p (.int .i64 i)), (5, .p (.int .i64 k))], [Zn q ws, .row 9 1 ((Z0e ws i ++ Zq ws i k).map .str) .lax]⟩)
    (fun k => k ≤ ws.length) (fun k => ws.length - k) 0 (by simp [go_sem, Zn, Zq]) (by simp) ?_
  rintro k hk2; refine Wd [(8, 14), (9, 14)] ?_; simp +contextual -implicitDefEqProofs only [Z2, ↓reduceIte, Zn, hlt, go_sem]; have hwi : ws.getD i [] = ws[i] := by rw [List.getD_eq_getElem?_getD, List.getElem?_eq_getElem hlt, Option.getD_some]
  refine ⟨fun hlt2 => ⟨fun he => ⟨by simp only [InR]; omega, k + 1, ?_, hlt2, by omega⟩, fun hne => Z0 (t60 ws[i] ws[k]) (.pures rfl) ?_⟩, fun hge => ⟨by simp only [InR]; omega, i + 1, ?_, hlt, by omega⟩⟩
  · have : Zq ws k (k + 1) = Zq ws k k := by rw [Z0j]; unfold Z2e; rw [if_neg (by simp)]; simp
    rw [this]; simp
  · have hwk : ws.getD k [] = ws[k] := by rw [List.getD_eq_getElem?_getD, List.getElem?_eq_getElem hlt2, Option.getD_some]
    cases hp : ws[k].isPrefixOf ws[i]
    · simp -implicitDefEqProofs only [hlt, hlt2, Z2, ↓reduceIte, Zn, go_sem]
      have : Zq ws i (k + 1) = Zq ws i k := by rw [Z0j]; unfold Z2e; rw [hwi, hwk, if_neg (by simp [hp])]; simp
      exact ⟨by simp only [InR]; omega, k + 1, by rw [this]; simp, hlt2, by omega⟩
    · simp -implicitDefEqProofs only [hlt, hlt2, Z2, ↓reduceIte, Zn, go_sem]
      have : Zq ws i (k + 1) = Zq ws i k ++ [ws[i].drop ws[k].length] := by rw [Z0j]; unfold Z2e; rw [hwi, hwk, if_pos ⟨hne, hp⟩]
      have h1 := Z4g ws i; have h2 := Z36 ws i k; have h3 : i * ws.length ≤ 1000 * 1000 := Nat.mul_le_mul (by omega) hl
      refine ⟨(List.isPrefixOf_iff_prefix.1 hp).length_le, ⟨by simp [Zc, PV.cells], by omega⟩, ⟨by simp [Zc, PV.cells], by simp [Z0k, PV.cells, PV.isAgg]⟩, ⟨by simp, by simp only [List.length_append]; omega, by simp only [List.length_append]; omega⟩,
        by simp only [InR]; omega, k + 1, ⟨⟨by rw [this]; simp; omega, by simp⟩, by rw [this]; simp⟩, hlt2, by omega⟩
  · have : Z0e ws (i + 1) = Z0e ws i ++ Zq ws i k := by rw [Z52, show k = ws.length by omega]
    rw [this]; simp

theorem t54 (q : Int) (ws : List (List UInt8)) (hl : ws.length ≤ 1000) : PFn Tryz.prog 199 [Z7 q ws] [.sl ((Z0w ws).map .str)] := .of_row (r54 q ws hl)

theorem t56 (q : Int) (ws : List (List UInt8)) (r : List UInt8) (hl : ws.length ≤ 1000) : PFn Tryz.prog 200 [Z7 q ws, .str r] [.sl ((Z1c ws r).map .str)] := by
  refine PFn.of_body hΓ Tryz.func200 (by kernel_rfl) rfl (Wd [] ?_); simp +contextual -implicitDefEqProofs only [Z7, Tryz.ntmps200, Tryz.results200, Nat.reduceAdd, Nat.reduceSub, go_sem]; refine ⟨⟨fun x h => (by cases h), by omega⟩, ?_⟩; refine AWp.adopt (l := []) 5 9 1 (by rfl) (by simp) ?_; simp +contextual -implicitDefEqProofs only [go_sem]
  refine AWp.loopI (fun k : Nat => ⟨mkF 42 [(1, .p (.str r)), (2, .ptr 0 0), (5, .own 1 (Z1c (ws.take k) r).length), (6, .p (.int .i64 k))], [Zn q ws, .row 9 1 ((Z1c (ws.take k) r).map .str) .lax]⟩)
    (fun k => k ≤ ws.length) (fun k => ws.length - k) 0 (by simp [go_sem, Zn, Z1c]) (by simp) ?_
  rintro k hk; refine Wd [] ?_; simp +contextual -implicitDefEqProofs only [Z2, ↓reduceIte, Zn, go_sem]; refine ⟨fun hlt => Z0 (t60 r ws[k]) (.pures rfl) ?_, fun hge => by rw [List.take_of_length_le (by omega)]⟩; have h2 := Z86 r (ws.take k); rw [List.length_take] at h2; have hs := Zfm r hlt
  cases hp : ws[k].isPrefixOf r
  · simp -implicitDefEqProofs only [hlt, Z2, ↓reduceIte, Zn, go_sem]
    refine Z0 (t60 ws[k] r) (.pures rfl) ?_
    cases hp2 : r.isPrefixOf ws[k]
    · simp -implicitDefEqProofs only [hlt, Z2, ↓reduceIte, Zn, go_sem]
      have : Z1c (ws.take (k + 1)) r = Z1c (ws.take k) r := by rw [hs]; unfold Z3w; rw [if_neg (by simp [hp]), if_neg (by simp [hp2])]; simp
      exact ⟨by simp only [InR]; omega, k + 1, by rw [this]; simp, hlt, by omega⟩
    · simp -implicitDefEqProofs only [hlt, Z2, ↓reduceIte, Zn, go_sem]
      have : Z1c (ws.take (k + 1)) r = Z1c (ws.take k) r ++ [ws[k].drop r.length] := by rw [hs]; unfold Z3w; rw [if_neg (by simp [hp]), if_pos hp2]
      refine ⟨(List.isPrefixOf_iff_prefix.1 hp2).length_le, ⟨by simp [Zc, PV.cells], by omega⟩, ⟨by simp [Zc, PV.cells], by simp [Z0k, PV.cells, PV.isAgg]⟩, ⟨by simp, by omega, by omega⟩,
        by simp only [InR]; omega, k + 1, ⟨⟨by rw [this]; simp, by simp⟩, by rw [this]; simp⟩, hlt, by omega⟩
  · simp -implicitDefEqProofs only [hlt, Z2, ↓reduceIte, Zn, go_sem]
    have : Z1c (ws.take (k + 1)) r = Z1c (ws.take k) r ++ [r.drop ws[k].length] := by rw [hs]; unfold Z3w; rw [if_pos hp]
    refine ⟨(List.isPrefixOf_iff_prefix.1 hp).length_le, ⟨by simp [Zc, PV.cells], by omega⟩, ⟨by simp [Zc, PV.cells], by simp [Z0k, PV.cells, PV.isAgg]⟩, ⟨by simp, by omega, by omega⟩,
      by simp only [InR]; omega, k + 1, ⟨⟨by rw [this]; simp, by simp⟩, by rw [this]; simp⟩, hlt, by omega⟩

end Go.Proofs.YtpljmccnfmkmfaaGreat.Dc
end

section
namespace Go.Proofs.YtpljmccnfmkmfaaGreat
open Go Go.AM Go.RowKit

def rkOf (l : List (List UInt8)) : RK := if l = [] then .lax else .own
theorem Z3u (l : List (List UInt8)) (x : List UInt8) : rkOf (l ++ [x]) = .own := by unfold rkOf; rw [if_neg (by simp)]
end Go.Proofs.YtpljmccnfmkmfaaGreat
end

section
namespace Go.Proofs.YtpljmccnfmkmfaaGreat.Dc
open Go Go.AM

theorem r54o (q : Int) (ws : List (List UInt8)) (hl : ws.length ≤ 1000) (hne : Z0w ws ≠ []) : PRowO Tryz.prog 199 [Z7 q ws] 9 1 ((Z0w ws).map .str) := by
  refine AC.of_body 2 hΓ Tryz.func199 (by kernel_rfl) rfl (by simp) (AWp.seq (Wd [] ?_)); simp -implicitDefEqProofs only [Tryz.ntmps199, Tryz.results199, Nat.reduceAdd, Nat.reduceSub, Z7, List.map_cons, List.map_nil, go_sem]; refine AWp.seq (Wd [] ?_); simp -implicitDefEqProofs only [go_sem]; refine ⟨⟨fun x h => (by cases h), by omega⟩, ?_⟩; refine AWp.adopt (l := []) 3 9 1 (by rfl) (by simp) ?_; simp -implicitDefEqProofs only [go_sem]; refine AWp.seq (AWp.seq (Wd [] ?_)); simp -implicitDefEqProofs only [go_sem]; refine AWp.block ?_
  refine AWp.loopI (fun i : Nat => ⟨mkF 53 [(1, .ptr 0 0), (3, .own 1 (Z0e ws i).length), (4, .p (.int .i64 i))], [.box [.p (.int .i64 q), .p (.sl (ws.map .str))], .row 9 1 ((Z0e ws i).map .str) (rkOf (Z0e ws i))]⟩)
    (fun i => i ≤ ws.length) (fun i => ws.length - i) 0 (by simp [go_sem, Z0e, rkOf]) (by simp) ?_
  intro i hi; refine Wd [] ?_; by_cases hlt : i < ws.length
  rotate_left
  · have hlt' : ¬ (i : Int) < (ws.length : Int) := by omega
    have hii : i = ws.length := by omega
    subst hii; have hk : rkOf (Z0w ws) = .own := if_neg hne; have hF : Z0e ws ws.length = Z0w ws := rfl; rw [hF, hk]; simp -implicitDefEqProofs only [hlt', Int.lt_irrefl, List.length_map, go_sem]; refine Wd [] ?_; simp -implicitDefEqProofs only [go_sem]; exact ⟨rfl, 1, rfl, rfl⟩
  have hlt' : (i : Int) < (ws.length : Int) := by omega
  simp -implicitDefEqProofs only [hlt', List.length_map, go_sem]
  refine AWp.loopI (fun k : Nat => ⟨mkF 53 [(1, .ptr 0 0), (3, .own 1 (Z0e ws i ++ Zq ws i k).length), (4, .p (.int .i64 i)), (5, .p (.int .i64 k))], [.box [.p (.int .i64 q), .p (.sl (ws.map .str))], .row 9 1 ((Z0e ws i ++ Zq ws i k).map .str) (rkOf (Z0e ws i ++ Zq ws i k))]⟩)
    (fun k => k ≤ ws.length) (fun k => ws.length - k) 0 (by simp [go_sem, Zq]) (by simp) ?_
  intro k hk; refine Wd [(8, 16), (9, 14)] ?_; by_cases hkl : k < ws.length
  rotate_left
  · have hkl' : ¬ (k : Int) < (ws.length : Int) := by omega
    have : Z0e ws (i + 1) = Z0e ws i ++ Zq ws i k := by rw [Z52, show k = ws.length by omega]
    simp -implicitDefEqProofs only [hkl', List.length_map, go_sem]; exact ⟨by simp only [InR]; omega, i + 1, ⟨⟨by rw [this], by simp⟩, by rw [this]; exact .inl ⟨rfl, rfl⟩⟩, hlt, by omega⟩
  have hkl' : (k : Int) < (ws.length : Int) := by omega
  have hwi : ws.getD i [] = ws[i] := by rw [List.getD_eq_getElem?_getD, List.getElem?_eq_getElem hlt, Option.getD_some]
  have hwk : ws.getD k [] = ws[k] := by rw [List.getD_eq_getElem?_getD, List.getElem?_eq_getElem hkl, Option.getD_some]
  have hgi : (ws.map PV.str).getD i default = .str ws[i] := Z2 _ _ _ _ hlt; have hgk : (ws.map PV.str).getD k default = .str ws[k] := Z2 _ _ _ _ hkl; by_cases hik : i = k
  · subst hik
    have : Zq ws i (i + 1) = Zq ws i i := by rw [Z0j]; unfold Z2e; rw [if_neg (by simp)]; simp
    simp -implicitDefEqProofs only [hkl', List.length_map, go_sem]; exact ⟨by simp only [InR]; omega, i + 1, ⟨⟨by rw [this], by simp⟩, by rw [this]; exact .inl ⟨rfl, rfl⟩⟩, hkl, by omega⟩
  have hik' : ¬ (i : Int) = (k : Int) := by omega
  cases hp : ws[k].isPrefixOf ws[i] with
  | false =>
    have : Zq ws i (k + 1) = Zq ws i k := by rw [Z0j]; unfold Z2e; rw [hwi, hwk, if_neg (by simp [hp])]; simp
    simp -implicitDefEqProofs only [hkl', hik', hgi, hgk, Int.toNat_natCast, List.length_map, go_sem]; refine ⟨hlt, Z1 (t60 ws[i] ws[k]) (.pures rfl) ?_⟩; rw [hp]; simp -implicitDefEqProofs only [go_sem]; exact ⟨by simp only [InR]; omega, k + 1, ⟨⟨by rw [this], by simp⟩, by rw [this]; exact .inl ⟨rfl, rfl⟩⟩, hkl, by omega⟩
  | true =>
    have this : Zq ws i (k + 1) = Zq ws i k ++ [ws[i].drop ws[k].length] := by rw [Z0j]; unfold Z2e; rw [hwi, hwk, if_pos ⟨hik, hp⟩]
    have h1 := Z4g ws i; have h2 := Z36 ws i k; have h3 : i * ws.length ≤ 1000 * 1000 := Nat.mul_le_mul (by omega) hl; have hpl := (List.isPrefixOf_iff_prefix.1 hp).length_le; have hpl' : (ws[k].length : Int) ≤ (ws[i].length : Int) := by omega
    have hs1 : Zc [PV.str (ws[i].drop ws[k].length)] 1 := by simp [Zc, PV.cells]
    have ho1 : Z0k [PV.str (ws[i].drop ws[k].length)] := by simp [Z0k, PV.cells, PV.isAgg]
    simp -implicitDefEqProofs only [hkl', hik', hgi, hgk, Int.toNat_natCast, List.length_map, go_sem]; refine ⟨hlt, Z1 (t60 ws[i] ws[k]) (.pures rfl) ?_⟩; rw [hp]; simp -implicitDefEqProofs only [hkl', hik', hgi, hgk, Int.toNat_natCast, List.length_map, hpl', go_sem]
    refine ⟨hlt, ⟨hs1, by omega⟩, ⟨hs1, ho1⟩, ⟨by unfold rkOf; split <;> simp, by simp, by simp only [List.length_append]; omega, by simp only [List.length_append]; omega⟩, by simp only [InR]; omega, k + 1,
      ⟨⟨by rw [this]; simp; omega, by simp⟩, .inl ⟨by rw [this]; simp, by rw [this, ← List.append_assoc, Z3u]; rfl⟩⟩, hkl, by omega⟩

theorem Z6b {α : Type} [DecidableEq α] : ∀ {l m : List α}, l.Nodup → (∀ a ∈ l, a ∈ m) → l.length ≤ m.length
  | [], _, _, _ => by simp
  | a :: l, m, h, hs => by
    rw [List.nodup_cons] at h; have ha : a ∈ m := hs a (by simp); have h2 := Z6b (l := l) (m := m.erase a) h.2 (fun b hb => by
      have hne : b ≠ a := fun e => h.1 (e ▸ hb)
      exact (List.mem_erase_of_ne hne).2 (hs b (by simp [hb])))
    have h3 := List.length_erase_of_mem ha; have h4 : 0 < m.length := List.length_pos_of_mem ha
    simp; omega
structure RefR (ws out l : List (List UInt8)) : Prop where
  nd : out.Nodup
  mem : ∀ x ∈ out, Z6l ws x
  lmem : ∀ x ∈ l, Z6l ws x
  fst : ∀ x ∈ Z0w ws, x ∈ out ∨ x ∈ l
  clo : ∀ r ∈ out, r ≠ [] → ∀ u ∈ Z1c ws r, u ∈ out ∨ u ∈ l
theorem RefR.start (ws : List (List UInt8)) : RefR ws [] (Z0w ws) where
  nd := List.nodup_nil
  mem := fun x h => by cases h
  lmem := fun x h => .first x h
  fst := fun x h => .inr h
  clo := fun r h => by cases h
theorem RefR.skip {ws out l : List (List UInt8)} {r : List UInt8} (R : RefR ws out (r :: l)) (h : r ∈ out) : RefR ws out l where
  nd := R.nd
  mem := R.mem
  lmem := fun x hx => R.lmem x (List.mem_cons_of_mem _ hx)
  fst := fun x hx => (R.fst x hx).elim .inl fun h2 => (List.mem_cons.1 h2).elim (fun e => .inl (e ▸ h)) .inr
  clo := fun y hy hne u hu => (R.clo y hy hne u hu).elim .inl fun h2 => (List.mem_cons.1 h2).elim (fun e => .inl (e ▸ h)) .inr
theorem RefR.add {ws out l m : List (List UInt8)} {r : List UInt8} (R : RefR ws out (r :: l)) (h : r ∉ out) (h0 : r = [] → m = l) (h1 : r ≠ [] → m = l ++ Z1c ws r) : RefR ws (out ++ [r]) m := by
  have hlm : ∀ x ∈ l, x ∈ m := fun x hx => by
    by_cases e : r = []
    · rw [h0 e]; exact hx
    · rw [h1 e]; exact List.mem_append_left _ hx
  exact {
    nd := List.nodup_append.2 ⟨R.nd, by simp, fun a ha b hb e => h (by rw [List.mem_singleton.1 hb] at e; exact e ▸ ha)⟩
    mem := fun x hx => (List.mem_append.1 hx).elim (R.mem x) fun h2 => by rw [List.mem_singleton.1 h2]; exact R.lmem r (by simp)
    lmem := fun x hx => by
      by_cases e : r = []
      · rw [h0 e] at hx; exact R.lmem x (List.mem_cons_of_mem _ hx)
      · rw [h1 e] at hx
        exact (List.mem_append.1 hx).elim (fun h2 => R.lmem x (List.mem_cons_of_mem _ h2)) fun h2 => .next r x (R.lmem r (by simp)) e h2
    fst := fun x hx => (R.fst x hx).elim (fun h2 => .inl (List.mem_append_left _ h2)) fun h2 => (List.mem_cons.1 h2).elim (fun e => .inl (by rw [e]; simp)) fun h3 => .inr (hlm x h3)
    clo := fun y hy hne u hu => by
      rcases List.mem_append.1 hy with hy | hy
      · exact (R.clo y hy hne u hu).elim (fun h2 => .inl (List.mem_append_left _ h2)) fun h2 => (List.mem_cons.1 h2).elim (fun e => .inl (by rw [e]; simp)) fun h3 => .inr (hlm u h3)
      · rw [List.mem_singleton.1 hy] at hne hu
        rw [h1 hne]; exact .inr (List.mem_append_right _ hu) }
theorem RefR.done {ws out : List (List UInt8)} (R : RefR ws out []) (x : List UInt8) : x ∈ out ↔ Z6l ws x := by
  refine ⟨R.mem x, fun h => ?_⟩
  induction h with
  | first u h => exact (R.fst u h).resolve_right (by simp)
  | next r u hr hne h ih => exact (R.clo r ih hne u h).resolve_right (by simp)
theorem RefR.len {ws out l : List (List UInt8)} (R : RefR ws out l) : out.length ≤ (sufs ws).length :=
  Z6b R.nd fun x hx => Z5o (Z1o (R.mem x hx))

theorem Zgp (l : List (List UInt8)) : Zc (l.map .str) 1 := fun x hx => by
  obtain ⟨b, _, rfl⟩ := List.mem_map.1 hx
  rfl
theorem Zl6 (l : List (List UInt8)) : Z0k (l.map .str) := fun x hx c hc => by
  obtain ⟨b, _, rfl⟩ := List.mem_map.1 hx; have : c = .str b := by simpa [PV.cells] using hc
  subst this; rfl
theorem Zeq (a b : List UInt8) : (decide (a.length < b.length) || (decide (a.length = b.length) && Op.bytesLess a b)) = true ↔ ltW a b := by
  unfold ltW; rw [← Zf9, Bool.or_eq_true, Bool.and_eq_true, decide_eq_true_iff, decide_eq_true_iff]
theorem Zit (A B : List (List UInt8)) (x : List UInt8) : ((A ++ x :: B).map PV.str).getD A.length default = .str x := by
  rw [List.getD_eq_getElem?_getD, List.getElem?_map, List.getElem?_append_right (Nat.le_refl _), Nat.sub_self]
  rfl
theorem Z34 (A B : List (List UInt8)) (x y : List UInt8) : ((A ++ x :: B).map PV.str).set A.length (.str y) = (A ++ y :: B).map PV.str := by
  rw [List.map_append, List.map_append, List.map_cons, List.map_cons, List.set_append_right _ _ (by simp), List.length_map, Nat.sub_self]
  rfl
theorem Zbf {l : List (List UInt8)} (h : l.Pairwise ltW) : l.Nodup := h.imp fun {a b} h e => by subst e; exact Z0d _ h
theorem h153 (q : Nat) (ws : List (List UInt8)) (hc : Z6 q ws = 0) : PFn Tryz.prog 153 [Z7 q ws] [.sl ((residL ws).map .str), .int .i64 0] := by
  have hv := Go.Proofs.YtpljmccnfmkmfaaGreat.valid_of hc; have hlen := hv.len; have e40 := t44 q ws; rw [hc] at e40; have e54 := t54 (q : Int) ws (by omega); have e54o := r54o (q : Int) ws (by omega); have e56 := fun r => t56 (q : Int) ws r (by omega)
  unfold Z7 at e40 e54 e54o e56; refine PFn.of_body hΓ Tryz.func153 (by kernel_rfl) rfl (AWp.seq (Wd [] ?_)); simp -implicitDefEqProofs only [Tryz.ntmps153, Tryz.results153, Nat.reduceAdd, Nat.reduceSub, Z7, go_sem]; refine AWp.seq (Wd [] ?_); simp -implicitDefEqProofs only [go_sem]; refine Z0 e40 (.still rfl) ?_; simp -implicitDefEqProofs only [go_sem]; refine AWp.seq (Wd [] ?_); simp -implicitDefEqProofs only [go_sem]; refine ⟨⟨fun x h => (by cases h), by omega⟩, ?_⟩; refine AWp.adopt (l := []) 4 9 1 (by rfl) (by simp) ?_; simp -implicitDefEqProofs only [go_sem]; by_cases hf : Z0w ws = []
  · rw [hf] at e54
    have hR : residL ws = [] := by
      rw [List.eq_nil_iff_forall_not_mem]; intro x hx; have h := Z1v.1 hx
      induction h with
      | first u h => rw [hf] at h; cases h
      | next r u hr hne h ih => exact ih (Z1v.2 hr)
    rw [hR]; refine AWp.seq (Wd [] ?_); simp -implicitDefEqProofs only [go_sem]; refine Z0 e54 (.still rfl) ?_; simp -implicitDefEqProofs only [go_sem]; refine AWp.seq (AWp.block ?_); refine AWp.loopI (fun _ : Nat => ⟨mkF 78 [(1, .ptr 0 0), (4, .own 1 0), (5, .p (.sl []))], [.box [.p (.int .i64 q), .p (.sl (ws.map .str))], .row 9 1 [] .lax]⟩) (fun _ => True) (fun _ => 0) 0 (by simp [go_sem]) trivial ?_; intro _ _; have h00 : ((0 : Nat) : Int) = 0 := rfl; refine Wd [] ?_; simp -implicitDefEqProofs only [Int.lt_irrefl, List.length_nil, h00, go_sem]; refine AWp.seq (AWp.seq (Wd [] ?_)); simp -implicitDefEqProofs only [go_sem]; refine AWp.block ?_; refine AWp.loopI (fun _ : Nat => ⟨mkF 78 [(1, .ptr 0 0), (4, .own 1 0), (7, .p (.int .i64 0))], [.box [.p (.int .i64 q), .p (.sl (ws.map .str))], .row 9 1 [] .lax]⟩) (fun _ => True) (fun _ => 0) 0 (by simp [go_sem]) trivial ?_; intro _ _; refine Wd [(16, 14), (18, 15)] ?_; simp -implicitDefEqProofs only [Int.lt_irrefl, List.length_nil, h00, go_sem]; refine Wd [] ?_; simp -implicitDefEqProofs only [go_sem]
  have e54o := e54o hf; refine AWp.seq (Wd [] ?_); simp -implicitDefEqProofs only [go_sem]; refine Zt (AC.of_rowO e54o (.inr rfl)) (by simp) ?_; rintro v h' ⟨rfl, rfl⟩; simp -implicitDefEqProofs only [Za, List.foldl, List.length_map, List.length_cons, List.length_nil, go_sem]; refine AWp.seq (AWp.block ?_); have hS : (sufs ws).length ≤ 64 * 33 := by
    have h1 := Z4b (ws := ws) (n := 32) fun w hw => (hv.words w hw).2.1
    have h2 : ws.length * 33 ≤ 64 * 33 := Nat.mul_le_mul_right _ hlen; omega
  have hF : (Z0w ws).length ≤ 64 * 64 := by
    have h1 := Z4g ws ws.length; have h2 : ws.length * ws.length ≤ 64 * 64 := Nat.mul_le_mul hlen hlen; unfold Z0w; omega
  refine AWp.loopJ (fun x : List (List UInt8) × List (List UInt8) => ⟨mkF 78 [(1, .ptr 0 0), (4, .own 1 x.1.length), (5, .own 2 x.2.length)], [.box [.p (.int .i64 q), .p (.sl (ws.map .str))], .row 9 1 (x.1.map .str) (rkOf x.1), .row 9 1 (x.2.map .str) .que]⟩)
    (fun x => RefR ws x.1 x.2 ∧ (64 * 33 - x.1.length) * 66 + x.2.length ≤ 200000) (fun x => (64 * 33 - x.1.length) * 66 + x.2.length) ([], Z0w ws)
    (fun x => by simp [Z61, mkF, AV.blw, AV.blw.blwL, blwH, AObj.blw]) (by simp [go_sem, rkOf]) ⟨RefR.start ws, by simp; omega⟩ ?_
  rintro ⟨out, l⟩ ⟨R, hm⟩; simp only at R hm; have hol := R.len; refine Wd [] ?_
  cases l with
  | nil =>
    have h00 : ((0 : Nat) : Int) = 0 := rfl; simp -implicitDefEqProofs only [Int.lt_irrefl, List.length_nil, h00, go_sem]; have hD := R.done; have hne : out ≠ [] := fun e => by
      obtain ⟨x, hx⟩ := List.exists_mem_of_ne_nil _ hf; have := (hD x).2 (.first x hx); rw [e] at this
      cases this
    have hk : rkOf out = .own := if_neg hne; rw [hk]; have hnd := R.nd; clear R hm e54 e54o e56; obtain ⟨n, hn⟩ : ∃ n, n = out.length := ⟨_, rfl⟩; refine AWp.seq (AWp.seq (Wd [] ?_)); simp -implicitDefEqProofs only [go_sem]; refine AWp.block ?_
    refine AWp.loopI (fun x : List (List UInt8) × List (List UInt8) => ⟨mkF 78 [(1, .ptr 0 0), (4, .own 1 n), (7, .p (.int .i64 x.1.length))], [.box [.p (.int .i64 q), .p (.sl (ws.map .str))], .row 9 1 ((x.1 ++ x.2).map .str) .own, .row 9 1 [] .que]⟩)
      (fun x => x.1.Pairwise ltW ∧ (x.1 ++ x.2).Perm out) (fun x => x.2.length) ([], out) (by rw [hn]; simp [go_sem]) ⟨.nil, .refl _⟩ ?_
    rintro ⟨P, T⟩ ⟨hP, hperm⟩; simp only at hP hperm; have hPn := hperm.length_eq; rw [List.length_append] at hPn; have hnd2 := hperm.nodup_iff.2 hnd; refine Wd [(16, 14), (18, 15)] ?_
    cases T with
    | nil =>
      have hlt' : ¬ (P.length : Int) < (n : Int) := by simp at hPn; omega
      have hPe : P = residL ws := Z32 hP (Z1s ws) fun x => by
        rw [Z1v, ← hD, ← hperm.mem_iff, List.append_nil]
      rw [List.append_nil, hPe]; rw [hPe] at hlt'; simp -implicitDefEqProofs only [hlt', List.length_map, go_sem]; refine Wd [] ?_; simp -implicitDefEqProofs only [go_sem]
    | cons x T =>
      have hlt' : (P.length : Int) < (n : Int) := by simp at hPn; omega
      rw [List.length_cons] at hPn; have hxP : ∀ y ∈ P, y ≠ x := fun y hy e => by
        have := (List.nodup_append.1 hnd2).2.2 y hy x (by simp); exact this e
      have hlo : out.length ≤ 64 * 33 := by omega
      simp -implicitDefEqProofs only [hlt', List.length_map, go_sem]
      refine AWp.loopI (fun z : List (List UInt8) × List (List UInt8) => ⟨mkF 78 [(1, .ptr 0 0), (4, .own 1 n), (7, .p (.int .i64 P.length)), (8, .p (.int .i64 z.1.length))], [.box [.p (.int .i64 q), .p (.sl (ws.map .str))], .row 9 1 ((z.1 ++ x :: (z.2 ++ T)).map .str) .own, .row 9 1 [] .que]⟩)
        (fun z => z.1 ++ z.2 = P ∧ ∀ b ∈ z.2, ltW x b) (fun z => z.1.length) (P, []) (by simp [go_sem]) ⟨by simp, by simp⟩ ?_
      rintro ⟨A, B⟩ ⟨hAB, hB⟩; simp only at hAB hB; have hAl : A.length + B.length = P.length := by rw [← hAB, List.length_append]
      have hsA : A.Pairwise ltW := (List.pairwise_append.1 (hAB ▸ hP)).1; have hsB : B.Pairwise ltW := (List.pairwise_append.1 (hAB ▸ hP)).2.1; have hsAB : ∀ a ∈ A, ∀ b ∈ B, ltW a b := (List.pairwise_append.1 (hAB ▸ hP)).2.2; have hend : (∀ a ∈ A, ltW a x) → (A ++ x :: B).Pairwise ltW ∧ ((A ++ x :: B) ++ T).Perm out ∧ (A ++ x :: B).length = P.length + 1 := fun ha => by
        refine ⟨List.pairwise_append.2 ⟨hsA, List.pairwise_cons.2 ⟨hB, hsB⟩, fun a h1 b h2 => ?_⟩, ?_, by simp; omega⟩
        · rcases List.mem_cons.1 h2 with rfl | h2
          · exact ha a h1
          · exact hsAB a h1 b h2
        · refine List.Perm.trans ?_ hperm
          rw [← hAB]; simp only [List.append_assoc, List.cons_append]; exact List.Perm.append_left A (List.perm_middle.symm)
      refine Wd [(16, 14), (18, 15)] ?_; rcases List.eq_nil_or_concat A with hA0 | ⟨A', y, hA0⟩
      · subst hA0
        have hend := hend (by simp); have hz0 : ¬ (0 : Int) < ((0 : Nat) : Int) := by omega
        simp -implicitDefEqProofs only [hz0, List.length_nil, go_sem]; exact ⟨by simp only [InR]; omega, ([] ++ x :: B, T), ⟨by have := hend.2.2; simp only; omega, .inl (by simp)⟩, ⟨hend.1, hend.2.1⟩, by simp⟩
      · rw [List.concat_eq_append] at hA0
        subst hA0; have hk : (A' ++ [y]).length = A'.length + 1 := by simp
        obtain ⟨M, hM⟩ : ∃ M, M = ((A' ++ [y]) ++ x :: (B ++ T)).map PV.str := ⟨_, rfl⟩; have hMl : M.length = n := by rw [hM]; simp at hAl ⊢; omega
        have hgx : M.getD (A' ++ [y]).length default = .str x := by rw [hM]; exact Zit _ _ _
        have hgy : M.getD (((A' ++ [y]).length : Int) - 1).toNat default = .str y := by
          rw [hM, show (((A' ++ [y]).length : Int) - 1).toNat = A'.length by omega, List.append_assoc]; exact Zit A' (x :: (B ++ T)) y
        have hset : (M.set (A' ++ [y]).length (.str y)).set (((A' ++ [y]).length : Int) - 1).toNat (.str x) = (A' ++ x :: (y :: B ++ T)).map PV.str := by
          rw [hM, Z34 (A' ++ [y]) (B ++ T) x y, show (((A' ++ [y]).length : Int) - 1).toNat = A'.length by omega, List.append_assoc]; exact Z34 A' (y :: (B ++ T)) y x
        have e57 := t57 x y; rw [← hM]; generalize hK : (A' ++ [y]).length = K at *; have hKp : (0 : Int) < (K : Int) := by omega
        by_cases hxy : ltW x y
        · rw [(Zeq x y).2 hxy] at e57
          simp -implicitDefEqProofs only [hKp, hgx, hgy, hMl, Int.toNat_natCast, go_sem]; refine ⟨by omega, by omega, by simp only [InR]; omega, ⟨by omega, by omega⟩, by omega, Z1 e57 (.pures rfl) ?_⟩; simp -implicitDefEqProofs only [hKp, hgx, hgy, hMl, Int.toNat_natCast, hset, List.length_set, go_sem]; refine ⟨by simp only [InR]; omega, by simp only [InR]; omega, ⟨by omega, by omega⟩, by omega, by omega, by omega, by omega, ⟨by omega, rfl⟩, ⟨by omega, by omega⟩, ⟨by omega, rfl⟩, by simp only [InR]; omega, (A', y :: B), ⟨by simp only; omega, .inl rfl⟩, ⟨by rw [← hAB]; simp, fun b hb => ?_⟩, by simp only; omega⟩; rcases List.mem_cons.1 hb with rfl | hb
          · exact hxy
          · exact hB b hb
        · rw [Bool.eq_false_iff.2 (fun h => hxy ((Zeq x y).1 h))] at e57
          simp -implicitDefEqProofs only [hKp, hgx, hgy, hMl, Int.toNat_natCast, go_sem]; refine ⟨by omega, by omega, by simp only [InR]; omega, ⟨by omega, by omega⟩, by omega, Z1 e57 (.pures rfl) ?_⟩; have hyx : ltW y x := Classical.byContradiction fun h => hxP y (by rw [← hAB]; simp) (Z2x h hxy)
          have hend := hend fun a ha => (List.mem_append.1 ha).elim (fun h => Z0l ((List.pairwise_append.1 hsA).2.2 a h y (by simp)) hyx) fun h => by rw [List.mem_singleton.1 h]; exact hyx
          simp -implicitDefEqProofs only [hKp, hgx, hgy, hMl, Int.toNat_natCast, go_sem]; exact ⟨by simp only [InR]; omega, (A' ++ [y] ++ x :: B, T), ⟨by have := hend.2.2; simp only; omega, .inl (by rw [hM]; simp)⟩, ⟨hend.1, hend.2.1⟩, by simp⟩
  | cons r l =>
    have hlp : (0 : Int) < ((l.length + 1 : Nat) : Int) := by omega
    have hi0 : Int.toNat 0 < l.length + 1 := by simp
    have hg0 : (PV.str r :: l.map PV.str).getD (Int.toNat 0) default = .str r := rfl; have e55 := t55 out r (by omega); have hd1 : List.drop (Int.toNat 1) (PV.str r :: l.map PV.str) = l.map PV.str := rfl; simp -implicitDefEqProofs only [hlp, hi0, hg0, List.length_map, List.length_cons, List.map_cons, hd1, go_sem]; refine ⟨⟨.inl (by omega), by omega, by omega⟩, Z0 e55 (.owned rfl rfl) ?_⟩; have hm' : (64 * 33 - out.length) * 66 + (l.length + 1) ≤ 200000 := hm; by_cases hin : r ∈ out
    · simp -implicitDefEqProofs only [hin, go_sem]
      exact ⟨(out, l), ⟨⟨rfl, by simp⟩, .inl ⟨rfl, rfl⟩, rfl⟩, ⟨R.skip hin, by simp only; omega⟩, by simp only; omega⟩
    have hs1 : Zc [PV.str r] 1 := by simp [Zc, PV.cells]
    have ho1 : Z0k [PV.str r] := by simp [Z0k, PV.cells, PV.isAgg]
    simp -implicitDefEqProofs only [hin, go_sem]; refine ⟨⟨hs1, by omega⟩, ⟨hs1, ho1⟩, ⟨by unfold rkOf; split <;> simp, by simp, by omega, by omega⟩, fun h0 => ?_, fun hne => ?_⟩
    · have R2 := R.add hin (m := l) (fun _ => rfl) (fun h => absurd h0 h)
      have hol2 := R2.len; rw [List.length_append, List.length_singleton] at hol2; exact ⟨(out ++ [r], l), ⟨⟨by simp, by simp⟩, .inl ⟨by simp, by rw [Z3u]; rfl⟩, rfl⟩, ⟨R2, by simp only [List.length_append, List.length_singleton]; omega⟩, by simp only [List.length_append, List.length_singleton]; omega⟩
    · have R2 := R.add hin (m := l ++ Z1c ws r) (fun h => absurd h hne) (fun _ => rfl)
      have hol2 := R2.len; rw [List.length_append, List.length_singleton] at hol2; have hnl := Z86 r ws; refine Z0 (e56 r) (.still rfl) ?_; simp -implicitDefEqProofs only [go_sem]; refine ⟨⟨Zgp _, Zl6 _⟩, ⟨.inl (by omega), by simp; omega, by simp; omega⟩, (out ++ [r], l ++ Z1c ws r), ⟨⟨by simp, by simp⟩, .inl ⟨by simp, by rw [Z3u]; rfl⟩, ?_⟩, ⟨R2, by simp only [List.length_append, List.length_singleton]; omega⟩, by simp only [List.length_append, List.length_singleton]; omega⟩
      cases hN : Z1c ws r with
      | nil => exact .inl ⟨by simp, by simp⟩
      | cons u t => exact .inr (.inr (by simp))

theorem h92 (q : Nat) (ws : List (List UInt8)) (hc : Z6 q ws = 0) : PFn Tryz.prog 92 [Z7 q ws] [.bool (!decide ([] ∈ residL ws)), .int .i64 0] := by
  have hv := Go.Proofs.YtpljmccnfmkmfaaGreat.valid_of hc; have hlen := hv.len; have e1 := h153 q ws hc; have hl : (residL ws).length ≤ 9223372036854775807 := by
    have h1 := Z6b (Zbf (Z1s ws)) fun x hx => Z5o (Z1o (Z1v.1 hx))
    have h2 := Z4b (ws := ws) (n := 32) fun w hw => (hv.words w hw).2.1
    have h3 : ws.length * 33 ≤ 64 * 33 := Nat.mul_le_mul_right _ hlen; omega
  have e2 := t55 (residL ws) [] hl; unfold Z7 at e1; refine PFn.of_body hΓ Tryz.func92 (by kernel_rfl) rfl (AWp.seq (Wd [] ?_)); simp -implicitDefEqProofs only [Tryz.ntmps92, Tryz.results92, Nat.reduceAdd, Nat.reduceSub, Z7, go_sem]; refine AWp.seq (Wd [] ?_); simp -implicitDefEqProofs only [go_sem]; refine Z0 e1 (.still rfl) ?_; simp -implicitDefEqProofs only [go_sem]; refine Wd [] ?_; simp -implicitDefEqProofs only [go_sem]; refine Z0 e2 (.pures rfl) ?_; simp -implicitDefEqProofs only [go_sem]
end Go.Proofs.YtpljmccnfmkmfaaGreat.Dc
end

