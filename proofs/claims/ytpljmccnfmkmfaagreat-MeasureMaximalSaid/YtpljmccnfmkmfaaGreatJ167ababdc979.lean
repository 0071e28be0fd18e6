/-
  Texts of this claim, joined.
-/
import Derived.Test.YtpljmccnfmkmfaaGreatJ72f161f3b035
import Derived.Test.YtpljmccnfmkmfaaGreatJe7a7d4a1b7e9
import Derived.Test.YtpljmccnfmkmfaaGreatJ5a93604294fc
import Derived.Test.YtpljmccnfmkmfaaGreatJ5b7d53fdd7d5
import Derived.Test.YtpljmccnfmkmfaaGreatJ3bcda6c5808f
import Derived.Test.YtpljmccnfmkmfaaGreatJ9b0045b3ae0b
import Derived.Test.YtpljmccnfmkmfaaGreatJ1faccba7ec4a
import Derived.Test.YtpljmccnfmkmfaaGreatJ0e1c33ae4b6d
import Derived.Test.YtpljmccnfmkmfaaGreatJ33e00e724d1d
import Derived.Test.YtpljmccnfmkmfaaGreatJbb5856dd2500
import Derived.Test.YtpljmccnfmkmfaaGreatJ1d4ed19585f1
import Derived.Test.YtpljmccnfmkmfaaGreatJd3464cd513bf

set_option linter.unusedSimpArgs false
set_option maxRecDepth 1000000
set_option maxHeartbeats 4000000
section
namespace Go.Proofs.YtpljmccnfmkmfaaGreat
open Go Go.AM

end Go.Proofs.YtpljmccnfmkmfaaGreat
end

section
namespace Go.Proofs.YtpljmccnfmkmfaaGreat
open Go Go.AM

def cutW (w x : List UInt8) : List UInt8 := if x.isPrefixOf w then w.drop x.length else w
theorem t51 (w x : List UInt8) : PFn Tryz.prog 275 [.str w, .str x] [.str (cutW w x), .bool (x.isPrefixOf w)] := by
  refine PFn.of_body hΓ Tryz.func275 (by kernel_rfl) rfl (AWp.of_awpD [] hΓ hmix (by kernel_rfl) ?_)
  simp +contextual -implicitDefEqProofs only [Tryz.ntmps275, Tryz.results275, Nat.reduceAdd, Nat.reduceSub, go_sem]
  refine callK_fn (t85 w x) (.pures rfl) ?_
  cases hp : x.isPrefixOf w
  · simp -implicitDefEqProofs only [go_sem]
    unfold cutW; rw [if_neg (by rw [hp]; simp)]
  · simp -implicitDefEqProofs only [go_sem]
    exact ⟨(List.isPrefixOf_iff_prefix.1 hp).length_le, by unfold cutW; rw [if_pos hp]⟩

theorem t20 (w x : List UInt8) : PFn Tryz.prog 253 [.str w, .str x] [.str (cutW w x), .bool (x.isPrefixOf w)] := by
  refine PFn.of_body hΓ Tryz.func253 (by kernel_rfl) rfl (AWp.of_awpD [] hΓ hmix (by kernel_rfl) ?_)
  simp +contextual -implicitDefEqProofs only [Tryz.ntmps253, Tryz.results253, Nat.reduceAdd, Nat.reduceSub, go_sem]
  refine callK_fn (t51 w x) (.pures rfl) ?_
  simp +contextual -implicitDefEqProofs only [go_sem]

end Go.Proofs.YtpljmccnfmkmfaaGreat
end

section
namespace Go.Proofs.YtpljmccnfmkmfaaGreat.Dc
open Go Go.AM

def restAt (ws : List (List UInt8)) (i k : Nat) : List (List UInt8) :=
  if i ≠ k ∧ (ws.getD k []).isPrefixOf (ws.getD i []) then [(ws.getD i []).drop (ws.getD k []).length] else []
def restsOf (ws : List (List UInt8)) (i n : Nat) : List (List UInt8) := (List.range n).flatMap (restAt ws i)
def firstN (ws : List (List UInt8)) (n : Nat) : List (List UInt8) := (List.range n).flatMap fun i => restsOf ws i ws.length
def firstS (ws : List (List UInt8)) : List (List UInt8) := firstN ws ws.length

def nextAt (r x : List UInt8) : List (List UInt8) := if x.isPrefixOf r then [r.drop x.length] else if r.isPrefixOf x then [x.drop r.length] else []
def nextS (ws : List (List UInt8)) (r : List UInt8) : List (List UInt8) := ws.flatMap (nextAt r)
end Go.Proofs.YtpljmccnfmkmfaaGreat.Dc
end

section
namespace Go.Proofs.YtpljmccnfmkmfaaGreat.Dc
open Go Go.AM

theorem callK_yc {E : Env} {tm : List AV} {h : List AObj} {KS : St → Prop} {d : Option Nat} {b : Nat} {args : List AV} {ks : List Nat} {R : AV → List AObj → Prop} (hf : YC E.P b args h ks R) (hks : ∀ k ∈ ks, E.n0 ≤ k ∨ k ∈ E.ks)
    (hk : ∀ v h', R v h' → KS ⟨putD (killAll ks tm) d v, h'⟩) : callK E ⟨tm, h⟩ d (.yld b) args KS := ⟨ks, R, hf, hks, hk⟩

def pairAt (x y : List UInt8) : List (List UInt8 × List UInt8) := if x.isPrefixOf y ∧ y.drop x.length ≠ [] then [(y, y.drop x.length)] else []
def pairsK (ws : List (List UInt8)) (i k : Nat) : List (List UInt8 × List UInt8) := (ws.take k).flatMap (pairAt (ws.getD i []))
def pairsN (ws : List (List UInt8)) (i : Nat) : List (List UInt8 × List UInt8) := (List.range i).flatMap fun i => pairsK ws i ws.length
def pairs (ws : List (List UInt8)) : List (List UInt8 × List UInt8) := pairsN ws ws.length

theorem pairsN_succ (ws : List (List UInt8)) (n : Nat) : pairsN ws (n + 1) = pairsN ws n ++ pairsK ws n ws.length := by
  unfold pairsN; rw [List.range_succ, List.flatMap_append]; simp
theorem pairsK_succ {ws : List (List UInt8)} {i k : Nat} (hk : k < ws.length) : pairsK ws i (k + 1) = pairsK ws i k ++ pairAt (ws.getD i []) ws[k] := by
  unfold pairsK; rw [List.take_succ_eq_append_getElem hk, List.flatMap_append]; simp
theorem pairsN_le (ws : List (List UInt8)) : ∀ {n : Nat}, n ≤ ws.length → ∃ l, pairsN ws n ++ l = pairs ws := by
  intro n hn
  induction hd : ws.length - n generalizing n with
  | zero => exact ⟨[], by rw [show n = ws.length by omega]; simp [pairs]⟩
  | succ d ih =>
    obtain ⟨l, hl⟩ := ih (n := n + 1) (by omega) (by omega)
    exact ⟨pairsK ws n ws.length ++ l, by rw [← List.append_assoc, ← pairsN_succ]; exact hl⟩
theorem pairsK_le (ws : List (List UInt8)) (i : Nat) : ∀ {k : Nat}, k ≤ ws.length → ∃ l, pairsK ws i k ++ l = pairsK ws i ws.length := by
  intro k hk
  refine ⟨(ws.drop k).flatMap (pairAt (ws.getD i [])), ?_⟩
  unfold pairsK
  rw [List.take_length, ← List.flatMap_append, List.take_append_drop]

theorem c86 {h : List AObj} {b c : Nat} {ks : List Nat} (hbk : b ∉ ks) (hck : c ∉ ks) (q : Int) (ws : List (List UInt8)) (hws : ws.length ≤ 1000) {J : List (List UInt8 × List UInt8) → List AObj → Prop} {D : List AObj → Prop} (hJ0 : J [] h)
    (hbox : ∀ done h', J done h' → h'[c]? = some (codeB q ws) ∧ h.length ≤ h'.length) (hD : ∀ h', D h' → h.length ≤ h'.length)
    (hround : ∀ done y r h', (∃ l, done ++ (y, r) :: l = pairs ws) → J done h' → YC Tryz.prog b [.p (.str y), .p (.str r)] h' ks (fun v h'' => (v = .p (.bool true) ∧ J (done ++ [(y, r)]) h'') ∨ (v = .p (.bool false) ∧ D h''))) :
    AC Tryz.prog 252 [.yld b, .ptr c 0] h ks (fun _ h' => J (pairs ws) h' ∨ D h') := by
  have nb : ∀ {k}, k ∈ ks → b ≠ k := fun h e => hbk (e ▸ h)
  have nc : ∀ {k}, k ∈ ks → c ≠ k := fun h e => hck (e ▸ h)
  refine AC.of_bodyE hΓ Tryz.func252 (by kernel_rfl) rfl (AWp.mono (Q := fun e st => AM.Ends e ∧ (J (pairs ws) st.h ∨ D st.h)) ?_ ?_)
  rotate_left
  · rintro e st ⟨he, hst⟩
    refine ⟨he, st, Less.refl st, ?_⟩
    refine ⟨st.h.length, hst.elim (fun hj => (hbox _ _ hj).2) (hD _), .inl rfl, ?_⟩
    rw [List.take_length]; exact hst
  refine AWp.of_awpD [] hΓ hmix (by kernel_rfl) ?_
  have hb0 := (hbox _ _ hJ0).1
  simp +contextual -implicitDefEqProofs only [Tryz.ntmps252, Nat.reduceAdd, Nat.reduceSub, hb0, codeB, go_sem]
  refine AWp.loopI (fun p : Nat × List AObj => ⟨mkF 43 [(0, .yld b), (1, .ptr c 0), (10, .p (.sl (ws.map .str))), (11, .p (.int .i64 ws.length)), (12, .p (.int .i64 p.1))], p.2⟩)
    (fun p => p.1 ≤ ws.length ∧ J (pairsN ws p.1) p.2) (fun p => ws.length - p.1) (0, h) (by simp [go_sem, weakH_self]) ⟨Nat.zero_le _, hJ0⟩ ?_
  rintro ⟨i, h1⟩ ⟨hi, hJ1⟩
  simp only at hi hJ1
  refine AWp.of_awpD [] hΓ hmix (by kernel_rfl) ?_
  have hb1 := (hbox _ _ hJ1).1
  simp +contextual -implicitDefEqProofs only [hb1, getD_map_lt, ↓reduceIte, codeB, go_sem]
  refine ⟨fun hlt => ?_, fun hge => .inl (by rw [show i = ws.length by omega] at hJ1; exact hJ1)⟩
  have hwi : ws.getD i [] = ws[i] := by rw [List.getD_eq_getElem?_getD, List.getElem?_eq_getElem hlt, Option.getD_some]
  refine AWp.loopI (fun p : Nat × List AObj => ⟨mkF 43 [(0, .yld b), (1, .ptr c 0), (4, .p (.str ws[i])), (10, .p (.sl (ws.map .str))), (11, .p (.int .i64 ws.length)), (12, .p (.int .i64 i)),
      (17, .p (.sl (ws.map .str))), (18, .p (.int .i64 ws.length)), (19, .p (.int .i64 p.1))], p.2⟩)
    (fun p => p.1 ≤ ws.length ∧ J (pairsN ws i ++ pairsK ws i p.1) p.2) (fun p => ws.length - p.1) (0, h1) (by simp [go_sem, weakH_self]) ⟨Nat.zero_le _, by simpa [pairsK] using hJ1⟩ ?_
  rintro ⟨k, h2⟩ ⟨hk, hJ2⟩
  simp only at hk hJ2
  refine AWp.of_awpD [] hΓ hmix (by kernel_rfl) ?_
  simp +contextual -implicitDefEqProofs only [getD_map_lt, ↓reduceIte, codeB, go_sem]
  refine ⟨fun hlt2 => ?_, fun hge => ⟨by simp only [InR]; omega, (i + 1, h2), by simp [weakH_self], ⟨hlt, by rw [pairsN_succ, show ws.length = k by omega]; exact hJ2⟩, by simp only; omega⟩⟩
  refine callK_fn (t20 ws[k] ws[i]) (.pures rfl) ?_
  have hs := pairsK_succ (i := i) hlt2
  rw [hwi] at hs
  cases hp : ws[i].isPrefixOf ws[k]
  · simp -implicitDefEqProofs only [go_sem]
    have : pairAt ws[i] ws[k] = [] := by unfold pairAt; rw [if_neg (by simp [hp])]
    rw [this, List.append_nil] at hs
    exact ⟨by simp only [InR]; omega, (k + 1, h2), by simp [weakH_self], ⟨hlt2, by simp only; rw [hs]; exact hJ2⟩, by simp only; omega⟩
  · have hcut : cutW ws[k] ws[i] = ws[k].drop ws[i].length := by unfold cutW; rw [if_pos hp]
    by_cases he : cutW ws[k] ws[i] = []
    · simp -implicitDefEqProofs only [he, go_sem]
      have : pairAt ws[i] ws[k] = [] := by unfold pairAt; rw [if_neg (fun e => e.2 (hcut ▸ he))]
      rw [this, List.append_nil] at hs
      exact ⟨by simp only [InR]; omega, (k + 1, h2), by simp [weakH_self], ⟨hlt2, by simp only; rw [hs]; exact hJ2⟩, by simp only; omega⟩
    · simp -implicitDefEqProofs only [he, go_sem]
      have : pairAt ws[i] ws[k] = [(ws[k], cutW ws[k] ws[i])] := by unfold pairAt; rw [hcut, if_pos ⟨hp, hcut ▸ he⟩]
      rw [this] at hs
      obtain ⟨l1, hl1⟩ := pairsK_le ws i (k := k + 1) hlt2
      obtain ⟨l2, hl2⟩ := pairsN_le ws (n := i + 1) hlt
      have hdone : ∃ l, (pairsN ws i ++ pairsK ws i k) ++ (ws[k], cutW ws[k] ws[i]) :: l = pairs ws := ⟨l1 ++ l2, by
        rw [← hl2, pairsN_succ, ← hl1, hs]; simp⟩
      refine callK_yc (hround _ _ _ _ hdone hJ2) (fun k hk => .inr hk) ?_
      rintro v h' (⟨rfl, hj⟩ | ⟨rfl, hd⟩)
      · rw [killAll_keep (fun k hk => by simp [AV.kill, AV.kill.killL, nb hk, nc hk])]
        simp -implicitDefEqProofs only [go_sem]
        exact ⟨by simp only [InR]; omega, (k + 1, h'), by simp [weakH_self], ⟨hlt2, by simp only; rw [hs, ← List.append_assoc]; exact hj⟩, by simp only; omega⟩
      · rw [killAll_keep (fun k hk => by simp [AV.kill, AV.kill.killL, nb hk, nc hk])]
        simp -implicitDefEqProofs only [go_sem]
        exact .inr hd

def nextP (r x : List UInt8) : List (List UInt8 × Nat) := if x.isPrefixOf r then [(r.drop x.length, 0)] else if r.isPrefixOf x then [(x.drop r.length, (x.drop r.length).length)] else []
def nextsP (ws : List (List UInt8)) (r : List UInt8) : List (List UInt8 × Nat) := ws.flatMap (nextP r)
theorem nextsP_succ {ws : List (List UInt8)} {k : Nat} (r : List UInt8) (hk : k < ws.length) : nextsP (ws.take (k + 1)) r = nextsP (ws.take k) r ++ nextP r ws[k] := by
  rw [List.take_succ_eq_append_getElem hk]; unfold nextsP; rw [List.flatMap_append]; simp
theorem nextsP_le (ws : List (List UInt8)) (r : List UInt8) (k : Nat) : ∃ l, nextsP (ws.take k) r ++ l = nextsP ws r :=
  ⟨nextsP (ws.drop k) r, by unfold nextsP; rw [← List.flatMap_append, List.take_append_drop]⟩

theorem c87 {h : List AObj} {b c d : Nat} {ks : List Nat} (hbk : b ∉ ks) (hck : c ∉ ks) (hdk : d ∉ ks) (q : Int) (ws : List (List UInt8)) (r : List UInt8) (hws : ws.length ≤ 1000) {J : List (List UInt8 × Nat) → List AObj → Prop} {D : List AObj → Prop} (hJ0 : J [] h)
    (hbox : ∀ done h', J done h' → h'[c]? = some (codeB q ws) ∧ h'[d]? = some (.box [.p (.str r)]) ∧ h.length ≤ h'.length) (hD : ∀ h', D h' → h.length ≤ h'.length)
    (hround : ∀ done u n h', (∃ l, done ++ (u, n) :: l = nextsP ws r) → J done h' → YC Tryz.prog b [.p (.str u), .p (.int .i64 (n : Nat))] h' ks (fun v h'' => (v = .p (.bool true) ∧ J (done ++ [(u, n)]) h'') ∨ (v = .p (.bool false) ∧ D h''))) :
    AC Tryz.prog 254 [.yld b, .ptr c 0, .ptr d 0] h ks (fun _ h' => J (nextsP ws r) h' ∨ D h') := by
  have nb : ∀ {k}, k ∈ ks → b ≠ k := fun h e => hbk (e ▸ h)
  have nc : ∀ {k}, k ∈ ks → c ≠ k := fun h e => hck (e ▸ h)
  have nd : ∀ {k}, k ∈ ks → d ≠ k := fun h e => hdk (e ▸ h)
  refine AC.of_bodyE hΓ Tryz.func254 (by kernel_rfl) rfl (AWp.mono (Q := fun e st => AM.Ends e ∧ (J (nextsP ws r) st.h ∨ D st.h)) ?_ ?_)
  rotate_left
  · rintro e st ⟨he, hst⟩
    refine ⟨he, st, Less.refl st, ?_⟩
    refine ⟨st.h.length, hst.elim (fun hj => (hbox _ _ hj).2.2) (hD _), .inl rfl, ?_⟩
    rw [List.take_length]; exact hst
  refine AWp.of_awpD [] hΓ hmix (by kernel_rfl) ?_
  have hb0 := (hbox _ _ hJ0).1
  simp +contextual -implicitDefEqProofs only [Tryz.ntmps254, Nat.reduceAdd, Nat.reduceSub, hb0, codeB, go_sem]
  refine AWp.loopI (fun p : Nat × List AObj => ⟨mkF 44 [(0, .yld b), (1, .ptr c 0), (2, .ptr d 0), (11, .p (.sl (ws.map .str))), (12, .p (.int .i64 ws.length)), (13, .p (.int .i64 p.1))], p.2⟩)
    (fun p => p.1 ≤ ws.length ∧ J (nextsP (ws.take p.1) r) p.2) (fun p => ws.length - p.1) (0, h) (by simp [go_sem, weakH_self]) ⟨Nat.zero_le _, by simpa [nextsP] using hJ0⟩ ?_
  rintro ⟨k, h2⟩ ⟨hk, hJ2⟩
  simp only at hk hJ2
  refine AWp.of_awpD [] hΓ hmix (by kernel_rfl) ?_
  have hb2 := (hbox _ _ hJ2).2.1
  simp +contextual -implicitDefEqProofs only [hb2, getD_map_lt, ↓reduceIte, codeB, go_sem]
  refine ⟨fun hlt => callK_fn (t20 r ws[k]) (.pures rfl) ?_, fun hge => .inl (by rw [List.take_of_length_le (by omega)] at hJ2; exact hJ2)⟩
  have hs := nextsP_succ r hlt
  obtain ⟨l1, hl1⟩ := nextsP_le ws r (k + 1)
  have fin : ∀ u n, nextP r ws[k] = [(u, n)] → ∃ l, nextsP (ws.take k) r ++ (u, n) :: l = nextsP ws r := fun u n e => ⟨l1, by rw [← hl1, hs, e]; simp⟩
  cases hp : ws[k].isPrefixOf r
  · simp -implicitDefEqProofs only [hb2, go_sem]
    refine callK_fn (t20 ws[k] r) (.pures rfl) ?_
    cases hp2 : r.isPrefixOf ws[k]
    · simp -implicitDefEqProofs only [go_sem]
      have : nextP r ws[k] = [] := by unfold nextP; rw [if_neg (by simp [hp]), if_neg (by simp [hp2])]
      rw [this, List.append_nil] at hs
      exact ⟨by simp only [InR]; omega, (k + 1, h2), by simp [weakH_self], ⟨hlt, by simp only; rw [hs]; exact hJ2⟩, by simp only; omega⟩
    · simp -implicitDefEqProofs only [go_sem]
      have hcut : cutW ws[k] r = ws[k].drop r.length := by unfold cutW; rw [if_pos hp2]
      have he : nextP r ws[k] = [(cutW ws[k] r, (cutW ws[k] r).length)] := by unfold nextP; rw [if_neg (by simp [hp]), if_pos hp2, hcut]
      refine callK_yc (hround _ _ _ _ (fin _ _ he) hJ2) (fun k hk => .inr hk) ?_
      rw [he] at hs
      rintro v h' (⟨rfl, hj⟩ | ⟨rfl, hd⟩)
      · rw [killAll_keep (fun k hk => by simp [AV.kill, AV.kill.killL, nb hk, nc hk, nd hk])]
        simp -implicitDefEqProofs only [go_sem]
        exact ⟨by simp only [InR]; omega, (k + 1, h'), by simp [weakH_self], ⟨hlt, by simp only; rw [hs]; exact hj⟩, by simp only; omega⟩
      · rw [killAll_keep (fun k hk => by simp [AV.kill, AV.kill.killL, nb hk, nc hk, nd hk])]
        simp -implicitDefEqProofs only [go_sem]
        exact .inr hd
  · simp -implicitDefEqProofs only [go_sem]
    have hcut : cutW r ws[k] = r.drop ws[k].length := by unfold cutW; rw [if_pos hp]
    have he : nextP r ws[k] = [(cutW r ws[k], 0)] := by unfold nextP; rw [if_pos hp, hcut]
    refine callK_yc (hround _ _ _ _ (fin _ _ he) hJ2) (fun k hk => .inr hk) ?_
    rw [he] at hs
    rintro v h' (⟨rfl, hj⟩ | ⟨rfl, hd⟩)
    · rw [killAll_keep (fun k hk => by simp [AV.kill, AV.kill.killL, nb hk, nc hk, nd hk])]
      simp -implicitDefEqProofs only [go_sem]
      exact ⟨by simp only [InR]; omega, (k + 1, h'), by simp [weakH_self], ⟨hlt, by simp only; rw [hs]; exact hj⟩, by simp only; omega⟩
    · rw [killAll_keep (fun k hk => by simp [AV.kill, AV.kill.killL, nb hk, nc hk, nd hk])]
      simp -implicitDefEqProofs only [go_sem]
      exact .inr hd
end Go.Proofs.YtpljmccnfmkmfaaGreat.Dc
end

section
namespace Go.Proofs.YtpljmccnfmkmfaaGreat.Dc
open Go Go.AM

/-! A map to bools, all true: a set of words, in the order of their coming. -/
def entT (k : List UInt8) : List UInt8 × PV := (k, .bool true)
def addK (ks : List (List UInt8)) (k : List UInt8) : List (List UInt8) := if k ∈ ks then ks else ks ++ [k]
def keysOf (l : List (List UInt8)) : List (List UInt8) := l.foldl addK []
def setM (l : List (List UInt8)) : List (List UInt8 × PV) := (keysOf l).map entT

theorem midx_set (k : List UInt8) : ∀ ks : List (List UInt8), (k ∉ ks → midx k (ks.map entT) = none) ∧ (k ∈ ks → ∃ j, midx k (ks.map entT) = some j ∧ ∃ h : j < ks.length, ks[j] = k)
  | [] => ⟨fun _ => rfl, fun h => by cases h⟩
  | a :: ks => by
    obtain ⟨h1, h2⟩ := midx_set k ks
    constructor
    · intro h
      simp only [List.mem_cons, not_or] at h
      rw [List.map_cons]; unfold midx; rw [if_neg (show ¬ k = (entT a).1 from h.1)]
      rw [h1 h.2]; rfl
    · intro h
      by_cases e : k = a
      · exact ⟨0, by simp [midx, entT, e], by simp, e.symm⟩
      · simp only [List.mem_cons, e, false_or] at h
        obtain ⟨j, h3, h4, h5⟩ := h2 h
        refine ⟨j + 1, ?_, by simpa using h4, by simpa using h5⟩
        rw [List.map_cons]; unfold midx; rw [if_neg (show ¬ k = (entT a).1 from e)]
        rw [h3]; rfl
theorem mset_set (k : List UInt8) (ks : List (List UInt8)) : mset k (.bool true) (ks.map entT) = (addK ks k).map entT := by
  unfold mset addK
  by_cases h : k ∈ ks
  · obtain ⟨j, h1, h2, h3⟩ := (midx_set k ks).2 h
    rw [h1, if_pos h]
    apply List.ext_getElem (by simp)
    intro i hi _
    simp only [List.getElem_set, List.getElem_map]
    split
    · subst_vars; rfl
    · rfl
  · rw [(midx_set k ks).1 h, if_neg h]; simp [entT]
theorem mget_set (k : List UInt8) (ks : List (List UInt8)) : (mget k (ks.map entT)).getD (.bool false) = .bool (decide (k ∈ ks)) := by
  unfold mget
  by_cases h : k ∈ ks
  · obtain ⟨j, h1, h2, h3⟩ := (midx_set k ks).2 h
    rw [h1, decide_eq_true h]
    simp only [Option.map_some, Option.getD_some, List.getD_eq_getElem?_getD, List.getElem?_map, List.getElem?_eq_getElem h2, entT]
  · rw [(midx_set k ks).1 h, decide_eq_false h]; rfl
theorem keysOf_snoc (l : List (List UInt8)) (k : List UInt8) : keysOf (l ++ [k]) = addK (keysOf l) k := by unfold keysOf; rw [List.foldl_append]; rfl
theorem mem_foldK (k : List UInt8) : ∀ (l acc : List (List UInt8)), k ∈ l.foldl addK acc ↔ k ∈ acc ∨ k ∈ l
  | [], acc => by simp
  | a :: l, acc => by
    rw [List.foldl_cons, mem_foldK k l]
    unfold addK
    split
    · rename_i h
      simp only [List.mem_cons]
      exact ⟨fun h' => h'.elim .inl (fun h => .inr (.inr h)), fun h' => h'.elim .inl (fun h' => h'.elim (fun e => .inl (e ▸ h)) .inr)⟩
    · simp only [List.mem_append, List.mem_cons, List.not_mem_nil, or_false, or_assoc]
theorem mem_keysOf (l : List (List UInt8)) (k : List UInt8) : k ∈ keysOf l ↔ k ∈ l := by unfold keysOf; rw [mem_foldK]; simp
theorem len_foldK : ∀ (l acc : List (List UInt8)), (l.foldl addK acc).length ≤ acc.length + l.length
  | [], acc => by simp
  | a :: l, acc => by
    rw [List.foldl_cons]
    have h1 := len_foldK l (addK acc a)
    have h2 : (addK acc a).length ≤ acc.length + 1 := by unfold addK; split <;> simp
    simp only [List.length_cons]; omega
theorem keysOf_len (l : List (List UInt8)) : (keysOf l).length ≤ l.length := by have := len_foldK l []; simpa [keysOf] using this
theorem setM_snoc (l : List (List UInt8)) (k : List UInt8) : mset k (.bool true) (setM l) = setM (l ++ [k]) := by unfold setM; rw [mset_set, keysOf_snoc]
theorem setM_get (l : List (List UInt8)) (k : List UInt8) : (mget k (setM l)).getD (.bool false) = .bool (decide (k ∈ l)) := by
  unfold setM; rw [mget_set]; simp only [mem_keysOf]

theorem c52 {h : List AObj} (q : Int) (ws : List (List UInt8)) : AC Tryz.prog 221 [.agg [.p (.int .i64 q), .p (.sl (ws.map .str))]] h [] (fun v h' => v = .fn 252 [.ptr h.length 0] ∧ h' = h ++ [codeB q ws]) := by
  refine AC.of_bodyE hΓ Tryz.func221 (by kernel_rfl) rfl (AWp.mono (Q := fun e st => AM.Ends e ∧ st.tmps.getD 2 .junk = .fn 252 [.ptr h.length 0] ∧ st.h = h ++ [codeB q ws]) ?_ ?_)
  rotate_left
  · rintro e ⟨tm, h'⟩ ⟨he, h1, h2⟩
    simp only at h1 h2
    subst h2
    refine ⟨he, _, Less.refl _, ?_⟩
    unfold DoneE
    simp +contextual -implicitDefEqProofs only [Tryz.results221, h1, go_sem]
    exact ⟨h.length + 1, by omega, .inl (by simp), List.take_of_length_le (by simp)⟩
  refine AWp.of_awpD [] hΓ hmix (by kernel_rfl) ?_
  simp +contextual -implicitDefEqProofs only [Tryz.ntmps221, Nat.reduceAdd, Nat.reduceSub, codeB, go_sem]

theorem c53 {h : List AObj} (q : Int) (ws : List (List UInt8)) (r : List UInt8) : AC Tryz.prog 222 [.agg [.p (.int .i64 q), .p (.sl (ws.map .str))], .p (.str r)] h []
    (fun v h' => v = .fn 254 [.ptr h.length 0, .ptr (h.length + 1) 0] ∧ h' = h ++ [codeB q ws, .box [.p (.str r)]]) := by
  refine AC.of_bodyE hΓ Tryz.func222 (by kernel_rfl) rfl (AWp.mono (Q := fun e st => AM.Ends e ∧ st.tmps.getD 4 .junk = .fn 254 [.ptr h.length 0, .ptr (h.length + 1) 0] ∧ st.h = h ++ [codeB q ws, .box [.p (.str r)]]) ?_ ?_)
  rotate_left
  · rintro e ⟨tm, h'⟩ ⟨he, h1, h2⟩
    simp only at h1 h2
    subst h2
    refine ⟨he, _, Less.refl _, ?_⟩
    unfold DoneE
    simp +contextual -implicitDefEqProofs only [Tryz.results222, h1, go_sem]
    exact ⟨h.length + 2, by omega, .inl (by simp), List.take_of_length_le (by simp)⟩
  refine AWp.of_awpD [] hΓ hmix (by kernel_rfl) ?_
  simp +contextual -implicitDefEqProofs only [Tryz.ntmps222, Nat.reduceAdd, Nat.reduceSub, codeB, List.length_append, List.append_assoc, go_sem]

theorem weakH_dead : ∀ h : List AObj, weakH h (List.replicate h.length .dead)
  | [] => trivial
  | _ :: h => ⟨.inl rfl, weakH_dead h⟩

def ltW (a b : List UInt8) : Prop := a.length < b.length ∨ (a.length = b.length ∧ bLt a b = true)
theorem bLt_cons (x y : UInt8) (a b : List UInt8) : bLt (x :: a) (y :: b) = true ↔ x.toNat < y.toNat ∨ (x.toNat = y.toNat ∧ bLt a b = true) := by
  have e : bLt (x :: a) (y :: b) = (match Nat.blt x.toNat y.toNat with | true => true | false => (match Nat.beq x.toNat y.toNat with | true => bLt a b | false => false)) := rfl
  rw [e]
  cases h1 : Nat.blt x.toNat y.toNat
  · have h2 : ¬ x.toNat < y.toNat := fun h => by rw [(Nat.blt_eq (x := x.toNat)).symm.mp h] at h1; cases h1
    cases h3 : Nat.beq x.toNat y.toNat
    · have : ¬ x.toNat = y.toNat := fun h => by rw [h] at h3; simp at h3
      simp [h2, this]
    · have := Nat.eq_of_beq_eq_true h3
      simp [h2, this]
  · have := (Nat.blt_eq (x := x.toNat)).mp h1
    simp [this]
theorem bLt_trans : ∀ {a b c : List UInt8}, bLt a b = true → bLt b c = true → bLt a c = true
  | a, [], c, h, _ => by cases a <;> cases h
  | [], _ :: _, [], _, h => by cases h
  | [], _ :: _, _ :: _, _, _ => rfl
  | x :: a, y :: b, [], _, h => by cases h
  | x :: a, y :: b, z :: c, h1, h2 => by
    rw [bLt_cons] at h1 h2 ⊢
    rcases h1 with h1 | ⟨h1, h3⟩
    · rcases h2 with h2 | ⟨h2, _⟩
      · exact .inl (by omega)
      · exact .inl (by omega)
    · rcases h2 with h2 | ⟨h2, h4⟩
      · exact .inl (by omega)
      · exact .inr ⟨by omega, bLt_trans h3 h4⟩
theorem bLt_irrefl : ∀ a : List UInt8, bLt a a = false
  | [] => rfl
  | x :: a => by
    rw [Bool.eq_false_iff]
    intro h
    rw [bLt_cons] at h
    rcases h with h | ⟨_, h⟩
    · omega
    · rw [bLt_irrefl a] at h; cases h
theorem ltW_iff (a b : List UInt8) : cmpW a b < 0 ↔ ltW a b := by
  unfold cmpW ltW
  by_cases h1 : a.length < b.length
  · rw [if_pos h1]; simp [h1]
  · by_cases h2 : b.length < a.length
    · rw [if_neg h1, if_pos h2]; simp [h1]; omega
    · rw [if_neg h1, if_neg h2]
      have h3 : a.length = b.length := by omega
      unfold cmpB
      cases bLt a b
      · cases bEq a b <;> simp [h1]
      · simp [h3]
theorem ltW_trans {a b c : List UInt8} (h1 : ltW a b) (h2 : ltW b c) : ltW a c := by
  rcases h1 with h1 | ⟨h1, h3⟩ <;> rcases h2 with h2 | ⟨h2, h4⟩
  · exact .inl (by omega)
  · exact .inl (by omega)
  · exact .inl (by omega)
  · exact .inr ⟨by omega, bLt_trans h3 h4⟩
theorem ltW_irrefl (a : List UInt8) : ¬ ltW a a := by
  rintro (h | ⟨_, h⟩)
  · omega
  · rw [bLt_irrefl] at h; cases h

theorem firstNZ_zero {l : List Int} (h : firstNZ l = 0) : ∀ x ∈ l, x = 0 := by
  intro x hx
  unfold firstNZ at h
  cases hf : l.find? (fun x => decide (x ≠ 0)) with
  | none => simpa using List.find?_eq_none.1 hf x hx
  | some y =>
    have h1 := List.find?_some hf
    rw [hf] at h
    simp only [decide_eq_true_eq] at h1
    exact absurd h h1

structure Valid (q : Int) (ws : List (List UInt8)) : Prop where
  q2 : 2 ≤ q
  q16 : q ≤ 16
  pos : 0 < ws.length
  len : ws.length ≤ 64
  ne : ∀ i, i < ws.length → ws.getD i [] ≠ []
  short : ∀ i, i < ws.length → (ws.getD i []).length ≤ 32
  word : ∀ i, i < ws.length → wordCheck q (ws.getD i []) = 0
  lt : ∀ i j, i < j → j < ws.length → ltW (ws.getD i []) (ws.getD j [])

theorem valid_of {q : Int} {ws : List (List UInt8)} (h : codeCheck q ws = 0) : Valid q ws := by
  unfold codeCheck at h
  split at h
  · omega
  rename_i h1
  split at h
  · omega
  rename_i h2
  split at h
  · omega
  rename_i h3
  have h4 : ∀ i, i < ws.length → wordErr q ws i = 0 := fun i hi => firstNZ_zero h _ (List.mem_map.2 ⟨i, List.mem_range.2 hi, rfl⟩)
  have h5 : ∀ i, i < ws.length → ws.getD i [] ≠ [] ∧ ¬ 32 < (ws.getD i []).length ∧ wordCheck q (ws.getD i []) = 0 ∧ ¬ (0 < i ∧ 0 ≤ cmpW (ws.getD (i - 1) []) (ws.getD i [])) := fun i hi => by
    have := h4 i hi
    unfold wordErr at this
    simp only at this
    split at this
    · omega
    rename_i g1
    split at this
    · omega
    rename_i g2
    split at this
    · omega
    rename_i g3
    split at this
    · omega
    rename_i g4
    exact ⟨g1, g2, by omega, g4⟩
  have step : ∀ i, i + 1 < ws.length → ltW (ws.getD i []) (ws.getD (i + 1) []) := fun i hi => by
    have := (h5 (i + 1) hi).2.2.2
    rw [← ltW_iff]
    simp only [Nat.add_sub_cancel] at this
    omega
  refine ⟨by omega, by omega, by omega, by omega, fun i hi => (h5 i hi).1, fun i hi => by have := (h5 i hi).2.1; omega, fun i hi => (h5 i hi).2.2.1, ?_⟩
  intro i j hij hj
  obtain ⟨d, rfl⟩ : ∃ d, j = i + 1 + d := ⟨j - i - 1, by omega⟩
  clear hij
  induction d with
  | zero => exact step i hj
  | succ d ih => exact ltW_trans (ih (by omega)) (step (i + 1 + d) hj)

theorem pairs_first {ws : List (List UInt8)} (hd : ∀ i j, i < ws.length → j < ws.length → ws.getD i [] = ws.getD j [] → i = j) (l : List (List UInt8)) : (∀ p ∈ pairs ws, p.2 ∈ l) ↔ ∀ u ∈ firstS ws, u ∈ l := by
  have get : ∀ i, i < ws.length → ∀ (h : i < ws.length), ws.getD i [] = ws[i] := fun i hi h => by rw [List.getD_eq_getElem?_getD, List.getElem?_eq_getElem h, Option.getD_some]
  constructor
  · intro h u hu
    unfold firstS firstN restsOf at hu
    obtain ⟨i, hi, hu⟩ := List.mem_flatMap.1 hu
    obtain ⟨k, hk, hu⟩ := List.mem_flatMap.1 hu
    have hi := List.mem_range.1 hi
    have hk := List.mem_range.1 hk
    unfold restAt at hu
    split at hu
    · rename_i hc
      simp only [List.mem_singleton] at hu; subst hu
      refine h (ws.getD i [], _) ?_
      unfold pairs pairsN pairsK
      refine List.mem_flatMap.2 ⟨k, List.mem_range.2 hk, List.mem_flatMap.2 ⟨ws.getD i [], ?_, ?_⟩⟩
      · rw [List.take_length, get i hi hi]; exact List.getElem_mem hi
      · unfold pairAt
        have hne : List.drop (ws.getD k []).length (ws.getD i []) ≠ [] := fun e => by
          refine hc.1 (hd i k hi hk ?_)
          have h1 := List.isPrefixOf_iff_prefix.1 hc.2
          obtain ⟨t, ht⟩ := h1
          have : t = [] := by rw [← ht] at e; simpa using e
          rw [this, List.append_nil] at ht; exact ht.symm
        rw [if_pos ⟨hc.2, hne⟩]
        exact List.mem_singleton.2 rfl
    · cases hu
  · intro h p hp
    unfold pairs pairsN pairsK at hp
    obtain ⟨k, hk, hp⟩ := List.mem_flatMap.1 hp
    obtain ⟨y, hy, hp⟩ := List.mem_flatMap.1 hp
    have hk := List.mem_range.1 hk
    rw [List.take_length] at hy
    obtain ⟨i, hi, rfl⟩ := List.getElem_of_mem hy
    unfold pairAt at hp
    split at hp
    · rename_i hc
      simp only [List.mem_singleton] at hp; subst hp
      refine h _ ?_
      unfold firstS firstN restsOf
      refine List.mem_flatMap.2 ⟨i, List.mem_range.2 hi, List.mem_flatMap.2 ⟨k, List.mem_range.2 hk, ?_⟩⟩
      unfold restAt
      have hne : i ≠ k := fun e => hc.2 (by subst e; rw [get i hi hi]; simp)
      rw [get i hi hi, if_pos ⟨hne, hc.1⟩]
      exact List.mem_singleton.2 rfl
    · cases hp
end Go.Proofs.YtpljmccnfmkmfaaGreat.Dc
end

section
namespace Go.Proofs.YtpljmccnfmkmfaaGreat.Dc
open Go Go.AM

def heapR (q : Int) (ws done : List (List UInt8)) (rk : RK) (T : List AObj) : List AObj :=
  codeB q ws :: .mp (setM done) :: .box [.map 1] :: .box [.own 6 (keysOf done).length] :: .box [.fn 220 [.ptr 2 0, .ptr 3 0]] :: codeB q ws :: .row 9 1 ((keysOf done).map .str) rk :: T

theorem keysOf_old {l : List (List UInt8)} {k : List UInt8} (h : k ∈ l) : keysOf (l ++ [k]) = keysOf l := by
  rw [keysOf_snoc]; unfold addK; rw [if_pos ((mem_keysOf l k).2 h)]
theorem keysOf_new {l : List (List UInt8)} {k : List UInt8} (h : k ∉ l) : keysOf (l ++ [k]) = keysOf l ++ [k] := by
  rw [keysOf_snoc]; unfold addK; rw [if_neg (fun e => h ((mem_keysOf l k).1 e))]

theorem c82 (q : Int) (ws done : List (List UInt8)) (rk : RK) (T : List AObj) (r : List UInt8) (hrk : rk ≠ .raw ∧ (done ≠ [] → rk = .own)) (hT : T.map (AObj.kill 6) = T) (hlen : (keysOf done).length ≤ 1000000) :
    AC Tryz.prog 220 [.p (.str r), .ptr 2 0, .ptr 3 0] (heapR q ws done rk T) [6] (fun v h' => v = .tup [] ∧ ∃ rk', (rk' ≠ .raw ∧ (done ++ [r] ≠ [] → rk' = .own)) ∧ h' = heapR q ws (done ++ [r]) rk' T) := by
  refine AC.of_bodyE hΓ Tryz.func220 (by kernel_rfl) rfl (AWp.mono (Q := fun e st => AM.Ends e ∧ ∃ rk', (rk' ≠ .raw ∧ (done ++ [r] ≠ [] → rk' = .own)) ∧ st.h = heapR q ws (done ++ [r]) rk' T) ?_ ?_)
  rotate_left
  · rintro e st ⟨he, rk', h1, h2⟩
    refine ⟨he, st, Less.refl st, ?_⟩
    have h3 : (heapR q ws done rk T).length = st.h.length := by rw [h2]; simp [heapR]
    refine ⟨st.h.length, by omega, .inl rfl, ?_⟩
    rw [List.take_length]
    exact ⟨rfl, rk', h1, h2⟩
  refine AWp.of_awpD [] hΓ hmix (by kernel_rfl) ?_
  unfold heapR
  simp -implicitDefEqProofs only [Tryz.ntmps220, Nat.reduceAdd, Nat.reduceSub, codeB, setM_get, go_sem]
  by_cases hm : r ∈ done
  · simp -implicitDefEqProofs only [hm, go_sem]
    refine ⟨rk, ⟨hrk.1, fun _ => hrk.2 (fun e => by rw [e] at hm; cases hm)⟩, ?_⟩
    have e1 : setM (done ++ [r]) = setM done := by unfold setM; rw [keysOf_old hm]
    rw [e1, keysOf_old hm]
    simp
  · simp -implicitDefEqProofs only [hm, setM_snoc, hT, go_sem]
    rw [keysOf_new hm]
    exact ⟨⟨by simp [sizeOK, PV.cells], by omega⟩, ⟨by simp [sizeOK, PV.cells], by simp [oneOK, PV.cells, PV.isAgg]⟩, ⟨hrk.1, .inr (by simp), by omega, by omega⟩, RK.own, ⟨by simp, fun _ => rfl⟩, by simp⟩
end Go.Proofs.YtpljmccnfmkmfaaGreat.Dc
end

section
namespace Go.Proofs.YtpljmccnfmkmfaaGreat.Dc
open Go Go.AM

theorem cmpK_eq (a b : List UInt8) : cmpK a b = cmpW a b := by
  unfold cmpK cmpW
  by_cases h1 : a.length < b.length
  · rw [if_pos h1, if_pos (show (a.length : Int) < b.length by omega)]; rfl
  · by_cases h2 : b.length < a.length
    · rw [if_neg h1, if_pos h2, if_neg (show ¬ (a.length : Int) < b.length by omega), if_pos (show (b.length : Int) < a.length by omega)]; rfl
    · rw [if_neg h1, if_neg h2, if_neg (show ¬ (a.length : Int) < b.length by omega), if_neg (show ¬ (b.length : Int) < a.length by omega), if_pos rfl, cmpB_eq]

theorem bLt_total : ∀ {a b : List UInt8}, bLt a b = false → bLt b a = false → a = b
  | [], [], _, _ => rfl
  | [], _ :: _, h, _ => by cases h
  | _ :: _, [], _, h => by cases h
  | x :: a, y :: b, h1, h2 => by
    have n1 := mt (bLt_cons x y a b).2 (by rw [h1]; simp)
    have n2 := mt (bLt_cons y x b a).2 (by rw [h2]; simp)
    simp only [not_or, not_and, Bool.not_eq_true] at n1 n2
    have e : x.toNat = y.toNat := by omega
    rw [UInt8.toNat_inj.1 e, bLt_total (n1.2 e) (n2.2 e.symm)]
theorem ltW_total {a b : List UInt8} (h1 : ¬ ltW a b) (h2 : ¬ ltW b a) : a = b := by
  unfold ltW at h1 h2
  simp only [not_or, not_and, Bool.not_eq_true] at h1 h2
  have e : a.length = b.length := by omega
  exact bLt_total (h1.2 e) (h2.2 e.symm)

theorem ltOf_iff (a b : List UInt8) : ltOf cmpK a b = true ↔ ltW a b := by
  unfold ltOf
  rw [decide_eq_true_eq, cmpK_eq]; exact ltW_iff a b
theorem ltOf_false (a b : List UInt8) : ltOf cmpK a b = false ↔ ¬ ltW a b := by
  rw [← ltOf_iff]; simp

theorem swoW : Sort.SWO (ltOf cmpK) where
  irrefl x := (ltOf_false x x).2 (ltW_irrefl x)
  trans x y z h1 h2 := (ltOf_iff x z).2 (ltW_trans ((ltOf_iff x y).1 h1) ((ltOf_iff y z).1 h2))
  ntrans x y z h1 h2 := by
    rw [ltOf_false] at *
    intro h
    by_cases hyz : ltW z y
    · exact h1 (ltW_trans h hyz)
    · have := ltW_total h2 hyz
      subst this; exact h1 h

def encW (x : List UInt8) : Value := .string ⟨x.toArray⟩
def sortW (l : List (List UInt8)) : List (List UInt8) := l.mergeSort fun x y => !(ltOf cmpK) y x

theorem k84 (a b : ByteArray) (w : World) : Calls Tryz.prog 223 #[.string a, .string b] w fun e w' => e = .returned (.int .i64 (cmpK a.data.toList b.data.toList)) ∧ ∃ q os, w' = Sort.grow (w.drewN q) os := by
  have hc1 := k103
  have hc2 := k104
  have hc3 := k102
  go_enter Tryz.func223, Tryz.ntmps223
  go_wp2_with (first | (go_at_call 76; refine (hc1 _ _ _).mono ?_; rintro e w' ⟨rfl, rfl⟩) | (go_at_call 163; refine (hc2 _ _ _).mono ?_; rintro e w' ⟨rfl, rfl⟩) | (go_at_call 162; refine (hc3 _ _ _ _ _ (newCells _ _ _ _ _ rfl) (newCells _ _ _ _ _ rfl)).mono ?_; rintro e w' ⟨rfl, rfl⟩))
  all_goals go_ret
  all_goals have e1 : ∀ x : ByteArray, x.data.toList.length = x.size := fun x => by simp
  · refine ⟨congrArg (fun n => Ending.returned (Value.int .i64 n)) ?_, 0, #[_], by rw [Sort.alloc_eq_grow]; rfl⟩
    have hs : a.size = b.size := by
      rcases Nat.lt_trichotomy a.size b.size with g | g | g
      · rw [if_pos g] at h; cases h
      · exact g
      · rw [if_neg (by omega), if_pos g] at h; cases h
    unfold cmpK
    simp only [e1, hs]
    rw [if_pos (by simp)]
  · refine ⟨congrArg (fun n => Ending.returned (Value.int .i64 n)) ?_, 0, #[_], by rw [Sort.alloc_eq_grow]; rfl⟩
    unfold cmpK
    simp only [e1]
    rw [if_pos (show (a.size : Int) < b.size by omega)]; rfl
  · refine ⟨congrArg (fun n => Ending.returned (Value.int .i64 n)) ?_, 0, #[_], by rw [Sort.alloc_eq_grow]; rfl⟩
    unfold cmpK
    simp only [e1]
    rw [if_neg (show ¬ (a.size : Int) < b.size by omega), if_pos (show (b.size : Int) < a.size by omega)]; rfl

theorem sort_calls (d : List (List UInt8)) (blk off cap : Nat) (w : World) (hH : Sort.Holds encW w blk off d.toArray) (hblk : blk < w.heap.size) (hsz : d.length < 4611686018427387904) :
    Calls Tryz.prog 127 #[.slice (some ⟨blk, off, none⟩) d.length cap, .func (.func 223) #[] #[]] w fun e w' => e = .returned (.tuple #[]) ∧ ∃ n os, w' = sortWorld encW w blk off n (sortW d).toArray os := by
  have eg : ∀ args w, (callFunc 223 args).run Tryz.prog w = .ok (.enter 223 args) w := entersF_of Tryz.func223 (by kernel_rfl) rfl
  have hcmp : CmpLays1 Tryz.prog 223 #[] encW cmpK blk off d.toArray.size w := fun m os dk _ x y => k84 ⟨x.toArray⟩ ⟨y.toArray⟩ _
  have h := Any.slices_SortFunc_total Tryz.sortS encW (fun _ => rfl) cmpK swoW 223 #[] blk off cap d.toArray w eg hcmp hH hblk (by simpa using hsz) (fun x y h1 h2 => ltW_total ((ltOf_false x y).1 h1) ((ltOf_false y x).1 h2))
  exact h
end Go.Proofs.YtpljmccnfmkmfaaGreat.Dc
end

section
namespace Go.Proofs.YtpljmccnfmkmfaaGreat.Dc
open Go Go.AM Go.RowKit

theorem flats_str (l : List (List UInt8)) : flats (l.map .str) = l.map .str := by
  induction l with
  | nil => rfl
  | cons x l ih =>
    have e : flats ((x :: l).map PV.str) = PV.str x :: flats (l.map .str) := rfl
    rw [e, ih]; rfl
theorem sortW_length (l : List (List UInt8)) : (sortW l).length = l.length := by unfold sortW; simp
theorem encW_of {I : Nat → Prop} {w : World} {x : List UInt8} {v : Value} (h : PR I w (.str x) v) : v = encW x := by
  cases h with | str s => rfl
theorem pr_encW {I : Nat → Prop} {w : World} (x : List UInt8) : PR I w (.str x) (encW x) := .mkStr (by simp)

def SortsBy (g : FuncId) : Prop := ∀ (d : List (List UInt8)) (blk off cap : Nat) (w : World), Sort.Holds encW w blk off d.toArray → blk < w.heap.size → d.length < 4611686018427387904 →
    Calls Tryz.prog 127 #[.slice (some ⟨blk, off, none⟩) d.length cap, .func (.func g) #[] #[]] w fun e w' => e = .returned (.tuple #[]) ∧ ∃ n os, w' = sortWorld encW w blk off n (sortW d).toArray os

theorem c83_of {g : FuncId} (hs : SortsBy g) {h : List AObj} {b : Nat} (l : List (List UInt8)) (hb : h[b]? = some (.row 9 1 (l.map .str) .own)) (hsz : l.length ≤ 1000000) :
    AC Tryz.prog 127 [.own b l.length, .fn g []] h [] (fun v h' => v = .tup [] ∧ h' = h.set b (.row 9 1 ((sortW l).map .str) .own)) := by
  refine ⟨entersF_of Tryz.func127 (by kernel_rfl) rfl, fun X I μ ob w cargs R hlen hargs _ => ?_⟩
  obtain ⟨a0, f0, rfl⟩ : ∃ a f, cargs = [a, f] := by
    match cargs, hlen with
    | [a, f], _ => exact ⟨a, f, rfl⟩
  have g0 := hargs 0 (by simp)
  have g1 := hargs 1 (by simp)
  simp only [List.getD_cons_zero, List.getD_cons_succ] at g0 g1
  obtain ⟨a, c, rfl, hbn, hbm⟩ := g0.own_inv
  obtain ⟨cs, rfl, hcl, _⟩ := g1.fn_inv
  have hcs : cs = [] := by simpa using hcl.symm
  subst hcs
  obtain ⟨hall, hrow⟩ := R.objs _ _ hb
  rcases hrow with ⟨g, hg, off, cap, cur, fr, vs, e1, e2, e3, e4, e5, e6, e7, e8, e9, e10⟩ | ⟨hk, _⟩
  rotate_left
  · cases hk
  rw [hbm] at e1
  simp only [List.length_map] at e1 e5 e7 e8 e9 e10
  injection e1 with e1a _ e1c
  subst e1a e1c
  have hfr := e3 rfl
  subst hfr
  have hgl := (R.own b g hg).2.2
  have cell : ∀ j (hj : j < l.length), cur[off + j]? = some (encW l[j]) := fun j hj => by
    have h1 := e10 j (by omega)
    rw [flats_str, getD_map_lt _ _ _ _ hj] at h1
    have h2 := encW_of h1
    have h3 : cur.toList[off + j]? = some (vs.getD j undef) := by
      have : vs[j]? = some (vs.getD j undef) := by rw [List.getD_eq_getElem?_getD, List.getElem?_eq_getElem (by omega)]; rfl
      rw [← e8, List.getElem?_take_of_lt (by omega), List.getElem?_drop] at this
      exact this.trans (by rw [e8])
    rw [Array.getElem?_toList, h2] at h3
    exact h3
  have hH : Sort.Holds encW w g off l.toArray := fun j hj => by
    have hj' : j < l.length := by simpa using hj
    refine ⟨?_, ?_⟩
    · unfold World.cell?
      simp only [e2]
      rw [cell j hj', getElem!_pos l.toArray j hj]
      simp
    · unfold World.frozen?
      simp only [e2]
      simp
  have hc := hs l g off c w hH hgl (by omega)
  refine Calls.mono (P := Tryz.prog) hc ?_
  rintro e w' ⟨rfl, n, os, rfl⟩
  have hsl : (sortW l).toArray.size = l.length := by simp [sortW_length]
  -- the world that is left
  have hnew : (sortWorld encW w g off n (sortW l).toArray os).heap[g]? = some (.cells (Sort.putCells encW off (sortW l).toArray cur) 9 (0, 0)) := by
    unfold sortWorld
    rw [Sort.heap_grow_old _ _ (by simp [Sort.ahead]; exact hgl)]
    show (w.heap.modify g _)[g]? = _
    rw [Array.getElem?_modify, if_pos rfl, e2]; rfl
  have hold : ∀ k, k < w.heap.size → k ≠ g → (sortWorld encW w g off n (sortW l).toArray os).heap[k]? = w.heap[k]? := fun k hk hne => by
    unfold sortWorld
    rw [Sort.heap_grow_old _ _ (by simp [Sort.ahead]; exact hk)]
    show (w.heap.modify g _)[k]? = _
    rw [Array.getElem?_modify, if_neg (fun e => hne e.symm)]
  have hgrow : w.grownBy (sortWorld encW w g off n (sortW l).toArray os) (some g) := ⟨rfl, rfl, rfl, by simp [sortWorld, Sort.ahead], fun k hk hk2 => hold k hk (fun e => hk2 (by rw [e]))⟩
  have hput : ∀ j, j < l.length → (Sort.putCells encW off (sortW l).toArray cur)[off + j]? = some (encW ((sortW l).getD j [])) := fun j hj => by
    unfold Sort.putCells
    rw [Array.getElem?_mapIdx, cell j hj]
    simp only [Option.map_some]
    rw [if_pos ⟨Nat.le_add_right _ _, by rw [hsl]; omega⟩, Nat.add_sub_cancel_left, getElem!_pos (sortW l).toArray j (by rw [hsl]; exact hj), List.getD_eq_getElem?_getD, List.getElem?_eq_getElem (by rw [sortW_length]; exact hj)]
    simp
  have hps : (Sort.putCells encW off (sortW l).toArray cur).size = cur.size := by unfold Sort.putCells; rw [Array.size_mapIdx]
  have hpl : (((Sort.putCells encW off (sortW l).toArray cur).toList.drop off).take l.length).length = l.length := by
    have h1 : (Sort.putCells encW off (sortW l).toArray cur).toList.length = cur.size := by simpa using hps
    rw [List.length_take, List.length_drop, h1]; omega
  have R2 := R.write (b0 := b) (g0 := g) (o := .row 9 1 ((sortW l).map .str) .own) hbn hg hgrow ⟨fun x hx => by
      obtain ⟨u, _, rfl⟩ := List.mem_map.1 hx; rfl, .inl ⟨g, hg, off, c, Sort.putCells encW off (sortW l).toArray cur, (0, 0), ((Sort.putCells encW off (sortW l).toArray cur).toList.drop off).take l.length, by rw [hbm, List.length_map, sortW_length], hnew, fun _ => rfl, by simp,
        by rw [List.length_map, sortW_length]; exact e5, e6, by rw [hps]; exact e7, by rw [List.length_map, sortW_length, Nat.mul_one], by
          rw [List.length_map, sortW_length, hpl, Nat.mul_one], fun j hj => ?_⟩⟩
  · exact ⟨_, .tup [], _, I, μ, ob, rfl, R2, .tup [] [] rfl (by simp), fun _ h => h, fun _ _ _ => rfl, by simp, fun g hg => .inl hg, fun b g hb => .inl ⟨b, hb⟩, fun k hk hno => hold k hk (fun e => hno b (by rw [e]; exact hg)), rfl, rfl⟩
  · rw [List.length_map, sortW_length, Nat.mul_one] at hj
    rw [flats_str, getD_map_lt _ _ _ _ (by rw [sortW_length]; exact hj)]
    have : (((Sort.putCells encW off (sortW l).toArray cur).toList.drop off).take l.length).getD j undef = encW ((sortW l).getD j []) := by
      rw [List.getD_eq_getElem?_getD, List.getElem?_take_of_lt hj, List.getElem?_drop, Array.getElem?_toList, hput j hj]; rfl
    rw [this, List.getD_eq_getElem?_getD, List.getElem?_eq_getElem (by rw [sortW_length]; exact hj)]
    exact pr_encW _

theorem c83 {h : List AObj} {b : Nat} (l : List (List UInt8)) (hb : h[b]? = some (.row 9 1 (l.map .str) .own)) (hsz : l.length ≤ 1000000) :
    AC Tryz.prog 127 [.own b l.length, .fn 223 []] h [] (fun v h' => v = .tup [] ∧ h' = h.set b (.row 9 1 ((sortW l).map .str) .own)) := c83_of sort_calls l hb hsz

theorem c83n {g : FuncId} {h : List AObj} {b : Nat} : AC Tryz.prog 127 [.own b 0, .fn g []] h [] (fun v h' => v = .tup [] ∧ h' = h) := by
  refine ⟨entersF_of Tryz.func127 (by kernel_rfl) rfl, fun X I μ ob w cargs R hlen hargs _ => ?_⟩
  obtain ⟨a0, f0, rfl⟩ : ∃ a f, cargs = [a, f] := by
    match cargs, hlen with
    | [a, f], _ => exact ⟨a, f, rfl⟩
  have g0 := hargs 0 (by simp)
  simp only [List.getD_cons_zero] at g0
  obtain ⟨a, c, rfl, hbn, hbm⟩ := g0.own_inv
  have hc : Calls Tryz.prog 127 #[.slice a 0 c, f0] w fun e w' => e = .returned (.tuple #[]) ∧ w' = w := AnyF.slices_SortFunc_none (ρ := Tryz.sortS_ren) { Tryz.sortS with } a c f0 w
  refine Calls.mono (P := Tryz.prog) hc ?_
  rintro e w' ⟨rfl, rfl⟩
  exact ⟨_, .tup [], _, I, μ, ob, rfl, R, .tup [] [] rfl (by simp), fun _ h => h, fun _ _ _ => rfl, Nat.le_refl _, fun g hg => .inl hg, fun b g hb => .inl ⟨b, hb⟩, fun k hk hno => rfl, rfl, rfl⟩
end Go.Proofs.YtpljmccnfmkmfaaGreat.Dc
end

section
namespace Go.Proofs.YtpljmccnfmkmfaaGreat.Dc
open Go Go.AM

inductive Reach (ws : List (List UInt8)) : List UInt8 → Prop
  | first (u : List UInt8) (h : u ∈ firstS ws) : Reach ws u
  | next (r u : List UInt8) (hr : Reach ws r) (hne : r ≠ []) (h : u ∈ nextS ws r) : Reach ws u

theorem mem_nextS {ws : List (List UInt8)} {r u : List UInt8} : u ∈ nextS ws r ↔ ∃ x ∈ ws, (x.isPrefixOf r = true ∧ u = r.drop x.length) ∨ (x.isPrefixOf r = false ∧ r.isPrefixOf x = true ∧ u = x.drop r.length) := by
  unfold nextS
  rw [List.mem_flatMap]
  constructor
  · rintro ⟨x, hx, hu⟩
    refine ⟨x, hx, ?_⟩
    unfold nextAt at hu
    split at hu
    · rename_i h; exact .inl ⟨h, by simpa using hu⟩
    · rename_i h
      split at hu
      · rename_i h2; exact .inr ⟨Bool.eq_false_iff.2 h, h2, by simpa using hu⟩
      · cases hu
  · rintro ⟨x, hx, h | h⟩
    · exact ⟨x, hx, by unfold nextAt; rw [if_pos h.1, h.2]; simp⟩
    · exact ⟨x, hx, by unfold nextAt; rw [if_neg (by simp [h.1]), if_pos h.2.1, h.2.2]; simp⟩
theorem mem_firstS {ws : List (List UInt8)} {u : List UInt8} : u ∈ firstS ws ↔ ∃ i k, i < ws.length ∧ k < ws.length ∧ i ≠ k ∧ (ws.getD k []).isPrefixOf (ws.getD i []) = true ∧ u = (ws.getD i []).drop (ws.getD k []).length := by
  unfold firstS firstN restsOf
  simp only [List.mem_flatMap, List.mem_range]
  constructor
  · rintro ⟨i, hi, k, hk, hu⟩
    unfold restAt at hu
    split at hu
    · rename_i h; exact ⟨i, k, hi, hk, h.1, h.2, by simpa using hu⟩
    · cases hu
  · rintro ⟨i, k, hi, hk, h1, h2, rfl⟩
    exact ⟨i, hi, k, hk, by unfold restAt; rw [if_pos ⟨h1, h2⟩]; simp⟩

theorem reach_suffix {ws : List (List UInt8)} {x : List UInt8} (h : Reach ws x) : ∃ w ∈ ws, x <:+ w := by
  induction h with
  | first u h =>
    obtain ⟨i, k, hi, _, _, _, rfl⟩ := mem_firstS.1 h
    refine ⟨ws.getD i [], ?_, List.drop_suffix _ _⟩
    rw [List.getD_eq_getElem?_getD, List.getElem?_eq_getElem hi, Option.getD_some]; exact List.getElem_mem hi
  | next r u hr hne h ih =>
    obtain ⟨w, hw, hs⟩ := ih
    obtain ⟨x, hx, ⟨_, rfl⟩ | ⟨_, _, rfl⟩⟩ := mem_nextS.1 h
    · exact ⟨w, hw, (List.drop_suffix _ _).trans hs⟩
    · exact ⟨x, hx, List.drop_suffix _ _⟩

def endsOf (w : List UInt8) : List (List UInt8) := (List.range (w.length + 1)).map fun k => w.drop k
def sufs (ws : List (List UInt8)) : List (List UInt8) := ws.flatMap endsOf
theorem mem_sufs {ws : List (List UInt8)} {x : List UInt8} (h : ∃ w ∈ ws, x <:+ w) : x ∈ sufs ws := by
  obtain ⟨w, hw, t, ht⟩ := h
  refine List.mem_flatMap.2 ⟨w, hw, List.mem_map.2 ⟨t.length, List.mem_range.2 (by rw [← ht]; simp; omega), by rw [← ht]; simp⟩⟩
theorem sufs_len : ∀ {ws : List (List UInt8)} {n : Nat}, (∀ w ∈ ws, w.length ≤ n) → (sufs ws).length ≤ ws.length * (n + 1)
  | [], n, _ => by simp [sufs]
  | w :: ws, n, h => by
    have := sufs_len (ws := ws) (fun w hw => h w (by simp [hw]))
    have h1 := h w (by simp)
    unfold sufs at this ⊢
    simp only [List.flatMap_cons, List.length_append, List.length_cons, endsOf, List.length_map, List.length_range, Nat.succ_mul]
    omega

/-! ### Sorted lists -/
theorem sortW_perm (l : List (List UInt8)) : (sortW l).Perm l := List.mergeSort_perm l _
theorem mem_sortW (l : List (List UInt8)) (x : List UInt8) : x ∈ sortW l ↔ x ∈ l := (sortW_perm l).mem_iff
theorem sortW_sorted (l : List (List UInt8)) : (sortW l).Pairwise fun a b => ¬ ltW b a := by
  have h := List.pairwise_mergeSort (le := fun x y => !(ltOf cmpK) y x) (fun a b c h1 h2 => by
    simp only [Bool.not_eq_true', ltOf_false] at *
    intro h
    by_cases hbc : ltW b c
    · exact h1 (by
        by_cases hab : ltW a b
        · exact absurd (ltW_trans hab (ltW_trans hbc h)) (ltW_irrefl a)
        · have := ltW_total hab h1
          subst this; exact absurd (ltW_trans hbc h) (ltW_irrefl _))
    · have := ltW_total hbc h2
      subst this; exact h1 h) (fun a b => by
    simp only [Bool.or_eq_true, Bool.not_eq_true', ltOf_false]
    by_cases hab : ltW b a
    · exact .inr (fun h => ltW_irrefl a (ltW_trans h hab))
    · exact .inl hab) l
  refine h.imp ?_
  intro a b hab
  simpa [ltOf_false] using hab
theorem sortW_nodup {l : List (List UInt8)} (h : l.Nodup) : (sortW l).Nodup := (sortW_perm l).nodup_iff.2 h
theorem sortW_strict {l : List (List UInt8)} (h : l.Nodup) : (sortW l).Pairwise ltW := by
  refine (sortW_sorted l).imp₂ ?_ (sortW_nodup h)
  intro a b h1 h2
  by_cases hab : ltW a b
  · exact hab
  · exact absurd (ltW_total hab h1) h2

theorem strict_unique : ∀ {l m : List (List UInt8)}, l.Pairwise ltW → m.Pairwise ltW → (∀ x, x ∈ l ↔ x ∈ m) → l = m
  | [], [], _, _, _ => rfl
  | [], b :: m, _, _, h => absurd ((h b).2 (by simp)) (by simp)
  | a :: l, [], _, _, h => absurd ((h a).1 (by simp)) (by simp)
  | a :: l, b :: m, hl, hm, h => by
    obtain ⟨ha, hl2⟩ := List.pairwise_cons.1 hl
    obtain ⟨hb, hm2⟩ := List.pairwise_cons.1 hm
    have e : a = b := by
      rcases List.mem_cons.1 ((h a).1 (by simp)) with e | e
      · exact e
      · rcases List.mem_cons.1 ((h b).2 (by simp)) with e2 | e2
        · exact e2.symm
        · exact absurd (ltW_trans (ha b e2) (hb a e)) (ltW_irrefl a)
    subst e
    refine congrArg (List.cons a) (strict_unique hl2 hm2 (fun x => ⟨fun hx => ?_, fun hx => ?_⟩))
    · rcases List.mem_cons.1 ((h x).1 (by simp [hx])) with e | e
      · subst e; exact absurd (ha x hx) (ltW_irrefl x)
      · exact e
    · rcases List.mem_cons.1 ((h x).2 (by simp [hx])) with e | e
      · subst e; exact absurd (hb x hx) (ltW_irrefl x)
      · exact e

theorem foldK_nodup : ∀ (l acc : List (List UInt8)), acc.Nodup → (l.foldl addK acc).Nodup
  | [], acc, h => h
  | a :: l, acc, h => by
    rw [List.foldl_cons]
    refine foldK_nodup l _ ?_
    unfold addK
    split
    · exact h
    · rename_i hn
      exact List.nodup_append.2 ⟨h, by simp, fun x hx y hy e => by simp only [List.mem_singleton] at hy; subst hy; subst e; exact hn hx⟩
theorem keysOf_nodup (l : List (List UInt8)) : (keysOf l).Nodup := foldK_nodup l [] List.nodup_nil

open Classical in
/-- The dangling suffixes, in order. -/
noncomputable def residL (ws : List (List UInt8)) : List (List UInt8) := sortW ((keysOf (sufs ws)).filter fun x => decide (Reach ws x))
theorem mem_residL {ws : List (List UInt8)} {x : List UInt8} : x ∈ residL ws ↔ Reach ws x := by
  unfold residL
  rw [mem_sortW, List.mem_filter, mem_keysOf]
  simp only [decide_eq_true_eq]
  exact ⟨fun h => h.2, fun h => ⟨mem_sufs (reach_suffix h), h⟩⟩
theorem residL_strict (ws : List (List UInt8)) : (residL ws).Pairwise ltW := sortW_strict ((keysOf_nodup _).filter _)
theorem residL_of {ws l : List (List UInt8)} (hn : l.Nodup) (h : ∀ x, x ∈ l ↔ Reach ws x) : sortW l = residL ws :=
  strict_unique (sortW_strict hn) (residL_strict ws) (fun x => by rw [mem_sortW, mem_residL]; exact h x)
end Go.Proofs.YtpljmccnfmkmfaaGreat.Dc
end

section
namespace Go.Proofs.YtpljmccnfmkmfaaGreat.Dc
open Go Go.AM

def Amb (ws : List (List UInt8)) : Prop := ∃ A B : List (List UInt8), (∀ x ∈ A, x ∈ ws) ∧ (∀ x ∈ B, x ∈ ws) ∧ A ≠ B ∧ A.flatten = B.flatten

theorem reach_step {ws : List (List UInt8)} : ∀ (n : Nat) {A B : List (List UInt8)} {r : List UInt8}, A.length + B.length ≤ n → (∀ x ∈ A, x ∈ ws) → (∀ x ∈ B, x ∈ ws) → Reach ws r → r ++ A.flatten = B.flatten → Reach ws []
  | n, A, B, [], _, _, _, hr, _ => hr
  | n, A, [], c :: r, _, _, _, _, h => by simp at h
  | 0, A, m :: B, c :: r, hn, _, _, _, _ => by simp at hn
  | n + 1, A, m :: B, c :: r, hn, hA, hB, hr, h => by
    have hm : m ∈ ws := hB m (by simp)
    rw [List.flatten_cons, List.append_eq_append_iff] at h
    have hne : c :: r ≠ [] := by simp
    simp only [List.length_cons] at hn
    generalize c :: r = r at h hr hne
    rcases h with ⟨a, h1, h2⟩ | ⟨a, h1, h2⟩
    · cases hp : m.isPrefixOf r
      · have hu : a ∈ nextS ws r := mem_nextS.2 ⟨m, hm, .inr ⟨hp, by rw [h1, List.isPrefixOf_iff_prefix]; exact List.prefix_append _ _, by rw [h1, List.drop_left]⟩⟩
        exact reach_step n (A := B) (B := A) (by omega) (fun x hx => hB x (by simp [hx])) hA (.next r a hr hne hu) h2.symm
      · have hl := (List.isPrefixOf_iff_prefix.1 hp).length_le
        have ha : a = [] := by
          have := congrArg List.length h1
          rw [List.length_append] at this
          exact List.length_eq_zero_iff.1 (by omega)
        subst ha
        rw [List.append_nil] at h1
        exact .next r [] hr hne (mem_nextS.2 ⟨m, hm, .inl ⟨hp, by rw [h1, List.drop_length]⟩⟩)
    · have hu : a ∈ nextS ws r := mem_nextS.2 ⟨m, hm, .inl ⟨by rw [h1, List.isPrefixOf_iff_prefix]; exact List.prefix_append _ _, by rw [h1, List.drop_left]⟩⟩
      exact reach_step n (A := A) (B := B) (by omega) hA (fun x hx => hB x (by simp [hx])) (.next r a hr hne hu) h2.symm

theorem first_of {ws : List (List UInt8)} {x y u : List UInt8} (hx : x ∈ ws) (hy : y ∈ ws) (hne : x ≠ y) (h : x = y ++ u) : u ∈ firstS ws := by
  obtain ⟨i, hi, rfl⟩ := List.getElem_of_mem hx
  obtain ⟨k, hk, rfl⟩ := List.getElem_of_mem hy
  have get : ∀ i, (h : i < ws.length) → ws.getD i [] = ws[i] := fun i h => by rw [List.getD_eq_getElem?_getD, List.getElem?_eq_getElem h, Option.getD_some]
  refine mem_firstS.2 ⟨i, k, hi, hk, fun e => hne (by subst e; rfl), ?_, ?_⟩
  · rw [get i hi, get k hk, h, List.isPrefixOf_iff_prefix]; exact List.prefix_append _ _
  · rw [get i hi, get k hk, h, List.drop_left]

theorem amb_sound {ws : List (List UInt8)} (hne : ∀ x ∈ ws, x ≠ []) : ∀ {A B : List (List UInt8)}, (∀ x ∈ A, x ∈ ws) → (∀ x ∈ B, x ∈ ws) → A ≠ B → A.flatten = B.flatten → Reach ws []
  | [], [], _, _, h, _ => absurd rfl h
  | [], y :: B, _, hB, _, h => by
    rw [List.flatten_nil, List.flatten_cons] at h
    exact absurd (List.append_eq_nil_iff.1 h.symm).1 (hne y (hB y (by simp)))
  | x :: A, [], hA, _, _, h => by
    rw [List.flatten_nil, List.flatten_cons] at h
    exact absurd (List.append_eq_nil_iff.1 h).1 (hne x (hA x (by simp)))
  | x :: A, y :: B, hA, hB, hn, h => by
    have hx := hA x (by simp)
    have hy := hB y (by simp)
    by_cases e : x = y
    · subst e
      rw [List.flatten_cons, List.flatten_cons] at h
      exact amb_sound hne (A := A) (B := B) (fun z hz => hA z (by simp [hz])) (fun z hz => hB z (by simp [hz])) (fun e => hn (by rw [e])) (List.append_cancel_left h)
    · rw [List.flatten_cons, List.flatten_cons, List.append_eq_append_iff] at h
      rcases h with ⟨a, h1, h2⟩ | ⟨a, h1, h2⟩
      · exact reach_step _ (A := B) (B := A) (Nat.le_refl _) (fun z hz => hB z (by simp [hz])) (fun z hz => hA z (by simp [hz])) (.first a (first_of hy hx (Ne.symm e) h1)) h2.symm
      · exact reach_step _ (A := A) (B := B) (Nat.le_refl _) (fun z hz => hA z (by simp [hz])) (fun z hz => hB z (by simp [hz])) (.first a (first_of hx hy e h1)) h2.symm

theorem reach_spelt {ws : List (List UInt8)} (hd : ∀ i j, i < ws.length → j < ws.length → ws.getD i [] = ws.getD j [] → i = j) {u : List UInt8} (h : Reach ws u) :
    ∃ (x y : List UInt8) (A B : List (List UInt8)), x ∈ ws ∧ y ∈ ws ∧ x ≠ y ∧ (∀ z ∈ A, z ∈ ws) ∧ (∀ z ∈ B, z ∈ ws) ∧ (x :: A).flatten = (y :: B).flatten ++ u := by
  have get : ∀ i, (h : i < ws.length) → ws.getD i [] = ws[i] := fun i h => by rw [List.getD_eq_getElem?_getD, List.getElem?_eq_getElem h, Option.getD_some]
  induction h with
  | first u h =>
    obtain ⟨i, k, hi, hk, hne, hp, rfl⟩ := mem_firstS.1 h
    refine ⟨ws.getD i [], ws.getD k [], [], [], by rw [get i hi]; exact List.getElem_mem hi, by rw [get k hk]; exact List.getElem_mem hk, fun e => hne (hd i k hi hk e), by simp, by simp, ?_⟩
    obtain ⟨t, ht⟩ := List.isPrefixOf_iff_prefix.1 hp
    rw [← ht]; simp
  | next r u hr hne h ih =>
    obtain ⟨x, y, A, B, hx, hy, hxy, hA, hB, e⟩ := ih
    obtain ⟨w, hw, ⟨hp, rfl⟩ | ⟨_, hp, rfl⟩⟩ := mem_nextS.1 h
    · obtain ⟨t, ht⟩ := List.isPrefixOf_iff_prefix.1 hp
      refine ⟨x, y, A, B ++ [w], hx, hy, hxy, hA, fun z hz => ?_, ?_⟩
      · rcases List.mem_append.1 hz with hz | hz
        · exact hB z hz
        · rw [List.mem_singleton.1 hz]; exact hw
      · rw [e, ← ht, List.drop_left]; simp
    · obtain ⟨t, ht⟩ := List.isPrefixOf_iff_prefix.1 hp
      refine ⟨y, x, B ++ [w], A, hy, hx, Ne.symm hxy, fun z hz => ?_, hA, ?_⟩
      · rcases List.mem_append.1 hz with hz | hz
        · exact hB z hz
        · rw [List.mem_singleton.1 hz]; exact hw
      · rw [e, ← ht, List.drop_left]; simp

theorem amb_iff {ws : List (List UInt8)} (hne : ∀ x ∈ ws, x ≠ []) (hd : ∀ i j, i < ws.length → j < ws.length → ws.getD i [] = ws.getD j [] → i = j) : Reach ws [] ↔ Amb ws := by
  constructor
  · intro h
    obtain ⟨x, y, A, B, hx, hy, hxy, hA, hB, e⟩ := reach_spelt hd h
    refine ⟨x :: A, y :: B, fun z hz => ?_, fun z hz => ?_, fun e => hxy (by injection e), by rw [e, List.append_nil]⟩
    · rcases List.mem_cons.1 hz with rfl | hz
      · exact hx
      · exact hA z hz
    · rcases List.mem_cons.1 hz with rfl | hz
      · exact hy
      · exact hB z hz
  · rintro ⟨A, B, hA, hB, hn, h⟩
    exact amb_sound hne hA hB hn h

end Go.Proofs.YtpljmccnfmkmfaaGreat.Dc
end

section
namespace Go.Proofs.YtpljmccnfmkmfaaGreat.Dc
open Go Go.AM

theorem pairsN_len (ws : List (List UInt8)) : ∀ n, (pairsN ws n).length ≤ n * ws.length
  | 0 => by simp [pairsN]
  | n + 1 => by
    have h1 : ∀ l : List (List UInt8), ∀ x, (l.flatMap (pairAt x)).length ≤ l.length := fun l x => by
      induction l with
      | nil => simp
      | cons y l ih =>
        have : (pairAt x y).length ≤ 1 := by unfold pairAt; split <;> simp
        simp only [List.flatMap_cons, List.length_append, List.length_cons]; omega
    have h2 := h1 (ws.take ws.length) (ws.getD n [])
    rw [List.take_length] at h2
    have h3 := pairsN_len ws n
    rw [pairsN_succ, List.length_append, Nat.succ_mul]
    unfold pairsK
    rw [List.take_length]; omega

def RKok (done : List (List UInt8)) (rk : RK) : Prop := rk ≠ .raw ∧ (done ≠ [] → rk = .own)

theorem heapR_len (q : Int) (ws done : List (List UInt8)) (rk : RK) (T : List AObj) : (heapR q ws done rk T).length = T.length + 7 := by simp [heapR]
theorem heapR_snoc (q : Int) (ws done : List (List UInt8)) (rk : RK) (T : List AObj) (o : AObj) : heapR q ws done rk T ++ [o] = heapR q ws done rk (T ++ [o]) := by simp [heapR]

theorem add86 {E : Env} (hP : E.P = Tryz.prog) (hn : E.n0 = 0) {tm : List AV} {Q : Exit → St → Prop} {f : Operand} {ps : List Nat} {assign body : Code} (q : Int) (ws : List (List UInt8)) (hws : ws.length ≤ 64)
    (hf : ev tm f = .fn 252 [.ptr 5 0]) (htm : killAll [6] tm = tm)
    (hround : ∀ done rk y r, RKok done rk → done.length ≤ 5000 → YC Tryz.prog 7 [.p (.str y), .p (.str r)] (heapR q ws done rk [.lp tm ps assign body .ready]) [6]
      (fun v h'' => v = .p (.bool true) ∧ ∃ rk', RKok (done ++ [r]) rk' ∧ h'' = heapR q ws (done ++ [r]) rk' [.lp tm ps assign body .ready]))
    (h1 : ∀ rk, RKok ((pairs ws).map (·.2)) rk → Q .normal ⟨tm, heapR q ws ((pairs ws).map (·.2)) rk [.dead]⟩) : AWp E none (.rangeFunc f ps.toArray assign body) Q ⟨tm, heapR q ws [] .lax []⟩ := by
  have hlen : (pairs ws).length ≤ 4096 := by
    have h1 := pairsN_len ws ws.length
    have h2 : ws.length * ws.length ≤ 64 * 64 := Nat.mul_le_mul hws hws
    unfold pairs; omega
  have hac : AC Tryz.prog 252 [.yld 7, .ptr 5 0] (heapR q ws [] .lax [.lp tm ps assign body .ready]) [6]
      (fun _ h' => (∃ rk, RKok ((pairs ws).map (·.2)) rk ∧ h' = heapR q ws ((pairs ws).map (·.2)) rk [.lp tm ps assign body .ready]) ∨ False) := by
    refine c86 (b := 7) (c := 5) (ks := [6]) (by simp) (by simp) q ws (by omega) (J := fun done h' => ∃ rk, RKok (done.map (·.2)) rk ∧ h' = heapR q ws (done.map (·.2)) rk [.lp tm ps assign body .ready]) (D := fun _ => False) ⟨.lax, ⟨by simp, fun h => absurd rfl h⟩, rfl⟩ ?_ ?_ ?_
    · rintro done h' ⟨rk, _, rfl⟩
      exact ⟨rfl, by rw [heapR_len, heapR_len]; exact Nat.le_refl _⟩
    · intro h' h; exact h.elim
    · rintro done y r h' ⟨l, hl⟩ ⟨rk, hrk, rfl⟩
      have hd : done.length ≤ 4096 := by
        have := congrArg List.length hl
        simp only [List.length_append, List.length_cons] at this; omega
      have hy := hround (done.map (·.2)) rk y r hrk (by rw [List.length_map]; omega)
      intro X I μ ob w cargs R hl2 ha hk
      obtain ⟨l', fn, tmps, a', b', e1, e2, e3⟩ := hy X I μ ob w cargs R hl2 ha hk
      refine ⟨l', fn, tmps, a', b', e1, e2, ?_⟩
      refine e3.mono ?_
      rintro e w' ⟨cv, v, h', I', μ', ob', g1, g2, g3, g4, g5, g6, g7, g8, g9, k1, rk', k2, k3⟩
      exact ⟨cv, v, h', I', μ', ob', g1, g2, g3, g4, g5, g6, g7, g8, g9, .inl ⟨k1, rk', by rw [List.map_append]; exact k2, by rw [List.map_append]; exact k3⟩⟩
  obtain ⟨P, Γ', n0, ks⟩ := E
  simp only at hP hn; subst hP hn
  refine AWp.rangeFunc (h := heapR q ws [] .lax []) (ks := [6]) hf (by rw [heapR_snoc]; exact hac) (fun k _ => .inl (Nat.zero_le k)) (by rw [heapR_len]; simp) ?_
  rintro v h' (⟨rk, hrk, rfl⟩ | h)
  · have := h1 rk hrk
    unfold RangeK
    rw [htm]
    exact this
  · exact h.elim

theorem foldK_prefix : ∀ (l acc : List (List UInt8)), acc <+: l.foldl addK acc
  | [], acc => List.prefix_refl _
  | a :: l, acc => by
    rw [List.foldl_cons]
    refine List.IsPrefix.trans ?_ (foldK_prefix l _)
    unfold addK
    split
    · exact List.prefix_refl _
    · exact List.prefix_append _ _
theorem keysOf_prefix (done l : List (List UInt8)) : keysOf done <+: keysOf (done ++ l) := by unfold keysOf; rw [List.foldl_append]; exact foldK_prefix l _
theorem keysOf_getD {done l : List (List UInt8)} {j : Nat} (hj : j < (keysOf done).length) : (keysOf (done ++ l)).getD j [] = (keysOf done).getD j [] := by
  obtain ⟨t, ht⟩ := keysOf_prefix done l
  rw [← ht]
  simp only [List.getD_eq_getElem?_getD, List.getElem?_append_left hj]

theorem nodup_sub_lenW : ∀ {l m : List (List UInt8)}, l.Nodup → l ⊆ m → l.length ≤ m.length
  | [], _, _, _ => Nat.zero_le _
  | a :: l, m, h, hs => by
    obtain ⟨h1, h2⟩ := List.nodup_cons.1 h
    have ha : a ∈ m := hs (by simp)
    have := nodup_sub_lenW (m := m.erase a) h2 (fun x hx => (List.mem_erase_of_ne (fun e : x = a => h1 (e ▸ hx))).2 (hs (by simp [hx])))
    rw [List.length_erase_of_mem ha] at this
    have := List.length_pos_of_mem ha
    simp only [List.length_cons]; omega

structure Inv2 (ws : List (List UInt8)) (i : Nat) (done : List (List UInt8)) (rk : RK) : Prop where
  ok : RKok done rk
  sound : ∀ x ∈ done, Reach ws x
  firsts : ∀ u ∈ firstS ws, u ∈ done
  le : i ≤ (keysOf done).length
  nexts : ∀ j, j < i → (keysOf done).getD j [] ≠ [] → ∀ u ∈ nextS ws ((keysOf done).getD j []), u ∈ done

theorem Inv2.keys_len {ws : List (List UInt8)} {i : Nat} {done : List (List UInt8)} {rk : RK} (h : Inv2 ws i done rk) : (keysOf done).length ≤ (sufs ws).length := by
  have h1 : keysOf done ⊆ sufs ws := fun x hx => mem_sufs (reach_suffix (h.sound x ((mem_keysOf _ _).1 hx)))
  exact nodup_sub_lenW (keysOf_nodup done) h1

theorem distinct_idx {q : Int} {ws : List (List UInt8)} (hv : Valid q ws) : ∀ i j, i < ws.length → j < ws.length → ws.getD i [] = ws.getD j [] → i = j := by
  intro i j hi hj e
  rcases Nat.lt_trichotomy i j with h1 | h1 | h1
  · exact absurd (e ▸ hv.lt i j h1 hj) (ltW_irrefl _)
  · exact h1
  · exact absurd (e ▸ hv.lt j i h1 hi) (ltW_irrefl _)

theorem nextS_eq (ws : List (List UInt8)) (r : List UInt8) : nextS ws r = (nextsP ws r).map (·.1) := by
  unfold nextS nextsP
  rw [List.map_flatMap]
  congr 1; funext x
  unfold nextAt nextP
  split
  · rfl
  · split <;> rfl

theorem nextsP_len (ws : List (List UInt8)) (r : List UInt8) : (nextsP ws r).length ≤ ws.length := by
  induction ws with
  | nil => simp [nextsP]
  | cons x ws ih =>
    have h : (nextP r x).length ≤ 1 := by unfold nextP; split; simp; split <;> simp
    unfold nextsP at ih ⊢
    simp only [List.flatMap_cons, List.length_append, List.length_cons]; omega

theorem add87 {E : Env} (hP : E.P = Tryz.prog) (hn : E.n0 = 0) {tm : List AV} {Q : Exit → St → Prop} {f : Operand} {ps : List Nat} {assign body : Code} (q : Int) (ws : List (List UInt8)) (hws : ws.length ≤ 64) (x : List UInt8) (done0 : List (List UInt8)) (rk0 : RK) (hrk0 : RKok done0 rk0) (T : List AObj) {c d : Nat}
    (hf : ev tm f = .fn 254 [.ptr (c + 7) 0, .ptr (d + 7) 0]) (hc : T[c]? = some (codeB q ws)) (hd : T[d]? = some (.box [.p (.str x)])) (htm : killAll [6] tm = tm) (hd0 : (keysOf done0).length ≤ 100000)
    (hround : ∀ done rk u n, RKok done rk → (keysOf done).length ≤ 1000000 → YC Tryz.prog (T.length + 7) [.p (.str u), .p (.int .i64 (n : Nat))] (heapR q ws done rk (T ++ [.lp tm ps assign body .ready])) [6]
      (fun v h'' => v = .p (.bool true) ∧ ∃ rk', RKok (done ++ [u]) rk' ∧ h'' = heapR q ws (done ++ [u]) rk' (T ++ [.lp tm ps assign body .ready])))
    (h1 : ∀ rk, RKok (done0 ++ (nextsP ws x).map (·.1)) rk → Q .normal ⟨tm, heapR q ws (done0 ++ (nextsP ws x).map (·.1)) rk (T ++ [.dead])⟩) : AWp E none (.rangeFunc f ps.toArray assign body) Q ⟨tm, heapR q ws done0 rk0 T⟩ := by
  have hcl : c < T.length := (List.getElem?_eq_some_iff.1 hc).1
  have hdl : d < T.length := (List.getElem?_eq_some_iff.1 hd).1
  have look : ∀ done rk o k v, T[k]? = some v → (heapR q ws done rk (T ++ [o]))[k + 7]? = some v := fun done rk o k v hk => by
    show (T ++ [o])[k]? = some v
    rw [List.getElem?_append_left (List.getElem?_eq_some_iff.1 hk).1]; exact hk
  have grow : ∀ l : List (List UInt8), (keysOf (done0 ++ l)).length ≤ (keysOf done0).length + l.length := fun l => by
    unfold keysOf; rw [List.foldl_append]; exact len_foldK l _
  have hac : AC Tryz.prog 254 [.yld (T.length + 7), .ptr (c + 7) 0, .ptr (d + 7) 0] (heapR q ws done0 rk0 (T ++ [.lp tm ps assign body .ready])) [6]
      (fun _ h' => (∃ rk, RKok (done0 ++ (nextsP ws x).map (·.1)) rk ∧ h' = heapR q ws (done0 ++ (nextsP ws x).map (·.1)) rk (T ++ [.lp tm ps assign body .ready])) ∨ False) := by
    refine c87 (h := heapR q ws done0 rk0 (T ++ [.lp tm ps assign body .ready])) (b := T.length + 7) (c := c + 7) (d := d + 7) (ks := [6]) (by simp) (by simp) (by simp) q ws x (by omega) (J := fun done h' => ∃ rk, RKok (done0 ++ done.map (·.1)) rk ∧ h' = heapR q ws (done0 ++ done.map (·.1)) rk (T ++ [.lp tm ps assign body .ready])) (D := fun _ => False) ⟨rk0, by simpa using hrk0, by simp⟩ ?_ ?_ ?_
    · rintro done h' ⟨rk, _, rfl⟩
      exact ⟨look _ _ _ _ _ hc, look _ _ _ _ _ hd, by rw [heapR_len, heapR_len]; exact Nat.le_refl _⟩
    · intro h' h; exact h.elim
    · rintro done u n h' ⟨l, hl⟩ ⟨rk, hrk, rfl⟩
      have hdn : done.length ≤ 64 := by
        have := congrArg List.length hl
        have h2 := nextsP_len ws x
        simp only [List.length_append, List.length_cons] at this; omega
      have hg := grow (done.map (·.1))
      rw [List.length_map] at hg
      have hy := hround (done0 ++ done.map (·.1)) rk u n hrk (by omega)
      intro X I μ ob w cargs R hl2 ha hk
      obtain ⟨l', fn, tmps, a', b', e1, e2, e3⟩ := hy X I μ ob w cargs R hl2 ha hk
      refine ⟨l', fn, tmps, a', b', e1, e2, ?_⟩
      refine e3.mono ?_
      rintro e w' ⟨cv, v, h', I', μ', ob', g1, g2, g3, g4, g5, g6, g7, g8, g9, k1, rk', k2, k3⟩
      exact ⟨cv, v, h', I', μ', ob', g1, g2, g3, g4, g5, g6, g7, g8, g9, .inl ⟨k1, rk', by rw [List.map_append, ← List.append_assoc]; exact k2, by rw [List.map_append, ← List.append_assoc]; exact k3⟩⟩
  obtain ⟨P, Γ', n0, ks⟩ := E
  simp only at hP hn; subst hP hn
  refine AWp.rangeFunc (h := heapR q ws done0 rk0 T) (ks := [6]) hf (by rw [heapR_snoc, heapR_len]; exact hac) (fun k _ => .inl (Nat.zero_le k)) (by rw [heapR_len]; simp) ?_
  rintro v h' (⟨rk, hrk, rfl⟩ | h)
  · have := h1 rk hrk
    unfold RangeK
    rw [htm, heapR_len]
    have e1 : (heapR q ws (done0 ++ (nextsP ws x).map (·.1)) rk (T ++ [.lp tm ps assign body .ready]))[T.length + 7]? = some (.lp tm ps assign body .ready) := by
      show (T ++ [_])[T.length]? = _
      simp
    rw [e1]
    have e2 : (heapR q ws (done0 ++ (nextsP ws x).map (·.1)) rk (T ++ [.lp tm ps assign body .ready])).set (T.length + 7) .dead = heapR q ws (done0 ++ (nextsP ws x).map (·.1)) rk (T ++ [.dead]) := by
      simp [heapR]
    simp only [e2]
    exact this
  · exact h.elim

theorem r46 (q : Int) (ws : List (List UInt8)) (hv : Valid q ws) : PRow Tryz.prog 177 [codeV q ws] 9 1 ((residL ws).map .str) := by
  refine AC.of_bodyE hΓ Tryz.func177 (by kernel_rfl) rfl (AWp.mono (Q := fun e st => AM.Ends e ∧ ∃ b rk, st.tmps.getD 2 .junk = .own b (residL ws).length ∧ st.h[b]? = some (.row 9 1 ((residL ws).map .str) rk) ∧ rk ≠ .raw) ?_ ?_)
  rotate_left
  · rintro e ⟨tm, h'⟩ ⟨he, b, rk, h1, h2, h3⟩
    simp only at h1 h2
    refine ⟨he, _, Less.refl _, ?_⟩
    unfold DoneE
    simp -implicitDefEqProofs only [Tryz.results177, h1, go_sem]
    refine ⟨_, by simp, .inl rfl, b, ?_⟩
    rw [List.take_length]
    exact ⟨rk, by simp, h2, h3⟩
  refine AWp.of_awpD [] hΓ hmix (by kernel_rfl) ?_
  simp -implicitDefEqProofs only [Tryz.ntmps177, Nat.reduceAdd, Nat.reduceSub, codeV, List.map_cons, List.map_nil, go_sem]
  refine callK_ac (c52 q ws) (by simp) ?_
  rintro v h' ⟨rfl, rfl⟩
  simp -implicitDefEqProofs only [killAll, List.foldl, codeB, List.cons_append, List.nil_append, go_sem]
  refine AWp.adoptBox (l := []) 3 9 1 rfl (by simp) ?_
  simp -implicitDefEqProofs only [List.set_cons_zero, List.set_cons_succ, List.length_cons, List.length_nil, List.cons_append, List.nil_append, Nat.reduceAdd, go_sem]
  refine add86 rfl rfl q ws hv.len rfl (by simp [killAll, AV.kill, AV.kill.killL]) ?_ ?_
  · intro done rk y r hrk hdl
    refine YC.of_body (Γ := Γ) rfl rfl (by simp) ?_
    intro rr
    refine AWp.of_awpD [] hΓ hmix (by kernel_rfl) ?_
    unfold heapR
    simp +contextual -implicitDefEqProofs only [setP, List.cons_append, List.nil_append, go_sem]
    unfold BeginE
    refine ⟨rfl, ?_⟩
    simp +contextual -implicitDefEqProofs only [List.length_cons, List.length_nil, List.cons_append, List.nil_append, codeB, go_sem]
    refine AWp.of_awpD [] hΓ hmix (by kernel_rfl) ?_
    simp -implicitDefEqProofs only [go_sem]
    have hkl := keysOf_len done
    refine callK_ac (c82 q ws done rk _ r hrk (by simp [AObj.kill, AV.kill, AV.kill.killL]) (by omega)) (by simp) ?_
    rintro v h' ⟨rfl, rk', hrk', rfl⟩
    unfold heapR
    simp -implicitDefEqProofs only [killAll, List.foldl, codeB, go_sem]
    exact ⟨8, by simp, .inl rfl, rfl, rk', hrk', rfl⟩
  · intro rk hrk
    unfold heapR
    simp -implicitDefEqProofs only [codeB, go_sem]
    refine AWp.loopI (fun p : Nat × List (List UInt8) × RK × Nat => ⟨mkF 44 [(1, .ptr 0 0), (3, .ptr 2 0), (4, .ptr 3 0), (5, .ptr 4 0), (8, .p (.int .i64 p.1))], heapR q ws p.2.1 p.2.2.1 (List.replicate p.2.2.2 .dead)⟩)
      (fun p => Inv2 ws p.1 p.2.1 p.2.2.1) (fun p => (sufs ws).length - p.1) (0, (pairs ws).map (·.2), rk, 1) (by simp [go_sem, heapR, codeB]) ?_ ?_
    · have hd := distinct_idx hv
      have hf : ∀ u, u ∈ (pairs ws).map (·.2) ↔ u ∈ firstS ws := fun u => by
        constructor
        · intro hu
          obtain ⟨p, hp, rfl⟩ := List.mem_map.1 hu
          exact (pairs_first hd (firstS ws)).2 (fun _ h => h) p hp
        · intro hu
          exact (pairs_first hd ((pairs ws).map (·.2))).1 (fun p hp => List.mem_map.2 ⟨p, hp, rfl⟩) u hu
      exact ⟨hrk, fun x hx => .first x ((hf x).1 hx), fun u hu => (hf u).2 hu, Nat.zero_le _, fun j hj => absurd hj (Nat.not_lt_zero j)⟩
    rintro ⟨i, done, rk, m⟩ hI
    simp only at hI
    generalize hTT : List.replicate m AObj.dead = T
    by_cases hlt : i < (keysOf done).length
    · have hdn : done ≠ [] := fun e => by subst e; simp [keysOf] at hlt
      have hown := hI.ok.2 hdn
      subst hown
      refine AWp.of_awpD [(11, 5)] hΓ hmix (by kernel_rfl) ?_
      unfold heapR
      simp -implicitDefEqProofs only [getD_map_lt, hlt, ↓reduceIte, codeB, go_sem]
      have hkey : (keysOf done).getD i [] = (keysOf done)[i] := by rw [List.getD_eq_getElem?_getD, List.getElem?_eq_getElem hlt, Option.getD_some]
      have hk := hI.keys_len
      have hsl := sufs_len (ws := ws) (n := 32) (fun w hw => by
        obtain ⟨j, hj, rfl⟩ := List.getElem_of_mem hw
        have := hv.short j hj
        rwa [List.getD_eq_getElem?_getD, List.getElem?_eq_getElem hj, Option.getD_some] at this)
      have hl3 : ws.length * (32 + 1) ≤ 64 * 33 := Nat.mul_le_mul_right _ hv.len
      refine ⟨fun he => ⟨by simp only [InR]; omega, (i + 1, done, .own, m), ⟨by simp, rfl, rfl, .inl ⟨rfl, rfl⟩, by rw [← hTT]; exact weakH_self _⟩, ⟨hI.ok, hI.sound, hI.firsts, hlt, fun j hj hne => ?_⟩, by simp only; omega⟩, fun hne => ?_⟩
      · by_cases hji : j < i
        · exact hI.nexts j hji hne
        · have : j = i := by omega
          subst this; rw [hkey] at hne; exact absurd he hne
      · refine callK_ac (c53 q ws (keysOf done)[i]) (by simp) ?_
        rintro v h' ⟨rfl, rfl⟩
        simp -implicitDefEqProofs only [killAll, List.foldl, codeB, List.cons_append, List.nil_append, go_sem]
        rw [show (#[36, 37] : Array Nat) = [36, 37].toArray from rfl]
        generalize hT2 : T ++ [AObj.box [.p (.int .i64 q), .p (.sl (ws.map .str))], .box [.p (.str (keysOf done)[i])]] = T2
        have gl : ∀ done rk x, (heapR q ws done rk (T2 ++ [x]))[T2.length + 7]? = some x := fun done rk x => by
          show (T2 ++ [x])[T2.length]? = _
          simp
        have gs : ∀ done rk x y, (heapR q ws done rk (T2 ++ [x])).set (T2.length + 7) y = heapR q ws done rk (T2 ++ [y]) := fun done rk x y => by simp [heapR]
        have f4 : ∀ done rk T, (heapR q ws done rk T)[4]? = some (.box [.fn 220 [.ptr 2 0, .ptr 3 0]]) := fun _ _ _ => rfl
        refine AWp.weak (st' := ⟨mkF 44 [(1, .ptr 0 0), (3, .ptr 2 0), (4, .ptr 3 0), (5, .ptr 4 0), (8, .p (.int .i64 i)), (35, .fn 254 [.ptr (T.length + 7) 0, .ptr (T.length + 1 + 7) 0])], heapR q ws done .own T2⟩) ?_ ?_
        · rw [← hT2]; simp [go_sem, heapR, codeB, weakH_self]
        refine add87 (c := T.length) (d := T.length + 1) rfl rfl q ws hv.len (keysOf done)[i] done .own hI.ok T2 rfl (by rw [← hT2]; simp [codeB]) (by rw [← hT2]; simp) (by simp [go_sem, killAll, AV.kill, AV.kill.killL]) (by omega) ?_ ?_
        · intro done2 rk2 u n hrk2 hk2
          refine YC.of_body (Γ := Γ) (gl _ _ _) rfl (by simp) ?_
          intro rr
          refine AWp.of_awpD [] hΓ hmix (by kernel_rfl) ?_
          simp -implicitDefEqProofs only [setP, go_sem]
          unfold BeginE
          refine ⟨rfl, ?_⟩
          simp only [gl, gs]
          refine AWp.of_awpD [] hΓ hmix (by kernel_rfl) ?_
          simp -implicitDefEqProofs only [f4, go_sem]
          refine callK_ac (c82 q ws done2 rk2 _ u hrk2 (by rw [← hT2, ← hTT]; simp [AObj.kill, AV.kill, AV.kill.killL]) (by omega)) (fun k hk => .inr hk) ?_
          rintro v h' ⟨rfl, rk', hrk', rfl⟩
          simp -implicitDefEqProofs only [killAll, List.foldl, go_sem]
          unfold RoundE
          simp only [gl, gs]
          exact ⟨_, by simp [heapR_len], .inl rfl, trivial, rk', hrk', List.take_length⟩
        · intro rk2 hrk2
          unfold heapR
          simp -implicitDefEqProofs only [codeB, go_sem]
          refine ⟨by simp only [InR]; omega, (i + 1, done ++ (nextsP ws (keysOf done)[i]).map (·.1), rk2, m + 3), ⟨by simp, rfl, rfl, .inl ⟨rfl, rfl⟩, ?_⟩, ?_, by simp only; omega⟩
          · have e3 : List.replicate (m + 3) AObj.dead = List.replicate (T2 ++ [AObj.dead]).length AObj.dead := by rw [← hT2, ← hTT]; simp
            simp only [e3]
            exact weakH_dead _
          · have hN := nextS_eq ws (keysOf done)[i]
            have hkr : Reach ws (keysOf done)[i] := hI.sound _ ((mem_keysOf _ _).1 (List.getElem_mem hlt))
            have hpre := (keysOf_prefix done ((nextsP ws (keysOf done)[i]).map (·.1))).length_le
            refine ⟨hrk2, fun x hx => ?_, fun u hu => List.mem_append.2 (.inl (hI.firsts u hu)), by simp only; omega, fun j hj hne2 u hu => ?_⟩
            · rcases List.mem_append.1 hx with hx | hx
              · exact hI.sound x hx
              · exact .next _ x hkr hne (by rw [hN]; exact hx)
            · rw [keysOf_getD (by omega)] at hne2 hu
              by_cases hji : j < i
              · exact List.mem_append.2 (.inl (hI.nexts j hji hne2 u hu))
              · have : j = i := by omega
                subst this
                rw [hkey, hN] at hu
                exact List.mem_append.2 (.inr hu)
    · refine AWp.of_awpD [(11, 5)] hΓ hmix (by kernel_rfl) ?_
      unfold heapR
      simp -implicitDefEqProofs only [getD_map_lt, hlt, ↓reduceIte, codeB, go_sem]
      have hmem : ∀ x, x ∈ keysOf done ↔ Reach ws x := fun x => by
        rw [mem_keysOf]
        refine ⟨hI.sound x, fun h => ?_⟩
        induction h with
        | first u h => exact hI.firsts u h
        | next r u hr hne h ih =>
          obtain ⟨j, hj, rfl⟩ := List.getElem_of_mem ((mem_keysOf done r).2 ih)
          have e : (keysOf done).getD j [] = (keysOf done)[j] := by rw [List.getD_eq_getElem?_getD, List.getElem?_eq_getElem hj, Option.getD_some]
          exact hI.nexts j (by have := hI.le; omega) (by rw [e]; exact hne) u (by rw [e]; exact h)
      have hres : sortW (keysOf done) = residL ws := residL_of (keysOf_nodup _) hmem
      by_cases hdn : done = []
      · subst hdn
        refine callK_ac (c83n (b := 6)) (by simp) ?_
        rintro v h' ⟨rfl, rfl⟩
        simp -implicitDefEqProofs only [killAll, List.foldl, go_sem]
        have e0 : keysOf [] = [] := rfl
        have es : sortW [] = [] := by simp [sortW]
        rw [← hres, e0, es]
        exact ⟨6, rk, ⟨rfl, rfl⟩, rfl, hI.ok.1⟩
      · have hown := hI.ok.2 hdn
        subst hown
        have hk := hI.keys_len
        have hsl := sufs_len (ws := ws) (n := 32) (fun w hw => by
          obtain ⟨j, hj, rfl⟩ := List.getElem_of_mem hw
          have := hv.short j hj
          rwa [List.getD_eq_getElem?_getD, List.getElem?_eq_getElem hj, Option.getD_some] at this)
        have hl2 := hv.len
        have hl3 : ws.length * (32 + 1) ≤ 64 * 33 := Nat.mul_le_mul_right _ hl2
        refine callK_ac (c83 (b := 6) (keysOf done) rfl (by omega)) (by simp) ?_
        rintro v h' ⟨rfl, rfl⟩
        simp -implicitDefEqProofs only [killAll, List.foldl, List.set_cons_succ, List.set_cons_zero, go_sem]
        rw [hres]
        exact ⟨6, .own, ⟨rfl, by rw [← hres, sortW_length]⟩, rfl, by simp⟩
end Go.Proofs.YtpljmccnfmkmfaaGreat.Dc
end

section
namespace Go.Proofs.YtpljmccnfmkmfaaGreat.Dc
open Go Go.AM

def ixL (x : List UInt8) : List (List UInt8) → Nat → Int
  | [], _ => -1
  | a :: l, k => if a = x then k else ixL x l (k + 1)
theorem ixL_at (x : List UInt8) : ∀ (l : List (List UInt8)) (n k : Nat) (hk : k < l.length), (∀ j (hj : j < k), l[j] ≠ x) → l[k] = x → ixL x l n = ((n + k : Nat) : Int)
  | [], n, k, hk, _, _ => absurd hk (Nat.not_lt_zero k)
  | a :: l, n, 0, _, _, h => by
    have : a = x := h
    subst this; unfold ixL; simp
  | a :: l, n, k + 1, hk, h0, h => by
    have h1 : a ≠ x := h0 0 (by omega)
    unfold ixL
    rw [if_neg h1]
    refine (ixL_at x l (n + 1) k (by simpa using hk) (fun j hj => h0 (j + 1) (by omega)) h).trans ?_
    congr 1; omega
theorem ixL_none (x : List UInt8) : ∀ (l : List (List UInt8)) (n : Nat), x ∉ l → ixL x l n = -1
  | [], _, _ => rfl
  | a :: l, n, h => by
    simp only [List.mem_cons, not_or] at h
    unfold ixL
    rw [if_neg (fun e => h.1 e.symm)]
    exact ixL_none x l (n + 1) h.2
theorem ixL_mem (x : List UInt8) : ∀ (l : List (List UInt8)) (n : Nat), decide (0 ≤ ixL x l n) = decide (x ∈ l)
  | [], _ => by simp [ixL]
  | a :: l, n => by
    unfold ixL
    by_cases h : a = x
    · rw [if_pos h, decide_eq_true (by omega), decide_eq_true (by simp [h])]
    · rw [if_neg h, ixL_mem x l (n + 1)]
      exact decide_eq_decide.2 ⟨fun h' => by simp [h'], fun h' => (List.mem_cons.1 h').resolve_left (fun e => h e.symm)⟩

theorem t48 (ws : List (List UInt8)) (x : List UInt8) (hl : ws.length ≤ 9223372036854775807) : PFn Tryz.prog 219 [.sl (ws.map .str), .str x] [.int .i64 (ixL x ws 0)] := by
  refine PFn.of_body hΓ Tryz.func219 (by kernel_rfl) rfl (AWp.of_awpD [] hΓ hmix (by kernel_rfl) ?_)
  simp +contextual -implicitDefEqProofs only [Tryz.ntmps219, Tryz.results219, Nat.reduceAdd, Nat.reduceSub, go_sem]
  refine AWp.loopI (fun k : Nat => ⟨mkF 19 [(0, .p (.sl (ws.map .str))), (1, .p (.str x)), (7, .p (.int .i64 ws.length)), (8, .p (.int .i64 k))], []⟩)
    (fun k => k ≤ ws.length ∧ ∀ j (hj : j < ws.length), j < k → ws[j] ≠ x) (fun k => ws.length - k) 0 (by simp [go_sem]) (by simp) ?_
  rintro k ⟨hk, h0⟩
  refine AWp.of_awpD [] hΓ hmix (by kernel_rfl) ?_
  simp +contextual -implicitDefEqProofs only [getD_map_lt, ↓reduceIte, go_sem]
  refine ⟨fun hlt => ⟨fun he => ?_, fun hne => ⟨by simp only [InR]; omega, k + 1, by simp, ⟨hlt, fun j hj hjk => ?_⟩, by omega⟩⟩, fun hge => ?_⟩
  · rw [← he, ixL_at x ws 0 k hlt (fun j hj => h0 j (by omega) hj) he.symm]; simp
  · by_cases hjk' : j < k
    · exact h0 j hj hjk'
    · have : j = k := by omega
      subst this; exact fun e => hne e.symm
  · refine (ixL_none x ws 0 (fun hm => ?_)).symm
    obtain ⟨j, hj, e⟩ := List.getElem_of_mem hm
    exact h0 j hj (by omega) e

theorem t16 (ws : List (List UInt8)) (x : List UInt8) (hl : ws.length ≤ 9223372036854775807) : PFn Tryz.prog 176 [.sl (ws.map .str), .str x] [.bool (decide (x ∈ ws))] := by
  refine PFn.of_body hΓ Tryz.func176 (by kernel_rfl) rfl (AWp.of_awpD [] hΓ hmix (by kernel_rfl) ?_)
  simp +contextual -implicitDefEqProofs only [Tryz.ntmps176, Tryz.results176, Nat.reduceAdd, Nat.reduceSub, go_sem]
  refine callK_fn (t48 ws x hl) (.pures rfl) ?_
  simp -implicitDefEqProofs only [go_sem]
  exact ixL_mem x ws 0

theorem residL_len {q : Int} {ws : List (List UInt8)} (hv : Valid q ws) : (residL ws).length ≤ 2112 := by
  have h1 : residL ws ⊆ sufs ws := fun x hx => mem_sufs (reach_suffix (mem_residL.1 hx))
  have h2 := nodup_sub_lenW ((residL_strict ws).imp (fun h e => by subst e; exact ltW_irrefl _ h)) h1
  have h3 := sufs_len (ws := ws) (n := 32) (fun w hw => by
    obtain ⟨j, hj, rfl⟩ := List.getElem_of_mem hw
    have := hv.short j hj
    rwa [List.getD_eq_getElem?_getD, List.getElem?_eq_getElem hj, Option.getD_some] at this)
  have h4 : ws.length * (32 + 1) ≤ 64 * 33 := Nat.mul_le_mul_right _ hv.len
  omega

theorem t47 (q : Int) (ws : List (List UInt8)) (hv : Valid q ws) : PFn Tryz.prog 118 [codeV q ws] [.bool (!decide ([] ∈ residL ws))] := by
  have hr := residL_len hv
  refine PFn.of_body hΓ Tryz.func118 (by kernel_rfl) rfl (AWp.of_awpD [] hΓ hmix (by kernel_rfl) ?_)
  simp +contextual -implicitDefEqProofs only [codeV, Tryz.ntmps118, Tryz.results118, Nat.reduceAdd, Nat.reduceSub, go_sem]
  refine callK_fn (PFn.of_row (r46 q ws hv)) (.still rfl) ?_
  simp -implicitDefEqProofs only [go_sem]
  refine callK_fn (t16 (residL ws) [] (by omega)) (.pures rfl) ?_
  simp -implicitDefEqProofs only [go_sem]

theorem t15 (q : Int) (ws : List (List UInt8)) : PFn Tryz.prog 55 [codeV q ws] [.bool (if codeCheck q ws = 0 then !decide ([] ∈ residL ws) else false), .int .i64 (if codeCheck q ws = 0 then 0 else 1)] := by
  refine PFn.of_body hΓ Tryz.func55 (by kernel_rfl) rfl (AWp.of_awpD [] hΓ hmix (by kernel_rfl) ?_)
  simp +contextual -implicitDefEqProofs only [codeV, Tryz.ntmps55, Tryz.results55, Nat.reduceAdd, Nat.reduceSub, go_sem]
  refine callK_fn (t45 q ws) (.still rfl) ?_
  by_cases h : codeCheck q ws = 0
  · rw [h]
    simp -implicitDefEqProofs only [go_sem]
    refine callK_fn (t47 q ws (valid_of h)) (.still rfl) ?_
    simp -implicitDefEqProofs only [go_sem]
  · simp -implicitDefEqProofs only [h, go_sem]

end Go.Proofs.YtpljmccnfmkmfaaGreat.Dc
end

section
namespace Go.Proofs.YtpljmccnfmkmfaaGreat.Dc
open Go Go.AM

theorem Valid.ne' {q : Int} {ws : List (List UInt8)} (hv : Valid q ws) : ∀ x ∈ ws, x ≠ [] := fun x hx => by
  obtain ⟨j, hj, rfl⟩ := List.getElem_of_mem hx
  have := hv.ne j hj
  rwa [List.getD_eq_getElem?_getD, List.getElem?_eq_getElem hj, Option.getD_some] at this
theorem Valid.amb {q : Int} {ws : List (List UInt8)} (hv : Valid q ws) : [] ∈ residL ws ↔ Amb ws := mem_residL.trans (amb_iff hv.ne' (distinct_idx hv))

end Go.Proofs.YtpljmccnfmkmfaaGreat.Dc
end

section
namespace Go.Proofs.YtpljmccnfmkmfaaGreat
open Go Go.AM

theorem c57r (n d : Nat) (hn0 : 1 ≤ n) (hn : n ≤ 9) (hd : n + 1 ≤ d) (hd2 : d ≤ n + 18) : PFn Tryz.prog 57 [.int .i64 n, .int .i64 d] [Kn.ratV n d] := by
  obtain ⟨k, rfl⟩ : ∃ k, d = n + k + 1 := ⟨d - n - 1, by omega⟩
  have hk : k ∈ List.range 18 := List.mem_range.2 (by omega)
  have hc : n = 1 ∨ n = 2 ∨ n = 3 ∨ n = 4 ∨ n = 5 ∨ n = 6 ∨ n = 7 ∨ n = 8 ∨ n = 9 := by omega
  rcases hc with rfl | rfl | rfl | rfl | rfl | rfl | rfl | rfl | rfl
  · exact rat_of (by omega) (by omega) (List.all_eq_true.1 ratB1 k hk)
  · exact rat_of (by omega) (by omega) (List.all_eq_true.1 ratB2 k hk)
  · exact rat_of (by omega) (by omega) (List.all_eq_true.1 ratB3 k hk)
  · exact rat_of (by omega) (by omega) (List.all_eq_true.1 ratB4 k hk)
  · exact rat_of (by omega) (by omega) (List.all_eq_true.1 ratB5 k hk)
  · exact rat_of (by omega) (by omega) (List.all_eq_true.1 ratB6 k hk)
  · exact rat_of (by omega) (by omega) (List.all_eq_true.1 ratB7 k hk)
  · exact rat_of (by omega) (by omega) (List.all_eq_true.1 ratB8 k hk)
  · exact rat_of (by omega) (by omega) (List.all_eq_true.1 ratB9 k hk)
theorem c57o : PFn Tryz.prog 57 [.int .i64 1, .int .i64 1] [Kn.ratV 1 1] := rat_of (n := 1) (d := 1) (by omega) (by omega) ratA1
theorem d55 (q : Int) (ws : List (List UInt8)) (hc : codeCheck q ws = 0) : ∃ is : Bool, PFn Tryz.prog 55 [codeV q ws] [.bool is, .int .i64 0] ∧ (is = true → Mc.UD ws) := by
  have e := Dc.t15 q ws
  rw [if_pos hc, if_pos hc] at e
  refine ⟨_, e, fun h => ?_⟩
  have hv := Dc.valid_of hc
  have hn : [] ∉ Dc.residL ws := by simpa using h
  exact fun a b ha hb hf => Classical.byContradiction fun hne => hn (hv.amb.2 ⟨a, b, ha, hb, hne, hf⟩)
end Go.Proofs.YtpljmccnfmkmfaaGreat
end

section
namespace Go.Proofs.YtpljmccnfmkmfaaGreat
open Go Go.AM

theorem rat_one32 {q K : Nat} (hq : q ≠ 0) : Kn.ratV K (q ^ 32) = Kn.ratV 1 1 ↔ K = q ^ 32 := by
  rw [Kn.low_eq (Nat.ne_of_gt (Nat.pow_pos (Nat.pos_of_ne_zero hq))) (by decide), Nat.mul_one, Nat.one_mul]
theorem c38 (q : Nat) (ws : List (List UInt8)) (hc : codeCheck q ws = 0) {is : Bool} (e55 : PFn Tryz.prog 55 [codeV q ws] [.bool is, .int .i64 0]) :
    PFn Tryz.prog 38 [codeV q ws] [.bool (is && decide (Kn.krS q (ws.map List.length) = q ^ 32)), .int .i64 (if is = true then 0 else 14)] := by
  have hv := valid_of hc
  have h2 := hv.q2
  have hq0 : q ≠ 0 := by omega
  have e44 := cm28 (q : Int) ws hc
  rw [Int.toNat_natCast] at e44
  have e91 := Kn.v58
  have hone := rat_one32 (K := Kn.krS q (ws.map List.length)) hq0
  generalize Kn.krS q (ws.map List.length) = K at *
  obtain ⟨xA, xB, hx⟩ : ∃ A B, Kn.ratV K (q ^ 32) = .agg [.bool false, .str A, .bool false, .str B] := ⟨_, _, rfl⟩
  obtain ⟨oA, oB, ho⟩ : ∃ A B, Kn.ratV 1 1 = .agg [.bool false, .str A, .bool false, .str B] := ⟨_, _, rfl⟩
  have hdec : (decide (xA = oA) && decide (xB = oB)) = decide (K = q ^ 32) := by
    rw [Bool.eq_iff_iff, Bool.and_eq_true, decide_eq_true_iff, decide_eq_true_iff, decide_eq_true_iff, ← hone, hx, ho]
    constructor
    · rintro ⟨rfl, rfl⟩; rfl
    · intro h
      injection h with h
      simp only [List.cons.injEq, PV.str.injEq] at h
      exact ⟨h.2.1, h.2.2.2.1⟩
  rw [hx] at e44
  rw [ho] at e91
  unfold codeV at e44 e55
  refine PFn.of_body hΓ Tryz.func38 (by kernel_rfl) rfl (AWp.seq (AWp.of_awpD [] hΓ hmix (by kernel_rfl) ?_))
  simp -implicitDefEqProofs only [Tryz.ntmps38, Tryz.results38, Nat.reduceAdd, Nat.reduceSub, codeV, go_sem]
  refine AWp.seq (AWp.of_awpD [] hΓ hmix (by kernel_rfl) ?_)
  simp -implicitDefEqProofs only [go_sem]
  refine callK_fn e55 (.still rfl) ?_
  simp -implicitDefEqProofs only [go_sem]
  cases is
  · refine AWp.of_awpD [(7, 5)] hΓ hmix (by kernel_rfl) ?_
    simp -implicitDefEqProofs only [Bool.false_and, Bool.false_eq_true, if_false, go_sem]
  · refine AWp.of_awpD [(7, 5)] hΓ hmix (by kernel_rfl) ?_
    simp -implicitDefEqProofs only [go_sem]
    refine callK_fn e44 (.still rfl) ?_
    simp -implicitDefEqProofs only [go_sem]
    refine callVPK_fn e91 (.still rfl) ?_
    simp -implicitDefEqProofs only [go_sem]
    refine aggR rfl rfl ?_
    simp -implicitDefEqProofs only [hdec, Bool.true_and, if_true, go_sem]

open Classical in
theorem b10 (q : Int) (ws : List (List UInt8)) (pk : List UInt8) (hws : ws.length ≤ 9223372036854775807) (hpk : pk.length ≤ 9223372036854775807) : PFn Tryz.prog 10 [codeV q ws, .sl (pk.map u8V)] [.bool true] := by
  have e30 := h30 q ws hws
  have e40 := t44 q ws
  unfold codeV at e30 e40
  refine PFn.of_body hΓ Tryz.func10 (by kernel_rfl) rfl (AWp.seq (AWp.of_awpD [] hΓ hmix (by kernel_rfl) ?_))
  simp -implicitDefEqProofs only [Tryz.ntmps10, Tryz.results10, Nat.reduceAdd, Nat.reduceSub, codeV, go_sem]
  obtain ⟨g, hg⟩ : ∃ g, g = (great36 q ws || decide (codeCheck q ws = 0 ∧ ¬ FewS ws q.toNat)) := ⟨_, rfl⟩
  rw [← hg] at e30
  cases g
  rotate_left
  · refine AWp.seq ?_
    refine AWp.of_awpD [] hΓ hmix (by kernel_rfl) ?_
    simp -implicitDefEqProofs only [go_sem]
    refine callK_fn e30 (.still rfl) ?_
    simp -implicitDefEqProofs only [go_sem]
    refine callK_fn awake36 (.pures rfl) ?_
    simp -implicitDefEqProofs only [go_sem]
  by_cases hc : codeCheck q ws = 0
  rotate_left
  · refine AWp.seq ?_
    refine AWp.of_awpD [] hΓ hmix (by kernel_rfl) ?_
    simp -implicitDefEqProofs only [go_sem]
    refine callK_fn e30 (.still rfl) ?_
    simp -implicitDefEqProofs only [go_sem]
    refine callK_fn e40 (.still rfl) ?_
    simp -implicitDefEqProofs only [hc, go_sem]
    refine callK_fn awake36 (.pures rfl) ?_
    simp -implicitDefEqProofs only [go_sem]
  have hg3 := hg.symm
  rw [Bool.or_eq_false_iff, decide_eq_false_iff_not] at hg3
  have hF : FewS ws q.toNat := Classical.byContradiction fun hn => hg3.2 ⟨hc, hn⟩
  have hg := hg3.1
  clear hg3
  rw [hc] at e40
  have hv := valid_of hc
  have h2 := hv.q2
  have h16 := hv.q16
  obtain ⟨p, rfl⟩ : ∃ p : Nat, q = p := ⟨q.toNat, by omega⟩
  rw [Int.toNat_natCast] at hF
  have hg2 := hg
  unfold great36 muchC at hg2
  simp only [Bool.or_eq_false_iff, decide_eq_false_iff_not, Bool.and_eq_false_iff] at hg2
  have hq3 : p ≤ 3 := by have := hg2.2.2; omega
  have hl6 : ws.length ≤ 6 := by have := hg2.2.1; omega
  have hw5 : ∀ w ∈ ws, w.length ≤ 5 := fun w hw => by
    have h1 := List.any_eq_false.1 hg2.1 w hw
    have h3 := (hv.words w hw).2.1
    unfold longW at h1
    simp at h1; omega
  have P := plain_of hv
  have hp : 0 < p := by omega
  have hp16 : p ≤ 16 := by omega
  have hLl := wL_len p pk
  have hLb : ∀ n ∈ wL p pk, 1 ≤ n ∧ n ≤ 9 := fun n hn => wL_mem hn
  have hLs := wL_sum pk p
  obtain ⟨r, A⟩ := seA p hp hp16 ws (-1)
  obtain ⟨is, e55, hUD⟩ := d55 (p : Int) ws hc
  have e38 := c38 p ws hc e55
  have e32 := c32 p ws hc A hF
  have e56 := c56 p (by omega) hq3 pk hpk c57r
  have e53 := c53 p ws (wL p pk) hv hw5 hq3 hLl hLb
  have e57 := c57o
  have hall : r.isSome = false ↔ ∀ v, stN ws p v ≠ [] := by
    constructor
    · intro h v
      cases hr : r with
      | none => exact A.none hr v (by omega)
      | some x => rw [hr] at h; cases h
    · intro h
      cases hr : r with
      | none => rfl
      | some x => exact absurd (A.some x hr).1 (h x)
  have hmost : is = true → decide (Kn.krS p (ws.map List.length) = p ^ 32) = !r.isSome := fun h => by
    rw [Bool.eq_iff_iff, decide_eq_true_iff, krS_one P (hUD h), ← hall]
    cases r.isSome <;> simp
  have hS0 : (wL p pk).sum ≠ 0 := by omega
  have hT : is = true → r.isSome = false → Kn.ratV (Mc.tot (nlW (wL p pk)) (wL p pk).sum 5 ws) ((wL p pk).sum ^ 5) = Kn.ratV 1 1 := fun h h3 => by
    have hs := wL_letters (q := p) (L := wL p pk) (by omega) hLl
    have := weigh_all P (hUD h) (n := nlW (wL p pk)) hw5 (by rw [hs]; omega) (hall.1 h3)
    rw [hs] at this
    rw [this, Kn.low_eq (Nat.ne_of_gt (Nat.pow_pos (Nat.pos_of_ne_zero hS0))) (by decide), Nat.mul_one, Nat.one_mul]
  generalize decide (Kn.krS p (ws.map List.length) = p ^ 32) = mo at *
  generalize Mc.tot (nlW (wL p pk)) (wL p pk).sum 5 ws = T at *
  generalize (wL p pk).sum ^ 5 = V at *
  generalize hso : r.isSome = so at *
  obtain ⟨PL, hPL⟩ : ∃ PL, PL = (wL p pk).map fun n => Kn.ratV n (wL p pk).sum := ⟨_, rfl⟩
  rw [← hPL] at e53 e56
  obtain ⟨yA, yB, hy⟩ : ∃ A B, Kn.ratV T V = .agg [.bool false, .str A, .bool false, .str B] := ⟨_, _, rfl⟩
  obtain ⟨oA, oB, ho⟩ : ∃ A B, Kn.ratV 1 1 = .agg [.bool false, .str A, .bool false, .str B] := ⟨_, _, rfl⟩
  rw [hy] at e53 hT
  rw [ho] at e57 hT
  unfold codeV at e38 e32 e53 e55
  refine AWp.seq (AWp.of_awpD [] hΓ hmix (by kernel_rfl) ?_)
  simp -implicitDefEqProofs only [go_sem]
  refine callK_fn e30 (.still rfl) ?_
  simp -implicitDefEqProofs only [go_sem]
  refine callK_fn e40 (.still rfl) ?_
  simp -implicitDefEqProofs only [go_sem]
  refine AWp.seq (AWp.of_awpD [] hΓ hmix (by kernel_rfl) ?_)
  simp -implicitDefEqProofs only [go_sem]
  refine callK_fn e55 (.still rfl) ?_
  simp -implicitDefEqProofs only [go_sem]
  refine AWp.seq (AWp.of_awpD [] hΓ hmix (by kernel_rfl) ?_)
  simp -implicitDefEqProofs only [go_sem]
  refine callK_fn e38 (.still rfl) ?_
  simp -implicitDefEqProofs only [go_sem]
  refine AWp.seq (AWp.of_awpD [] hΓ hmix (by kernel_rfl) ?_)
  simp -implicitDefEqProofs only [go_sem]
  refine callK_fn e32 (.still rfl) ?_
  simp -implicitDefEqProofs only [go_sem]
  refine AWp.seqM (fun _ : Unit => ⟨mkF 85 [(2, .ptr 0 0), (4, .p (.bool false)), (5, .p (.bool is)), (6, .p (.int .i64 0)), (7, .p (.bool (is && mo))), (8, .p (.int .i64 (if is = true then 0 else 14))), (9, .p (.bool (!so))), (10, .p (.int .i64 0)), (11, .ptr 1 0), (12, .p (.int .i64 0))],
      [.box [.p (.int .i64 p), .p (.sl (ws.map .str))], .box [.p (.bool false), .p (.str yA), .p (.bool false), .p (.str yB)]]⟩)
    (fun _ => True) (AWp.of_awpD [(6, 1000)] hΓ hmix (by kernel_rfl) ?_) ?_
  · simp -implicitDefEqProofs only [go_sem]
    refine AWp.planL (.q 0 (.q 1 (.q 2 (.q 3 (.e 4 (.s 0 (.e 5 (.q 6 (.q 7 (.q 8 (.e 9 (.s 0 (.s 1 (.s 2 (.s 3 (.s 6 (.s 7 (.s 8 (.e 10 (.s 8 (.q 11 .fin)) .nil)))))))) .nil)))) (.e 9 (.s 0 (.s 1 (.s 2 (.s 3 (.e 5 (.q 6 (.q 7 (.q 8 (.e 10 (.s 8 (.q 11 .fin)) .nil)))) .nil))))) .nil))) (.e 9 (.s 0 (.s 1 (.s 2 (.s 3 (.e 4 (.s 0 (.e 5 (.q 6 (.q 7 (.q 8 (.e 10 (.s 8 (.q 11 .fin)) .nil)))) .nil)) .nil))))) .nil)))))) hΓ hmix (by kernel_rfl) ?_
    simp -implicitDefEqProofs only [go_sem]
    refine ⟨?_, ?_⟩
    · refine callK_fn e56 (.pures rfl) ?_
      simp -implicitDefEqProofs only [go_sem]
      refine ⟨?_, ?_⟩
      · refine callK_fn e53 (.still rfl) ?_
        simp -implicitDefEqProofs only [go_sem]
        exact ⟨(), trivial⟩
      · refine callK_fn e53 (.still rfl) ?_
        simp -implicitDefEqProofs only [go_sem]
        exact ⟨(), trivial⟩
    · refine callK_fn e56 (.pures rfl) ?_
      simp -implicitDefEqProofs only [go_sem]
      refine callK_fn e53 (.still rfl) ?_
      simp -implicitDefEqProofs only [go_sem]
      exact ⟨(), trivial⟩
  intro _ _
  refine AWp.seq (AWp.of_awpD [] hΓ hmix (by kernel_rfl) ?_)
  simp -implicitDefEqProofs only [ite_self, go_sem]
  cases is
  · refine AWp.of_awpD [(11, 20)] hΓ hmix (by kernel_rfl) ?_
    simp -implicitDefEqProofs only [Bool.false_and, Bool.false_eq_true, if_false, Bool.not_false, go_sem]
    refine callK_fn awake36 (.pures rfl) ?_
    simp -implicitDefEqProofs only [go_sem]
  have hm := hmost rfl
  have hT := hT rfl
  subst hm
  refine AWp.seq (AWp.of_awpD [] hΓ hmix (by kernel_rfl) ?_)
  simp -implicitDefEqProofs only [go_sem]
  cases so
  · have hT := hT rfl
    injection hT with hT
    simp only [List.cons.injEq, PV.str.injEq] at hT
    have h1 := hT.2.1
    have h3 := hT.2.2.2.1
    subst h1 h3
    refine AWp.of_awpD [(11, 20)] hΓ hmix (by kernel_rfl) ?_
    simp -implicitDefEqProofs only [Bool.true_and, Bool.not_false, if_true, ↓reduceIte, beq_self_eq_true, go_sem]
    refine callVPK_fn e57 (.still rfl) ?_
    simp -implicitDefEqProofs only [go_sem]
    refine aggR rfl rfl ?_
    rw [decide_eq_true rfl, decide_eq_true rfl]
    simp -implicitDefEqProofs only [Bool.and_self, go_sem]
    refine callVPK_fn awake36 (.still rfl) ?_
    simp -implicitDefEqProofs only [go_sem]
  · refine AWp.of_awpD [(11, 20)] hΓ hmix (by kernel_rfl) ?_
    simp -implicitDefEqProofs only [Bool.true_and, Bool.not_true, if_true, ↓reduceIte, beq_self_eq_true, go_sem]
    refine callVPK_fn awake36 (.still rfl) ?_
    simp -implicitDefEqProofs only [go_sem]
end Go.Proofs.YtpljmccnfmkmfaaGreat
end

