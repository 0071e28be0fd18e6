/-
  The program's iterators over rests: what they hand to the loop.
-/
import Derived.Test.YtpancbdaigaheaaGe
import Derived.Test.YtpancbdaigaheaaAm28
namespace Go.Proofs.Ytpancbdaigaheaa
open Go Go.AM
set_option maxRecDepth 100000
set_option linter.unusedSimpArgs false

theorem callK_yc {E : Env} {tm : List AV} {h : List AObj} {KS : St → Prop} {d : Option Nat} {b : Nat} {args : List AV} {ks : List Nat} {R : AV → List AObj → Prop} (hf : YC E.P b args h ks R) (hks : ∀ k ∈ ks, E.n0 ≤ k ∨ k ∈ E.ks)
    (hk : ∀ v h', R v h' → KS ⟨putD (killAll ks tm) d v, h'⟩) : callK E ⟨tm, h⟩ d (.yld b) args KS := ⟨ks, R, hf, hks, hk⟩

theorem weakH_self (h : List AObj) : weakH h h := (Weak.refl ⟨[], h⟩).2

/-- What the loop over firsts is given: the longer word, its rest. -/
def pairAt (x y : List UInt8) : List (List UInt8 × List UInt8) := if x.isPrefixOf y ∧ y.drop x.length ≠ [] then [(y, y.drop x.length)] else []
def pairsK (ws : List (List UInt8)) (i k : Nat) : List (List UInt8 × List UInt8) := (ws.take k).flatMap (pairAt (ws.getD i []))
def pairsN (ws : List (List UInt8)) (i : Nat) : List (List UInt8 × List UInt8) := (List.range i).flatMap fun i => pairsK ws i ws.length
def pairs (ws : List (List UInt8)) : List (List UInt8 × List UInt8) := pairsN ws ws.length

theorem pairsN_succ (ws : List (List UInt8)) (n : Nat) : pairsN ws (n + 1) = pairsN ws n ++ pairsK ws n ws.length := by
  unfold pairsN; rw [List.range_succ, List.flatMap_append]; simp
theorem pairsK_succ {ws : List (List UInt8)} {i k : Nat} (hk : k < ws.length) : pairsK ws i (k + 1) = pairsK ws i k ++ pairAt (ws.getD i []) ws[k] := by
  unfold pairsK; rw [List.take_succ_eq_append_getElem hk, List.flatMap_append]; simp
theorem pairsN_le (ws : List (List UInt8)) : ∀ {n : Nat}, n ≤ ws.length → ∃ l, pairsN ws n ++ l = pairs ws := by
  intro n hn
  induction hd : ws.length - n generalizing n with
  | zero => exact ⟨[], by rw [show n = ws.length by omega]; simp [pairs]⟩
  | succ d ih =>
    obtain ⟨l, hl⟩ := ih (n := n + 1) (by omega) (by omega)
    exact ⟨pairsK ws n ws.length ++ l, by rw [← List.append_assoc, ← pairsN_succ]; exact hl⟩
theorem pairsK_le (ws : List (List UInt8)) (i : Nat) : ∀ {k : Nat}, k ≤ ws.length → ∃ l, pairsK ws i k ++ l = pairsK ws i ws.length := by
  intro k hk
  refine ⟨(ws.drop k).flatMap (pairAt (ws.getD i [])), ?_⟩
  unfold pairsK
  rw [List.take_length, ← List.flatMap_append, List.take_append_drop]

/-- The loop over firsts, whatever is done in it: J says how things lie when some pairs are done, D how they lie when the loop was left. -/
theorem c86 {h : List AObj} {b c : Nat} {ks : List Nat} (hbk : b ∉ ks) (hck : c ∉ ks) (q : Int) (ws : List (List UInt8)) (hws : ws.length ≤ 1000) {J : List (List UInt8 × List UInt8) → List AObj → Prop} {D : List AObj → Prop} (hJ0 : J [] h)
    (hbox : ∀ done h', J done h' → h'[c]? = some (codeB q ws) ∧ h.length ≤ h'.length) (hD : ∀ h', D h' → h.length ≤ h'.length)
    (hround : ∀ done y r h', (∃ l, done ++ (y, r) :: l = pairs ws) → J done h' → YC Try.prog b [.p (.str y), .p (.str r)] h' ks (fun v h'' => (v = .p (.bool true) ∧ J (done ++ [(y, r)]) h'') ∨ (v = .p (.bool false) ∧ D h''))) :
    AC Try.prog 86 [.yld b, .ptr c 0] h ks (fun _ h' => J (pairs ws) h' ∨ D h') := by
  have nb : ∀ {k}, k ∈ ks → b ≠ k := fun h e => hbk (e ▸ h)
  have nc : ∀ {k}, k ∈ ks → c ≠ k := fun h e => hck (e ▸ h)
  refine AC.of_bodyE hΓ Try.func86 (by kernel_rfl) rfl (AWp.mono (Q := fun e st => AM.Ends e ∧ (J (pairs ws) st.h ∨ D st.h)) ?_ ?_)
  rotate_left
  · rintro e st ⟨he, hst⟩
    refine ⟨he, st, Less.refl st, ?_⟩
    refine ⟨st.h.length, hst.elim (fun hj => (hbox _ _ hj).2) (hD _), .inl rfl, ?_⟩
    rw [List.take_length]; exact hst
  refine AWp.of_awpD [] hΓ hmix (by kernel_rfl) ?_
  have hb0 := (hbox _ _ hJ0).1
  simp +contextual -implicitDefEqProofs only [Try.ntmps86, Nat.reduceAdd, Nat.reduceSub, hb0, codeB, go_sem]
  refine AWp.loopI (fun p : Nat × List AObj => ⟨mkF 43 [(0, .yld b), (1, .ptr c 0), (10, .p (.sl (ws.map .str))), (11, .p (.int .i64 ws.length)), (12, .p (.int .i64 p.1))], p.2⟩)
    (fun p => p.1 ≤ ws.length ∧ J (pairsN ws p.1) p.2) (fun p => ws.length - p.1) (0, h) (by simp [go_sem, weakH_self]) ⟨Nat.zero_le _, hJ0⟩ ?_
  rintro ⟨i, h1⟩ ⟨hi, hJ1⟩
  simp only at hi hJ1
  refine AWp.of_awpD [] hΓ hmix (by kernel_rfl) ?_
  have hb1 := (hbox _ _ hJ1).1
  simp +contextual -implicitDefEqProofs only [hb1, getD_map_lt, ↓reduceIte, codeB, go_sem]
  refine ⟨fun hlt => ?_, fun hge => .inl (by rw [show i = ws.length by omega] at hJ1; exact hJ1)⟩
  have hwi : ws.getD i [] = ws[i] := by rw [List.getD_eq_getElem?_getD, List.getElem?_eq_getElem hlt, Option.getD_some]
  refine AWp.loopI (fun p : Nat × List AObj => ⟨mkF 43 [(0, .yld b), (1, .ptr c 0), (4, .p (.str ws[i])), (10, .p (.sl (ws.map .str))), (11, .p (.int .i64 ws.length)), (12, .p (.int .i64 i)),
      (17, .p (.sl (ws.map .str))), (18, .p (.int .i64 ws.length)), (19, .p (.int .i64 p.1))], p.2⟩)
    (fun p => p.1 ≤ ws.length ∧ J (pairsN ws i ++ pairsK ws i p.1) p.2) (fun p => ws.length - p.1) (0, h1) (by simp [go_sem, weakH_self]) ⟨Nat.zero_le _, by simpa [pairsK] using hJ1⟩ ?_
  rintro ⟨k, h2⟩ ⟨hk, hJ2⟩
  simp only at hk hJ2
  refine AWp.of_awpD [] hΓ hmix (by kernel_rfl) ?_
  simp +contextual -implicitDefEqProofs only [getD_map_lt, ↓reduceIte, codeB, go_sem]
  refine ⟨fun hlt2 => ?_, fun hge => ⟨by simp only [InR]; omega, (i + 1, h2), by simp [weakH_self], ⟨hlt, by rw [pairsN_succ, show ws.length = k by omega]; exact hJ2⟩, by simp only; omega⟩⟩
  refine callK_fn (t20 ws[k] ws[i]) (.pures rfl) ?_
  have hs := pairsK_succ (i := i) hlt2
  rw [hwi] at hs
  cases hp : ws[i].isPrefixOf ws[k]
  · simp -implicitDefEqProofs only [go_sem]
    have : pairAt ws[i] ws[k] = [] := by unfold pairAt; rw [if_neg (by simp [hp])]
    rw [this, List.append_nil] at hs
    exact ⟨by simp only [InR]; omega, (k + 1, h2), by simp [weakH_self], ⟨hlt2, by simp only; rw [hs]; exact hJ2⟩, by simp only; omega⟩
  · have hcut : cutW ws[k] ws[i] = ws[k].drop ws[i].length := by unfold cutW; rw [if_pos hp]
    by_cases he : cutW ws[k] ws[i] = []
    · simp -implicitDefEqProofs only [he, go_sem]
      have : pairAt ws[i] ws[k] = [] := by unfold pairAt; rw [if_neg (fun e => e.2 (hcut ▸ he))]
      rw [this, List.append_nil] at hs
      exact ⟨by simp only [InR]; omega, (k + 1, h2), by simp [weakH_self], ⟨hlt2, by simp only; rw [hs]; exact hJ2⟩, by simp only; omega⟩
    · simp -implicitDefEqProofs only [he, go_sem]
      have : pairAt ws[i] ws[k] = [(ws[k], cutW ws[k] ws[i])] := by unfold pairAt; rw [hcut, if_pos ⟨hp, hcut ▸ he⟩]
      rw [this] at hs
      obtain ⟨l1, hl1⟩ := pairsK_le ws i (k := k + 1) hlt2
      obtain ⟨l2, hl2⟩ := pairsN_le ws (n := i + 1) hlt
      have hdone : ∃ l, (pairsN ws i ++ pairsK ws i k) ++ (ws[k], cutW ws[k] ws[i]) :: l = pairs ws := ⟨l1 ++ l2, by
        rw [← hl2, pairsN_succ, ← hl1, hs]; simp⟩
      refine callK_yc (hround _ _ _ _ hdone hJ2) (fun k hk => .inr hk) ?_
      rintro v h' (⟨rfl, hj⟩ | ⟨rfl, hd⟩)
      · rw [killAll_keep (fun k hk => by simp [AV.kill, AV.kill.killL, nb hk, nc hk])]
        simp -implicitDefEqProofs only [go_sem]
        exact ⟨by simp only [InR]; omega, (k + 1, h'), by simp [weakH_self], ⟨hlt2, by simp only; rw [hs, ← List.append_assoc]; exact hj⟩, by simp only; omega⟩
      · rw [killAll_keep (fun k hk => by simp [AV.kill, AV.kill.killL, nb hk, nc hk])]
        simp -implicitDefEqProofs only [go_sem]
        exact .inr hd

/-- What the loop over nexts is given: what follows, and by how much the message grows. -/
def nextP (r x : List UInt8) : List (List UInt8 × Nat) := if x.isPrefixOf r then [(r.drop x.length, 0)] else if r.isPrefixOf x then [(x.drop r.length, (x.drop r.length).length)] else []
def nextsP (ws : List (List UInt8)) (r : List UInt8) : List (List UInt8 × Nat) := ws.flatMap (nextP r)
theorem nextsP_succ {ws : List (List UInt8)} {k : Nat} (r : List UInt8) (hk : k < ws.length) : nextsP (ws.take (k + 1)) r = nextsP (ws.take k) r ++ nextP r ws[k] := by
  rw [List.take_succ_eq_append_getElem hk]; unfold nextsP; rw [List.flatMap_append]; simp
theorem nextsP_le (ws : List (List UInt8)) (r : List UInt8) (k : Nat) : ∃ l, nextsP (ws.take k) r ++ l = nextsP ws r :=
  ⟨nextsP (ws.drop k) r, by unfold nextsP; rw [← List.flatMap_append, List.take_append_drop]⟩

theorem c87 {h : List AObj} {b c d : Nat} {ks : List Nat} (hbk : b ∉ ks) (hck : c ∉ ks) (hdk : d ∉ ks) (q : Int) (ws : List (List UInt8)) (r : List UInt8) (hws : ws.length ≤ 1000) {J : List (List UInt8 × Nat) → List AObj → Prop} {D : List AObj → Prop} (hJ0 : J [] h)
    (hbox : ∀ done h', J done h' → h'[c]? = some (codeB q ws) ∧ h'[d]? = some (.box [.p (.str r)]) ∧ h.length ≤ h'.length) (hD : ∀ h', D h' → h.length ≤ h'.length)
    (hround : ∀ done u n h', (∃ l, done ++ (u, n) :: l = nextsP ws r) → J done h' → YC Try.prog b [.p (.str u), .p (.int .i64 (n : Nat))] h' ks (fun v h'' => (v = .p (.bool true) ∧ J (done ++ [(u, n)]) h'') ∨ (v = .p (.bool false) ∧ D h''))) :
    AC Try.prog 87 [.yld b, .ptr c 0, .ptr d 0] h ks (fun _ h' => J (nextsP ws r) h' ∨ D h') := by
  have nb : ∀ {k}, k ∈ ks → b ≠ k := fun h e => hbk (e ▸ h)
  have nc : ∀ {k}, k ∈ ks → c ≠ k := fun h e => hck (e ▸ h)
  have nd : ∀ {k}, k ∈ ks → d ≠ k := fun h e => hdk (e ▸ h)
  refine AC.of_bodyE hΓ Try.func87 (by kernel_rfl) rfl (AWp.mono (Q := fun e st => AM.Ends e ∧ (J (nextsP ws r) st.h ∨ D st.h)) ?_ ?_)
  rotate_left
  · rintro e st ⟨he, hst⟩
    refine ⟨he, st, Less.refl st, ?_⟩
    refine ⟨st.h.length, hst.elim (fun hj => (hbox _ _ hj).2.2) (hD _), .inl rfl, ?_⟩
    rw [List.take_length]; exact hst
  refine AWp.of_awpD [] hΓ hmix (by kernel_rfl) ?_
  have hb0 := (hbox _ _ hJ0).1
  simp +contextual -implicitDefEqProofs only [Try.ntmps87, Nat.reduceAdd, Nat.reduceSub, hb0, codeB, go_sem]
  refine AWp.loopI (fun p : Nat × List AObj => ⟨mkF 44 [(0, .yld b), (1, .ptr c 0), (2, .ptr d 0), (11, .p (.sl (ws.map .str))), (12, .p (.int .i64 ws.length)), (13, .p (.int .i64 p.1))], p.2⟩)
    (fun p => p.1 ≤ ws.length ∧ J (nextsP (ws.take p.1) r) p.2) (fun p => ws.length - p.1) (0, h) (by simp [go_sem, weakH_self]) ⟨Nat.zero_le _, by simpa [nextsP] using hJ0⟩ ?_
  rintro ⟨k, h2⟩ ⟨hk, hJ2⟩
  simp only at hk hJ2
  refine AWp.of_awpD [] hΓ hmix (by kernel_rfl) ?_
  have hb2 := (hbox _ _ hJ2).2.1
  simp +contextual -implicitDefEqProofs only [hb2, getD_map_lt, ↓reduceIte, codeB, go_sem]
  refine ⟨fun hlt => callK_fn (t20 r ws[k]) (.pures rfl) ?_, fun hge => .inl (by rw [List.take_of_length_le (by omega)] at hJ2; exact hJ2)⟩
  have hs := nextsP_succ r hlt
  obtain ⟨l1, hl1⟩ := nextsP_le ws r (k + 1)
  have fin : ∀ u n, nextP r ws[k] = [(u, n)] → ∃ l, nextsP (ws.take k) r ++ (u, n) :: l = nextsP ws r := fun u n e => ⟨l1, by rw [← hl1, hs, e]; simp⟩
  cases hp : ws[k].isPrefixOf r
  · simp -implicitDefEqProofs only [hb2, go_sem]
    refine callK_fn (t20 ws[k] r) (.pures rfl) ?_
    cases hp2 : r.isPrefixOf ws[k]
    · simp -implicitDefEqProofs only [go_sem]
      have : nextP r ws[k] = [] := by unfold nextP; rw [if_neg (by simp [hp]), if_neg (by simp [hp2])]
      rw [this, List.append_nil] at hs
      exact ⟨by simp only [InR]; omega, (k + 1, h2), by simp [weakH_self], ⟨hlt, by simp only; rw [hs]; exact hJ2⟩, by simp only; omega⟩
    · simp -implicitDefEqProofs only [go_sem]
      have hcut : cutW ws[k] r = ws[k].drop r.length := by unfold cutW; rw [if_pos hp2]
      have he : nextP r ws[k] = [(cutW ws[k] r, (cutW ws[k] r).length)] := by unfold nextP; rw [if_neg (by simp [hp]), if_pos hp2, hcut]
      refine callK_yc (hround _ _ _ _ (fin _ _ he) hJ2) (fun k hk => .inr hk) ?_
      rw [he] at hs
      rintro v h' (⟨rfl, hj⟩ | ⟨rfl, hd⟩)
      · rw [killAll_keep (fun k hk => by simp [AV.kill, AV.kill.killL, nb hk, nc hk, nd hk])]
        simp -implicitDefEqProofs only [go_sem]
        exact ⟨by simp only [InR]; omega, (k + 1, h'), by simp [weakH_self], ⟨hlt, by simp only; rw [hs]; exact hj⟩, by simp only; omega⟩
      · rw [killAll_keep (fun k hk => by simp [AV.kill, AV.kill.killL, nb hk, nc hk, nd hk])]
        simp -implicitDefEqProofs only [go_sem]
        exact .inr hd
  · simp -implicitDefEqProofs only [go_sem]
    have hcut : cutW r ws[k] = r.drop ws[k].length := by unfold cutW; rw [if_pos hp]
    have he : nextP r ws[k] = [(cutW r ws[k], 0)] := by unfold nextP; rw [if_pos hp, hcut]
    refine callK_yc (hround _ _ _ _ (fin _ _ he) hJ2) (fun k hk => .inr hk) ?_
    rw [he] at hs
    rintro v h' (⟨rfl, hj⟩ | ⟨rfl, hd⟩)
    · rw [killAll_keep (fun k hk => by simp [AV.kill, AV.kill.killL, nb hk, nc hk, nd hk])]
      simp -implicitDefEqProofs only [go_sem]
      exact ⟨by simp only [InR]; omega, (k + 1, h'), by simp [weakH_self], ⟨hlt, by simp only; rw [hs]; exact hj⟩, by simp only; omega⟩
    · rw [killAll_keep (fun k hk => by simp [AV.kill, AV.kill.killL, nb hk, nc hk, nd hk])]
      simp -implicitDefEqProofs only [go_sem]
      exact .inr hd
end Go.Proofs.Ytpancbdaigaheaa
