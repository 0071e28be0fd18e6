/-
  Reading: parser.steps, Run and Position.
  parser.Position and parser.Run.
  parser.Run.
  The parser of a prefix code is one; the examples.
  Naturals as lists of digits: values, trimmed lists.
  Kraft's sum of a prefix code, plain: at most 1, and 1 exactly if nothing is missing.
  A prefix code has an automaton exactly if its measure is 1; then every word can be read: plain.
  integer.digits: an integer's digits.
  integer.add: the sum's digits.
  integer.number: the canonical integer of a sign and an absolute value.
  integer.Of and integer.Add of numbers that are not negative.
  integer.compare, subtract, Neg, Sub and Compare.
-/
import Derived.Test.YtoajffhlbogdaaaGreatJ11cf9ecf50e4
import Derived.Test.YtoajffhlbogdaaaGreatJ2633058c3c93
import Derived.Test.YtoajffhlbogdaaaGreatJd8ad1e3bfa01
import Derived.Test.YtoajffhlbogdaaaGreatJ79731265f946

section
namespace Go.Proofs.YtoajffhlbogdaaaGreat
open Go Go.AM
set_option maxRecDepth 100000
set_option linter.unusedSimpArgs false

def digN (b : UInt8) : Nat := (ixB b L16 0).toNat
def stp (N : List (List Int)) (s d : Nat) : Int := (N.getD s []).getD d (-1)
/-- What is read: for each letter what ends, and where it leads. -/
def trail (N E : List (List Int)) : Nat → List UInt8 → List (Int × Nat)
  | _, [] => []
  | s, b :: w => if stp N s (digN b) < 0 then [] else (stp E s (digN b), (stp N s (digN b)).toNat) :: trail N E (stp N s (digN b)).toNat w
def endS (s : Nat) (tr : List (Int × Nat)) : Nat := (tr.getLast?.map (·.2)).getD s
theorem endS_nil (s : Nat) : endS s [] = s := rfl
theorem endS_snoc (s : Nat) (d : List (Int × Nat)) (e : Int) (n : Nat) : endS s (d ++ [(e, n)]) = n := by unfold endS; simp
theorem endS_cons (s : Nat) (e : Int) (n : Nat) (d : List (Int × Nat)) : endS s ((e, n) :: d) = endS n d := by
  unfold endS
  cases d with
  | nil => simp
  | cons x d =>
    rw [List.getLast?_cons_cons]
    cases h : (x :: d).getLast? with
    | none => simp at h
    | some y => rfl
theorem trail_len (N E : List (List Int)) : ∀ (w : List UInt8) (s : Nat), (trail N E s w).length ≤ w.length
  | [], s => by simp [trail]
  | b :: w, s => by
    unfold trail
    split
    · simp
    · have := trail_len N E w (stp N s (digN b)).toNat
      simp only [List.length_cons]; omega
theorem trail_stop {N E : List (List Int)} : ∀ {w : List UInt8} {s i : Nat} (hi : i < w.length), i ≤ (trail N E s w).length → stp N (endS s ((trail N E s w).take i)) (digN w[i]) < 0 → (trail N E s w).length = i
  | b :: w, s, 0, hi, hle, h => by
    rw [List.take_zero, endS_nil] at h
    unfold trail
    rw [if_pos (by simpa using h)]; rfl
  | b :: w, s, i + 1, hi, hle, h => by
    unfold trail at hle h ⊢
    by_cases hn : stp N s (digN b) < 0
    · rw [if_pos hn] at hle; simp at hle
    · rw [if_neg hn] at hle h ⊢
      rw [List.take_succ_cons, endS_cons] at h
      have := trail_stop (w := w) (s := (stp N s (digN b)).toNat) (i := i) (by simpa using hi) (by simpa using hle) (by simpa using h)
      simpa using this
theorem trail_next {N E : List (List Int)} : ∀ {w : List UInt8} {s i : Nat} (hi : i < w.length), i ≤ (trail N E s w).length → ¬ stp N (endS s ((trail N E s w).take i)) (digN w[i]) < 0 →
    ∃ h : i < (trail N E s w).length, (trail N E s w)[i] = (stp E (endS s ((trail N E s w).take i)) (digN w[i]), (stp N (endS s ((trail N E s w).take i)) (digN w[i])).toNat)
  | b :: w, s, 0, hi, hle, h => by
    rw [List.take_zero, endS_nil] at h
    simp only [List.getElem_cons_zero] at h
    have e : trail N E s (b :: w) = (stp E s (digN b), (stp N s (digN b)).toNat) :: trail N E (stp N s (digN b)).toNat w := by
      conv => lhs; unfold trail
      rw [if_neg h]
    refine ⟨by rw [e]; simp, ?_⟩
    simp only [e, List.getElem_cons_zero, List.take_zero, endS_nil]
  | b :: w, s, i + 1, hi, hle, h => by
    by_cases hn : stp N s (digN b) < 0
    · unfold trail at hle; rw [if_pos hn] at hle; simp at hle
    · have e : trail N E s (b :: w) = (stp E s (digN b), (stp N s (digN b)).toNat) :: trail N E (stp N s (digN b)).toNat w := by
        conv => lhs; unfold trail
        rw [if_neg hn]
      rw [e] at hle h
      rw [List.take_succ_cons, endS_cons] at h
      obtain ⟨h1, h2⟩ := trail_next (E := E) (w := w) (s := (stp N s (digN b)).toNat) (i := i) (by simpa using hi) (by simpa using hle) (by simpa using h)
      refine ⟨by rw [e]; simpa using h1, ?_⟩
      simp only [e, List.getElem_cons_succ, List.take_succ_cons, endS_cons]
      exact h2

/-- Tables that fit. -/
structure Tbl (q : Nat) (N E : List (List Int)) : Prop where
  len : N.length = E.length
  rowN : ∀ l ∈ N, l.length = q
  rowE : ∀ l ∈ E, l.length = q
  next : ∀ l ∈ N, ∀ x ∈ l, x < N.length
theorem stp_at {N : List (List Int)} {s d : Nat} (hs : s < N.length) (hd : d < N[s].length) : stp N s d = N[s][d] := by
  unfold stp
  simp [List.getD_eq_getElem?_getD, hs, hd]
theorem endS_lt {q : Nat} {N E : List (List Int)} (hT : Tbl q N E) (hq : 0 < q) : ∀ (w : List UInt8) (s i : Nat), (∀ b ∈ w, digN b < q) → s < N.length → endS s ((trail N E s w).take i) < N.length
  | [], s, i, _, hs => by simp [trail, endS_nil]; exact hs
  | b :: w, s, 0, _, hs => by simp [endS_nil]; exact hs
  | b :: w, s, i + 1, hb, hs => by
    unfold trail
    split
    · simp [endS_nil]; exact hs
    · rename_i hn
      rw [List.take_succ_cons, endS_cons]
      refine endS_lt hT hq w _ i (fun c hc => hb c (by simp [hc])) ?_
      have hbq := hb b (by simp)
      have hrow := hT.rowN _ (List.getElem_mem hs)
      have hd : digN b < N[s].length := by omega
      rw [stp_at hs hd] at hn ⊢
      have := hT.next _ (List.getElem_mem hs) _ (List.getElem_mem hd)
      omega
theorem dig_of {q : Int} {w : List UInt8} (h : okW q w = true) : ∀ b ∈ w, 0 ≤ ixB b L16 0 ∧ ixB b L16 0 < q := fun b hb => by
  have := List.all_eq_true.1 h b hb
  unfold okB at this
  simp only [Bool.and_eq_true, decide_eq_true_eq] at this
  exact this

theorem p88 (b : UInt8) : PFn Tryz.prog 66 [.int .u8 b.toNat] [.int .i64 (ixB b L16 0)] := by
  have e := t101 L16 b.toNat
  have eb : ((b.toNat : Nat) : Int).toNat.toUInt8 = b := by simp
  rw [eb] at e
  refine PFn.of_body hΓ Tryz.func66 (by kernel_rfl) rfl (AWp.of_awpD [] hΓ hmix (by kernel_rfl) ?_)
  simp +contextual -implicitDefEqProofs only [Tryz.ntmps66, Tryz.results66, Nat.reduceAdd, Nat.reduceSub, go_sem]
  refine callK_fn e (.pures rfl) ?_
  simp -implicitDefEqProofs only [go_sem]

def psB (q : Int) (P : List (List UInt8)) (N E : List (List Int)) : AObj := .box [.p (.int .i64 q), .p (.sl (P.map .str)), .p (.sl (N.map slI)), .p (.sl (E.map slI))]

theorem c64 {h : List AObj} (q : Int) (P : List (List UInt8)) (N E : List (List Int)) (s : Int) (w : List UInt8) :
    AC Tryz.prog 38 [.agg [.p (.int .i64 q), .p (.sl (P.map .str)), .p (.sl (N.map slI)), .p (.sl (E.map slI))], .p (.int .i64 s), .p (.str w)] h []
      (fun v h' => v = .fn 65 [.ptr (h.length + 2) 0, .ptr h.length 0, .ptr (h.length + 1) 0] ∧ h' = h ++ [psB q P N E, .box [.p (.int .i64 s)], .box [.p (.str w)]]) := by
  refine AC.of_bodyE hΓ Tryz.func38 (by kernel_rfl) rfl (AWp.mono (Q := fun e st => AM.Ends e ∧ st.tmps.getD 6 .junk = .fn 65 [.ptr (h.length + 2) 0, .ptr h.length 0, .ptr (h.length + 1) 0] ∧ st.h = h ++ [psB q P N E, .box [.p (.int .i64 s)], .box [.p (.str w)]]) ?_ ?_)
  rotate_left
  · rintro e ⟨tm, h'⟩ ⟨he, h1, h2⟩
    simp only at h1 h2
    subst h2
    refine ⟨he, _, Less.refl _, ?_⟩
    unfold DoneE
    simp +contextual -implicitDefEqProofs only [Tryz.results38, h1, go_sem]
    exact ⟨_, by simp, .inl rfl, List.take_length⟩
  refine AWp.of_awpD [] hΓ hmix (by kernel_rfl) ?_
  simp -implicitDefEqProofs only [Tryz.ntmps38, Nat.reduceAdd, Nat.reduceSub, psB, go_sem]
  simp

theorem callK_yc {E : Env} {tm : List AV} {h : List AObj} {KS : St → Prop} {d : Option Nat} {b : Nat} {args : List AV} {ks : List Nat} {R : AV → List AObj → Prop} (hf : YC E.P b args h ks R) (hks : ∀ k ∈ ks, E.n0 ≤ k ∨ k ∈ E.ks)
    (hk : ∀ v h', R v h' → KS ⟨putD (killAll ks tm) d v, h'⟩) : callK E ⟨tm, h⟩ d (.yld b) args KS := ⟨ks, R, hf, hks, hk⟩

theorem c87 {b cw cp cs : Nat} {ks : List Nat} (hbk : b ∉ ks) (hwk : cw ∉ ks) (hpk : cp ∉ ks) (hsk : cs ∉ ks) (qn : Nat) (P : List (List UInt8)) (N E : List (List Int)) (hT : Tbl qn N E) (s0 : Nat) (hs0 : s0 < N.length) (w : List UInt8) (hw : okW qn w = true) (hwl : w.length ≤ 100000)
    (H : List (Int × Nat) → List AObj) (hlen : ∀ d, (H []).length ≤ (H d).length) (hbw : ∀ d, (H d)[cw]? = some (.box [.p (.str w)])) (hbp : ∀ d, (H d)[cp]? = some (psB qn P N E))
    (hbs : ∀ d, (H d)[cs]? = some (.box [.p (.int .i64 (endS s0 d))]))
    (hround : ∀ d e n, (∃ l, d ++ (e, n) :: l = trail N E s0 w) → YC Tryz.prog b [.p (.int .i64 e), .p (.int .i64 (n : Nat))] ((H d).set cs (.box [.p (.int .i64 (n : Nat))])) ks (fun v h' => v = .p (.bool true) ∧ h' = H (d ++ [(e, n)]))) :
    AC Tryz.prog 65 [.yld b, .ptr cw 0, .ptr cp 0, .ptr cs 0] (H []) ks (fun _ h' => h' = H (trail N E s0 w)) := by
  have hq0 : 0 < qn ∨ w = [] := by
    cases w with
    | nil => exact .inr rfl
    | cons c w => have := dig_of hw c (by simp); exact .inl (by omega)
  have hnc : cs ≠ cp := fun e => by
    have h1 := hbs []
    have h2 := hbp []
    rw [e, h2] at h1
    simp [psB] at h1
  have hnw : cs ≠ cw := fun e => by
    have h1 := hbs []
    have h2 := hbw []
    rw [e, h2] at h1
    simp at h1
  have nb : ∀ {k}, k ∈ ks → b ≠ k := fun h e => hbk (e ▸ h)
  have nw : ∀ {k}, k ∈ ks → cw ≠ k := fun h e => hwk (e ▸ h)
  have np : ∀ {k}, k ∈ ks → cp ≠ k := fun h e => hpk (e ▸ h)
  have ns : ∀ {k}, k ∈ ks → cs ≠ k := fun h e => hsk (e ▸ h)
  refine AC.of_bodyE hΓ Tryz.func65 (by kernel_rfl) rfl (AWp.mono (Q := fun e st => AM.Ends e ∧ st.h = H (trail N E s0 w)) ?_ ?_)
  rotate_left
  · rintro e ⟨tm, h'⟩ ⟨he, h2⟩
    simp only at h2
    subst h2
    refine ⟨he, _, Less.refl _, ?_⟩
    unfold DoneE
    simp +contextual -implicitDefEqProofs only [Tryz.results65, go_sem]
    exact ⟨_, hlen _, .inl rfl, List.take_length⟩
  refine AWp.of_awpD [] hΓ hmix (by kernel_rfl) ?_
  simp -implicitDefEqProofs only [Tryz.ntmps65, Nat.reduceAdd, Nat.reduceSub, hbw, go_sem]
  refine AWp.loopI (fun i : Nat => ⟨mkF 48 [(0, .yld b), (1, .ptr cw 0), (2, .ptr cp 0), (3, .ptr cs 0), (9, .p (.int .i64 w.length)), (10, .p (.int .i64 i))], H ((trail N E s0 w).take i)⟩)
    (fun i => i ≤ w.length ∧ i ≤ (trail N E s0 w).length) (fun i => w.length - i) 0 (by simp [go_sem, weakH_self]) (by simp) ?_
  rintro i ⟨hi, hit⟩
  simp -implicitDefEqProofs only [go_sem]
  refine AWp.of_awpD [] hΓ hmix (by kernel_rfl) ?_
  by_cases hlt : i < w.length
  · have hdw := dig_of hw w[i] (List.getElem_mem hlt)
    have hq : 0 < qn := hq0.elim id fun e => by rw [e] at hlt; simp at hlt
    have hgB := hbw ((trail N E s0 w).take i)
    have hgP := hbp ((trail N E s0 w).take i)
    have hgS := hbs ((trail N E s0 w).take i)
    have hsl := endS_lt hT hq w s0 i (fun c hc => by have := dig_of hw c hc; unfold digN; omega) hs0
    have hstop := trail_stop (N := N) (E := E) (s := s0) hlt hit
    have hnext := trail_next (N := N) (E := E) (s := s0) hlt hit
    have e88 := p88 w[i]
    have hwd : w.getD i 0 = w[i] := by rw [List.getD_eq_getElem?_getD, List.getElem?_eq_getElem hlt]; rfl
    rw [show ixB w[i] L16 0 = (digN w[i] : Int) by unfold digN; omega, ← hwd] at e88
    have hdq : digN w[i] < qn := by unfold digN; omega
    simp -implicitDefEqProofs only [hlt, hgB, go_sem]
    refine callK_fn e88 (.pures rfl) ?_
    rw [hwd]
    generalize hs : endS s0 ((trail N E s0 w).take i) = s at *
    generalize digN w[i] = d at *
    have hsE : s < E.length := by have := hT.len; omega
    have hdN : d < N[s].length := by rw [hT.rowN _ (List.getElem_mem hsl)]; exact hdq
    have hdE : d < E[s].length := by rw [hT.rowE _ (List.getElem_mem hsE)]; exact hdq
    rw [stp_at hsl hdN] at hstop hnext
    rw [stp_at hsE hdE] at hnext
    unfold psB at hgP
    by_cases hneg : N[s][d] < 0
    · simp -implicitDefEqProofs only [hgP, hgS, hsl, hdN, getD_map_lt, ↓reduceIte, List.length_map, slI, hneg, go_sem]
      rw [List.take_of_length_le (by rw [hstop hneg]; omega)]
    · obtain ⟨ht1, ht2⟩ := hnext hneg
      have hnx := hT.next _ (List.getElem_mem hsl) _ (List.getElem_mem hdN)
      obtain ⟨n, hn⟩ := Int.eq_ofNat_of_zero_le (show 0 ≤ N[s][d] by omega)
      have hset : ∀ X : AObj, ((H ((trail N E s0 w).take i)).set cs X)[cs]? = some X := fun X => List.getElem?_set_self (List.getElem?_eq_some_iff.1 hgS).1
      rw [hn, Int.toNat_natCast] at ht2
      have hr := hround ((trail N E s0 w).take i) E[s][d] n ⟨(trail N E s0 w).drop (i + 1), by
        rw [← ht2]
        conv => rhs; rw [← List.take_append_drop i (trail N E s0 w)]
        rw [List.drop_eq_getElem_cons ht1]⟩
      simp -implicitDefEqProofs only [hgP, hgS, hsl, hsE, hdN, hdE, getD_map_lt, ↓reduceIte, List.length_map, slI, hneg, hn, hset, show ¬ (n : Int) < 0 by omega, go_sem]
      refine callK_yc hr (fun k hk => .inr hk) ?_
      rintro v h' ⟨rfl, rfl⟩
      rw [killAll_keep (fun k hk => by simp [AV.kill, AV.kill.killL, nb hk, nw hk, np hk, ns hk])]
      simp -implicitDefEqProofs only [go_sem]
      refine ⟨by simp only [InR]; omega, i + 1, ⟨by simp, ?_⟩, ⟨hlt, ht1⟩, by omega⟩
      rw [List.take_succ_eq_append_getElem ht1, ht2]
      exact weakH_refl _
  · have hil : i = w.length := by omega
    have htl := trail_len N E w s0
    have hz : ¬ (i : Int) < w.length := by omega
    simp -implicitDefEqProofs only [hlt, hz, go_sem]
    rw [List.take_of_length_le (by omega)]

theorem p63 (q : Int) (P : List (List UInt8)) (N E : List (List Int)) (w : List UInt8) (hP : P.length ≤ 64) (hPs : ∀ x ∈ P, x.length ≤ 1000) :
    PFn Tryz.prog 37 [psV q P N E, .str w] [.int .i64 (if parCheck q P N E = 0 then wordCheck q w else 1)] := by
  have e18 := p18 q P N E hP hPs
  have e57 := t80 q w
  unfold psV at e18
  by_cases h : parCheck q P N E = 0
  · rw [h] at e18
    rw [if_pos h]
    refine PFn.of_body hΓ Tryz.func37 (by kernel_rfl) rfl (AWp.of_awpD [] hΓ hmix (by kernel_rfl) ?_)
    simp -implicitDefEqProofs only [Tryz.ntmps37, Tryz.results37, Nat.reduceAdd, Nat.reduceSub, psV, go_sem]
    refine callK_fn e18 (.still rfl) ?_
    simp -implicitDefEqProofs only [go_sem]
    refine ⟨by omega, callK_fn e57 (.pures rfl) ?_⟩
    simp -implicitDefEqProofs only [go_sem]
  · rw [if_neg h]
    refine PFn.of_body hΓ Tryz.func37 (by kernel_rfl) rfl (AWp.of_awpD [] hΓ hmix (by kernel_rfl) ?_)
    simp -implicitDefEqProofs only [Tryz.ntmps37, Tryz.results37, Nat.reduceAdd, Nat.reduceSub, psV, go_sem]
    refine callK_fn e18 (.still rfl) ?_
    simp -implicitDefEqProofs only [h, go_sem]
end Go.Proofs.YtoajffhlbogdaaaGreat
end

section
namespace Go.Proofs.YtoajffhlbogdaaaGreat
open Go Go.AM
set_option maxRecDepth 100000
set_option linter.unusedSimpArgs false

theorem IsPar.tbl {q : Int} {P : List (List UInt8)} {N E : List (List Int)} (h : IsPar q P N E) : Tbl q.toNat N E ∧ 0 < N.length := by
  have hf := h.facts
  obtain ⟨h1, h2, h3, h4, h5⟩ := h
  have hv := valid_of h1
  have hq2 := hv.q2
  have hNr := (nxP_len hv).2
  have hEr := (emP_len hv).2
  have hnl : 0 < N.length := by
    rw [← hf.2.2.1, ← h3]
    have hp := hv.pos
    have : ([] : List UInt8) ∈ prefs (codeP P E) := mem_prefs.2 ⟨_, List.getElem_mem hp, List.nil_prefix, List.length_pos_iff.2 (hv.words _ (List.getElem_mem hp)).1⟩
    exact List.length_pos_of_mem this
  refine ⟨⟨by omega, fun l hl => hNr l (by rw [h4]; exact hl), fun l hl => hEr l (by rw [h5]; exact hl), fun l hl x hx => ?_⟩, hnl⟩
  rw [← h4] at hl
  obtain ⟨y, _, rfl⟩ := List.mem_map.1 hl
  unfold nxL at hx
  obtain ⟨a, _, rfl⟩ := List.mem_map.1 hx
  unfold nextN
  split
  · omega
  · rw [h3]
    have := ixW_lt P (stepW y a)
    omega

def posE (q : Int) (P : List (List UInt8)) (N E : List (List Int)) (w : List UInt8) : Int := if parCheck q P N E = 0 then wordCheck q w else 1

theorem p31 (q : Int) (P : List (List UInt8)) (N E : List (List Int)) (w : List UInt8) (hP : P.length ≤ 64) (hPs : ∀ x ∈ P, x.length ≤ 1000) :
    PFn Tryz.prog 15 [psV q P N E, .str w] [.int .i64 (if posE q P N E w = 0 then (trail N E 0 w).length else 0), .int .i64 (posE q P N E w)] := by
  have e63 := p63 q P N E w hP hPs
  change PFn Tryz.prog 37 _ [.int .i64 (posE q P N E w)] at e63
  by_cases h : posE q P N E w = 0
  rotate_left
  · rw [if_neg h]
    generalize posE q P N E w = ee at *
    refine PFn.of_body hΓ Tryz.func15 (by kernel_rfl) rfl (AWp.of_awpD [] hΓ hmix (by kernel_rfl) ?_)
    simp -implicitDefEqProofs only [Tryz.ntmps15, Tryz.results15, Nat.reduceAdd, Nat.reduceSub, psV, go_sem]
    unfold psV at e63
    refine callK_fn e63 (.still rfl) ?_
    simp -implicitDefEqProofs only [h, go_sem]
  have hI : IsPar q P N E := by
    unfold posE parCheck at h
    by_cases hI : IsPar q P N E
    · exact hI
    · rw [if_neg hI, if_neg (by decide)] at h; cases h
  have hwc : wordCheck q w = 0 := by
    unfold posE parCheck at h
    rw [if_pos hI, if_pos rfl] at h; exact h
  obtain ⟨hT, hN0⟩ := hI.tbl
  have hf := hI.facts
  rw [h, if_pos rfl]
  rw [h] at e63
  obtain ⟨qn, rfl⟩ := Int.eq_ofNat_of_zero_le (show 0 ≤ q by omega)
  rw [Int.toNat_natCast] at hT
  have hokw : okW qn w = true ∧ w.length ≤ 65536 := by
    unfold wordCheck at hwc
    rw [if_neg (by omega)] at hwc
    split at hwc
    · cases hwc
    · split at hwc
      · rename_i h; exact ⟨h, by omega⟩
      · cases hwc
  refine PFn.of_body hΓ Tryz.func15 (by kernel_rfl) rfl (AWp.seq (AWp.of_awpD [] hΓ hmix (by kernel_rfl) ?_))
  simp -implicitDefEqProofs only [Tryz.ntmps15, Tryz.results15, Nat.reduceAdd, Nat.reduceSub, psV, go_sem]
  refine AWp.seq (AWp.of_awpD [] hΓ hmix (by kernel_rfl) ?_)
  simp -implicitDefEqProofs only [go_sem]
  unfold psV at e63
  refine callK_fn e63 (.still rfl) ?_
  simp -implicitDefEqProofs only [go_sem]
  refine AWp.seq (AWp.of_awpD [] hΓ hmix (by kernel_rfl) ?_)
  simp -implicitDefEqProofs only [go_sem]
  refine AWp.seq (AWp.seq (AWp.of_awpD [] hΓ hmix (by kernel_rfl) ?_))
  simp -implicitDefEqProofs only [go_sem]
  refine callK_ac (c64 qn P N E 0 w) (by simp) ?_
  rintro v h' ⟨rfl, rfl⟩
  simp -implicitDefEqProofs only [killAll, List.foldl, psB, go_sem]
  refine AWp.block ?_
  refine AWp.weak (st' := ⟨mkF 22 [(2, .ptr 0 0), (7, .ptr 1 0), (16, .fn 65 [.ptr 4 0, .ptr 2 0, .ptr 3 0])], [psB qn P N E, .box [.p (.int .i64 (0 : Nat))], psB qn P N E, .box [.p (.int .i64 (0 : Nat))], .box [.p (.str w)]]⟩) (by simp [go_sem, psB]) ?_
  rw [show (#[17, 18] : Array Nat) = [17, 18].toArray from rfl]
  refine AWp.rangeFunc (ks := []) (R := fun _ h' => h' = [psB qn P N E, .box [.p (.int .i64 ((trail N E 0 w).length : Nat))], psB qn P N E, .box [.p (.int .i64 (endS 0 (trail N E 0 w) : Nat))], .box [.p (.str w)], .lp _ _ _ _ _]) rfl
    (c87 (by simp) (by simp) (by simp) (by simp) qn P N E hT 0 hN0 w hokw.1 (by omega) (fun d => [psB qn P N E, .box [.p (.int .i64 (d.length : Nat))], psB qn P N E, .box [.p (.int .i64 (endS 0 d : Nat))], .box [.p (.str w)], .lp _ _ _ _ _]) (fun d => by simp) (fun d => rfl) (fun d => rfl) (fun d => rfl) ?_) (by simp) (by simp) ?_
  · intro d e n hd
    have hdl : d.length < (trail N E 0 w).length := by
      obtain ⟨l, hl⟩ := hd
      rw [← hl]; simp
    have htl := trail_len N E w 0
    simp -implicitDefEqProofs only [List.set_cons_zero, List.set_cons_succ, go_sem]
    refine YC.of_body (Γ := Γ) rfl rfl (by simp) ?_
    intro rr
    refine AWp.of_awpD [] hΓ hmix (by kernel_rfl) ?_
    simp -implicitDefEqProofs only [setP, go_sem]
    unfold BeginE
    refine ⟨rfl, ?_⟩
    simp -implicitDefEqProofs only [go_sem]
    refine AWp.of_awpD [] hΓ hmix (by kernel_rfl) ?_
    simp -implicitDefEqProofs only [go_sem]
    refine ⟨by simp only [InR]; omega, ?_⟩
    unfold RoundE
    simp -implicitDefEqProofs only [go_sem]
    refine ⟨_, ?_, .inl rfl, ?_⟩
    rotate_left
    · rw [List.take_length]
      simp [endS_snoc]
    · simp
  · rintro v h' rfl
    unfold RangeK
    simp -implicitDefEqProofs only [killAll, List.foldl, go_sem]
    refine AWp.of_awpD [] hΓ hmix (by kernel_rfl) ?_
    simp -implicitDefEqProofs only [go_sem]
end Go.Proofs.YtoajffhlbogdaaaGreat
end

section
namespace Go.Proofs.YtoajffhlbogdaaaGreat
open Go Go.AM
set_option maxRecDepth 100000
set_option linter.unusedSimpArgs false

def outs (d : List (Int × Nat)) : List Int := (d.map (·.1)).filter fun e => decide (0 ≤ e)
theorem outs_yes {d : List (Int × Nat)} {e : Int} (n : Nat) (h : 0 ≤ e) : outs (d ++ [(e, n)]) = outs d ++ [e] := by unfold outs; simp [h]
theorem outs_no {d : List (Int × Nat)} {e : Int} (n : Nat) (h : ¬ 0 ≤ e) : outs (d ++ [(e, n)]) = outs d := by unfold outs; simp [h]
theorem outs_len (d : List (Int × Nat)) : (outs d).length ≤ d.length := by
  unfold outs
  refine Nat.le_trans (List.length_filter_le _ _) (by simp)

def runE' (q : Int) (P : List (List UInt8)) (N E : List (List Int)) (s : Int) (w : List UInt8) : Int :=
  if posE q P N E w = 0 then (if s < 0 ∨ (P.length : Int) ≤ s then 25 else if (trail N E s.toNat w).length < w.length then 13 else 0) else posE q P N E w
def runL (q : Int) (P : List (List UInt8)) (N E : List (List Int)) (s : Int) (w : List UInt8) : List Int := if runE' q P N E s w = 0 then outs (trail N E s.toNat w) else []
def runS (q : Int) (P : List (List UInt8)) (N E : List (List Int)) (s : Int) (w : List UInt8) : Int := if runE' q P N E s w = 0 then (endS s.toNat (trail N E s.toNat w) : Nat) else 0

theorem pos_facts {q : Int} {P : List (List UInt8)} {N E : List (List Int)} {w : List UInt8} (h : posE q P N E w = 0) : IsPar q P N E ∧ okW q w = true ∧ w.length ≤ 65536 := by
  have hI : IsPar q P N E := by
    unfold posE parCheck at h
    by_cases hI : IsPar q P N E
    · exact hI
    · rw [if_neg hI, if_neg (by decide)] at h; cases h
  have hwc : wordCheck q w = 0 := by
    unfold posE parCheck at h
    rw [if_pos hI, if_pos rfl] at h; exact h
  have hf := hI.facts
  refine ⟨hI, ?_⟩
  unfold wordCheck at hwc
  rw [if_neg (by omega)] at hwc
  split at hwc
  · cases hwc
  · split at hwc
    · rename_i h; exact ⟨h, by omega⟩
    · cases hwc

/-- Memory while a word is read. -/
def rnH (qn : Nat) (P : List (List UInt8)) (N E : List (List Int)) (w : List UInt8) (sn : Nat) (rec : AObj) (d : List (Int × Nat)) : List AObj :=
  [psB qn P N E, .box [.p (.int .i64 (endS sn d : Nat))], .box [.own 3 (outs d).length], .row 3 1 ((outs d).map (.int .i64)) (pk (outs d)), .box [.p (.int .i64 (d.length : Nat))], psB qn P N E, .box [.p (.int .i64 (endS sn d : Nat))], .box [.p (.str w)], rec]

theorem p29 (q : Int) (P : List (List UInt8)) (N E : List (List Int)) (s : Int) (w : List UInt8) (hP : P.length ≤ 64) (hPs : ∀ x ∈ P, x.length ≤ 1000) :
    PFn Tryz.prog 23 [psV q P N E, .int .i64 s, .str w] [slI (runL q P N E s w), .int .i64 (runS q P N E s w), .int .i64 (runE' q P N E s w)] := by
  have e63 := p63 q P N E w hP hPs
  change PFn Tryz.prog 37 _ [.int .i64 (posE q P N E w)] at e63
  by_cases h : posE q P N E w = 0
  rotate_left
  · have e0 : runE' q P N E s w = posE q P N E w := by unfold runE'; rw [if_neg h]
    have e1 : runL q P N E s w = [] := by unfold runL; rw [e0, if_neg h]
    have e2 : runS q P N E s w = 0 := by unfold runS; rw [e0, if_neg h]
    rw [e0, e1, e2]
    generalize posE q P N E w = ee at *
    refine PFn.of_body hΓ Tryz.func23 (by kernel_rfl) rfl (AWp.of_awpD [(16, 5)] hΓ hmix (by kernel_rfl) ?_)
    simp -implicitDefEqProofs only [Tryz.ntmps23, Tryz.results23, Nat.reduceAdd, Nat.reduceSub, psV, go_sem]
    unfold psV at e63
    refine callK_fn e63 (.still rfl) ?_
    simp -implicitDefEqProofs only [h, slI, List.map_nil, go_sem]
  obtain ⟨hI, hokw, hwl⟩ := pos_facts h
  obtain ⟨hT, hN0⟩ := hI.tbl
  have hf := hI.facts
  rw [h] at e63
  by_cases hs : s < 0 ∨ (P.length : Int) ≤ s
  · have e0 : runE' q P N E s w = 25 := by unfold runE'; rw [if_pos h, if_pos hs]
    have e1 : runL q P N E s w = [] := by unfold runL; rw [e0, if_neg (by decide)]
    have e2 : runS q P N E s w = 0 := by unfold runS; rw [e0, if_neg (by decide)]
    rw [e0, e1, e2]
    unfold psV at e63
    refine PFn.of_body hΓ Tryz.func23 (by kernel_rfl) rfl (AWp.of_awpD [(16, 5)] hΓ hmix (by kernel_rfl) ?_)
    by_cases hs1 : s < 0
    · simp -implicitDefEqProofs only [Tryz.ntmps23, Tryz.results23, Nat.reduceAdd, Nat.reduceSub, psV, go_sem]
      refine callK_fn e63 (.still rfl) ?_
      simp -implicitDefEqProofs only [hs1, slI, List.map_nil, go_sem]
    · have hs2 : (P.length : Int) ≤ s := hs.resolve_left hs1
      simp -implicitDefEqProofs only [Tryz.ntmps23, Tryz.results23, Nat.reduceAdd, Nat.reduceSub, psV, go_sem]
      refine callK_fn e63 (.still rfl) ?_
      simp -implicitDefEqProofs only [hs1, hs2, slI, List.map_nil, List.length_map, go_sem]
  have hs1 : ¬ s < 0 := fun e => hs (.inl e)
  have hs2 : ¬ (P.length : Int) ≤ s := fun e => hs (.inr e)
  obtain ⟨sn, rfl⟩ := Int.eq_ofNat_of_zero_le (show 0 ≤ s by omega)
  obtain ⟨qn, rfl⟩ := Int.eq_ofNat_of_zero_le (show 0 ≤ q by omega)
  rw [Int.toNat_natCast] at hT
  have hsN : sn < N.length := by have := hf.2.2.1; omega
  have e0 : runE' qn P N E sn w = if (trail N E sn w).length < w.length then 13 else 0 := by unfold runE'; rw [if_pos h, if_neg hs, Int.toNat_natCast]
  unfold runL runS
  rw [e0, Int.toNat_natCast]
  refine PFn.of_body hΓ Tryz.func23 (by kernel_rfl) rfl (AWp.seq (AWp.of_awpD [] hΓ hmix (by kernel_rfl) ?_))
  simp -implicitDefEqProofs only [Tryz.ntmps23, Tryz.results23, Nat.reduceAdd, Nat.reduceSub, psV, go_sem]
  refine AWp.seq (AWp.of_awpD [] hΓ hmix (by kernel_rfl) ?_)
  simp -implicitDefEqProofs only [go_sem]
  unfold psV at e63
  refine callK_fn e63 (.still rfl) ?_
  simp -implicitDefEqProofs only [go_sem]
  refine AWp.seq (AWp.seq (AWp.of_awpD [] hΓ hmix (by kernel_rfl) ?_))
  simp -implicitDefEqProofs only [hs1, hs2, List.length_map, go_sem]
  refine AWp.of_awpD [] hΓ hmix (by kernel_rfl) ?_
  simp -implicitDefEqProofs only [go_sem]
  refine AWp.seq (AWp.of_awpD [] hΓ hmix (by kernel_rfl) ?_)
  simp -implicitDefEqProofs only [go_sem]
  refine AWp.adoptCell (l := []) 2 0 3 1 rfl rfl (by simp) ?_
  simp -implicitDefEqProofs only [List.set_cons_zero, List.set_cons_succ, go_sem]
  refine AWp.seq (AWp.of_awpD [] hΓ hmix (by kernel_rfl) ?_)
  simp -implicitDefEqProofs only [go_sem]
  refine AWp.seq (AWp.seq (AWp.of_awpD [] hΓ hmix (by kernel_rfl) ?_))
  simp -implicitDefEqProofs only [go_sem]
  refine callK_ac (c64 qn P N E sn w) (by simp) ?_
  rintro v h' ⟨rfl, rfl⟩
  simp -implicitDefEqProofs only [killAll, List.foldl, psB, go_sem]
  refine AWp.block ?_
  refine AWp.weak (st' := ⟨mkF 50 [(2, .p (.str w)), (3, .ptr 0 0), (4, .ptr 1 0), (10, .ptr 2 0), (11, .ptr 4 0), (32, .fn 65 [.ptr 7 0, .ptr 5 0, .ptr 6 0])], [psB qn P N E, .box [.p (.int .i64 (sn : Nat))], .box [.own 3 0], .row 3 1 [] .lax, .box [.p (.int .i64 (0 : Nat))], psB qn P N E, .box [.p (.int .i64 (sn : Nat))], .box [.p (.str w)]]⟩) (by simp [go_sem, psB]) ?_
  rw [show (#[33, 34] : Array Nat) = [33, 34].toArray from rfl]
  refine AWp.rangeFunc (ks := [3]) (R := fun _ h' => h' = rnH qn P N E w sn (.lp _ _ _ _ _) (trail N E sn w)) rfl
    (c87 (by simp) (by simp) (by simp) (by simp) qn P N E hT sn hsN w hokw (by omega) (rnH qn P N E w sn (.lp _ _ _ _ _)) (fun d => by simp [rnH]) (fun d => rfl) (fun d => rfl) (fun d => rfl) ?_) (by simp) (by simp) ?_
  · intro d e n hd
    have hdl : d.length < (trail N E sn w).length := by
      obtain ⟨l, hl⟩ := hd
      rw [← hl]; simp
    have htl := trail_len N E w sn
    have hol := outs_len d
    unfold rnH
    simp -implicitDefEqProofs only [List.set_cons_zero, List.set_cons_succ, go_sem]
    refine YC.of_body (Γ := Γ) rfl rfl (by simp) ?_
    intro rr
    refine AWp.of_awpD [] hΓ hmix (by kernel_rfl) ?_
    simp -implicitDefEqProofs only [setP, go_sem]
    unfold BeginE
    refine ⟨rfl, ?_⟩
    simp -implicitDefEqProofs only [go_sem]
    refine AWp.of_awpD [] hΓ hmix (by kernel_rfl) ?_
    by_cases hp : 0 ≤ e
    · simp -implicitDefEqProofs only [hp, go_sem]
      have hs1 : sizeOK [PV.int .i64 e] 1 := by simp [sizeOK, PV.cells]
      have ho1 : oneOK [PV.int .i64 e] := by simp [oneOK, PV.cells, PV.isAgg]
      refine ⟨⟨hs1, by omega⟩, ⟨hs1, ho1⟩, ⟨pk_raw _, .inr (by simp), by omega, by omega⟩, by simp only [InR]; omega, ?_⟩
      unfold RoundE
      simp -implicitDefEqProofs only [killAll, List.foldl, AObj.kill, AV.kill, AV.kill.killL, go_sem]
      refine ⟨_, ?_, .inl rfl, ?_⟩
      rotate_left
      · rw [List.take_length]
        rw [outs_yes n hp, endS_snoc, pk_snoc]
        simp [psB, AV.kill]
      · simp
    · simp -implicitDefEqProofs only [hp, go_sem]
      refine ⟨by simp only [InR]; omega, ?_⟩
      unfold RoundE
      simp -implicitDefEqProofs only [go_sem]
      refine ⟨_, ?_, .inl rfl, ?_⟩
      rotate_left
      · rw [List.take_length]
        rw [outs_no n hp, endS_snoc]
        simp
      · simp
  · rintro v h' rfl
    unfold RangeK rnH
    simp -implicitDefEqProofs only [killAll, List.foldl, go_sem]
    refine AWp.freeze 3 rfl ?_
    simp -implicitDefEqProofs only [Frozen, AV.thaw, AObj.thaw, AV.thaw.thawL, List.map_cons, List.map_nil, List.set_cons_zero, List.set_cons_succ, go_sem]
    have htl := trail_len N E w sn
    refine AWp.of_awpD [(16, 5)] hΓ hmix (by kernel_rfl) ?_
    by_cases hfin : (trail N E sn w).length < w.length
    · have hfin' : ((trail N E sn w).length : Int) < w.length := by omega
      rw [if_pos hfin]
      simp -implicitDefEqProofs only [hfin, hfin', slI, go_sem]
      exact ⟨rfl, rfl⟩
    · rw [if_neg hfin]
      simp -implicitDefEqProofs only [hfin, slI, go_sem]
end Go.Proofs.YtoajffhlbogdaaaGreat
end

section
namespace Go.Proofs.YtoajffhlbogdaaaGreat
open Go Go.AM
set_option maxRecDepth 100000
set_option linter.unusedSimpArgs false

theorem ixB_hit (c : UInt8) : ∀ (l : List UInt8) (n : Nat), 0 ≤ ixB c l n → ∃ k : Nat, ixB c l n = ((n + k : Nat) : Int) ∧ l.getD k 0 = c
  | [], n, h => by simp [ixB] at h
  | a :: l, n, h => by
    unfold ixB at h ⊢
    split at h
    · rename_i hb
      refine ⟨0, rfl, ?_⟩
      have := Nat.eq_of_beq_eq_true hb
      simp only [List.getD_cons_zero]
      exact UInt8.toNat_inj.1 this
    · obtain ⟨k, h1, h2⟩ := ixB_hit c l (n + 1) h
      exact ⟨k + 1, by rw [h1]; congr 1; omega, by simpa using h2⟩
theorem Valid.strict {q : Int} {ws : List (List UInt8)} (hv : Valid q ws) : ws.Pairwise ltW := List.pairwise_iff_getElem.2 fun i j hi hj hij => by
  have := hv.lt i j hij hj
  rwa [List.getD_eq_getElem?_getD, List.getElem?_eq_getElem hi, Option.getD_some, List.getD_eq_getElem?_getD, List.getElem?_eq_getElem hj, Option.getD_some] at this

theorem word_ok {q : Int} {w : List UInt8} (hw : wordCheck q w = 0) : okW q w = true ∧ w.length ≤ 65536 := by
  unfold wordCheck at hw
  split at hw
  · cases hw
  · split at hw
    · cases hw
    · split at hw
      · rename_i h; exact ⟨h, by omega⟩
      · cases hw
/-- The last letter of a word, and the state before it. -/
theorem split_last {q : Int} {ws : List (List UInt8)} (hv : Valid q ws) {w : List UInt8} (hw : w ∈ ws) : ∃ (x : List UInt8) (a : Nat), x ∈ prefs ws ∧ (a : Int) < q ∧ w = stepW x a := by
  obtain ⟨hne, _, hwc⟩ := hv.words w hw
  obtain ⟨h1, _⟩ := word_ok hwc
  have hd := dig_of h1 (w.getLast hne) (List.getLast_mem hne)
  refine ⟨w.dropLast, digN (w.getLast hne), mem_prefs.2 ⟨w, hw, List.dropLast_prefix w, by rw [List.length_dropLast]; have := List.length_pos_iff.2 hne; omega⟩, by unfold digN; omega, ?_⟩
  obtain ⟨k, h2, h3⟩ := ixB_hit (w.getLast hne) L16 0 hd.1
  unfold stepW digN
  rw [h2, show ((0 + k : Nat) : Int).toNat = k by omega, h3, List.dropLast_concat_getLast]

theorem codeP_par {q : Int} {ws : List (List UInt8)} (hv : Valid q ws) : codeP (prefs ws) (emP q ws) = ws := by
  have hq16 := hv.q16
  unfold codeP
  rw [emP_length, Nat.min_self]
  refine made_of hv.strict fun x => ?_
  have key : ∀ s (hs : s < (prefs ws).length), (emP q ws).getD s [] = emL q.toNat ws (prefs ws)[s] := fun s hs => by
    unfold emP
    simp [List.getD_eq_getElem?_getD, hs]
  unfold emW
  constructor
  · intro hx
    obtain ⟨s, hs, hx⟩ := List.mem_flatMap.1 hx
    have hs' := List.mem_range.1 hs
    obtain ⟨a, ha, rfl, hge⟩ := rowW_all x hx
    rw [key s hs'] at hge ha
    rw [List.getD_eq_getElem?_getD, List.getElem?_eq_getElem hs', Option.getD_some]
    have hlen : (emL q.toNat ws (prefs ws)[s]).length = q.toNat := by simp [emL]
    have haq : a < q.toNat := by omega
    have : (emL q.toNat ws (prefs ws)[s]).getD a 0 = ixW ws (stepW (prefs ws)[s] a) := by
      unfold emL; simp [List.getD_eq_getElem?_getD, haq]
    rw [this] at hge
    exact ixW_ge.1 hge
  · intro hx
    obtain ⟨y, a, hy, ha, rfl⟩ := split_last hv hx
    obtain ⟨s, hs, rfl⟩ := List.getElem_of_mem hy
    refine List.mem_flatMap.2 ⟨s, List.mem_range.2 hs, ?_⟩
    rw [key s hs, List.getD_eq_getElem?_getD, List.getElem?_eq_getElem hs, Option.getD_some]
    unfold rowW
    have hlen : (emL q.toNat ws (prefs ws)[s]).length = q.toNat := by simp [emL]
    have haq : a < q.toNat := by omega
    refine List.mem_map.2 ⟨a, List.mem_filter.2 ⟨List.mem_range.2 (by omega), ?_⟩, rfl⟩
    have : (emL q.toNat ws (prefs ws)[s]).getD a 0 = ixW ws (stepW (prefs ws)[s] a) := by
      unfold emL; simp [List.getD_eq_getElem?_getD, haq]
    rw [this]
    exact decide_eq_true (ixW_ge.2 hx)

theorem isPar_of {q : Int} {ws : List (List UInt8)} (hc : codeCheck q ws = 0) (hp : preB ws = true) : IsPar q (prefs ws) (nxP q ws) (emP q ws) := by
  have h := codeP_par (valid_of hc)
  unfold IsPar
  rw [h]
  exact ⟨hc, hp, rfl, rfl, rfl⟩

/-! ### The examples -/
def exC : List (List UInt8) := [[48], [49, 48], [49, 49]]
def exD : List (List UInt8) := [[48], [49, 48]]
theorem prefs_exC : prefs exC = [[], [49]] := made_of (by unfold ltW; decide) fun x => by
  have : propers exC = [[], [], [49], [], [49]] := by decide
  rw [this]
  simp only [List.mem_cons, List.not_mem_nil, or_false]
  exact ⟨fun h => by rcases h with h | h | h | h | h <;> simp [h], fun h => by rcases h with h | h <;> simp [h]⟩
theorem prefs_exD : prefs exD = [[], [49]] := made_of (by unfold ltW; decide) fun x => by
  have : propers exD = [[], [], [49]] := by decide
  rw [this]
  simp only [List.mem_cons, List.not_mem_nil, or_false]
  exact ⟨fun h => by rcases h with h | h | h <;> simp [h], fun h => by rcases h with h | h <;> simp [h]⟩
theorem nx_exC : nxP 2 exC = [[0, 1], [0, 0]] := by unfold nxP; rw [prefs_exC]; kernel_rfl
theorem em_exC : emP 2 exC = [[0, -1], [1, 2]] := by unfold emP; rw [prefs_exC]; kernel_rfl
theorem nx_exD : nxP 2 exD = [[0, 1], [0, -1]] := by unfold nxP; rw [prefs_exD]; kernel_rfl
theorem em_exD : emP 2 exD = [[0, -1], [1, -1]] := by unfold emP; rw [prefs_exD]; kernel_rfl
theorem ck_exC : codeCheck 2 exC = 0 := by kernel_rfl
theorem ck_exD : codeCheck 2 exD = 0 := by kernel_rfl
theorem pre_exC : preB exC = true := by kernel_rfl
theorem pre_exD : preB exD = true := by kernel_rfl
def pvC : PV := psV 2 [[], [49]] [[0, 1], [0, 0]] [[0, -1], [1, 2]]
def pvD : PV := psV 2 [[], [49]] [[0, 1], [0, -1]] [[0, -1], [1, -1]]
theorem b_exC : PFn Tryz.prog 14 [codeV 2 exC] [pvC, .int .i64 0] := by
  have h := p12 2 exC
  unfold pR pE parV at h
  rw [if_pos ⟨ck_exC, pre_exC⟩, if_pos ck_exC, if_pos pre_exC, prefs_exC, nx_exC, em_exC] at h
  exact h
theorem b_exD : PFn Tryz.prog 14 [codeV 2 exD] [pvD, .int .i64 0] := by
  have h := p12 2 exD
  unfold pR pE parV at h
  rw [if_pos ⟨ck_exD, pre_exD⟩, if_pos ck_exD, if_pos pre_exD, prefs_exD, nx_exD, em_exD] at h
  exact h
theorem ip_exC : IsPar 2 [[], [49]] [[0, 1], [0, 0]] [[0, -1], [1, 2]] := by
  have h := isPar_of ck_exC pre_exC
  rwa [prefs_exC, nx_exC, em_exC] at h
theorem ip_exD : IsPar 2 [[], [49]] [[0, 1], [0, -1]] [[0, -1], [1, -1]] := by
  have h := isPar_of ck_exD pre_exD
  rwa [prefs_exD, nx_exD, em_exD] at h
theorem a_exC : PFn Tryz.prog 8 [codeV 2 exC] [auV 2 [[0, 1], [0, 0]], .int .i64 0] := by
  have h := p14 2 exC
  have hh : holeB 2 exC = false := by unfold holeB; rw [nx_exC]; decide
  unfold aR aE at h
  rw [if_pos ⟨ck_exC, pre_exC, hh⟩, if_pos ⟨ck_exC, pre_exC⟩, if_neg (by rw [hh]; simp), nx_exC] at h
  exact h
theorem r_exC : PFn Tryz.prog 23 [pvC, .int .i64 0, .str [48, 49, 48, 49, 49]] [slI [0, 1, 2], .int .i64 0, .int .i64 0] := by
  have h := p29 2 [[], [49]] [[0, 1], [0, 0]] [[0, -1], [1, 2]] 0 [48, 49, 48, 49, 49] (by decide) (by decide)
  have hp : posE 2 [[], [49]] [[0, 1], [0, 0]] [[0, -1], [1, 2]] [48, 49, 48, 49, 49] = 0 := by
    unfold posE parCheck
    rw [if_pos ip_exC, if_pos rfl]; kernel_rfl
  have ht : trail [[0, 1], [0, 0]] [[0, -1], [1, 2]] 0 [48, 49, 48, 49, 49] = [(0, 0), (-1, 1), (1, 0), (-1, 1), (2, 0)] := by kernel_rfl
  have hr : runE' 2 [[], [49]] [[0, 1], [0, 0]] [[0, -1], [1, 2]] 0 [48, 49, 48, 49, 49] = 0 := by
    unfold runE'
    rw [if_pos hp, if_neg (by decide), show (0 : Int).toNat = 0 from rfl, ht]; rfl
  unfold runL runS at h
  rw [hr, if_pos rfl, if_pos rfl, show (0 : Int).toNat = 0 from rfl, ht] at h
  exact h
theorem q_exD : PFn Tryz.prog 15 [pvD, .str [48, 49, 49]] [.int .i64 2, .int .i64 0] := by
  have h := p31 2 [[], [49]] [[0, 1], [0, -1]] [[0, -1], [1, -1]] [48, 49, 49] (by decide) (by decide)
  have hp : posE 2 [[], [49]] [[0, 1], [0, -1]] [[0, -1], [1, -1]] [48, 49, 49] = 0 := by
    unfold posE parCheck
    rw [if_pos ip_exD, if_pos rfl]; kernel_rfl
  have ht : trail [[0, 1], [0, -1]] [[0, -1], [1, -1]] 0 [48, 49, 49] = [(0, 0), (-1, 1)] := by kernel_rfl
  rw [hp, if_pos rfl, ht] at h
  exact h
theorem ex_ok : PFn Tryz.prog 22 [] [codeV 2 exC] := by
  refine PFn.of_body hΓ Tryz.func22 (by kernel_rfl) rfl (AWp.of_awpD [] hΓ hmix (by kernel_rfl) ?_)
  simp -implicitDefEqProofs only [Tryz.ntmps22, Tryz.results22, Nat.reduceAdd, Nat.reduceSub, codeV, exC, List.map_cons, List.map_nil, go_sem]
  exact ⟨by simp [sizeOK, PV.cells], by omega⟩

theorem awake_ok : PFn Tryz.prog 7 [] [.bool true] := by
  have g2 : ((1 + 1 : Nat) : Int) = 2 := rfl
  have g3 : Int.toNat 0 = 0 := rfl
  have g4 : Int.toNat 1 = 1 := rfl
  have e1 := p43 [[], [49]] [[], [49]] (by decide)
  have e2 := p36 [0, 1, 2] [0, 1, 2] (by decide)
  have e3 := p36 [0, 1] [0, 1] (by decide)
  have e4 := p36 [0, 0] [0, 0] (by decide)
  have b1 := b_exC
  have b2 := b_exD
  have a1 := a_exC
  have r1 := r_exC
  have q1 := q_exD
  simp only [codeV, exC, exD, pvC, pvD, psV, auV, slI, List.map_cons, List.map_nil] at b1 b2 a1 r1 q1 e1 e2 e3 e4
  have x1 := ex_ok
  simp only [codeV, exC, List.map_cons, List.map_nil] at x1
  refine PFn.of_body hΓ Tryz.func7 (by kernel_rfl) rfl (AWp.of_awpD [] hΓ hmix (by kernel_rfl) ?_)
  simp -implicitDefEqProofs only [Tryz.ntmps7, Tryz.results7, Nat.reduceAdd, Nat.reduceSub, go_sem]
  refine callK_fn x1 (.pures rfl) ?_
  simp -implicitDefEqProofs only [go_sem]
  refine callK_fn b1 (.pures rfl) ?_
  simp -implicitDefEqProofs only [go_sem]
  refine callK_fn r1 (.still rfl) ?_
  simp -implicitDefEqProofs only [go_sem]
  refine callK_fn x1 (.pures rfl) ?_
  simp -implicitDefEqProofs only [go_sem]
  refine callK_fn a1 (.pures rfl) ?_
  simp -implicitDefEqProofs only [go_sem]
  refine ⟨⟨by simp [sizeOK, PV.cells], by omega⟩, by omega, callK_fn b2 (.still rfl) ?_⟩
  simp -implicitDefEqProofs only [go_sem]
  refine callK_fn q1 (.still rfl) ?_
  simp -implicitDefEqProofs only [ite_self, go_sem]
  refine ⟨⟨by simp [sizeOK, PV.cells], by omega⟩, callK_fn e1 (.pures rfl) ?_⟩
  simp -implicitDefEqProofs only [go_sem]
  refine ⟨⟨by simp [sizeOK, PV.cells], by omega⟩, callK_fn e2 (.pures rfl) ?_⟩
  simp -implicitDefEqProofs only [g2, g3, g4, List.getD_cons_zero, List.getD_cons_succ, go_sem]
  refine ⟨by omega, ⟨by simp [sizeOK, PV.cells], by omega⟩, callK_fn e3 (.pures rfl) ?_⟩
  simp -implicitDefEqProofs only [g2, g3, g4, List.getD_cons_zero, List.getD_cons_succ, go_sem]
  refine ⟨by omega, ⟨by simp [sizeOK, PV.cells], by omega⟩, callK_fn e4 (.pures rfl) ?_⟩
  simp -implicitDefEqProofs only [go_sem]
end Go.Proofs.YtoajffhlbogdaaaGreat
end

section
namespace Go.Proofs.YtoajffhlbogdaaaGreat
open Go Go.AM
set_option maxRecDepth 100000
set_option linter.unusedSimpArgs false

/-- A sum of n terms. -/
def sumN (F : Nat → Nat) : Nat → Nat
  | 0 => 0
  | n + 1 => sumN F n + F n
theorem sumN_congr {F G : Nat → Nat} : ∀ {n : Nat}, (∀ j, j < n → F j = G j) → sumN F n = sumN G n
  | 0, _ => rfl
  | n + 1, h => by unfold sumN; rw [sumN_congr (fun j hj => h j (by omega)), h n (by omega)]
theorem sumN_head (F : Nat → Nat) : ∀ n, sumN F (n + 1) = F 0 + sumN (fun j => F (j + 1)) n
  | 0 => by simp [sumN]
  | n + 1 => by
    have ih := sumN_head F n
    have e1 : sumN F (n + 1 + 1) = sumN F (n + 1) + F (n + 1) := rfl
    have e2 : sumN (fun j => F (j + 1)) (n + 1) = sumN (fun j => F (j + 1)) n + F (n + 1) := rfl
    omega
theorem sumN_mul (F : Nat → Nat) (c : Nat) : ∀ n, sumN (fun j => c * F j) n = c * sumN F n
  | 0 => by simp [sumN]
  | n + 1 => by
    have ih := sumN_mul F c n
    have e1 : sumN (fun j => c * F j) (n + 1) = sumN (fun j => c * F j) n + c * F n := rfl
    have e2 : sumN F (n + 1) = sumN F n + F n := rfl
    rw [e1, e2, ih, Nat.mul_add]
theorem sumN_zero {F : Nat → Nat} : ∀ {n : Nat}, (∀ j, j < n → F j = 0) → sumN F n = 0
  | 0, _ => rfl
  | n + 1, h => by unfold sumN; rw [sumN_zero (fun j hj => h j (by omega)), h n (by omega)]
theorem sumN_split (F : Nat → Nat) (m : Nat) : ∀ n, sumN F (m + n) = sumN F m + sumN (fun j => F (m + j)) n
  | 0 => by simp [sumN]
  | n + 1 => by
    have ih := sumN_split F m n
    have e1 : sumN F (m + (n + 1)) = sumN F (m + n) + F (m + n) := rfl
    have e2 : sumN (fun j => F (m + j)) (n + 1) = sumN (fun j => F (m + j)) n + F (m + n) := rfl
    omega

/-- The value of a list of digits, the least one first. -/
def valD (B : Nat) : List Nat → Nat
  | [] => 0
  | d :: l => d + B * valD B l
theorem valD_sum (B : Nat) : ∀ l : List Nat, valD B l = sumN (fun j => l.getD j 0 * B ^ j) l.length
  | [] => rfl
  | d :: l => by
    have ih := valD_sum B l
    rw [List.length_cons, sumN_head]
    have e : sumN (fun j => (d :: l).getD (j + 1) 0 * B ^ (j + 1)) l.length = B * sumN (fun j => l.getD j 0 * B ^ j) l.length := by
      rw [← sumN_mul]
      refine sumN_congr fun j _ => ?_
      simp only [List.getD_cons_succ, Nat.pow_succ]
      rw [← Nat.mul_assoc, Nat.mul_comm]
    rw [e, ← ih]
    simp [valD]
theorem valD_append (B : Nat) : ∀ l m : List Nat, valD B (l ++ m) = valD B l + B ^ l.length * valD B m
  | [], m => by simp [valD]
  | d :: l, m => by
    have ih := valD_append B l m
    have e : ∀ x, valD B (d :: x) = d + B * valD B x := fun _ => rfl
    rw [List.cons_append, e, e, ih, List.length_cons, Nat.pow_succ, Nat.mul_add, ← Nat.mul_assoc, Nat.mul_comm (B ^ l.length) B, Nat.add_assoc]
theorem valD_zeros (B n : Nat) : valD B (List.replicate n 0) = 0 := by
  induction n with
  | zero => rfl
  | succ n ih => rw [List.replicate_succ]; unfold valD; rw [ih]; simp

/-- Without zeros at the end. -/
def Canon (B : Nat) (l : List Nat) : Prop := (∀ d ∈ l, d < B) ∧ l.getLast? ≠ some 0
theorem canon_tail {B d : Nat} {l : List Nat} (h : Canon B (d :: l)) : Canon B l := by
  refine ⟨fun x hx => h.1 x (by simp [hx]), ?_⟩
  cases l with
  | nil => simp
  | cons e m => have := h.2; simpa using this
theorem canon_zero {B : Nat} (hB : 0 < B) : ∀ {l : List Nat}, Canon B l → valD B l = 0 → l = []
  | [], _, _ => rfl
  | d :: l, h, hv => by
    unfold valD at hv
    have h1 : d = 0 := by omega
    have h2 : B * valD B l = 0 := by omega
    have h3 : valD B l = 0 := (Nat.mul_eq_zero.1 h2).elim (fun h => by omega) id
    have := canon_zero hB (canon_tail h) h3
    subst this
    exact absurd (by simp [h1]) h.2
theorem canon_unique {B : Nat} (hB : 0 < B) : ∀ {l m : List Nat}, Canon B l → Canon B m → valD B l = valD B m → l = m
  | [], m, _, hm, hv => (canon_zero hB hm hv.symm).symm
  | d :: l, [], hl, _, hv => absurd (canon_zero hB hl hv) (by simp)
  | d :: l, e :: m, hl, hm, hv => by
    unfold valD at hv
    have h1 := hl.1 d (by simp)
    have h2 := hm.1 e (by simp)
    have hd : d = e := by
      have := congrArg (· % B) hv
      simp only [Nat.add_mul_mod_self_left] at this
      rwa [Nat.mod_eq_of_lt h1, Nat.mod_eq_of_lt h2] at this
    subst hd
    have h3 : B * valD B l = B * valD B m := by omega
    rw [canon_unique hB (canon_tail hl) (canon_tail hm) (Nat.eq_of_mul_eq_mul_left hB h3)]

/-- A number's digits. -/
def digF (B : Nat) : Nat → Nat → List Nat
  | 0, _ => []
  | f + 1, n => if n = 0 then [] else n % B :: digF B f (n / B)
def digD (B n : Nat) : List Nat := digF B n n
theorem digF_val {B : Nat} (hB : 2 ≤ B) : ∀ f n, n ≤ f → valD B (digF B f n) = n ∧ Canon B (digF B f n)
  | 0, n, h => by
    have : n = 0 := by omega
    subst this; exact ⟨rfl, by simp [Canon, digF]⟩
  | f + 1, n, h => by
    unfold digF
    by_cases h0 : n = 0
    · subst h0; rw [if_pos rfl]; exact ⟨rfl, by simp [Canon]⟩
    · rw [if_neg h0]
      have hd : n / B < n := Nat.div_lt_self (by omega) (by omega)
      obtain ⟨h1, h2⟩ := digF_val hB f (n / B) (by omega)
      refine ⟨?_, fun x hx => ?_, ?_⟩
      · unfold valD; rw [h1]; exact Nat.mod_add_div n B
      · rcases List.mem_cons.1 hx with rfl | hx
        · exact Nat.mod_lt _ (by omega)
        · exact h2.1 x hx
      · cases hl : digF B f (n / B) with
        | nil =>
          rw [hl] at h1
          have h3 : n / B = 0 := h1.symm
          have : n % B = n := Nat.mod_eq_of_lt (by
            rcases Nat.lt_or_ge n B with h | h
            · exact h
            · have := Nat.div_pos h (by omega); omega)
          simp [this, h0]
        | cons e m =>
          have := h2.2
          rw [hl] at this
          simpa using this
theorem digD_val {B : Nat} (hB : 2 ≤ B) (n : Nat) : valD B (digD B n) = n := (digF_val hB n n (Nat.le_refl _)).1
theorem digD_canon {B : Nat} (hB : 2 ≤ B) (n : Nat) : Canon B (digD B n) := (digF_val hB n n (Nat.le_refl _)).2
theorem digD_of {B : Nat} (hB : 2 ≤ B) {l : List Nat} (h : Canon B l) : digD B (valD B l) = l := canon_unique (by omega) (digD_canon hB _) h (digD_val hB _)

/-- A list without its zeros at the end. -/
def trimN (l : List Nat) : Nat → List Nat
  | 0 => []
  | k + 1 => if l.getD k 0 = 0 then trimN l k else l.take (k + 1)
def trimL (l : List Nat) : List Nat := trimN l l.length
theorem trimN_val (B : Nat) (l : List Nat) : ∀ k, k ≤ l.length → valD B (trimN l k) = valD B (l.take k)
  | 0, _ => by simp [trimN]
  | k + 1, h => by
    unfold trimN
    split
    · rename_i h0
      rw [trimN_val B l k (by omega), List.take_succ_eq_append_getElem (by omega), valD_append]
      rw [List.getD_eq_getElem?_getD, List.getElem?_eq_getElem (by omega), Option.getD_some] at h0
      simp [valD, h0]
    · rfl
theorem trimL_val (B : Nat) (l : List Nat) : valD B (trimL l) = valD B l := by
  unfold trimL; rw [trimN_val B l _ (Nat.le_refl _), List.take_length]
theorem trimN_canon {B : Nat} {l : List Nat} (hl : ∀ d ∈ l, d < B) : ∀ k, k ≤ l.length → Canon B (trimN l k)
  | 0, _ => by simp [trimN, Canon]
  | k + 1, h => by
    unfold trimN
    split
    · exact trimN_canon hl k (by omega)
    · rename_i h0
      refine ⟨fun d hd => hl d (List.mem_of_mem_take hd), ?_⟩
      rw [List.getD_eq_getElem?_getD, List.getElem?_eq_getElem (by omega), Option.getD_some] at h0
      rw [List.take_succ_eq_append_getElem (by omega), List.getLast?_concat]
      intro e; injection e with e; exact h0 e
theorem trimL_canon {B : Nat} {l : List Nat} (hl : ∀ d ∈ l, d < B) : Canon B (trimL l) := trimN_canon hl _ (Nat.le_refl _)
theorem trimL_eq {B : Nat} (hB : 2 ≤ B) {l : List Nat} (hl : ∀ d ∈ l, d < B) : trimL l = digD B (valD B l) := by
  rw [← trimL_val, digD_of hB (trimL_canon hl)]

/-! ### The program's naturals -/
def B32 : Nat := 4294967296
def u32V (d : Nat) : PV := .int .u32 (d : Int)
def natV (l : List Nat) : PV := .sl (l.map u32V)

theorem size_u32 (l : List Nat) : sizeOK (l.map u32V) 1 := fun x hx => by
  obtain ⟨b, _, rfl⟩ := List.mem_map.1 hx
  rfl

theorem u91 (l : List Nat) (hl : l.length ≤ 2000000) : PFn Tryz.prog 59 [natV l] [natV (trimL l)] := by
  refine PFn.of_body hΓ Tryz.func59 (by kernel_rfl) rfl (AWp.of_awpD [] hΓ hmix (by kernel_rfl) ?_)
  simp -implicitDefEqProofs only [Tryz.ntmps59, Tryz.results59, Nat.reduceAdd, Nat.reduceSub, natV, go_sem]
  refine AWp.loopI (fun k : Nat => ⟨mkF 21 [(0, .p (natV (l.take k)))], []⟩)
    (fun k => k ≤ l.length ∧ trimN l k = trimL l) (fun k => k) l.length (by simp [go_sem, natV]) ⟨Nat.le_refl _, rfl⟩ ?_
  rintro k ⟨hk, ht⟩
  refine AWp.of_awpD [] hΓ hmix (by kernel_rfl) ?_
  cases k with
  | zero =>
    have hz : ¬ (0 : Int) < ((0 : Nat) : Int) := by omega
    simp -implicitDefEqProofs only [natV, List.take_zero, List.map_nil, hz, go_sem]
    rw [← ht]; rfl
  | succ k =>
    have hk' : k < l.length := hk
    have hln : (l.take (k + 1)).length = k + 1 := by simp; omega
    have h1 : (0 : Int) < ((k + 1 : Nat) : Int) := by omega
    have h2 : (((k + 1 : Nat) : Int) - 1).toNat = k := by omega
    have hget : ((l.take (k + 1)).map u32V).getD k default = .int .u32 (l.getD k 0 : Nat) := by
      rw [getD_map_lt _ _ _ _ (by rw [hln]; omega), List.getElem_take, List.getD_eq_getElem?_getD, List.getElem?_eq_getElem hk', Option.getD_some]; rfl
    have ht' : trimN l (k + 1) = if l.getD k 0 = 0 then trimN l k else l.take (k + 1) := rfl
    by_cases h0 : l.getD k 0 = 0
    · have h0' : ((l.getD k 0 : Nat) : Int) = 0 := by omega
      rw [if_pos h0] at ht'
      simp -implicitDefEqProofs only [natV, List.length_map, hln, h1, h2, hget, h0', go_sem]
      refine ⟨by simp only [InR]; omega, ⟨by omega, by omega⟩, by simp only [InR]; omega, size_u32 _, ⟨by omega, by omega⟩, k, ?_, ⟨by omega, by rw [← ht', ht]⟩, by omega⟩
      rw [← List.map_take, List.take_take, Nat.min_eq_left (by omega)]
    · have h0' : ¬ ((l.getD k 0 : Nat) : Int) = 0 := by omega
      rw [if_neg h0] at ht'
      simp -implicitDefEqProofs only [natV, List.length_map, hln, h1, h2, hget, h0', go_sem]
      exact ⟨by simp only [InR]; omega, ⟨by omega, by omega⟩, by rw [← ht', ht]⟩

/-! ### A number's bytes and digits -/
/-- Byte i of a list of bytes, the least one first; nothing from n on. -/
def byN (bs : List Nat) (n i : Nat) : Nat := if i < n then bs.getD i 0 else 0
/-- Digit j of these, four bytes each. -/
def grp (bs : List Nat) (n j : Nat) : Nat := byN bs n (4 * j) + 256 * byN bs n (4 * j + 1) + 65536 * byN bs n (4 * j + 2) + 16777216 * byN bs n (4 * j + 3)
def grpL (bs : List Nat) (n L : Nat) : List Nat := (List.range L).map (grp bs n)
theorem grpL_len (bs : List Nat) (n L : Nat) : (grpL bs n L).length = L := by simp [grpL]
theorem grpL_get {bs : List Nat} {n L j : Nat} (h : j < L) : (grpL bs n L)[j]? = some (grp bs n j) := by simp [grpL, List.getElem?_map, List.getElem?_range h]
theorem byN_lt {bs : List Nat} (hb : ∀ b ∈ bs, b < 256) (n i : Nat) : byN bs n i < 256 := by
  unfold byN
  split
  · rw [List.getD_eq_getElem?_getD]
    cases h : bs[i]? with
    | none => simp
    | some b => exact hb b (List.mem_of_getElem? h)
  · omega
theorem grp_lt {bs : List Nat} (hb : ∀ b ∈ bs, b < 256) (n j : Nat) : grp bs n j < B32 := by
  have h0 := byN_lt hb n (4 * j)
  have h1 := byN_lt hb n (4 * j + 1)
  have h2 := byN_lt hb n (4 * j + 2)
  have h3 := byN_lt hb n (4 * j + 3)
  unfold grp B32
  omega
theorem byN_succ (bs : List Nat) (n i : Nat) : byN bs (n + 1) i = if i = n then bs.getD n 0 else byN bs n i := by
  unfold byN
  by_cases h : i = n
  · subst h; simp
  · rw [if_neg h]
    by_cases h2 : i < n
    · rw [if_pos h2, if_pos (by omega)]
    · rw [if_neg h2, if_neg (by omega)]
theorem grp_other {bs : List Nat} {n j : Nat} (h : n / 4 ≠ j) : grp bs (n + 1) j = grp bs n j := by
  unfold grp
  rw [byN_succ, byN_succ, byN_succ, byN_succ, if_neg (by omega), if_neg (by omega), if_neg (by omega), if_neg (by omega)]
theorem grp_zero (bs : List Nat) (j : Nat) : grp bs 0 j = 0 := by simp [grp, byN]
/-- One more byte: it lies above the others. -/
theorem grp_step (bs : List Nat) (hb : ∀ b ∈ bs, b < 256) (n : Nat) : grp bs (n + 1) (n / 4) = grp bs n (n / 4) + bs.getD n 0 * 256 ^ (n % 4) ∧ grp bs n (n / 4) < 256 ^ (n % 4) := by
  have h0 := byN_lt hb n (4 * (n / 4))
  have h1 := byN_lt hb n (4 * (n / 4) + 1)
  have h2 := byN_lt hb n (4 * (n / 4) + 2)
  have hz : ∀ i, n ≤ i → byN bs n i = 0 := fun i hi => by unfold byN; rw [if_neg (by omega)]
  have hm : n % 4 < 4 := Nat.mod_lt _ (by omega)
  have hn : n = 4 * (n / 4) + n % 4 := (Nat.div_add_mod n 4).symm
  unfold grp
  rw [byN_succ, byN_succ, byN_succ, byN_succ]
  generalize hq : n / 4 = q at *
  generalize hr : n % 4 = r at *
  rcases (by omega : r = 0 ∨ r = 1 ∨ r = 2 ∨ r = 3) with rfl | rfl | rfl | rfl
  · rw [if_pos (by omega), if_neg (by omega), if_neg (by omega), if_neg (by omega), hz (4 * q) (by omega), hz (4 * q + 1) (by omega), hz (4 * q + 2) (by omega), hz (4 * q + 3) (by omega)]
    omega
  · rw [if_neg (by omega), if_pos (by omega), if_neg (by omega), if_neg (by omega), hz (4 * q + 1) (by omega), hz (4 * q + 2) (by omega), hz (4 * q + 3) (by omega)]
    omega
  · rw [if_neg (by omega), if_neg (by omega), if_pos (by omega), if_neg (by omega), hz (4 * q + 2) (by omega), hz (4 * q + 3) (by omega)]
    omega
  · rw [if_neg (by omega), if_neg (by omega), if_neg (by omega), if_pos (by omega), hz (4 * q + 3) (by omega)]
    omega

theorem pow_four (j : Nat) : (256 : Nat) ^ (4 * j) = B32 ^ j := by
  rw [Nat.pow_mul]; rfl
/-- All bytes: the digits' value is the bytes'. -/
theorem grp_val (bs : List Nat) (n : Nat) : ∀ L, sumN (fun j => grp bs n j * B32 ^ j) L = sumN (fun i => byN bs n i * 256 ^ i) (4 * L)
  | 0 => rfl
  | L + 1 => by
    have ih := grp_val bs n L
    have e1 : sumN (fun j => grp bs n j * B32 ^ j) (L + 1) = sumN (fun j => grp bs n j * B32 ^ j) L + grp bs n L * B32 ^ L := rfl
    have e2 : sumN (fun i => byN bs n i * 256 ^ i) (4 * (L + 1)) = sumN (fun i => byN bs n i * 256 ^ i) (4 * L) + byN bs n (4 * L) * 256 ^ (4 * L) + byN bs n (4 * L + 1) * 256 ^ (4 * L + 1) + byN bs n (4 * L + 2) * 256 ^ (4 * L + 2) + byN bs n (4 * L + 3) * 256 ^ (4 * L + 3) := rfl
    rw [e1, e2, ih, ← pow_four]
    simp only [Nat.pow_succ]
    unfold grp
    generalize (256 : Nat) ^ (4 * L) = X
    generalize byN bs n (4 * L) = a
    generalize byN bs n (4 * L + 1) = b
    generalize byN bs n (4 * L + 2) = c
    generalize byN bs n (4 * L + 3) = d
    simp only [Nat.add_mul, Nat.mul_assoc]
    have h1 : 256 * (b * X) = b * (X * 256) := by rw [Nat.mul_comm X, ← Nat.mul_assoc, ← Nat.mul_assoc, Nat.mul_comm 256]
    have h2 : 65536 * (c * X) = c * (X * (256 * 256)) := by
      rw [Nat.mul_comm X, ← Nat.mul_assoc, ← Nat.mul_assoc, Nat.mul_comm 65536]
    have h3 : 16777216 * (d * X) = d * (X * (256 * (256 * 256))) := by
      rw [Nat.mul_comm X, ← Nat.mul_assoc, ← Nat.mul_assoc, Nat.mul_comm 16777216]
    omega
theorem grpL_val {bs : List Nat} {L : Nat} (hL : bs.length ≤ 4 * L) : valD B32 (grpL bs bs.length L) = valD 256 bs := by
  rw [valD_sum, valD_sum, grpL_len]
  have e1 : sumN (fun j => (grpL bs bs.length L).getD j 0 * B32 ^ j) L = sumN (fun j => grp bs bs.length j * B32 ^ j) L := sumN_congr fun j hj => by
    rw [List.getD_eq_getElem?_getD, grpL_get hj, Option.getD_some]
  rw [e1, grp_val]
  obtain ⟨m, hm⟩ : ∃ m, 4 * L = bs.length + m := ⟨4 * L - bs.length, by omega⟩
  rw [hm, sumN_split]
  have e2 : sumN (fun j => byN bs bs.length (bs.length + j) * 256 ^ (bs.length + j)) m = 0 := sumN_zero fun j _ => by
    unfold byN; rw [if_neg (by omega)]; simp
  rw [e2, Nat.add_zero]
  exact sumN_congr fun j hj => by unfold byN; rw [if_pos hj]
end Go.Proofs.YtoajffhlbogdaaaGreat
end

section
namespace Go.Proofs.YtoajffhlbogdaaaGreat.Kn
open Go Go.AM
set_option maxRecDepth 100000
set_option linter.unusedSimpArgs false

/-- A letter. -/
def ltr (a : Nat) : UInt8 := L16.getD a 0
theorem ltr_inj {a b : Nat} (ha : a < 16) (hb : b < 16) (h : ltr a = ltr b) : a = b := by
  have key : ∀ a : Fin 16, ∀ b : Fin 16, L16.getD a.val 0 = L16.getD b.val 0 → a = b := by decide
  have := key ⟨a, ha⟩ ⟨b, hb⟩ h
  exact congrArg Fin.val this
/-- A word over the first q letters. -/
def Alph (q : Nat) (w : List UInt8) : Prop := ∀ b ∈ w, ∃ a, a < q ∧ b = ltr a

/-- How much a word takes. -/
def wtN (q : Nat) (w : List UInt8) : Nat := q ^ (32 - w.length)
/-- What the words that begin with p take. -/
def taken (q : Nat) (p : List UInt8) : List (List UInt8) → Nat
  | [] => 0
  | w :: ws => (if p.isPrefixOf w then wtN q w else 0) + taken q p ws

theorem pre_iff {p w : List UInt8} : p.isPrefixOf w = true ↔ ∃ t, w = p ++ t := by
  rw [List.isPrefixOf_iff_prefix]
  exact ⟨fun ⟨t, h⟩ => ⟨t, h.symm⟩, fun ⟨t, h⟩ => ⟨t, h.symm⟩⟩
theorem pre_snoc {p w : List UInt8} {b : UInt8} (h : (p ++ [b]).isPrefixOf w = true) : p.isPrefixOf w = true := by
  obtain ⟨t, ht⟩ := pre_iff.1 h
  exact pre_iff.2 ⟨[b] ++ t, by rw [ht, List.append_assoc]⟩
theorem pre_uniq {p w : List UInt8} {b c : UInt8} (h1 : (p ++ [b]).isPrefixOf w = true) (h2 : (p ++ [c]).isPrefixOf w = true) : b = c := by
  obtain ⟨t, ht⟩ := pre_iff.1 h1
  obtain ⟨s, hs⟩ := pre_iff.1 h2
  rw [ht, List.append_assoc, List.append_assoc] at hs
  have := List.append_cancel_left hs
  simp at this
  exact this.1
theorem pre_more {p w : List UInt8} (h : p.isPrefixOf w = true) (hne : w ≠ p) : ∃ b, b ∈ w ∧ (p ++ [b]).isPrefixOf w = true := by
  obtain ⟨t, ht⟩ := pre_iff.1 h
  cases t with
  | nil => exact absurd (by simpa using ht) hne
  | cons b t => exact ⟨b, by rw [ht]; simp, pre_iff.2 ⟨t, by rw [ht]; simp⟩⟩

theorem sumN_add (F G : Nat → Nat) : ∀ n, sumN (fun j => F j + G j) n = sumN F n + sumN G n
  | 0 => rfl
  | n + 1 => by
    have ih := sumN_add F G n
    have e1 : sumN (fun j => F j + G j) (n + 1) = sumN (fun j => F j + G j) n + (F n + G n) := rfl
    have e2 : sumN F (n + 1) = sumN F n + F n := rfl
    have e3 : sumN G (n + 1) = sumN G n + G n := rfl
    omega
theorem sumN_one {F : Nat → Nat} {k c : Nat} : ∀ {n : Nat}, k < n → F k = c → (∀ j, j < n → j ≠ k → F j = 0) → sumN F n = c
  | 0, h, _, _ => by omega
  | n + 1, h, hc, h0 => by
    have e : sumN F (n + 1) = sumN F n + F n := rfl
    by_cases hk : k = n
    · subst hk
      rw [e, sumN_zero (fun j hj => h0 j (by omega) (by omega)), hc, Nat.zero_add]
    · rw [e, sumN_one (n := n) (by omega) hc (fun j hj hne => h0 j (by omega) hne), h0 n (by omega) (fun h => hk h.symm), Nat.add_zero]
theorem sumN_le {F : Nat → Nat} {B : Nat} : ∀ {n : Nat}, (∀ j, j < n → F j ≤ B) → sumN F n ≤ n * B
  | 0, _ => Nat.zero_le _
  | n + 1, h => by
    have e : sumN F (n + 1) = sumN F n + F n := rfl
    have := sumN_le (n := n) (fun j hj => h j (by omega))
    have := h n (by omega)
    rw [e, Nat.succ_mul]; omega
theorem sumN_full {F : Nat → Nat} {B : Nat} : ∀ {n : Nat}, (∀ j, j < n → F j ≤ B) → sumN F n = n * B → ∀ j, j < n → F j = B
  | 0, _, _ => fun j hj => by omega
  | n + 1, h, hs => by
    have e : sumN F (n + 1) = sumN F n + F n := rfl
    have h1 := sumN_le (n := n) (fun j hj => h j (by omega))
    have h2 := h n (by omega)
    rw [e, Nat.succ_mul] at hs
    have ih := sumN_full (n := n) (fun j hj => h j (by omega)) (by omega)
    intro j hj
    by_cases hjn : j = n
    · subst hjn; omega
    · exact ih j (by omega)
theorem sumN_const {F : Nat → Nat} {B : Nat} : ∀ {n : Nat}, (∀ j, j < n → F j = B) → sumN F n = n * B
  | 0, _ => by simp [sumN]
  | n + 1, h => by
    have e : sumN F (n + 1) = sumN F n + F n := rfl
    rw [e, sumN_const (n := n) (fun j hj => h j (by omega)), h n (by omega), Nat.succ_mul]

/-- A word that is none of the code: what begins with it goes on with a letter. -/
theorem taken_split {q : Nat} (hq : q ≤ 16) (p : List UInt8) : ∀ {ws : List (List UInt8)}, (∀ w ∈ ws, Alph q w) → (∀ w ∈ ws, w ≠ p) → taken q p ws = sumN (fun a => taken q (p ++ [ltr a]) ws) q
  | [], _, _ => by
    symm
    exact sumN_zero fun _ _ => rfl
  | w :: ws, hA, hne => by
    have ih := taken_split hq p (ws := ws) (fun x hx => hA x (by simp [hx])) (fun x hx => hne x (by simp [hx]))
    show (if p.isPrefixOf w then wtN q w else 0) + taken q p ws = sumN (fun a => (if (p ++ [ltr a]).isPrefixOf w then wtN q w else 0) + taken q (p ++ [ltr a]) ws) q
    rw [sumN_add, ← ih]
    congr 1
    by_cases hp : p.isPrefixOf w = true
    · obtain ⟨b, hb, hbw⟩ := pre_more hp (hne w (by simp))
      obtain ⟨a, ha, rfl⟩ := hA w (by simp) b hb
      rw [if_pos hp]
      symm
      refine sumN_one ha (by simp only [hbw, if_true]) fun j hj hja => ?_
      rw [if_neg]
      intro hjw
      exact hja (ltr_inj (by omega) (by omega) (pre_uniq hjw hbw))
    · rw [if_neg hp]
      symm
      refine sumN_zero fun j hj => ?_
      rw [if_neg]
      exact fun h => hp (pre_snoc h)

/-- A prefix code, as a list. -/
structure PCode (q : Nat) (ws : List (List UInt8)) : Prop where
  q0 : 0 < q
  q16 : q ≤ 16
  nodup : ws.Nodup
  free : ∀ x ∈ ws, ∀ y ∈ ws, y.isPrefixOf x = true → x = y
  alph : ∀ w ∈ ws, Alph q w
  short : ∀ w ∈ ws, w.length ≤ 32

theorem taken_none {q : Nat} {p : List UInt8} : ∀ {ws : List (List UInt8)}, (∀ w ∈ ws, ¬ p.isPrefixOf w = true) → taken q p ws = 0
  | [], _ => rfl
  | w :: ws, h => by
    show (if p.isPrefixOf w then wtN q w else 0) + taken q p ws = 0
    rw [if_neg (h w (by simp)), taken_none (fun x hx => h x (by simp [hx]))]
theorem taken_word {q : Nat} {p : List UInt8} : ∀ {ws : List (List UInt8)}, p ∈ ws → ws.Nodup → (∀ x ∈ ws, p.isPrefixOf x = true → x = p) → taken q p ws = wtN q p
  | w :: ws, hp, hd, hf => by
    show (if p.isPrefixOf w then wtN q w else 0) + taken q p ws = _
    have hd' := List.nodup_cons.1 hd
    by_cases hw : p.isPrefixOf w = true
    · have e := hf w (by simp) hw
      subst e
      rw [if_pos hw, taken_none (fun x hx h => ?_), Nat.add_zero]
      have := hf x (by simp [hx]) h
      subst this
      exact hd'.1 hx
    · rw [if_neg hw, Nat.zero_add]
      have hne : p ≠ w := fun e => hw (by rw [e]; exact List.isPrefixOf_iff_prefix.2 (List.prefix_refl _))
      exact taken_word (by simpa [hne] using hp) hd'.2 (fun x hx => hf x (by simp [hx]))
theorem taken_in {q : Nat} (hq : 0 < q) {p w : List UInt8} : ∀ {ws : List (List UInt8)}, w ∈ ws → p.isPrefixOf w = true → 0 < taken q p ws
  | x :: ws, hw, hp => by
    show 0 < (if p.isPrefixOf x then wtN q x else 0) + taken q p ws
    rcases List.mem_cons.1 hw with rfl | hw
    · rw [if_pos hp]
      have : 0 < wtN q w := Nat.pow_pos hq
      omega
    · have := taken_in hq hw hp
      omega
theorem taken_some {q : Nat} {p : List UInt8} {ws : List (List UInt8)} (h : taken q p ws ≠ 0) : ∃ w ∈ ws, p.isPrefixOf w = true := by
  by_cases hx : ∃ w ∈ ws, p.isPrefixOf w = true
  · exact hx
  · exact absurd (taken_none fun w hw hp => hx ⟨w, hw, hp⟩) h

theorem PCode.word {q : Nat} {ws : List (List UInt8)} (h : PCode q ws) {p : List UInt8} (hp : p ∈ ws) : taken q p ws = wtN q p :=
  taken_word hp h.nodup fun x hx hpx => h.free x hx p hp hpx

theorem PCode.le {q : Nat} {ws : List (List UInt8)} (h : PCode q ws) : ∀ (d : Nat) (p : List UInt8), p.length + d = 32 → taken q p ws ≤ q ^ d
  | d, p, hl => by
    by_cases hp : p ∈ ws
    · rw [h.word hp]
      unfold wtN
      rw [show 32 - p.length = d by omega]
      exact Nat.le_refl _
    · have hne : ∀ w ∈ ws, w ≠ p := fun w hw e => hp (e ▸ hw)
      cases d with
      | zero =>
        rw [taken_none fun w hw hpw => ?_]
        · exact Nat.zero_le _
        · obtain ⟨b, _, hb⟩ := pre_more hpw (hne w hw)
          have h1 := (List.isPrefixOf_iff_prefix.1 hb).length_le
          have h2 := h.short w hw
          simp at h1
          omega
      | succ d =>
        rw [taken_split h.q16 p h.alph hne, Nat.pow_succ, Nat.mul_comm]
        exact sumN_le fun a _ => PCode.le h d (p ++ [ltr a]) (by simp; omega)

/-- Proper beginnings of words. -/
def Inner (ws : List (List UInt8)) (p : List UInt8) : Prop := ∃ w ∈ ws, p.isPrefixOf w = true ∧ p.length < w.length
/-- Nothing is missing. -/
def Whole (q : Nat) (ws : List (List UInt8)) : Prop := ∀ p, Inner ws p → ∀ a, a < q → Inner ws (p ++ [ltr a]) ∨ p ++ [ltr a] ∈ ws

theorem PCode.outer {q : Nat} {ws : List (List UInt8)} (h : PCode q ws) {p : List UInt8} (hp : Inner ws p) : p ∉ ws := fun hm => by
  obtain ⟨w, hw, hpw, hl⟩ := hp
  have := h.free w hw p hm hpw
  rw [this] at hl
  omega

theorem PCode.of_whole {q : Nat} {ws : List (List UInt8)} (h : PCode q ws) (hw : Whole q ws) : ∀ (d : Nat) (p : List UInt8), p.length + d = 32 → (Inner ws p ∨ p ∈ ws) → taken q p ws = q ^ d
  | d, p, hl, hp => by
    by_cases hm : p ∈ ws
    · rw [h.word hm]
      unfold wtN
      rw [show 32 - p.length = d by omega]
    · have hi : Inner ws p := hp.elim id fun e => absurd e hm
      have hne : ∀ w ∈ ws, w ≠ p := fun w hw e => hm (e ▸ hw)
      cases d with
      | zero =>
        obtain ⟨w, hw1, hw2, hw3⟩ := hi
        have := h.short w hw1
        omega
      | succ d =>
        rw [taken_split h.q16 p h.alph hne, Nat.pow_succ, Nat.mul_comm]
        exact sumN_const fun a ha => PCode.of_whole h hw d (p ++ [ltr a]) (by simp; omega) (hw p hi a ha)

theorem inner_init {ws : List (List UInt8)} {p : List UInt8} {b : UInt8} (h : Inner ws (p ++ [b])) : Inner ws p := by
  obtain ⟨w, h1, h2, h3⟩ := h
  exact ⟨w, h1, pre_snoc h2, by simp at h3; omega⟩

theorem PCode.full {q : Nat} {ws : List (List UInt8)} (h : PCode q ws) (hT : taken q [] ws = q ^ 32) : ∀ (n : Nat) (p : List UInt8), p.length = n → Inner ws p → taken q p ws = q ^ (32 - n) ∧ ∀ a, a < q → taken q (p ++ [ltr a]) ws = q ^ (32 - (n + 1))
  | n, p, hn, hi => by
    have hm := h.outer hi
    have hne : ∀ w ∈ ws, w ≠ p := fun w hw e => hm (e ▸ hw)
    have hlen : n + 1 ≤ 32 := by
      obtain ⟨w, h1, h2, h3⟩ := hi
      have := h.short w h1
      omega
    have hfull : taken q p ws = q ^ (32 - n) := by
      cases n with
      | zero =>
        have : p = [] := List.length_eq_zero_iff.1 hn
        subst this
        exact hT
      | succ n =>
        obtain ⟨x, b, rfl⟩ : ∃ x b, p = x ++ [b] := by
          have hp0 : p ≠ [] := fun e => by subst e; simp at hn
          exact ⟨p.dropLast, p.getLast hp0, (List.dropLast_concat_getLast hp0).symm⟩
        have hxl : x.length = n := by simpa using hn
        have ih := PCode.full h hT n x hxl (inner_init hi)
        obtain ⟨w, h1, h2, h3⟩ := hi
        have hbw : b ∈ w := by
          obtain ⟨t, rfl⟩ := pre_iff.1 h2
          simp
        obtain ⟨a, ha, rfl⟩ := h.alph w h1 b hbw
        exact ih.2 a ha
    refine ⟨hfull, ?_⟩
    rw [taken_split h.q16 p h.alph hne, show 32 - n = (32 - (n + 1)) + 1 by omega, Nat.pow_succ, Nat.mul_comm] at hfull
    exact sumN_full (fun a _ => h.le (32 - (n + 1)) (p ++ [ltr a]) (by simp; omega)) hfull

theorem PCode.whole_of {q : Nat} {ws : List (List UInt8)} (h : PCode q ws) (hT : taken q [] ws = q ^ 32) : Whole q ws := fun p hi a ha => by
  have h1 := (h.full hT p.length p rfl hi).2 a ha
  have h2 : taken q (p ++ [ltr a]) ws ≠ 0 := by
    rw [h1]; exact Nat.ne_of_gt (Nat.pow_pos h.q0)
  obtain ⟨w, hw, hp⟩ := taken_some h2
  by_cases e : w = p ++ [ltr a]
  · exact .inr (e ▸ hw)
  · refine .inl ⟨w, hw, hp, ?_⟩
    obtain ⟨b, _, hb⟩ := pre_more hp e
    have := (List.isPrefixOf_iff_prefix.1 hb).length_le
    simp at this ⊢
    omega

/-- The measure is 1 exactly if nothing is missing. -/
theorem PCode.one_iff {q : Nat} {ws : List (List UInt8)} (h : PCode q ws) (hi : Inner ws []) : taken q [] ws = q ^ 32 ↔ Whole q ws :=
  ⟨h.whole_of, fun hw => h.of_whole hw 32 [] rfl (.inl hi)⟩
theorem PCode.one_le {q : Nat} {ws : List (List UInt8)} (h : PCode q ws) : taken q [] ws ≤ q ^ 32 := h.le 32 [] rfl

theorem taken_sum (q : Nat) : ∀ ws : List (List UInt8), taken q [] ws = ((ws.map List.length).map fun n => q ^ (32 - n)).sum
  | [] => rfl
  | w :: ws => by
    show (if ([] : List UInt8).isPrefixOf w then wtN q w else 0) + taken q [] ws = _
    rw [if_pos (by simp [List.isPrefixOf]), taken_sum q ws]
    simp [wtN]
end Go.Proofs.YtoajffhlbogdaaaGreat.Kn
end

section
namespace Go.Proofs.YtoajffhlbogdaaaGreat
open Go Go.AM
set_option maxRecDepth 100000
set_option linter.unusedSimpArgs false

theorem alph_of {q : Int} {w : List UInt8} (h : okW q w = true) : Kn.Alph q.toNat w := fun b hb => by
  obtain ⟨h1, h2⟩ := dig_of h b hb
  obtain ⟨k, h3, h4⟩ := ixB_hit b L16 0 h1
  exact ⟨k, by omega, h4.symm⟩

theorem free_of {ws : List (List UInt8)} (hp : preB ws = true) : ∀ x ∈ ws, ∀ y ∈ ws, y.isPrefixOf x = true → x = y := by
  intro x hx y hy h
  obtain ⟨i, hi, rfl⟩ := List.getElem_of_mem hx
  obtain ⟨k, hk, rfl⟩ := List.getElem_of_mem hy
  by_cases e : i = k
  · subst e; rfl
  · have := alone_bad (pr := fun w x => x.isPrefixOf w) hi hk e (by simpa [List.getD_eq_getElem?_getD, hi, hk] using h)
    unfold preB at hp
    rw [this] at hp; cases hp

theorem pcode_of {q : Int} {ws : List (List UInt8)} (hv : Valid q ws) (hp : preB ws = true) : Kn.PCode q.toNat ws := by
  have h2 := hv.q2
  have h16 := hv.q16
  exact { q0 := by omega, q16 := by omega, nodup := strict_nodup hv.strict, free := free_of hp, alph := fun w hw => alph_of (word_ok (hv.words w hw).2.2).1, short := fun w hw => (hv.words w hw).2.1 }

theorem inner_iff {ws : List (List UInt8)} {p : List UInt8} : Kn.Inner ws p ↔ p ∈ prefs ws := by
  rw [mem_prefs]
  unfold Kn.Inner
  constructor
  · rintro ⟨w, h1, h2, h3⟩
    exact ⟨w, h1, List.isPrefixOf_iff_prefix.1 h2, h3⟩
  · rintro ⟨w, h1, h2, h3⟩
    exact ⟨w, h1, List.isPrefixOf_iff_prefix.2 h2, h3⟩

theorem nextN_neg {ws P : List (List UInt8)} {x : List UInt8} : nextN ws P x = -1 ↔ x ∉ ws ∧ x ∉ P := by
  unfold nextN
  by_cases h : x ∈ ws
  · simp [h]
  · rw [if_neg h]
    by_cases h2 : x ∈ P
    · have := ixW_in h2
      rw [this]
      simp [h, h2]
    · rw [ixW_no h2]
      simp [h, h2]

theorem hole_iff {q : Int} {ws : List (List UInt8)} : holeB q ws = false ↔ Kn.Whole q.toNat ws := by
  unfold holeB
  rw [List.any_eq_false]
  constructor
  · intro h p hi a ha
    have hp := inner_iff.1 hi
    have h1 := h (nxL q.toNat ws (prefs ws) p) (List.mem_map.2 ⟨p, hp, rfl⟩)
    have h2 : nextN ws (prefs ws) (stepW p a) ≠ -1 := fun e => h1 (decide_eq_true (List.mem_map.2 ⟨a, List.mem_range.2 ha, e⟩))
    by_cases hw : stepW p a ∈ ws
    · exact .inr hw
    · refine .inl (inner_iff.2 ?_)
      by_cases hx : stepW p a ∈ prefs ws
      · exact hx
      · exact absurd (nextN_neg.2 ⟨hw, hx⟩) h2
  · intro h l hl hm
    obtain ⟨p, hp, rfl⟩ := List.mem_map.1 hl
    obtain ⟨a, ha, e⟩ := List.mem_map.1 (of_decide_eq_true hm)
    have ha' := List.mem_range.1 ha
    obtain ⟨h1, h2⟩ := nextN_neg.1 e
    rcases h p (inner_iff.2 hp) a ha' with h3 | h3
    · exact h2 (inner_iff.1 h3)
    · exact h1 h3

theorem hole_one {q : Int} {ws : List (List UInt8)} (hv : Valid q ws) (hp : preB ws = true) : holeB q ws = false ↔ ((ws.map List.length).map fun n => q.toNat ^ (32 - n)).sum = q.toNat ^ 32 := by
  rw [hole_iff, ← Kn.taken_sum]
  refine ((pcode_of hv hp).one_iff ?_).symm
  have h1 := hv.pos
  refine inner_iff.2 (mem_prefs.2 ⟨ws[0], List.getElem_mem h1, List.nil_prefix, List.length_pos_iff.2 (hv.words _ (List.getElem_mem h1)).1⟩)

theorem trail_all {q : Nat} {N E : List (List Int)} (hT : Tbl q N E) (hN : ∀ l ∈ N, ∀ x ∈ l, 0 ≤ x) : ∀ (w : List UInt8) (s : Nat), (∀ b ∈ w, digN b < q) → s < N.length → (trail N E s w).length = w.length
  | [], s, _, _ => by simp [trail]
  | b :: w, s, hb, hs => by
    have hbq := hb b (by simp)
    have hrow := hT.rowN _ (List.getElem_mem hs)
    have hd : digN b < N[s].length := by omega
    have h0 := hN _ (List.getElem_mem hs) _ (List.getElem_mem hd)
    have h1 := hT.next _ (List.getElem_mem hs) _ (List.getElem_mem hd)
    have e := stp_at hs hd
    have hnn : ¬ stp N s (digN b) < 0 := by rw [e]; omega
    have et : trail N E s (b :: w) = (stp E s (digN b), (stp N s (digN b)).toNat) :: trail N E (stp N s (digN b)).toNat w := by
      conv => lhs; unfold trail
      rw [if_neg hnn]
    rw [et, List.length_cons, List.length_cons, trail_all hT hN w _ (fun c hc => hb c (by simp [hc])) (by rw [e]; omega)]

theorem nx_nonneg {q : Int} {ws : List (List UInt8)} (hh : holeB q ws = false) : ∀ l ∈ nxP q ws, ∀ x ∈ l, 0 ≤ x := fun l hl x hx => by
  have h1 := nxP_ge l hl x hx
  unfold holeB at hh
  rw [List.any_eq_false] at hh
  have h2 := hh l hl
  have h3 : x ≠ -1 := fun e => h2 (decide_eq_true (e ▸ hx))
  omega

theorem trail_code {q : Int} {ws : List (List UInt8)} (hv : Valid q ws) (hc : codeCheck q ws = 0) (hp : preB ws = true) (hh : holeB q ws = false) {w : List UInt8} (hw : okW q w = true) : (trail (nxP q ws) (emP q ws) 0 w).length = w.length := by
  obtain ⟨hT, h0⟩ := (isPar_of hc hp).tbl
  refine trail_all hT (nx_nonneg hh) w 0 (fun b hb => ?_) h0
  obtain ⟨h1, h2⟩ := dig_of hw b hb
  unfold digN
  have := hv.q2
  omega
end Go.Proofs.YtoajffhlbogdaaaGreat
end

section
namespace Go.Proofs.YtoajffhlbogdaaaGreat
open Go Go.AM
set_option maxRecDepth 100000
set_option linter.unusedSimpArgs false

/-- An integer as a value. -/
def intV (neg : Bool) (mag : List UInt8) : PV := .agg [.bool neg, .str mag]
/-- Its bytes, the least one first. -/
def lebs (mag : List UInt8) : List Nat := (mag.reverse).map UInt8.toNat
theorem lebs_len (mag : List UInt8) : (lebs mag).length = mag.length := by simp [lebs]
theorem lebs_lt (mag : List UInt8) : ∀ b ∈ lebs mag, b < 256 := fun b hb => by
  obtain ⟨c, _, rfl⟩ := List.mem_map.1 hb
  exact c.toNat_lt
theorem lebs_get {mag : List UInt8} {i : Nat} (hi : i < mag.length) : (lebs mag).getD i 0 = (mag.getD (mag.length - 1 - i) 0).toNat := by
  unfold lebs
  rw [List.getD_eq_getElem?_getD, List.getElem?_map, List.getElem?_reverse hi, List.getD_eq_getElem?_getD, List.getElem?_eq_getElem (by omega)]; rfl
def magNat (mag : List UInt8) : Nat := valD 256 (lebs mag)

theorem or_add {x y k : Nat} (hx : x < 2 ^ k) (hs : x + y * 2 ^ k < 4294967296) : bitsV .or .u32 (x : Int) ((y * 2 ^ k : Nat) : Int) = ((x + y * 2 ^ k : Nat) : Int) := by
  have h1 : y * 2 ^ k < 4294967296 := by omega
  have h2 : x < 4294967296 := by omega
  have e : (BitVec.ofInt 32 (x : Int) ||| BitVec.ofInt 32 ((y * 2 ^ k : Nat) : Int)).toNat = x + y * 2 ^ k := by
    rw [BitVec.toNat_or, BitVec.ofInt_natCast, BitVec.ofInt_natCast, BitVec.toNat_ofNat, BitVec.toNat_ofNat, Nat.mod_eq_of_lt h2, Nat.mod_eq_of_lt h1]
    rw [Nat.or_comm, ← Nat.shiftLeft_eq, ← Nat.shiftLeft_add_eq_or_of_lt hx, Nat.shiftLeft_eq, Nat.add_comm]
  show IntKind.wrap .u32 ((BitVec.ofInt 32 (x : Int) ||| BitVec.ofInt 32 ((y * 2 ^ k : Nat) : Int)).toNat : Nat) = _
  rw [e]
  exact InR.wrap (k := .u32) (by simp only [InR]; omega)

theorem wrap_u32n {x : Nat} (h : x < 4294967296) : IntKind.u32.wrap (x : Int) = x := InR.wrap (k := .u32) (by simp only [InR]; omega)

theorem grpL_zero (bs : List Nat) (L : Nat) : List.replicate L (PV.int .u32 0) = (grpL bs 0 L).map u32V := by
  apply List.ext_getElem?
  intro j
  rw [List.getElem?_map]
  by_cases hj : j < L
  · rw [grpL_get hj, grp_zero, List.getElem?_replicate, if_pos hj]; rfl
  · rw [List.getElem?_eq_none (by simp; omega), List.getElem?_eq_none (by rw [grpL_len]; omega)]; rfl
theorem grpL_step {bs : List Nat} {n L : Nat} (h : n / 4 < L) : ((grpL bs n L).map u32V).set (n / 4) (u32V (grp bs (n + 1) (n / 4))) = (grpL bs (n + 1) L).map u32V := by
  apply List.ext_getElem?
  intro j
  rw [List.getElem?_set, List.getElem?_map]
  by_cases hj : j < L
  · by_cases e : n / 4 = j
    · rw [if_pos e, if_pos (by simp [grpL_len]; exact h), List.getElem?_map, grpL_get hj, ← e]; rfl
    · rw [if_neg e, List.getElem?_map, grpL_get hj, grpL_get hj, grp_other e]
  · rw [if_neg (by omega), List.getElem?_eq_none (by rw [grpL_len]; omega), List.getElem?_map, List.getElem?_eq_none (by rw [grpL_len]; omega)]

theorem u69 (neg : Bool) (mag : List UInt8) (hl : mag.length ≤ 1000000) : PFn Tryz.prog 55 [intV neg mag] [natV (digD B32 (magNat mag))] := by
  obtain ⟨L, hL⟩ : ∃ L : Nat, ((mag.length : Int) + 3) / 4 = L := ⟨(mag.length + 3) / 4, by omega⟩
  have hL2 : mag.length ≤ 4 * L := by omega
  have hL3 : ∀ i, i < mag.length → i / 4 < L := fun i hi => by omega
  have hres : trimL (grpL (lebs mag) mag.length L) = digD B32 (magNat mag) := by
    rw [trimL_eq (B := B32) (by decide) (fun d hd => by
      obtain ⟨j, _, rfl⟩ := List.mem_map.1 hd
      exact grp_lt (lebs_lt mag) _ _)]
    have := grpL_val (bs := lebs mag) (L := L) (by rw [lebs_len]; exact hL2)
    rw [lebs_len] at this
    rw [this]; rfl
  refine PFn.of_body hΓ Tryz.func55 (by kernel_rfl) rfl (AWp.of_awpD [] hΓ hmix (by kernel_rfl) ?_)
  simp -implicitDefEqProofs only [Tryz.ntmps55, Tryz.results55, Nat.reduceAdd, Nat.reduceSub, intV, hL, go_sem]
  refine ⟨by simp only [InR]; omega, ⟨by omega, by omega, by simp only [InR]; omega⟩, ⟨by omega, by omega⟩, ?_⟩
  rw [grpL_zero (lebs mag)]
  refine AWp.loopI (fun i : Nat => ⟨mkF 43 [(1, .ptr 0 0), (2, .full []), (3, .own 1 L), (14, .p (.int .i64 mag.length)), (15, .p (.int .i64 i))], [.box [.p (.bool neg), .p (.str mag)], .row 72 1 ((grpL (lebs mag) i L).map u32V) .own]⟩)
    (fun i => i ≤ mag.length) (fun i => mag.length - i) 0 (by simp [go_sem]) (by omega) ?_
  intro i hi
  by_cases hlt : i < mag.length
  · refine AWp.of_awpD [(6, 13)] hΓ hmix (by kernel_rfl) ?_
    have hi4 := hL3 i hlt
    have e1 : ((mag.length : Int) - 1 - i).toNat = mag.length - 1 - i := by omega
    have e2 : ((i : Int) / 4).toNat = i / 4 := by omega
    have hget : ((grpL (lebs mag) i L).map u32V).getD (i / 4) default = .int .u32 ((grp (lebs mag) i (i / 4) : Nat) : Int) := by
      rw [List.getD_eq_getElem?_getD, List.getElem?_map, grpL_get hi4]; rfl
    have hwr : IntKind.u32.wrap ((mag.getD (mag.length - 1 - i) 0).toNat : Int) = (mag.getD (mag.length - 1 - i) 0).toNat := InR.wrap (k := .u32) (by
      have := (mag.getD (mag.length - 1 - i) 0).toNat_lt
      simp only [InR]; omega)
    simp -implicitDefEqProofs only [hlt, e1, e2, hget, hwr, go_sem]
    have hc := lebs_get hlt
    generalize hcn : (mag.getD (mag.length - 1 - i) 0).toNat = c at hc
    have hc256 : c < 256 := by rw [← hcn]; exact (mag.getD (mag.length - 1 - i) 0).toNat_lt
    obtain ⟨h1, h2⟩ := grp_step (lebs mag) (lebs_lt mag) i
    rw [hc] at h1
    have h3 := grp_lt (lebs_lt mag) (i + 1) (i / 4)
    have hp : (256 : Nat) ^ (i % 4) = 2 ^ (8 * (i % 4)) := by rw [Nat.pow_mul]
    rw [hp] at h1 h2
    have e8 : (8 * ((i : Int) % 4)).toNat = 8 * (i % 4) := by omega
    have ec : (c : Int) * 2 ^ (8 * (i % 4)) = ((c * 2 ^ (8 * (i % 4)) : Nat) : Int) := by simp
    have hs : grp (lebs mag) i (i / 4) + c * 2 ^ (8 * (i % 4)) < 4294967296 := by rw [← h1]; exact h3
    rw [e8, ec, wrap_u32n (by omega), or_add h2 hs, ← h1]
    have hgl := grpL_len (lebs mag) i L
    generalize hX : c * 2 ^ (8 * (i % 4)) = X at hs
    refine ⟨by simp only [InR]; omega, by simp only [InR]; omega, ⟨by omega, by omega⟩, ⟨by omega, by simp only [InR]; omega⟩, ⟨by omega, by omega⟩, by omega, by omega, by simp only [InR]; omega, ⟨by omega, by omega⟩, ⟨by omega, by omega⟩, ⟨by omega, rfl⟩, by simp only [InR]; omega, i + 1, ⟨by omega, .inl ?_⟩, hlt, by omega⟩
    exact (grpL_step hi4).symm
  · refine AWp.freeze 1 rfl ?_
    rw [show i = mag.length by omega]
    refine AWp.of_awpD [(6, 13)] hΓ hmix (by kernel_rfl) ?_
    have hz : ¬ (mag.length : Int) < mag.length := by omega
    simp -implicitDefEqProofs only [hz, Frozen, go_sem]
    have e91 := u91 (grpL (lebs mag) mag.length L) (by rw [grpL_len]; omega)
    rw [hres] at e91
    refine callK_fn e91 (.pures rfl) ?_
    simp -implicitDefEqProofs only [natV, go_sem]
end Go.Proofs.YtoajffhlbogdaaaGreat
end

section
namespace Go.Proofs.YtoajffhlbogdaaaGreat
open Go Go.AM
set_option maxRecDepth 100000
set_option linter.unusedSimpArgs false

theorem wrap_u32 (n : Nat) : IntKind.u32.wrap (n : Int) = ((n % 4294967296 : Nat) : Int) := by
  simp [IntKind.wrap, IntKind.signed, IntKind.bits]
theorem set_mid (o : List Nat) (m v : Nat) : ((o ++ List.replicate (m + 1) 0).map u32V).set o.length (u32V v) = ((o ++ [v]) ++ List.replicate m 0).map u32V := by
  rw [List.map_append, List.set_append_right _ _ (by simp), List.replicate_succ]
  simp
theorem valD_take {l : List Nat} (B i : Nat) : valD B (l.take (i + 1)) = valD B (l.take i) + l.getD i 0 * B ^ i := by
  by_cases h : i < l.length
  · rw [List.take_succ_eq_append_getElem h, valD_append, List.getD_eq_getElem?_getD, List.getElem?_eq_getElem h, Option.getD_some, List.length_take, Nat.min_eq_left (by omega)]
    simp [valD, Nat.mul_comm]
  · rw [List.take_of_length_le (by omega), List.take_of_length_le (by omega), List.getD_eq_getElem?_getD, List.getElem?_eq_none (by omega)]
    simp

theorem u105 (x y : List Nat) (hx : ∀ d ∈ x, d < B32) (hy : ∀ d ∈ y, d < B32) (hxl : x.length ≤ 1000000) (hyl : y.length ≤ 1000000) : PFn Tryz.prog 74 [natV x, natV y] [natV (digD B32 (valD B32 x + valD B32 y))] := by
  refine PFn.of_body hΓ Tryz.func74 (by kernel_rfl) rfl (AWp.seq (AWp.of_awpD [] hΓ hmix (by kernel_rfl) ?_))
  simp -implicitDefEqProofs only [Tryz.ntmps74, Tryz.results74, Nat.reduceAdd, Nat.reduceSub, natV, go_sem]
  refine AWp.seq (AWp.mono (Q := fun e st => e = .normal ∧ ∃ X Y : List Nat, ((∀ d ∈ X, d < B32) ∧ (∀ d ∈ Y, d < B32) ∧ X.length ≤ 1000000 ∧ Y.length ≤ X.length ∧ valD B32 X + valD B32 Y = valD B32 x + valD B32 y) ∧ Weak st ⟨mkF 59 [(0, .p (natV X)), (1, .p (natV Y)), (4, .full [])], []⟩) (AWp.of_awpD [] hΓ hmix (by kernel_rfl) ?_) ?_)
  · by_cases hc : (x.length : Int) < y.length
    · simp -implicitDefEqProofs only [hc, List.length_map, go_sem]
      exact ⟨y, x, ⟨hy, hx, hyl, by omega, by omega⟩, rfl, rfl⟩
    · simp -implicitDefEqProofs only [hc, List.length_map, go_sem]
      exact ⟨x, y, ⟨hx, hy, hxl, by omega, rfl⟩, rfl, rfl⟩
  rintro e st ⟨rfl, X, Y, ⟨hX, hY, hXl, hYX, hval⟩, hw⟩
  refine AWp.weak hw ?_
  rw [← hval]
  clear hval hw hx hy hxl hyl x y
  have eL : ((X.length : Int) + 1).toNat = X.length + 1 := by omega
  refine AWp.seq (AWp.of_awpD [] hΓ hmix (by kernel_rfl) ?_)
  simp -implicitDefEqProofs only [natV, List.length_map, eL, go_sem]
  refine ⟨by simp only [InR]; omega, ⟨by omega, by omega, by omega⟩, ?_⟩
  refine AWp.seq (AWp.of_awpD [] hΓ hmix (by kernel_rfl) ?_)
  simp -implicitDefEqProofs only [go_sem]
  refine AWp.seq (AWp.of_awpD [] hΓ hmix (by kernel_rfl) ?_)
  simp -implicitDefEqProofs only [List.length_map, go_sem]
  refine AWp.loopI (fun z : Nat × List Nat × Nat => ⟨mkF 59 [(0, .p (natV X)), (1, .p (natV Y)), (4, .full []), (5, .own 0 (X.length + 1)), (6, .p (.int .u64 z.2.2)), (20, .p (natV X)), (21, .p (.int .i64 X.length)), (22, .p (.int .i64 z.1))], [.row 72 1 ((z.2.1 ++ List.replicate (X.length + 1 - z.1) 0).map u32V) .own]⟩)
    (fun z => z.1 ≤ X.length ∧ z.2.1.length = z.1 ∧ (∀ d ∈ z.2.1, d < B32) ∧ z.2.2 ≤ 1 ∧ valD B32 z.2.1 + z.2.2 * B32 ^ z.1 = valD B32 (X.take z.1) + valD B32 (Y.take z.1)) (fun z => X.length - z.1) (0, [], 0) (by simp [go_sem, natV, u32V]) (by simp [valD]) ?_
  rintro ⟨i, o, c⟩ ⟨hi, ho, hod, hc, hval⟩
  simp only at hi ho hod hc hval
  refine AWp.of_awpD [] hΓ hmix (by kernel_rfl) ?_
  by_cases hlt : i < X.length
  · have hgX : (X.map u32V).getD i default = .int .u32 ((X.getD i 0 : Nat) : Int) := by
      rw [getD_map_lt _ _ _ _ hlt, List.getD_eq_getElem?_getD, List.getElem?_eq_getElem hlt]; rfl
    have dX : X.getD i 0 < B32 := by
      rw [List.getD_eq_getElem?_getD, List.getElem?_eq_getElem hlt, Option.getD_some]; exact hX _ (List.getElem_mem hlt)
    have dY : Y.getD i 0 < B32 := by
      rw [List.getD_eq_getElem?_getD]
      cases hq : Y[i]? with
      | none => decide
      | some d => exact hY d (List.mem_of_getElem? hq)
    have hwX : IntKind.u64.wrap ((X.getD i 0 : Nat) : Int) = (X.getD i 0 : Nat) := InR.wrap (k := .u64) (by simp only [InR]; unfold B32 at dX; omega)
    have hwY : IntKind.u64.wrap ((Y.getD i 0 : Nat) : Int) = (Y.getD i 0 : Nat) := InR.wrap (k := .u64) (by simp only [InR]; unfold B32 at dY; omega)
    have tX := valD_take (l := X) B32 i
    have tY := valD_take (l := Y) B32 i
    obtain ⟨s, hs⟩ : ∃ s, s = X.getD i 0 + c + Y.getD i 0 := ⟨_, rfl⟩
    have hvl : valD B32 (o ++ [s % B32]) + s / B32 * B32 ^ (i + 1) = valD B32 (X.take (i + 1)) + valD B32 (Y.take (i + 1)) := by
      rw [tX, tY, valD_append, ho, Nat.pow_succ]
      have e1 : valD B32 [s % B32] = s % B32 := by simp [valD]
      rw [e1]
      have e2 : s % B32 + B32 * (s / B32) = s := Nat.mod_add_div s B32
      generalize hP : B32 ^ i = P at *
      have e3 : P * (s % B32) + s / B32 * (P * B32) = P * s := by
        conv => rhs; rw [← e2, Nat.mul_add]
        rw [Nat.mul_comm (s / B32), Nat.mul_assoc]
      have e4 : P * s = X.getD i 0 * P + c * P + Y.getD i 0 * P := by rw [hs, Nat.mul_comm, Nat.add_mul, Nat.add_mul]
      omega
    have hsb : s ≤ 8589934591 := by unfold B32 at dX dY; omega
    have hs32 : IntKind.u32.wrap (s : Int) = ((s % B32 : Nat) : Int) := wrap_u32 s
    have hsd : (s : Int) / 2 ^ Int.toNat 32 = ((s / B32 : Nat) : Int) := by
      have : (2 : Int) ^ Int.toNat 32 = ((B32 : Nat) : Int) := rfl
      rw [this, Int.natCast_ediv]
    have hset : ((o ++ List.replicate (X.length + 1 - i) 0).map u32V).set i (.int .u32 ((s % B32 : Nat) : Int)) = ((o ++ [s % B32]) ++ List.replicate (X.length + 1 - (i + 1)) 0).map u32V := by
      have := set_mid o (X.length + 1 - (i + 1)) (s % B32)
      rw [ho, show X.length + 1 - (i + 1) + 1 = X.length + 1 - i by omega] at this
      exact this
    have hod' : ∀ d ∈ o ++ [s % B32], d < B32 := fun d hd => by
      rcases List.mem_append.1 hd with hd | hd
      · exact hod d hd
      · rw [List.mem_singleton] at hd; subst hd; exact Nat.mod_lt _ (by decide)
    have hc1 : s / B32 ≤ 1 := by unfold B32; omega
    have hlen : i < (o ++ List.replicate (X.length + 1 - i) 0).length := by simp; omega
    by_cases hlt2 : (i : Int) < Y.length
    · have hlt2' : i < Y.length := by omega
      have hgY : (Y.map u32V).getD i default = .int .u32 ((Y.getD i 0 : Nat) : Int) := by
        rw [getD_map_lt _ _ _ _ hlt2', List.getD_eq_getElem?_getD, List.getElem?_eq_getElem hlt2']; rfl
      have es : ((X.getD i 0 : Nat) : Int) + (c : Int) + ((Y.getD i 0 : Nat) : Int) = (s : Int) := by omega
      simp -implicitDefEqProofs only [natV, List.length_map, hlt, hgX, hgY, hlt2', hwX, hwY, es, hs32, hsd, hset, go_sem]
      refine ⟨by simp only [InR]; omega, by simp only [InR]; omega, ⟨by omega, by omega⟩, ⟨hlen, rfl⟩, by simp only [InR]; omega, (i + 1, o ++ [s % B32], s / B32), ⟨⟨rfl, by simp⟩, .inl rfl⟩, ⟨hlt, by simp [ho], hod', hc1, hvl⟩, by simp only; omega⟩
    · have hy0 : Y.getD i 0 = 0 := by rw [List.getD_eq_getElem?_getD, List.getElem?_eq_none (by omega)]; rfl
      have es : ((X.getD i 0 : Nat) : Int) + (c : Int) = (s : Int) := by omega
      simp -implicitDefEqProofs only [natV, List.length_map, hlt, hgX, hlt2, hwX, es, hs32, hsd, hset, go_sem]
      refine ⟨by simp only [InR]; omega, ⟨by omega, by omega⟩, ⟨hlen, rfl⟩, by simp only [InR]; omega, (i + 1, o ++ [s % B32], s / B32), ⟨⟨rfl, by simp⟩, .inl rfl⟩, ⟨hlt, by simp [ho], hod', hc1, hvl⟩, by simp only; omega⟩
  · simp -implicitDefEqProofs only [natV, List.length_map, hlt, go_sem]
    have hin : i = X.length := by omega
    refine AWp.seq (AWp.of_awpD [] hΓ hmix (by kernel_rfl) ?_)
    have hcw : IntKind.u32.wrap (c : Int) = (c : Int) := InR.wrap (k := .u32) (by simp only [InR]; omega)
    have hset : ((o ++ List.replicate (X.length + 1 - i) 0).map u32V).set X.length (.int .u32 (c : Int)) = (o ++ [c]).map u32V := by
      have := set_mid o 0 c
      rw [ho, hin, show (0 : Nat) + 1 = X.length + 1 - X.length by omega] at this
      rw [hin]
      simpa [u32V] using this
    simp -implicitDefEqProofs only [List.length_map, hcw, hset, go_sem]
    refine ⟨⟨by simp; omega, rfl⟩, ?_⟩
    refine AWp.freeze 0 rfl ?_
    refine AWp.of_awpD [] hΓ hmix (by kernel_rfl) ?_
    simp -implicitDefEqProofs only [Frozen, go_sem]
    have hall : ∀ d ∈ o ++ [c], d < B32 := fun d hd => by
      rcases List.mem_append.1 hd with hd | hd
      · exact hod d hd
      · rw [List.mem_singleton] at hd; subst hd; unfold B32; omega
    have e91 := u91 (o ++ [c]) (by rw [List.length_append, ho]; simp; omega)
    have hv : valD B32 (o ++ [c]) = valD B32 X + valD B32 Y := by
      rw [hin, List.take_of_length_le (Nat.le_refl _), List.take_of_length_le hYX] at hval
      rw [valD_append, ho, hin, ← hval]
      simp [valD, Nat.mul_comm]
    rw [trimL_eq (B := B32) (by decide) hall, hv] at e91
    refine callK_fn e91 (.pures rfl) ?_
    simp -implicitDefEqProofs only [natV, go_sem]
end Go.Proofs.YtoajffhlbogdaaaGreat
end

section
namespace Go.Proofs.YtoajffhlbogdaaaGreat
open Go Go.AM
set_option maxRecDepth 100000
set_option linter.unusedSimpArgs false

theorem digD_zero (B : Nat) : digD B 0 = [] := rfl
theorem digD_nil {B n : Nat} (hB : 2 ≤ B) (h : digD B n = []) : n = 0 := by
  have := digD_val hB n; rw [h] at this; exact this.symm
theorem digD_cons {B c n : Nat} (hB : 2 ≤ B) (hc : c < B) (h : ¬ (c = 0 ∧ n = 0)) : digD B (c + B * n) = c :: digD B n := by
  have hcan : Canon B (c :: digD B n) := by
    obtain ⟨h1, h2⟩ := digD_canon hB n
    refine ⟨fun d hd => ?_, ?_⟩
    · rcases List.mem_cons.1 hd with rfl | hd
      · exact hc
      · exact h1 d hd
    · cases e : digD B n with
      | nil =>
        have hn := digD_nil hB e
        simp only [List.getLast?_singleton, ne_eq, Option.some.injEq]
        exact fun h0 => h ⟨h0, hn⟩
      | cons a l => rw [e] at h2; simpa using h2
  have h1 := digD_of hB hcan
  have e : valD B (c :: digD B n) = c + B * valD B (digD B n) := rfl
  rw [e, digD_val hB] at h1
  exact h1

/-- A number's bytes, the greatest one first. -/
def magB (n : Nat) : List UInt8 := ((digD 256 n).map UInt8.ofNat).reverse
theorem magB_zero : magB 0 = [] := rfl
theorem magB_step {c n : Nat} (hc : c < 256) : magB (c + 256 * n) = if c = 0 ∧ n = 0 then [] else magB n ++ [UInt8.ofNat c] := by
  by_cases h : c = 0 ∧ n = 0
  · rw [if_pos h, h.1, h.2]; rfl
  · rw [if_neg h]; unfold magB; rw [digD_cons (by decide) hc h]; simp
theorem magB_nil {n : Nat} (h : magB n = []) : n = 0 := by
  unfold magB at h
  rw [List.reverse_eq_nil_iff, List.map_eq_nil_iff] at h
  exact digD_nil (by decide) h
theorem lebs_magB (n : Nat) : lebs (magB n) = digD 256 n := by
  unfold lebs magB
  rw [List.reverse_reverse, List.map_map]
  conv => rhs; rw [← List.map_id (digD 256 n)]
  apply List.map_congr_left
  intro d hd
  have := (digD_canon (B := 256) (by decide) n).1 d hd
  simp [UInt8.toNat_ofNat, Nat.mod_eq_of_lt this]
theorem magNat_magB (n : Nat) : magNat (magB n) = n := by
  unfold magNat; rw [lebs_magB, digD_val (by decide)]
theorem digF_len {B : Nat} (hB : 2 ≤ B) : ∀ f n, (digF B f n).length ≤ f
  | 0, _ => by simp [digF]
  | f + 1, n => by
    unfold digF
    split
    · simp
    · have := digF_len hB f (n / B)
      simp; omega
/-- A number below B^k has at most k digits. -/
theorem digF_small {B : Nat} (hB : 2 ≤ B) : ∀ k f n, n < B ^ k → (digF B f n).length ≤ k
  | _, 0, _, _ => by simp [digF]
  | 0, f + 1, n, h => by
    have : n = 0 := by simp at h; exact h
    subst this; simp [digF]
  | k + 1, f + 1, n, h => by
    unfold digF
    split
    · simp
    · have := digF_small hB k f (n / B) (by
        rw [Nat.div_lt_iff_lt_mul (by omega)]; rwa [Nat.pow_succ] at h)
      simp; omega
theorem digD_small {B : Nat} (hB : 2 ≤ B) {k n : Nat} (h : n < B ^ k) : (digD B n).length ≤ k := digF_small hB k n n h
theorem magB_small {k n : Nat} (h : n < 256 ^ k) : (magB n).length ≤ k := by
  unfold magB; simpa using digD_small (B := 256) (by decide) h

/-- A canonical integer. -/
def intN (neg : Bool) (n : Nat) : PV := intV (neg && decide (n ≠ 0)) (magB n)
theorem intN_zero (neg : Bool) : intN neg 0 = intV false [] := by simp [intN, magB_zero]

theorem magS (V d r : Nat) (hr : r < 4) : V * 256 ^ (4 - r) + d / 256 ^ r = (d / 256 ^ r) % 256 + 256 * (V * 256 ^ (4 - (r + 1)) + d / 256 ^ (r + 1)) := by
  rcases (by omega : r = 0 ∨ r = 1 ∨ r = 2 ∨ r = 3) with rfl | rfl | rfl | rfl <;> simp <;> omega

theorem wrap_u8 (n : Nat) : IntKind.u8.wrap (n : Int) = ((n % 256 : Nat) : Int) := by
  simp [IntKind.wrap, IntKind.signed, IntKind.bits]
theorem u8_of (n : Nat) (h : n < 256) : (PV.int .u8 (n : Int)) = u8V (UInt8.ofNat n) := by
  simp [u8V, UInt8.toNat_ofNat, Nat.mod_eq_of_lt h]

theorem valD_lt {B : Nat} : ∀ {l : List Nat}, (∀ d ∈ l, d < B) → valD B l < B ^ l.length
  | [], _ => by simp [valD]
  | d :: l, h => by
    have ih := valD_lt (l := l) (fun x hx => h x (by simp [hx]))
    have hd := h d (by simp)
    rw [List.length_cons, Nat.pow_succ]
    have e : valD B (d :: l) = d + B * valD B l := rfl
    rw [e]
    have h2 : B * (valD B l + 1) ≤ B * B ^ l.length := Nat.mul_le_mul_left B ih
    rw [Nat.mul_add] at h2
    rw [Nat.mul_comm (B ^ l.length)]
    omega
theorem magB_le {l : List Nat} (h : ∀ d ∈ l, d < B32) {n : Nat} (hn : n ≤ valD B32 l) : (magB n).length ≤ 4 * l.length := by
  refine magB_small ?_
  rw [pow_four]
  exact Nat.lt_of_le_of_lt hn (valD_lt h)

theorem u66 (neg : Bool) (x : List Nat) (hx : ∀ d ∈ x, d < B32) (hl : x.length ≤ 1000000) : PFn Tryz.prog 34 [.bool neg, natV x] [intN neg (valD B32 x)] := by
  refine PFn.of_body hΓ Tryz.func34 (by kernel_rfl) rfl (AWp.seq (AWp.of_awpD [] hΓ hmix (by kernel_rfl) ?_))
  simp -implicitDefEqProofs only [Tryz.ntmps34, Tryz.results34, Nat.reduceAdd, Nat.reduceSub, go_sem]
  refine AWp.seq (AWp.of_awpD [] hΓ hmix (by kernel_rfl) ?_)
  simp -implicitDefEqProofs only [go_sem]
  refine callK_fn (u91 x (by omega)) (.pures rfl) ?_
  simp -implicitDefEqProofs only [go_sem]
  have hval := trimL_val B32 x
  have hcan := trimL_canon hx
  have hXl : (trimL x).length ≤ 1000000 := by
    have : ∀ k, (trimN x k).length ≤ x.length := fun k => by
      induction k with
      | zero => simp [trimN]
      | succ k ih =>
        unfold trimN
        split
        · exact ih
        · simp; omega
    have := this x.length
    unfold trimL; omega
  rw [← hval]
  generalize trimL x = X at *
  clear hval hx hl
  by_cases hX0 : X = []
  · subst hX0
    refine AWp.of_awpD [] hΓ hmix (by kernel_rfl) ?_
    have hz : (([] : List PV).length : Int) = 0 := rfl
    simp -implicitDefEqProofs only [natV, List.map_nil, hz, go_sem]
    rw [show valD B32 [] = 0 from rfl, intN_zero]
    exact ⟨fun _ => rfl, fun h => absurd rfl h⟩
  have hXp : 0 < X.length := List.length_pos_iff.2 hX0
  have hXn : ¬ (X.length : Int) = 0 := by omega
  have hv0 : valD B32 X ≠ 0 := fun h => hX0 (canon_zero (B := B32) (by decide) hcan h)
  have hres : intN neg (valD B32 X) = .agg [.bool neg, .str (magB (valD B32 X))] := by simp [intN, intV, hv0]
  rw [hres]
  refine AWp.seq (AWp.of_awpD [] hΓ hmix (by kernel_rfl) ?_)
  simp -implicitDefEqProofs only [natV, hXn, List.length_map, go_sem]
  refine AWp.seq (AWp.of_awpD [] hΓ hmix (by kernel_rfl) ?_)
  simp -implicitDefEqProofs only [natV, hXn, List.length_map, go_sem]
  refine ⟨by simp only [InR]; omega, ⟨by omega, by omega, by omega⟩, ?_⟩
  refine AWp.seq (AWp.of_awpD [] hΓ hmix (by kernel_rfl) ?_)
  simp -implicitDefEqProofs only [natV, hXn, List.length_map, go_sem]
  refine ⟨by simp only [InR]; omega, ?_⟩
  refine AWp.loopI (fun n : Nat => ⟨mkF 53 [(0, .p (.bool neg)), (1, .p (natV X)), (4, .ptr 0 0), (5, .own 1 (magB (valD B32 (X.drop n))).length), (6, .p (.int .i64 ((n : Int) - 1)))], [.box [.p (.bool false), .p (.str [])], .row 5 1 ((magB (valD B32 (X.drop n))).map u8V) .own]⟩)
    (fun n => n ≤ X.length) (fun n => n) X.length (by simp [go_sem, natV, magB_zero, valD]) (Nat.le_refl _) ?_
  intro n hn
  refine AWp.of_awpD [] hΓ hmix (by kernel_rfl) ?_
  cases n with
  | zero =>
    have h1 : ¬ (0 : Int) ≤ ((0 : Nat) : Int) - 1 := by omega
    simp -implicitDefEqProofs only [h1, go_sem]
    refine AWp.of_awpD [] hΓ hmix (by kernel_rfl) ?_
    simp -implicitDefEqProofs only [go_sem]
    exact ⟨⟨5, rfl, rfl⟩, magB (valD B32 X), rfl, by omega, rfl⟩
  | succ n =>
    have h1 : (0 : Int) ≤ ((n + 1 : Nat) : Int) - 1 := by omega
    have e1 : ((n + 1 : Nat) : Int) - 1 = n := by omega
    simp -implicitDefEqProofs only [h1, e1, go_sem]
    have hnX : n < X.length := hn
    have hgX : (X.map u32V).getD n default = .int .u32 ((X.getD n 0 : Nat) : Int) := by
      rw [getD_map_lt _ _ _ _ hnX, List.getD_eq_getElem?_getD, List.getElem?_eq_getElem hnX]; rfl
    have hd : X.getD n 0 < B32 := by
      rw [List.getD_eq_getElem?_getD, List.getElem?_eq_getElem hnX, Option.getD_some]; exact hcan.1 _ (List.getElem_mem hnX)
    have hdrop : valD B32 (X.drop n) = X.getD n 0 + B32 * valD B32 (X.drop (n + 1)) := by
      rw [List.drop_eq_getElem_cons hnX, List.getD_eq_getElem?_getD, List.getElem?_eq_getElem hnX]; rfl
    have hdl : ∀ e ∈ X.drop n, e < B32 := fun e he => hcan.1 e (List.mem_of_mem_drop he)
    have hdle : (X.drop n).length ≤ 1000000 := by simp; omega
    generalize hV : valD B32 (X.drop (n + 1)) = V at *
    generalize X.getD n 0 = d at *
    refine AWp.loopI (fun r : Nat => ⟨mkF 53 [(0, .p (.bool neg)), (1, .p (natV X)), (4, .ptr 0 0), (5, .own 1 (magB (V * 256 ^ (4 - r) + d / 256 ^ r)).length), (6, .p (.int .i64 n)), (7, .p (.int .i64 ((r : Int) - 1)))], [.box [.p (.bool false), .p (.str [])], .row 5 1 ((magB (V * 256 ^ (4 - r) + d / 256 ^ r)).map u8V) .own]⟩)
      (fun r => r ≤ 4) (fun r => r) 4 (by
        have : V * 256 ^ (4 - 4) + d / 256 ^ 4 = V := by unfold B32 at hd; simp; omega
        rw [this]
        simp [go_sem]) (Nat.le_refl _) ?_
    intro r hr
    refine AWp.of_awpD [] hΓ hmix (by kernel_rfl) ?_
    cases r with
    | zero =>
      have h2 : ¬ (0 : Int) ≤ ((0 : Nat) : Int) - 1 := by omega
      have e2 : V * 256 ^ (4 - 0) + d / 256 ^ 0 = d + B32 * V := by unfold B32; simp; omega
      rw [e2, ← hdrop]
      simp -implicitDefEqProofs only [h2, go_sem]
      refine ⟨by simp only [InR]; omega, n, ⟨by simp, .inl rfl⟩, by omega, by omega⟩
    | succ r =>
      have h2 : (0 : Int) ≤ ((r + 1 : Nat) : Int) - 1 := by omega
      have e2 : ((r + 1 : Nat) : Int) - 1 = r := by omega
      have e3 := magS V d r (by omega)
      have e4 : (8 * (r : Int)).toNat = 8 * r := by omega
      have e5 : (d : Int) / 2 ^ (8 * r) = ((d / 256 ^ r : Nat) : Int) := by
        rw [show (256 : Nat) ^ r = 2 ^ (8 * r) by rw [Nat.pow_mul]]
        simp
      obtain ⟨N, hN⟩ : ∃ N, N = V * 256 ^ (4 - (r + 1)) + d / 256 ^ (r + 1) := ⟨_, rfl⟩
      obtain ⟨c, hc⟩ : ∃ c, c = d / 256 ^ r % 256 := ⟨_, rfl⟩
      have hc2 : c < 256 := by rw [hc]; exact Nat.mod_lt _ (by omega)
      have hcw : IntKind.u8.wrap ((d / 256 ^ r : Nat) : Int) = (c : Int) := by rw [hc]; exact wrap_u8 _
      have hst := magB_step (c := c) (n := N) hc2
      rw [← hc, ← hN] at e3
      rw [← e3] at hst
      rw [← hN]
      have hlN : (magB N).length ≤ 4000000 := by
        have := magB_le hdl (n := N) (by
          rw [hdrop, hN]
          unfold B32
          rcases (by omega : r = 0 ∨ r = 1 ∨ r = 2 ∨ r = 3) with rfl | rfl | rfl | rfl <;> simp <;> omega)
        omega
      by_cases hc0 : c = 0
      · have hc0' : (c : Int) = 0 := by omega
        by_cases hN0 : (magB N) = []
        · rw [if_pos ⟨hc0, magB_nil hN0⟩] at hst
          have hl0 : ¬ (0 : Int) < (([] : List UInt8).length : Int) := by simp
          rw [hN0]
          simp -implicitDefEqProofs only [natV, List.length_map, h2, e2, e4, e5, hgX, hcw, hc0', hl0, go_sem]
          refine ⟨hnX, by simp only [InR]; omega, ⟨by omega, by omega⟩, fun h => absurd h (by omega), fun _ => ⟨by simp only [InR]; omega, r, ⟨⟨by rw [hst]; rfl, rfl⟩, .inl (by rw [hst]; rfl)⟩, by omega, by omega⟩⟩
        · rw [if_neg (fun h => hN0 (by rw [h.2]; rfl))] at hst
          have hl0 : (0 : Int) < ((magB N).length : Int) := by have := List.length_pos_iff.2 hN0; omega
          simp -implicitDefEqProofs only [natV, List.length_map, h2, e2, e4, e5, hgX, hcw, hc0', hl0, go_sem]
          have hs1 : sizeOK [PV.int .u8 0] 1 := by simp [sizeOK, PV.cells]
          have ho1 : oneOK [PV.int .u8 0] := by simp [oneOK, PV.cells, PV.isAgg]
          have hu8 : [UInt8.ofNat c].map u8V = [PV.int .u8 0] := by rw [hc0]; rfl
          refine ⟨hnX, by simp only [InR]; omega, ⟨by omega, by omega⟩, ⟨hs1, by omega⟩, ⟨hs1, ho1⟩, ⟨.inl (by omega), by omega, by omega⟩, by simp only [InR]; omega, r, ⟨⟨by rw [hst]; simp, rfl⟩, .inl ⟨by rw [hst, List.map_append, hu8], rfl⟩⟩, by omega, by omega⟩
      · have hc0' : ¬ (c : Int) = 0 := by omega
        rw [if_neg (fun h => hc0 h.1)] at hst
        simp -implicitDefEqProofs only [natV, List.length_map, h2, e2, e4, e5, hgX, hcw, hc0', go_sem]
        have hs1 : sizeOK [PV.int .u8 (c : Int)] 1 := by simp [sizeOK, PV.cells]
        have ho1 : oneOK [PV.int .u8 (c : Int)] := by simp [oneOK, PV.cells, PV.isAgg]
        have hu8 : [UInt8.ofNat c].map u8V = [PV.int .u8 (c : Int)] := by rw [u8_of c hc2]; rfl
        refine ⟨hnX, by simp only [InR]; omega, ⟨by omega, by omega⟩, ⟨hs1, by omega⟩, ⟨hs1, ho1⟩, ⟨.inl (by omega), by omega, by omega⟩, by simp only [InR]; omega, r, ⟨⟨by rw [hst]; simp, rfl⟩, .inl ⟨by rw [hst, List.map_append, hu8], rfl⟩⟩, by omega, by omega⟩
end Go.Proofs.YtoajffhlbogdaaaGreat
end

section
namespace Go.Proofs.YtoajffhlbogdaaaGreat
open Go Go.AM
set_option maxRecDepth 100000
set_option linter.unusedSimpArgs false

def capN : Nat := 256 ^ (4 * 50)
theorem capN_eq : capN = B32 ^ 50 := by unfold capN; rw [pow_four]
theorem capN_pos : 0 < capN := Nat.pow_pos (by decide)
theorem cap_of {n k : Nat} (h : n < 256 ^ k) (hk : k ≤ 4 * 50) : n < capN := Nat.lt_of_lt_of_le h (Nat.pow_le_pow_right (by decide) hk)
theorem cap_mag {n : Nat} (h : n < capN) : (magB n).length ≤ 200 := magB_small (k := 4 * 50) h
theorem cap_dig {n : Nat} (h : n < capN) : (digD B32 n).length ≤ 50 := by
  rw [capN_eq] at h; exact digD_small (by decide) h
theorem dig_add {a b : Nat} (ha : a < capN) (hb : b < capN) : (digD B32 (a + b)).length ≤ 51 := by
  refine digD_small (by decide) ?_
  rw [Nat.pow_succ, ← capN_eq]
  unfold B32
  omega
theorem dig_lt (n : Nat) : ∀ d ∈ digD B32 n, d < B32 := (digD_canon (by decide) n).1

/-- digits of a canonical integer. -/
theorem u69n (neg : Bool) (n : Nat) (hn : n < capN) : PFn Tryz.prog 55 [intN neg n] [natV (digD B32 n)] := by
  have h := u69 (neg && decide (n ≠ 0)) (magB n) (by have := cap_mag hn; omega)
  rwa [magNat_magB] at h

theorem intN_pos (n : Nat) : intN false n = .agg [.bool false, .str (magB n)] := rfl

theorem u34 (n : Nat) (hn : n < 9223372036854775808) : PFn Tryz.prog 13 [.int .i64 n] [intN false n] := by
  have hd : ∀ d ∈ [n % B32, n / B32], d < B32 := fun d hd => by
    unfold B32 at *
    simp at hd
    rcases hd with rfl | rfl <;> omega
  have e := u66 false [n % B32, n / B32] hd (by simp)
  have hv : valD B32 [n % B32, n / B32] = n := by
    simp only [valD]
    unfold B32; omega
  rw [hv] at e
  have h1 : IntKind.u64.wrap (n : Int) = n := InR.wrap (k := .u64) (by simp only [InR]; omega)
  have h2 : ¬ (n : Int) < 0 := by omega
  have h3 : IntKind.u32.wrap (n : Int) = ((n % B32 : Nat) : Int) := wrap_u32 n
  have h4 : IntKind.u32.wrap ((n : Int) / 2 ^ Int.toNat 32) = ((n / B32 : Nat) : Int) := by
    have : (2 : Int) ^ Int.toNat 32 = ((B32 : Nat) : Int) := rfl
    rw [this, ← Int.natCast_ediv]
    exact InR.wrap (k := .u32) (by unfold B32; simp only [InR]; omega)
  refine PFn.of_body hΓ Tryz.func13 (by kernel_rfl) rfl (AWp.of_awpD [] hΓ hmix (by kernel_rfl) ?_)
  simp +contextual -implicitDefEqProofs only [Tryz.ntmps13, Tryz.results13, Nat.reduceAdd, Nat.reduceSub, go_sem]
  simp -implicitDefEqProofs only [h1, h2, h3, h4, go_sem]
  have hs2 : sizeOK [PV.int .u32 ((n % B32 : Nat) : Int), PV.int .u32 ((n / B32 : Nat) : Int)] 1 := size_u32 [n % B32, n / B32]
  refine ⟨⟨by omega, by omega⟩, ⟨hs2, by omega⟩, ?_⟩
  refine callK_fn e (.pures rfl) ?_
  simp -implicitDefEqProofs only [h1, h2, h3, h4, intN_pos, go_sem]

theorem u89 (a b : Nat) (ha : a < capN) (hb : b < capN) : PFn Tryz.prog 51 [intN false a, intN false b] [intN false (a + b)] := by
  have ea := u69n false a ha
  have eb := u69n false b hb
  have e1 := u105 (digD B32 a) (digD B32 b) (dig_lt a) (dig_lt b) (by have := cap_dig ha; omega) (by have := cap_dig hb; omega)
  rw [digD_val (by decide), digD_val (by decide)] at e1
  have e2 := u66 false (digD B32 (a + b)) (dig_lt _) (by have := dig_add ha hb; omega)
  rw [digD_val (by decide)] at e2
  refine PFn.of_body hΓ Tryz.func51 (by kernel_rfl) rfl (AWp.of_awpD [(1, 6), (3, 6), (5, 6), (6, 6)] hΓ hmix (by kernel_rfl) ?_)
  simp +contextual -implicitDefEqProofs only [intN_pos, Tryz.ntmps51, Tryz.results51, Nat.reduceAdd, Nat.reduceSub, go_sem]
  refine callVPK_fn ea (.still rfl) ?_
  simp -implicitDefEqProofs only [go_sem]
  refine callVPK_fn eb (.still rfl) ?_
  simp -implicitDefEqProofs only [beq_self_eq_true, go_sem]
  refine callVPK_fn e1 (.pures rfl) ?_
  simp -implicitDefEqProofs only [go_sem]
  refine callVPK_fn e2 (.pures rfl) ?_
  simp -implicitDefEqProofs only [intN_pos, go_sem]
end Go.Proofs.YtoajffhlbogdaaaGreat
end

section
namespace Go.Proofs.YtoajffhlbogdaaaGreat
open Go Go.AM
set_option maxRecDepth 100000
set_option linter.unusedSimpArgs false

def cmpN (a b : Nat) : Int := if a < b then -1 else if a = b then 0 else 1
theorem cmpN_lt {a b : Nat} (h : a < b) : cmpN a b = -1 := if_pos h
theorem cmpN_gt {a b : Nat} (h : b < a) : cmpN a b = 1 := by unfold cmpN; rw [if_neg (by omega), if_neg (by omega)]
theorem cmpN_eq (a : Nat) : cmpN a a = 0 := by unfold cmpN; rw [if_neg (by omega), if_pos rfl]

theorem valD_split (B i : Nat) (l : List Nat) : valD B l = valD B (l.take i) + B ^ (l.take i).length * valD B (l.drop i) := by
  conv => lhs; rw [← List.take_append_drop i l]
  rw [valD_append]
theorem valD_ge {B : Nat} (hB : 0 < B) : ∀ {l : List Nat}, Canon B l → l ≠ [] → B ^ (l.length - 1) ≤ valD B l
  | [], _, h => absurd rfl h
  | [d], h, _ => by
    have : d ≠ 0 := fun e => by subst e; exact h.2 rfl
    simp [valD]; omega
  | d :: e :: l, h, _ => by
    have ih := valD_ge hB (canon_tail h) (by simp)
    have e1 : valD B (d :: e :: l) = d + B * valD B (e :: l) := rfl
    have e2 : B ^ ((d :: e :: l).length - 1) = B * B ^ ((e :: l).length - 1) := by
      simp only [List.length_cons, Nat.add_sub_cancel]
      rw [Nat.pow_succ, Nat.mul_comm]
    rw [e1, e2]
    have := Nat.mul_le_mul_left B ih
    omega
theorem len_lt {B : Nat} (hB : 0 < B) {x y : List Nat} (hx : Canon B x) (hy : Canon B y) (h : x.length < y.length) : valD B x < valD B y := by
  refine Nat.lt_of_lt_of_le (valD_lt hx.1) (Nat.le_trans (Nat.pow_le_pow_right hB ?_) (valD_ge hB hy (fun e => by subst e; simp at h)))
  omega
theorem dig_cmp {B : Nat} {x y : List Nat} {i : Nat} (hx : ∀ d ∈ x, d < B) (hl : x.length = y.length) (hi : i < x.length) (hd : x.drop (i + 1) = y.drop (i + 1)) (h : x.getD i 0 < y.getD i 0) : valD B x < valD B y := by
  rw [valD_split B i x, valD_split B i y]
  have h1 : (x.take i).length = i := by simp; omega
  have h2 : (y.take i).length = i := by simp; omega
  have h3 : valD B (x.take i) < B ^ i := by
    have := valD_lt (B := B) (l := x.take i) (fun d hd => hx d (List.mem_of_mem_take hd))
    rwa [h1] at this
  have e1 : valD B (x.drop i) = x.getD i 0 + B * valD B (x.drop (i + 1)) := by
    rw [List.drop_eq_getElem_cons hi, List.getD_eq_getElem?_getD, List.getElem?_eq_getElem hi]; rfl
  have e2 : valD B (y.drop i) = y.getD i 0 + B * valD B (y.drop (i + 1)) := by
    rw [List.drop_eq_getElem_cons (show i < y.length by omega), List.getD_eq_getElem?_getD, List.getElem?_eq_getElem (show i < y.length by omega)]; rfl
  rw [h1, h2, e1, e2, hd]
  generalize B * valD B (y.drop (i + 1)) = R
  have h4 : B ^ i * (x.getD i 0 + R + 1) ≤ B ^ i * (y.getD i 0 + R) := Nat.mul_le_mul_left _ (by omega)
  rw [Nat.mul_add] at h4
  omega

theorem u106 (x y : List Nat) (hx : Canon B32 x) (hy : Canon B32 y) (hxl : x.length ≤ 1000000) (_hyl : y.length ≤ 1000000) : PFn Tryz.prog 75 [natV x, natV y] [.int .i64 (cmpN (valD B32 x) (valD B32 y))] := by
  refine PFn.of_body hΓ Tryz.func75 (by kernel_rfl) rfl (AWp.seq (AWp.of_awpD [] hΓ hmix (by kernel_rfl) ?_))
  simp -implicitDefEqProofs only [Tryz.ntmps75, Tryz.results75, Nat.reduceAdd, Nat.reduceSub, natV, go_sem]
  by_cases h1 : x.length = y.length
  · have h1' : (x.length : Int) = y.length := by omega
    refine AWp.seq (AWp.of_awpD [] hΓ hmix (by kernel_rfl) ?_)
    simp -implicitDefEqProofs only [List.length_map, h1', go_sem]
    refine AWp.seq (AWp.of_awpD [] hΓ hmix (by kernel_rfl) ?_)
    simp -implicitDefEqProofs only [List.length_map, h1', go_sem]
    refine ⟨by simp only [InR]; omega, ?_⟩
    refine AWp.loopI (fun n : Nat => ⟨mkF 41 [(0, .p (natV x)), (1, .p (natV y)), (5, .p (.int .i64 ((n : Int) - 1)))], []⟩)
      (fun n => n ≤ x.length ∧ x.drop n = y.drop n) (fun n => n) x.length (by simp [go_sem, natV, h1]) ⟨Nat.le_refl _, by rw [List.drop_length, h1, List.drop_length]⟩ ?_
    rintro n ⟨hn, hd⟩
    refine AWp.of_awpD [(8, 9), (9, 9)] hΓ hmix (by kernel_rfl) ?_
    cases n with
    | zero =>
      have h2 : ¬ (0 : Int) ≤ ((0 : Nat) : Int) - 1 := by omega
      have : x = y := by simpa using hd
      simp -implicitDefEqProofs only [h2, go_sem]
      rw [this, cmpN_eq]
      refine AWp.of_awpD [] hΓ hmix (by kernel_rfl) ?_
      simp -implicitDefEqProofs only [go_sem]
    | succ n =>
      have h2 : (0 : Int) ≤ ((n + 1 : Nat) : Int) - 1 := by omega
      have e2 : ((n + 1 : Nat) : Int) - 1 = n := by omega
      have hnx : n < x.length := hn
      have hny : n < y.length := by omega
      have hgx : (x.map u32V).getD n default = .int .u32 ((x.getD n 0 : Nat) : Int) := by
        rw [getD_map_lt _ _ _ _ hnx, List.getD_eq_getElem?_getD, List.getElem?_eq_getElem hnx]; rfl
      have hgy : (y.map u32V).getD n default = .int .u32 ((y.getD n 0 : Nat) : Int) := by
        rw [getD_map_lt _ _ _ _ hny, List.getD_eq_getElem?_getD, List.getElem?_eq_getElem hny]; rfl
      rcases Nat.lt_trichotomy (x.getD n 0) (y.getD n 0) with h | h | h
      · have h3 : ¬ ((x.getD n 0 : Nat) : Int) = (y.getD n 0 : Nat) := by omega
        have h4 : ((x.getD n 0 : Nat) : Int) < (y.getD n 0 : Nat) := by omega
        have := dig_cmp hx.1 h1 hnx hd h
        simp -implicitDefEqProofs only [natV, List.length_map, h2, e2, hgx, hgy, h3, h4, hnx, hny, go_sem]
        rw [cmpN_lt this]
      · have hd' : x.drop n = y.drop n := by
          rw [List.drop_eq_getElem_cons hnx, List.drop_eq_getElem_cons hny, hd]
          congr 1
          rwa [List.getD_eq_getElem?_getD, List.getElem?_eq_getElem hnx, Option.getD_some, List.getD_eq_getElem?_getD, List.getElem?_eq_getElem hny, Option.getD_some] at h
        simp -implicitDefEqProofs only [natV, List.length_map, h2, e2, hgx, hgy, h, hnx, hny, go_sem]
        exact ⟨by simp only [InR]; omega, n, rfl, ⟨by omega, hd'⟩, by omega⟩
      · have h3 : ¬ ((x.getD n 0 : Nat) : Int) = (y.getD n 0 : Nat) := by omega
        have h4 : ¬ ((x.getD n 0 : Nat) : Int) < (y.getD n 0 : Nat) := by omega
        have := dig_cmp hy.1 h1.symm hny hd.symm h
        simp -implicitDefEqProofs only [natV, List.length_map, h2, e2, hgx, hgy, h3, h4, hnx, hny, go_sem]
        rw [cmpN_gt this]
  · have h1' : ¬ (x.length : Int) = y.length := by omega
    refine AWp.of_awpD [] hΓ hmix (by kernel_rfl) ?_
    by_cases h2 : x.length < y.length
    · have h2' : (x.length : Int) < y.length := by omega
      have := len_lt (B := B32) (by decide) hx hy h2
      simp -implicitDefEqProofs only [List.length_map, h1', h2', go_sem]
      rw [cmpN_lt this]
    · have h2' : ¬ (x.length : Int) < y.length := by omega
      have := len_lt (B := B32) (by decide) hy hx (by omega)
      simp -implicitDefEqProofs only [List.length_map, h1', h2', go_sem]
      rw [cmpN_gt this]

theorem u107 (X Y : List Nat) (hX : ∀ d ∈ X, d < B32) (hY : ∀ d ∈ Y, d < B32) (hXl : X.length ≤ 1000000) (hYX : Y.length ≤ X.length) (hle : valD B32 Y ≤ valD B32 X) : PFn Tryz.prog 76 [natV X, natV Y] [natV (digD B32 (valD B32 X - valD B32 Y))] := by
  have eL : ((X.length : Int)).toNat = X.length := by omega
  refine PFn.of_body hΓ Tryz.func76 (by kernel_rfl) rfl (AWp.seq (AWp.of_awpD [] hΓ hmix (by kernel_rfl) ?_))
  simp -implicitDefEqProofs only [Tryz.ntmps76, Tryz.results76, Nat.reduceAdd, Nat.reduceSub, natV, go_sem]
  refine AWp.seq (AWp.of_awpD [] hΓ hmix (by kernel_rfl) ?_)
  simp -implicitDefEqProofs only [natV, List.length_map, eL, go_sem]
  refine ⟨⟨by omega, by omega⟩, ?_⟩
  refine AWp.seq (AWp.of_awpD [] hΓ hmix (by kernel_rfl) ?_)
  simp -implicitDefEqProofs only [go_sem]
  refine AWp.seq (AWp.of_awpD [] hΓ hmix (by kernel_rfl) ?_)
  simp -implicitDefEqProofs only [List.length_map, go_sem]
  refine AWp.loopI (fun z : Nat × List Nat × Nat => ⟨mkF 47 [(0, .p (natV X)), (1, .p (natV Y)), (5, .own 0 X.length), (6, .p (.int .i64 z.2.2)), (13, .p (.int .i64 X.length)), (14, .p (.int .i64 z.1))], [.row 72 1 ((z.2.1 ++ List.replicate (X.length - z.1) 0).map u32V) .own]⟩)
    (fun z => z.1 ≤ X.length ∧ z.2.1.length = z.1 ∧ (∀ d ∈ z.2.1, d < B32) ∧ z.2.2 ≤ 1 ∧ valD B32 (X.take z.1) + z.2.2 * B32 ^ z.1 = valD B32 z.2.1 + valD B32 (Y.take z.1)) (fun z => X.length - z.1) (0, [], 0) (by simp [go_sem, natV, u32V]) (by simp [valD]) ?_
  rintro ⟨i, o, c⟩ ⟨hi, ho, hod, hc, hval⟩
  simp only at hi ho hod hc hval
  refine AWp.of_awpD [] hΓ hmix (by kernel_rfl) ?_
  by_cases hlt : i < X.length
  · have hgX : (X.map u32V).getD i default = .int .u32 ((X.getD i 0 : Nat) : Int) := by
      rw [getD_map_lt _ _ _ _ hlt, List.getD_eq_getElem?_getD, List.getElem?_eq_getElem hlt]; rfl
    have dX : X.getD i 0 < B32 := by
      rw [List.getD_eq_getElem?_getD, List.getElem?_eq_getElem hlt, Option.getD_some]; exact hX _ (List.getElem_mem hlt)
    have dY : Y.getD i 0 < B32 := by
      rw [List.getD_eq_getElem?_getD]
      cases hq : Y[i]? with
      | none => decide
      | some d => exact hY d (List.mem_of_getElem? hq)
    have hwX : IntKind.i64.wrap ((X.getD i 0 : Nat) : Int) = (X.getD i 0 : Nat) := InR.wrap (k := .i64) (by simp only [InR]; unfold B32 at dX; omega)
    have hwY : IntKind.i64.wrap ((Y.getD i 0 : Nat) : Int) = (Y.getD i 0 : Nat) := InR.wrap (k := .i64) (by simp only [InR]; unfold B32 at dY; omega)
    have tX := valD_take (l := X) B32 i
    have tY := valD_take (l := Y) B32 i
    generalize hxi : X.getD i 0 = xi at *
    generalize hyi : Y.getD i 0 = yi at *
    have hB : B32 = 4294967296 := rfl
    obtain ⟨s, b, hs, hb, hsb⟩ : ∃ s b : Nat, (b = 0 ∧ (s : Int) = (xi : Int) - c - yi ∨ b = 1 ∧ (s : Int) = (xi : Int) - c - yi + 4294967296 ∧ (xi : Int) - c - yi < 0) ∧ b ≤ 1 ∧ s < B32 := by
      by_cases hneg : (xi : Int) - c - yi < 0
      · exact ⟨((xi : Int) - c - yi + 4294967296).toNat, 1, .inr ⟨rfl, by omega, hneg⟩, by omega, by omega⟩
      · exact ⟨((xi : Int) - c - yi).toNat, 0, .inl ⟨rfl, by omega⟩, by omega, by omega⟩
    have hvl : valD B32 (X.take (i + 1)) + b * B32 ^ (i + 1) = valD B32 (o ++ [s]) + valD B32 (Y.take (i + 1)) := by
      rw [tX, tY, valD_append, ho, Nat.pow_succ]
      have e1 : valD B32 [s] = s := by simp [valD]
      rw [e1]
      generalize hP : B32 ^ i = P at *
      have e2 : xi + b * B32 = s + yi + c := by
        rcases hs with ⟨rfl, h⟩ | ⟨rfl, h, _⟩ <;> omega
      have e3 : (xi + b * B32) * P = (s + yi + c) * P := by rw [e2]
      rw [Nat.add_mul, Nat.add_mul, Nat.add_mul] at e3
      have e4 : b * (P * B32) = b * B32 * P := by rw [Nat.mul_comm P, Nat.mul_assoc]
      rw [e4, Nat.mul_comm P s]
      omega
    have hs32 : IntKind.u32.wrap (s : Int) = (s : Int) := InR.wrap (k := .u32) (by simp only [InR]; omega)
    have hset : ((o ++ List.replicate (X.length - i) 0).map u32V).set i (.int .u32 (s : Int)) = ((o ++ [s]) ++ List.replicate (X.length - (i + 1)) 0).map u32V := by
      have := set_mid o (X.length - (i + 1)) s
      rw [ho, show X.length - (i + 1) + 1 = X.length - i by omega] at this
      exact this
    have hod' : ∀ d ∈ o ++ [s], d < B32 := fun d hd => by
      rcases List.mem_append.1 hd with hd | hd
      · exact hod d hd
      · rw [List.mem_singleton] at hd; subst hd; exact hsb
    have hlen : i < (o ++ List.replicate (X.length - i) 0).length := by simp; omega
    by_cases hlt2 : (i : Int) < Y.length
    · have hlt2' : i < Y.length := by omega
      have hgY : (Y.map u32V).getD i default = .int .u32 (yi : Int) := by
        rw [getD_map_lt _ _ _ _ hlt2', ← hyi, List.getD_eq_getElem?_getD, List.getElem?_eq_getElem hlt2']; rfl
      rcases hs with ⟨rfl, h⟩ | ⟨rfl, h, hneg⟩
      · have hneg : ¬ (s : Int) < 0 := by omega
        simp -implicitDefEqProofs only [natV, List.length_map, hlt, hgX, hgY, hlt2', hwX, hwY, ← h, hneg, hs32, hset, go_sem]
        refine ⟨by simp only [InR]; omega, by simp only [InR]; omega, ⟨hlen, rfl⟩, by simp only [InR]; omega, (i + 1, o ++ [s], 0), ⟨⟨rfl, by simp⟩, .inl rfl⟩, ⟨hlt, by simp [ho], hod', by omega, hvl⟩, by simp only; omega⟩
      · simp -implicitDefEqProofs only [natV, List.length_map, hlt, hgX, hgY, hlt2', hwX, hwY, hneg, ← h, hs32, hset, go_sem]
        refine ⟨by simp only [InR]; omega, by simp only [InR]; omega, by simp only [InR]; omega, ⟨hlen, rfl⟩, by simp only [InR]; omega, (i + 1, o ++ [s], 1), ⟨⟨rfl, by simp⟩, .inl rfl⟩, ⟨hlt, by simp [ho], hod', by omega, hvl⟩, by simp only; omega⟩
    · have hy0 : yi = 0 := by rw [← hyi, List.getD_eq_getElem?_getD, List.getElem?_eq_none (by omega)]; rfl
      rcases hs with ⟨rfl, h⟩ | ⟨rfl, h, hneg⟩
      · have h' : (s : Int) = (xi : Int) - c := by omega
        have hneg : ¬ (s : Int) < 0 := by omega
        simp -implicitDefEqProofs only [natV, List.length_map, hlt, hgX, hlt2, hwX, hwY, ← h', hneg, hs32, hset, go_sem]
        refine ⟨by simp only [InR]; omega, ⟨hlen, rfl⟩, by simp only [InR]; omega, (i + 1, o ++ [s], 0), ⟨⟨rfl, by simp⟩, .inl rfl⟩, ⟨hlt, by simp [ho], hod', by omega, hvl⟩, by simp only; omega⟩
      · have h' : (s : Int) = (xi : Int) - c + 4294967296 := by omega
        have hneg' : (xi : Int) - c < 0 := by omega
        simp -implicitDefEqProofs only [natV, List.length_map, hlt, hgX, hlt2, hwX, hwY, hneg', ← h', hs32, hset, go_sem]
        refine ⟨by simp only [InR]; omega, by simp only [InR]; omega, ⟨hlen, rfl⟩, by simp only [InR]; omega, (i + 1, o ++ [s], 1), ⟨⟨rfl, by simp⟩, .inl rfl⟩, ⟨hlt, by simp [ho], hod', by omega, hvl⟩, by simp only; omega⟩
  · simp -implicitDefEqProofs only [natV, List.length_map, hlt, go_sem]
    have hin : i = X.length := by omega
    have hall : valD B32 o < B32 ^ o.length := valD_lt hod
    rw [hin, List.take_of_length_le (Nat.le_refl _), List.take_of_length_le hYX] at hval
    have hc0 : c = 0 := by
      rcases (by omega : c = 0 ∨ c = 1) with h | h
      · exact h
      · subst h
        rw [ho, hin] at hall
        omega
    subst hc0
    have hv : valD B32 o = valD B32 X - valD B32 Y := by simp at hval; omega
    have hrow : o ++ List.replicate (X.length - i) 0 = o := by rw [hin]; simp
    rw [hrow]
    refine AWp.freeze 0 rfl ?_
    refine AWp.of_awpD [] hΓ hmix (by kernel_rfl) ?_
    simp -implicitDefEqProofs only [Frozen, go_sem]
    have e91 := u91 o (by omega)
    rw [trimL_eq (B := B32) (by decide) hod, hv] at e91
    refine callK_fn e91 (.pures rfl) ?_
    simp -implicitDefEqProofs only [natV, go_sem]

theorem u90 (n : Nat) (hn : n < capN) : PFn Tryz.prog 56 [intN false n] [intN true n] := by
  have e1 := u69n false n hn
  have e2 := u66 true (digD B32 n) (dig_lt _) (by have := cap_dig hn; omega)
  rw [digD_val (by decide)] at e2
  refine PFn.of_body hΓ Tryz.func56 (by kernel_rfl) rfl (AWp.of_awpD [(1, 6)] hΓ hmix (by kernel_rfl) ?_)
  simp +contextual -implicitDefEqProofs only [intN_pos, Tryz.ntmps56, Tryz.results56, Nat.reduceAdd, Nat.reduceSub, go_sem]
  refine callVPK_fn e1 (.still rfl) ?_
  simp -implicitDefEqProofs only [go_sem]
  refine callVPK_fn e2 (.pures rfl) ?_
  simp -implicitDefEqProofs only [intN, intV, go_sem]

theorem intN_neg {n : Nat} (h : n ≠ 0) : intN true n = .agg [.bool true, .str (magB n)] := by simp [intN, intV, h]

theorem u89m (a b : Nat) (ha : a < capN) (hb : b < capN) (hb0 : b ≠ 0) : PFn Tryz.prog 51 [intN false a, intN true b] [if a < b then intN true (b - a) else intN false (a - b)] := by
  have ea := u69n false a ha
  have eb := u69n true b hb
  have la := cap_dig ha
  have lb := cap_dig hb
  have ec := u106 (digD B32 a) (digD B32 b) (digD_canon (by decide) a) (digD_canon (by decide) b) (by omega) (by omega)
  rw [digD_val (by decide), digD_val (by decide)] at ec
  rw [intN_neg hb0] at eb ⊢
  by_cases h : a < b
  · have hlen : (digD B32 a).length ≤ (digD B32 b).length := by
      rcases Nat.lt_or_ge (digD B32 b).length (digD B32 a).length with hl | hl
      · have := len_lt (B := B32) (by decide) (digD_canon (by decide) b) (digD_canon (by decide) a) hl
        rw [digD_val (by decide), digD_val (by decide)] at this
        omega
      · exact hl
    have e1 := u107 (digD B32 b) (digD B32 a) (dig_lt b) (dig_lt a) (by omega) hlen (by rw [digD_val (by decide), digD_val (by decide)]; omega)
    rw [digD_val (by decide), digD_val (by decide)] at e1
    have e2 := u66 true (digD B32 (b - a)) (dig_lt _) (by have := cap_dig (n := b - a) (by omega); omega)
    rw [digD_val (by decide)] at e2
    rw [cmpN_lt h] at ec
    have hft : (false == true) = false := rfl
    have hm1 : (-1 : Int) < 0 := by decide
    refine PFn.of_body hΓ Tryz.func51 (by kernel_rfl) rfl (AWp.of_awpD [(1, 6), (3, 6), (5, 6), (6, 6)] hΓ hmix (by kernel_rfl) ?_)
    simp +contextual -implicitDefEqProofs only [intN_pos, Tryz.ntmps51, Tryz.results51, Nat.reduceAdd, Nat.reduceSub, go_sem]
    refine callVPK_fn ea (.still rfl) ?_
    simp -implicitDefEqProofs only [go_sem]
    refine callVPK_fn eb (.still rfl) ?_
    simp -implicitDefEqProofs only [hft, go_sem]
    refine callK_fn ec (.pures rfl) ?_
    simp -implicitDefEqProofs only [hm1, go_sem]
    refine callVPK_fn e1 (.pures rfl) ?_
    simp -implicitDefEqProofs only [go_sem]
    refine callVPK_fn e2 (.pures rfl) ?_
    simp -implicitDefEqProofs only [h, intN_neg (show b - a ≠ 0 by omega), go_sem]
  · have hlen : (digD B32 b).length ≤ (digD B32 a).length := by
      rcases Nat.lt_or_ge (digD B32 a).length (digD B32 b).length with hl | hl
      · have := len_lt (B := B32) (by decide) (digD_canon (by decide) a) (digD_canon (by decide) b) hl
        rw [digD_val (by decide), digD_val (by decide)] at this
        omega
      · exact hl
    have e1 := u107 (digD B32 a) (digD B32 b) (dig_lt a) (dig_lt b) (by omega) hlen (by rw [digD_val (by decide), digD_val (by decide)]; omega)
    rw [digD_val (by decide), digD_val (by decide)] at e1
    have e2 := u66 false (digD B32 (a - b)) (dig_lt _) (by have := cap_dig (n := a - b) (by omega); omega)
    rw [digD_val (by decide)] at e2
    have hft : (false == true) = false := rfl
    have hm1 : ¬ cmpN a b < 0 := by unfold cmpN; rw [if_neg h]; split <;> decide
    refine PFn.of_body hΓ Tryz.func51 (by kernel_rfl) rfl (AWp.of_awpD [(1, 6), (3, 6), (5, 6), (6, 6)] hΓ hmix (by kernel_rfl) ?_)
    simp +contextual -implicitDefEqProofs only [intN_pos, Tryz.ntmps51, Tryz.results51, Nat.reduceAdd, Nat.reduceSub, go_sem]
    refine callVPK_fn ea (.still rfl) ?_
    simp -implicitDefEqProofs only [go_sem]
    refine callVPK_fn eb (.still rfl) ?_
    simp -implicitDefEqProofs only [hft, go_sem]
    refine callK_fn ec (.pures rfl) ?_
    simp -implicitDefEqProofs only [hm1, go_sem]
    refine callVPK_fn e1 (.pures rfl) ?_
    simp -implicitDefEqProofs only [go_sem]
    refine callVPK_fn e2 (.pures rfl) ?_
    simp -implicitDefEqProofs only [h, intN_pos, go_sem]
theorem u65 (a b : Nat) (ha : a < capN) (hb : b < capN) : PFn Tryz.prog 53 [intN false a, intN false b] [if a < b then intN true (b - a) else intN false (a - b)] := by
  have e1 := u90 b hb
  have e2 : PFn Tryz.prog 51 [intN false a, intN true b] [if a < b then intN true (b - a) else intN false (a - b)] := by
    by_cases h : b = 0
    · subst h
      have := u89 a 0 ha hb
      rw [if_neg (by omega)]
      exact this
    · exact u89m a b ha hb h
  by_cases h : a < b
  · rw [if_pos h] at e2 ⊢
    rw [intN_neg (show b - a ≠ 0 by omega)] at e2 ⊢
    refine PFn.of_body hΓ Tryz.func53 (by kernel_rfl) rfl (AWp.of_awpD [(1, 4)] hΓ hmix (by kernel_rfl) ?_)
    simp -implicitDefEqProofs only [Tryz.ntmps53, Tryz.results53, Nat.reduceAdd, Nat.reduceSub, intN_pos, go_sem]
    refine callVPK_fn e1 (.still rfl) ?_
    simp -implicitDefEqProofs only [go_sem]
    refine callVPK_fn e2 (.still rfl) ?_
    simp -implicitDefEqProofs only [go_sem]
  · rw [if_neg h] at e2 ⊢
    refine PFn.of_body hΓ Tryz.func53 (by kernel_rfl) rfl (AWp.of_awpD [(1, 4)] hΓ hmix (by kernel_rfl) ?_)
    simp -implicitDefEqProofs only [Tryz.ntmps53, Tryz.results53, Nat.reduceAdd, Nat.reduceSub, intN_pos, go_sem]
    refine callVPK_fn e1 (.still rfl) ?_
    simp -implicitDefEqProofs only [go_sem]
    refine callVPK_fn e2 (.still rfl) ?_
    simp -implicitDefEqProofs only [intN_pos, go_sem]
theorem u33 (a b : Nat) (ha : a < capN) (hb : b < capN) : PFn Tryz.prog 31 [intN false a, intN false b] [.int .i64 (cmpN a b)] := by
  have e := u65 a b ha hb
  by_cases h : a < b
  · rw [cmpN_lt h]
    rw [if_pos h, intN_neg (show b - a ≠ 0 by omega)] at e
    refine PFn.of_body hΓ Tryz.func31 (by kernel_rfl) rfl (AWp.of_awpD [] hΓ hmix (by kernel_rfl) ?_)
    simp -implicitDefEqProofs only [Tryz.ntmps31, Tryz.results31, Nat.reduceAdd, Nat.reduceSub, intN_pos, go_sem]
    refine callK_fn e (.still rfl) ?_
    simp -implicitDefEqProofs only [go_sem]
  · rw [if_neg h] at e
    by_cases h2 : a = b
    · subst h2
      rw [cmpN_eq]
      rw [Nat.sub_self] at e
      refine PFn.of_body hΓ Tryz.func31 (by kernel_rfl) rfl (AWp.of_awpD [] hΓ hmix (by kernel_rfl) ?_)
      simp -implicitDefEqProofs only [Tryz.ntmps31, Tryz.results31, Nat.reduceAdd, Nat.reduceSub, intN_pos, go_sem]
      refine callK_fn e (.still rfl) ?_
      simp -implicitDefEqProofs only [intN_pos, magB_zero, go_sem]
    · rw [cmpN_gt (by omega)]
      have hm : ¬ magB (a - b) = [] := fun e => by have := magB_nil e; omega
      refine PFn.of_body hΓ Tryz.func31 (by kernel_rfl) rfl (AWp.of_awpD [] hΓ hmix (by kernel_rfl) ?_)
      simp -implicitDefEqProofs only [Tryz.ntmps31, Tryz.results31, Nat.reduceAdd, Nat.reduceSub, intN_pos, go_sem]
      refine callK_fn e (.still rfl) ?_
      simp -implicitDefEqProofs only [intN_pos, hm, go_sem]
end Go.Proofs.YtoajffhlbogdaaaGreat
end

