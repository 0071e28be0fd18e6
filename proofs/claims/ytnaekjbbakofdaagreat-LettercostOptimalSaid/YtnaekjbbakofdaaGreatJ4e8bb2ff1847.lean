/-
  AM 21: loops over functions.
  AM 22: a reckoner: operations at given values, as a program that the kernel runs.
  AM 23: a reckoner: operations that write; names; equal heaps; what a call does not see.
  AM 24: a reckoner: calls, rounds, code.
-/
import Derived.Test.YtnaekjbbakofdaaGreatJ9daa5109031c
import Derived.RangeFuncIn

section
namespace Go.AM
open Go.RowKit

def Ctx.sub (X : Ctx) (I : Nat → Prop) (μ : Nat → Value) (ob : Nat → Option Nat) (h : List AObj) (ks : List Nat) (w : World) : Ctx :=
  { B0 := X.B0, w0 := X.w0, I0 := I, μ0 := μ, n0 := h.length, ks := ks, fz := fun q => q < w.heap.size ∧ ∀ b : Nat, ob b ≠ some q, w1 := w }

section
variable {P : Program} {X : Ctx} {I I' : Nat → Prop} {μ μ' : Nat → Value} {ob ob' : Nat → Option Nat} {w w' : World} {h h' : List AObj} {ks : List Nat}

theorem RepH.into (RH : RepH X I μ ob h w) : RepH (X.sub I μ ob h ks w) I μ ob h w :=
  { below := RH.below, base := RH.base, imm := RH.imm, ctx := fun _ h => h, frz := fun _ hg => ⟨hg.1, rfl⟩, inew := fun _ h => .inl h, may := fun _ _ => rfl, names := Nat.le_refl _
    own := fun b g hg => ⟨(RH.own b g hg).1, ⟨(RH.own b g hg).2.1.1, fun hz => hz.2 b hg⟩, (RH.own b g hg).2.2⟩, sep := RH.sep, past := RH.past, objs := RH.objs }

theorem RepH.back0 {ob3 : Nat → Option Nat} {h3 : List AObj} (RH : RepH X I μ ob h w) (hks : ∀ k ∈ ks, X.may k) (R3 : RepH (X.sub I μ ob h ks w) I' μ' ob3 h3 w') (hI : ∀ g, I g → I' g) :
    RepH X I' μ' ob3 h3 w' ∧ (∀ b, b < h.length → b ∉ ks → μ' b = μ b) ∧ h.length ≤ h3.length ∧ (∀ g, I' g → I g ∨ (∃ b, ob b = some g) ∨ w.heap.size ≤ g) ∧
      (∀ b g, ob3 b = some g → (∃ c, ob c = some g) ∨ w.heap.size ≤ g) ∧ (∀ g, g < w.heap.size → (∀ b, ob b ≠ some g) → w'.heap[g]? = w.heap[g]?) := by
  have hnf : ∀ g, (X.sub I μ ob h ks w).mine g → (∃ b, ob b = some g) ∨ w.heap.size ≤ g := fun g hg => by
    rcases Nat.lt_or_ge g w.heap.size with h1 | h1
    · refine .inl (Classical.byContradiction fun h2 => hg.2 ⟨h1, fun b hb => h2 ⟨b, hb⟩⟩)
    · exact .inr h1
  refine ⟨?_, fun b hb hk => ?_, R3.names, fun g hg => ?_, fun b g hb => ?_, fun g hg ho => ?_⟩
  · exact {
      below := R3.below, base := R3.base, imm := R3.imm, ctx := fun g hg => hI g (RH.ctx g hg)
      frz := fun g hg => by
        have h1 := RH.frz g hg
        have h2 := R3.frz g ⟨h1.1, fun b hb => (RH.own b g hb).2.1.2 hg⟩
        exact ⟨h2.1, h2.2.trans h1.2⟩
      inew := fun g hg => by
        rcases R3.inew g hg with h1 | h1
        · exact RH.inew g h1
        · rcases hnf g h1 with ⟨b, hb⟩ | h2
          · exact .inr (RH.own b g hb).2.1
          · exact .inr (RH.fresh h2)
      may := fun b hb => by
        have hb1 : b < X.n0 := Nat.lt_of_not_le fun h1 => hb (.inl h1)
        have := RH.names
        rw [R3.may b (fun h1 => h1.elim (fun h1 => by have h1 : h.length ≤ b := h1; omega) (fun h1 => hb (hks b h1)))]
        exact RH.may b hb
      names := Nat.le_trans RH.names R3.names
      own := fun b g hb => by
        have h1 := R3.own b g hb
        refine ⟨h1.1, ?_, h1.2.2⟩
        rcases hnf g h1.2.1 with ⟨c, hc⟩ | h2
        · exact (RH.own c g hc).2.1
        · exact RH.fresh h2
      sep := R3.sep, past := R3.past, objs := R3.objs }
  · exact R3.may b (fun h1 => h1.elim (fun h1 => by have h1 : h.length ≤ b := h1; omega) hk)
  · rcases R3.inew g hg with h1 | h1
    · exact .inl h1
    · exact .inr (hnf g h1)
  · exact hnf g (R3.own b g hb).2.1
  · exact (R3.frz g ⟨hg, ho⟩).2

def KeepN (n : Nat) (v : AV) (h : List AObj) : Prop := n = h.length ∨ (v.under n = true ∧ (h.take n).all (AObj.under n) = true ∧ n ≤ h.length)

theorem RepH.keepN {n : Nat} {v : AV} {cv : Value} (R : RepH X I μ ob h w) (hn : X.n0 ≤ n) (hk : KeepN n v h) (hv : VR h.length μ I w v cv) : ∃ ob', RepH X I μ ob' (h.take n) w ∧ VR (h.take n).length μ I w v cv := by
  rcases hk with rfl | ⟨h1, h2, h3⟩
  · rw [List.take_length]; exact ⟨ob, R, hv⟩
  · refine ⟨_, R.trunc hn h3 h2, ?_⟩
    rw [List.length_take, Nat.min_eq_left h3]; exact hv.narrow h1

def setP (tm : List AV) : List Nat → List AV → List AV
  | p :: ps, v :: vs => setP (tm.set p v) ps vs
  | _, _ => tm

theorem zipA (ps : List Nat) (vs : List Value) : (ps.toArray.zip vs.toArray).toList = ps.zip vs := by simp

theorem setP_ok {n : Nat} : ∀ (ps : List Nat) (vs : List AV) (cvs : List Value) (tm : List AV) (A : Array Value), vs.length = cvs.length → (∀ i, i < vs.length → VR n μ I w (vs.getD i .junk) (cvs.getD i undef)) →
    tm.length = A.size → (∀ i, i < tm.length → VR n μ I w (tm.getD i .junk) (A.getD i undef)) →
    ∃ B, (ps.zip cvs).foldl (fun tmps (x : Nat × Value) => tmps.setIfInBounds x.1 x.2) A = B ∧ (setP tm ps vs).length = B.size ∧ ∀ i, i < (setP tm ps vs).length → VR n μ I w ((setP tm ps vs).getD i .junk) (B.getD i undef)
  | [], vs, cvs, tm, A, _, _, hs, ht => ⟨A, by simp, by simpa [setP] using hs, by simpa [setP] using ht⟩
  | _ :: _, [], [], tm, A, _, _, hs, ht => ⟨A, by simp, by simpa [setP] using hs, by simpa [setP] using ht⟩
  | p :: ps, v :: vs, cv :: cvs, tm, A, hl, hv, hs, ht => by
    have h0 := hv 0 (by simp)
    simp only [List.getD_cons_zero] at h0
    obtain ⟨B, e1, e2, e3⟩ := setP_ok ps vs cvs (tm.set p v) (A.setIfInBounds p cv) (by simpa using hl) (fun i hi => by simpa using hv (i + 1) (by simpa using hi)) (by simpa using hs) (fun i hi => by
      simp only [List.length_set] at hi
      by_cases e : p = i
      · subst e
        have e1 : (tm.set p v).getD p .junk = v := by simp [List.getD_eq_getElem?_getD, hi]
        have e2 : (A.setIfInBounds p cv).getD p undef = cv := by simp [Array.getD, show p < A.size by omega]
        rw [e1, e2]; exact h0
      · have e1 : (tm.set p v).getD i .junk = tm.getD i .junk := by simp [List.getD_eq_getElem?_getD, List.getElem?_set_ne e]
        have e2 : (A.setIfInBounds p cv).getD i undef = A.getD i undef := by simp [Array.getD, show i < A.size by omega, e]
        rw [e1, e2]; exact ht i hi)
    refine ⟨B, ?_, by simpa [setP] using e2, by simpa [setP] using e3⟩
    rw [← e1]; rfl
  | _ :: _, [], _ :: _, _, _, hl, _, _, _ => by simp at hl
  | _ :: _, _ :: _, [], _, _, hl, _, _, _ => by simp at hl

def RoundE (b n0 : Nat) (R : Bool → List AObj → Prop) (e : Exit) (st : St) : Prop :=
  match st.h[b]? with
  | some (.lp tm ps as bd .busy) => (match e with
    | .normal => ∃ n, n0 ≤ n ∧ KeepN n .junk (st.h.set b (.lp tm ps as bd .ready)) ∧ R true ((st.h.set b (.lp tm ps as bd .ready)).take n)
    | .ret => ∃ n, n0 ≤ n ∧ KeepN n .junk (st.h.set b (.lp tm ps as bd (.left .ret))) ∧ R false ((st.h.set b (.lp tm ps as bd (.left .ret))).take n)
    | .exit id => ∃ n, n0 ≤ n ∧ KeepN n .junk (st.h.set b (.lp tm ps as bd (.left (.exit id)))) ∧ R false ((st.h.set b (.lp tm ps as bd (.left (.exit id)))).take n)
    | _ => False)
  | _ => False

def BeginE (E : Env) (l : Nat) (b : Nat) (body : Code) (R : Bool → List AObj → Prop) (e : Exit) (st : St) : Prop :=
  e = .normal ∧ match st.h[b]? with
    | some (.lp tm ps as bd .ready) => AWp E (some l) body (RoundE b E.n0 R) ⟨st.tmps, st.h.set b (.lp tm ps as bd .busy)⟩
    | _ => False

theorem YC.of_body {Γ : Gam} {b : Nat} {tm args : List AV} {ps : List Nat} {assign body : Code} {R : AV → List AObj → Prop} (hb : h[b]? = some (.lp tm ps assign body .ready)) (hps : ps.length = args.length) (hbk : b ∉ ks)
    (hw : ∀ l, AWp ⟨P, Γ, h.length, ks⟩ (some l) assign (BeginE ⟨P, Γ, h.length, ks⟩ l b body (fun v h' => R (.p (.bool v)) h')) ⟨setP tm ps args, h⟩) : YC P b args h ks R := by
  intro X I μ ob w cargs RH hlen hargs hks
  have hblt : b < h.length := (List.getElem?_eq_some_iff.1 hb).1
  obtain ⟨l, rec, hob, hμ, hl, hsz, htm, hpar, has, hbd, hst, hpe⟩ := RH.objs _ _ hb
  obtain ⟨B, e1, e2, e3⟩ := setP_ok ps args cargs tm rec.tmps hlen hargs hsz htm
  refine ⟨l, rec.fn, B, assign, body, hμ, ?_, ?_⟩
  · have := run_yield (P := P) (args := cargs.toArray) hl (by rw [hpar]; simp; omega)
    rw [this, hpar, has, hbd, ← e1, ← Array.foldl_toList, zipA]
  · refine roundIn_of_wpIn trivial ?_
    have hN : Now (X.sub I μ ob h ks w) I ⟨setP tm ps args, h⟩ w { tmps := B, defers := [] } :=
      ⟨I, μ, ob, fun _ h => h, { toRepH := RH.into, size := e2, tmps := e3, marks := ⟨[], rfl, List.nodup_nil, by simp⟩ }⟩
    refine wpIn_mono (hw l (X.sub I μ ob h ks w) I w _ ⟨rfl, rfl⟩ hN) ?_
    -- a record under the name b is the loop's own
    have same : ∀ {I' : Nat → Prop} {μ' : Nat → Value} {ob' : Nat → Option Nat} {h' : List AObj} {w' : World} {tm' : List AV} {ps' : List Nat} {as' bd' : Code} {s : LS}, RepH (X.sub I μ ob h ks w) I' μ' ob' h' w' → h'[b]? = some (.lp tm' ps' as' bd' s) →
        ∃ rec', ob' b = some l ∧ μ' b = .func (.yield l) #[] #[] ∧ w'.heap[l]? = some (.loop rec') ∧ tm'.length = rec'.tmps.size ∧ (∀ i, i < tm'.length → VR h'.length μ' I' w' (tm'.getD i .junk) (rec'.tmps.getD i undef)) ∧ rec'.params = ps'.toArray ∧ rec'.assign = as' ∧ rec'.body = bd' ∧
          (match s with | .ready => rec'.state = .ready ∧ rec'.pending = none | .busy => rec'.state = .busy | .left c => rec'.state = .done ∧ rec'.pending = some c | .over => True) := by
      intro I' μ' ob' h' w' tm' ps' as' bd' s R1 hb'
      obtain ⟨l', rec', q1, q2, q3, q4, q5, q6, q7, q8, q9⟩ := R1.objs _ _ hb'
      have hm : μ' b = μ b := R1.may b (fun h1 => h1.elim (fun h1 => by have h1 : h.length ≤ b := h1; omega) hbk)
      rw [hm, hμ] at q2; injection q2 with q2; injection q2 with q2; subst q2
      exact ⟨rec', q1, hm.trans hμ, q3, q4, q5, q6, q7, q8, q9⟩
    -- the record is written
    have put : ∀ {I' : Nat → Prop} {μ' : Nat → Value} {ob' : Nat → Option Nat} {st' : St} {w' : World} {a' : Act} {tm' : List AV} {ps' : List Nat} {as' bd' : Code} {s s' : LS} {rec' : Loop} (_ : Rep (X.sub I μ ob h ks w) I' μ' ob' st' w' a') (_ : st'.h[b]? = some (.lp tm' ps' as' bd' s))
        (_ : w'.heap[l]? = some (.loop rec')) (st2 : LoopState) (pe2 : Option Code), (match s' with | .ready => st2 = .ready ∧ pe2 = none | .busy => st2 = .busy | .left c => st2 = .done ∧ pe2 = some c | .over => True) →
        Rep (X.sub I μ ob h ks w) I' μ' ob' ⟨st'.tmps, st'.h.set b (.lp tm' ps' as' bd' s')⟩ (w'.putObj l (.loop { rec' with state := st2, pending := pe2 })) a' := by
      intro I' μ' ob' st' w' a' tm' ps' as' bd' s s' rec' R1 hb' hl' st2 pe2 hs'
      obtain ⟨rec2, q1, q2, q3, q4, q5, q6, q7, q8, q9⟩ := same R1.toRepH hb'
      rw [hl'] at q3; injection q3 with q3; injection q3 with q3; subst q3
      have hlt : l < w'.heap.size := (Array.getElem?_eq_some_iff.1 hl').1
      have hg := grownBy_putObj w' l (.loop { rec' with state := st2, pending := pe2 })
      have hIw : ∀ g, I' g → (w'.putObj l (.loop { rec' with state := st2, pending := pe2 })).heap[g]? = w'.heap[g]? := fun g hg' => hg.block g (R1.imm g hg') (fun e => by injection e with e; subst e; exact (R1.own _ _ q1).1 hg')
      exact Rep.write (h := st'.h) R1 (List.getElem?_eq_some_iff.1 hb').1 q1 hg ⟨l, _, q1, q2, World.putObj_heap_same hlt, q4, fun i hi => (q5 i hi).mono (Nat.le_refl _) (fun _ _ => rfl) (fun _ h => h) hIw, q6, q7, q8, hs'⟩
    rintro e a1 w1 ⟨st1, ⟨I1, μ1, ob1, hI1, R1⟩, rfl, hq⟩
    show ∃ w₂, _
    split at hq
    · rename_i tm1 ps1 as1 bd1 hb1
      obtain ⟨rec1, q1, q2, q3, q4, q5, q6, q7, q8, q9, q10⟩ := same R1.toRepH hb1
      refine ⟨_, run_beginRound q3 q9, ?_⟩
      have R2 := put R1 hb1 q3 (s' := .busy) .busy rec1.pending rfl
      refine wpIn_mono (hq (X.sub I μ ob h ks w) I _ a1 ⟨rfl, rfl⟩ ⟨I1, μ1, ob1, hI1, R2⟩) ?_
      rintro e a2 w2 ⟨st2, ⟨I2, μ2, ob2, hI2, R3⟩, hr⟩
      unfold RoundE at hr
      split at hr
      · rename_i tm2 ps2 as2 bd2 hb2
        obtain ⟨rec2, p1, p2, p3, p4, p5, p6, p7, p8, p9⟩ := same R3.toRepH hb2
        have fin : ∀ (v : Bool) (s' : LS) (st3 : LoopState) (pe3 : Option Code), (match s' with | .ready => st3 = .ready ∧ pe3 = none | .busy => st3 = .busy | .left c => st3 = .done ∧ pe3 = some c | .over => True) →
            (∃ n, h.length ≤ n ∧ KeepN n .junk (st2.h.set b (.lp tm2 ps2 as2 bd2 s')) ∧ R (.p (.bool v)) ((st2.h.set b (.lp tm2 ps2 as2 bd2 s')).take n)) →
            ∃ cv v' h' I' μ' ob', Ending.returned (Value.bool v) = .returned cv ∧ RepH X I' μ' ob' h' (w2.putObj l (.loop { rec2 with state := st3, pending := pe3 })) ∧ VR h'.length μ' I' (w2.putObj l (.loop { rec2 with state := st3, pending := pe3 })) v' cv ∧ (∀ g, I g → I' g) ∧
              (∀ b, b < h.length → b ∉ ks → μ' b = μ b) ∧ h.length ≤ h'.length ∧ (∀ g, I' g → I g ∨ (∃ b, ob b = some g) ∨ w.heap.size ≤ g) ∧ (∀ b g, ob' b = some g → (∃ c, ob c = some g) ∨ w.heap.size ≤ g) ∧
              (∀ g, g < w.heap.size → (∀ b, ob b ≠ some g) → (w2.putObj l (.loop { rec2 with state := st3, pending := pe3 })).heap[g]? = w.heap[g]?) ∧ R v' h' := by
          rintro v s' st3 pe3 hs3 ⟨n, hn, hu, hR⟩
          have R4 := put R3 hb2 p3 (s' := s') st3 pe3 hs3
          obtain ⟨ob5, R5, _⟩ := R4.toRepH.keepN hn hu (.junk undef)
          obtain ⟨z1, z2, z3, z4, z5, z6⟩ := RH.back0 hks R5 hI2
          exact ⟨_, .p (.bool v), _, I2, μ2, _, rfl, z1, .mkBool v, hI2, z2, z3, z4, z5, z6, hR⟩
        cases e with
        | normal => exact ⟨_, _, run_endRound none p3, fin true .ready .ready none ⟨rfl, rfl⟩ hr⟩
        | ret => exact ⟨_, _, run_endRound (some .ret) p3, fin false (.left .ret) .done (some .ret) ⟨rfl, rfl⟩ hr⟩
        | exit id => exact ⟨_, _, run_endRound (some (.exit id)) p3, fin false (.left (.exit id)) .done (some (.exit id)) ⟨rfl, rfl⟩ hr⟩
        | goto t => exact hr.elim
        | panic c => exact hr.elim
        | outgrown => exact hr.elim
      · exact hr.elim
    · exact hq.elim

def Less (st st' : St) : Prop := ∀ X I w a, Now X I st w a → Now X I st' w a
theorem Less.refl (st : St) : Less st st := fun _ _ _ _ h => h
theorem Less.trans {a b c : St} (h1 : Less a b) (h2 : Less b c) : Less a c := fun X I w a h => h2 X I w a (h1 X I w a h)
theorem Less.fzL (l : List AV) (st : St) : Less st (AM.fzL l st) := fun X I w a ⟨I', μ', ob', hI, R⟩ => by
  obtain ⟨J, ob2, hJ, R2⟩ := R.fzL l
  exact ⟨J, μ', ob2, fun g h => hJ g (hI g h), R2⟩
theorem Less.weak {st st' : St} (h : Weak st st') : Less st st' := fun _ _ _ _ hN => hN.weak h

def DoneE (Γ : Gam) (rs : List ResultVar) (n0 : Nat) (R : AV → List AObj → Prop) (st : St) : Prop :=
  resK Γ st rs fun l => ∃ n, n0 ≤ n ∧ KeepN n (packAV l) st.h ∧ R (packAV l) (st.h.take n)

theorem AC.of_bodyE {Γ : Gam} {f : FuncId} {fn : Func} {c : Code} {args : List AV} {R : AV → List AObj → Prop} (hΓ : GamOK P Γ) (hf : P.funcs[f]? = some fn) (hname : (fn.name == "runtime.NumGoroutine") = false) (hb : fn.body = some c)
    (hw : AWp ⟨P, Γ, h.length, ks⟩ none c (fun e st => Ends e ∧ ∃ st', Less st st' ∧ DoneE Γ fn.results.toList h.length R st') ⟨args ++ List.replicate (fn.ntmps - args.length) .junk, h⟩) : AC P f args h ks R := by
  refine ⟨entersF_of hf hname hb, fun X I μ ob w cargs RH hlen hargs hks => ?_⟩
  refine callsIn_wide.1 (?_ : CallsIn (Fw none) 0 P f cargs.toArray w _)
  refine callsIn_of_wp_marks hf hb trivial ?_
  have hN : Now (X.sub I μ ob h ks w) I ⟨args ++ List.replicate (fn.ntmps - args.length) .junk, h⟩ w { tmps := cargs.toArray ++ Array.replicate (fn.ntmps - cargs.toArray.size) undef, defers := [] } := by
    refine ⟨I, μ, ob, fun _ h => h, { toRepH := RH.into, size := by simp [hlen], tmps := fun i hi => ?_, marks := ⟨[], rfl, List.nodup_nil, by simp⟩ }⟩
    by_cases h1 : i < args.length
    · have e1 : (args ++ List.replicate (fn.ntmps - args.length) AV.junk).getD i AV.junk = args.getD i .junk := by
        simp only [List.getD_eq_getElem?_getD, List.getElem?_append_left h1]
      have e2 : (cargs.toArray ++ Array.replicate (fn.ntmps - cargs.toArray.size) undef).getD i undef = cargs.getD i undef := by
        rw [agetD, Array.toList_append]
        simp only [List.getD_eq_getElem?_getD]
        rw [List.getElem?_append_left (by simpa using (show i < cargs.length by omega))]
      rw [e1, e2]; exact hargs i h1
    · have e1 : (args ++ List.replicate (fn.ntmps - args.length) AV.junk).getD i AV.junk = .junk := by
        simp only [List.getD_eq_getElem?_getD, List.getElem?_append_right (show args.length ≤ i by omega), List.getElem?_replicate]
        split <;> rfl
      rw [e1]; exact .junk _
  refine wpIn_mono (hw (X.sub I μ ob h ks w) I w _ ⟨rfl, rfl⟩ hN) ?_
  rintro e a' w' ⟨st0, hN0, he, st', hless, hres⟩
  obtain ⟨I', μ', ob', hI, R1⟩ := hless _ _ _ _ hN0
  obtain ⟨rs, m1, m2, m3⟩ := R1.marks
  have hleave : LeavesInM (Fw none) 0 P fn a'.tmps (fun e w' => ∃ cv v h' I' μ' ob', e = .returned cv ∧ RepH X I' μ' ob' h' w' ∧ VR h'.length μ' I' w' v cv ∧ (∀ g, I g → I' g) ∧
      (∀ b, b < h.length → b ∉ ks → μ' b = μ b) ∧ h.length ≤ h'.length ∧ (∀ g, I' g → I g ∨ (∃ b, ob b = some g) ∨ w.heap.size ≤ g) ∧ (∀ b g, ob' b = some g → (∃ c, ob c = some g) ∨ w.heap.size ≤ g) ∧
      (∀ g, g < w.heap.size → (∀ b, ob b ≠ some g) → w'.heap[g]? = w.heap[g]?) ∧ R v h') a'.defers .returning w' := by
    refine leave_ok rs m1 m2 (fun r hr => (m3 r hr).1) (fun w'' a1 a2 a3 a4 a5 => ?_)
    have R2 := R1.toRepH.put a1 a2 a3 a4 a5 (fun k hk => ⟨(m3 k hk).2.1, (m3 k hk).2.2.1, (m3 k hk).2.2.2⟩)
    have htm : ∀ i, i < st'.tmps.length → VR st'.h.length μ' I' w'' (st'.tmps.getD i .junk) (a'.tmps.getD i undef) := fun i hi =>
      (R1.tmps i hi).mono (Nat.le_refl _) (fun _ _ => rfl) (fun _ h => h) (fun g hg => a5 g (fun hm => (m3 g hm).2.2.1 hg))
    obtain ⟨l, cs, r1, r2, r3, n, hn, hu, r4⟩ := resK_ok (E := ⟨P, Γ, h.length, ks⟩) (a := a') hΓ R2 htm _ hres
    have hm : (fn.results.mapM (readRes a'.tmps)).run P w'' = .ok cs.toArray w'' := by
      have h5 : fn.results.mapM (readRes a'.tmps) = Functor.map List.toArray (fn.results.toList.mapM (readRes a'.tmps)) := by
        conv => lhs; rw [← Array.toArray_toList (xs := fn.results)]
        exact List.mapM_toArray
      rw [h5]; simp [r1]
    have hv : VR st'.h.length μ' I' w'' (packAV l) (if h : cs.toArray.size = 1 then cs.toArray[0] else .tuple cs.toArray) := by
      match l, cs, r2, r3 with
      | [x], [c], _, r3 => exact r3 0 (by simp)
      | [], [], _, _ => exact .tup [] [] rfl (by simp)
      | x :: y :: l, c :: d :: cs, h2, r3 => exact VR.tup _ (c :: d :: cs) h2 r3
    obtain ⟨ob5, R5, hv5⟩ := R2.keepN hn hu hv
    obtain ⟨z1, z2, z3, z4, z5, z6⟩ := RH.back0 hks R5 hI
    exact ⟨_, by rw [results_eq]; simp only [Sem.run_bind]; rw [hm]; rfl, _, packAV l, _, I', μ', _, rfl, z1, hv5, hI, z2, z3, z4, z5, z6, r4⟩
  rcases he with rfl | rfl
  · exact hleave
  · exact hleave

def RangeK (b : Nat) (tm : List AV) (Q : Exit → St → Prop) (h' : List AObj) : Prop :=
  match h'[b]? with
  | some (.lp _ _ _ _ .ready) => Q .normal ⟨tm, h'.set b .dead⟩
  | some (.lp _ _ _ _ (.left .ret)) => Q .ret ⟨tm, h'.set b .dead⟩
  | some (.lp _ _ _ _ (.left (.exit id))) => Q (.exit id) ⟨tm, h'.set b .dead⟩
  | _ => False

theorem AWp.rangeFunc {E : Env} {Q : Exit → St → Prop} {f : Operand} {ps : List Nat} {assign body : Code} {tm : List AV} {h : List AObj} {g : FuncId} {caps : List AV} {ks : List Nat} {R : AV → List AObj → Prop} (hf : ev tm f = .fn g caps)
    (hac : AC E.P g (.yld h.length :: caps) (h ++ [.lp tm ps assign body .ready]) ks R) (hks : ∀ k ∈ ks, E.n0 ≤ k ∨ k ∈ E.ks) (hbk : h.length ∉ ks)
    (hR : ∀ v h', R v h' → RangeK h.length (killAll ks tm) Q h') : AWp E none (.rangeFunc f ps.toArray assign body) Q ⟨tm, h⟩ := by
  intro X I w a hE ⟨I0, μ, ob, hI0, R0⟩
  refine wpIn_rangeFunc (F := Fw none) fun fn hfn => ?_
  have hfv := R0.evs f
  rw [hf] at hfv
  obtain ⟨cs, hcf, hcl, hcr⟩ := hfv.fn_inv
  let w1 := w.alloc (.deferred (some []))
  let rec0 : Loop := { state := .ready, pending := none, fn, tmps := a.tmps, params := ps.toArray, assign, body, defers := w.heap.size }
  let w2 := w1.alloc (.loop rec0)
  let mark : List Deferred := [{ target := .collected w.heap.size, args := #[] }]
  have hg1 : w.grownBy w1 none := World.grownBy_alloc w _ none
  have hg2 : w1.grownBy w2 none := World.grownBy_alloc w1 _ none
  have hs1 : w1.heap.size = w.heap.size + 1 := by simp [w1]
  have R1 := R0.grow (I' := I0) hg1 (fun _ h => h) (fun _ h => .inl h)
  have hIw : ∀ k, I0 k → w2.heap[k]? = w1.heap[k]? := fun k hk => hg2.block k (R1.imm k hk) (by simp)
  have R2 := R1.name (v := .func (.yield (w.heap.size + 1)) #[] #[]) (g := some (w.heap.size + 1)) (o := .lp tm ps assign body .ready) hg2 (fun k e => by injection e with e; subst e; simp [w2, hs1])
    ⟨w.heap.size + 1, rec0, by simp, by simp, by rw [← hs1]; exact World.alloc_heap_new w1 _, R0.size, fun i hi => by
      have h1 : VR h.length μ I0 w1 (tm.getD i .junk) (a.tmps.getD i undef) := R1.tmps i hi
      exact h1.mono (Nat.le_succ _) (fun c hc => upd_other _ _ (by omega)) (fun _ h => h) hIw, rfl, rfl, rfl, rfl, rfl⟩
  -- the activation with the mark
  have R3 : Rep X I0 (upd μ h.length (.func (.yield (w.heap.size + 1)) #[] #[])) (upd ob h.length (some (w.heap.size + 1))) ⟨tm, h ++ [.lp tm ps assign body .ready]⟩ w2 { a with defers := mark ++ a.defers } := {
    toRepH := R2.toRepH, size := R2.size, tmps := R2.tmps
    marks := by
      obtain ⟨rs, m1, m2, m3⟩ := R2.marks
      obtain ⟨rs0, n1, n2, n3⟩ := R0.marks
      have hrs : rs = rs0 := by
        have := m1.symm.trans n1
        exact List.map_inj_right (fun _ _ e => by injection e) |>.1 this
      subst hrs
      have hw0 : w2.heap[w.heap.size]? = some (.deferred (some [])) := (hg2.block _ (by rw [hs1]; omega) (by simp)).trans (World.alloc_heap_new w _)
      refine ⟨w.heap.size :: rs, by simp [mark, m1], List.nodup_cons.2 ⟨fun hm => ?_, m2⟩, fun q hq => ?_⟩
      · have := (Array.getElem?_eq_some_iff.1 (n3 _ hm).1).1; omega
      · rcases List.mem_cons.1 hq with rfl | hq
        · refine ⟨hw0, R0.toRepH.fresh (Nat.le_refl _), fun hi => by have := R0.imm _ hi; omega, fun b hb => ?_⟩
          by_cases e : b = h.length
          · subst e; rw [upd_same] at hb; injection hb with hb; omega
          · rw [upd_other _ _ e] at hb; have := (R0.own b _ hb).2.2; omega
        · exact m3 q hq }
  have hcargs : ∀ i, i < (AV.yld h.length :: caps).length → VR (h ++ [AObj.lp tm ps assign body .ready]).length (upd μ h.length (.func (.yield (w.heap.size + 1)) #[] #[])) I0 w2 ((AV.yld h.length :: caps).getD i .junk) ((Value.func (.yield (w.heap.size + 1)) #[] #[] :: cs).getD i undef) := fun i hi => by
    cases i with
    | zero => exact .yld _ _ (by simp) (by simp)
    | succ i =>
      have h1 : VR h.length μ I0 w (caps.getD i .junk) (cs.getD i undef) := hcr i (by simpa using hi)
      simpa using h1.mono (n' := h.length + 1) (w' := w2) (Nat.le_succ _) (fun c hc => upd_other _ _ (by omega)) (fun _ h => h) (fun k hk => (hIw k hk).trans (hg1.block k (R0.imm k hk) (by simp)))
  have hcall := hac.2 X I0 _ _ w2 (.func (.yield (w.heap.size + 1)) #[] #[] :: cs) R3.toRepH (by simp [hcl]) hcargs (fun k hk => by
    rcases hks k hk with h | h
    · exact .inl (by rw [hE.1]; exact h)
    · exact .inr (by rw [hE.2]; exact h))
  refine ⟨w.heap.size + 1, mark, w2, { target := .fn (.func g) cs.toArray, args := #[.func (.yield (w.heap.size + 1)) #[] #[]] }, w2, g, (.func (.yield (w.heap.size + 1)) #[] #[] :: cs).toArray, w2, run_enterLoop_outer _ _ _ _ _, ?_, fun _ _ => trivial, ?_, fun h => by simp [Fw, Fence.wide] at h, ?_⟩
  · have hcv : a.eval (.const (.func (.yield (w.heap.size + 1)) #[] #[])) = .func (.yield (w.heap.size + 1)) #[] #[] := rfl
    simp [resolve, hcf, hcv, Deferred.ofValue]
  · have := hac.1 (.func (.yield (w.heap.size + 1)) #[] #[] :: cs).toArray w2
    simpa [invoke] using this
  · have hc2 := (callsIn_wide (n := 0)).2 hcall
    refine CallsIn.mono (F := Fw none) hc2 ?_
    rintro e w' ⟨cv, v, h', I', μ', ob', rfl, R', hv, hI, hμ, hlen, hI2, hob, hold, hRv⟩
    have R4 := rep_call R3 R' hI hμ hlen hI2 hob hold
    have hK := hR v h' hRv
    have hb0 : μ' h.length = .func (.yield (w.heap.size + 1)) #[] #[] := by
      rw [hμ h.length (by simp) hbk]; simp
    have fin : ∀ (tm' : List AV) (ps' : List Nat) (as' bd' : Code) (s : LS), h'[h.length]? = some (.lp tm' ps' as' bd' s) → (∀ rec' : Loop, (match s with | .ready => rec'.state = .ready ∧ rec'.pending = none | .busy => rec'.state = .busy | .left c => rec'.state = .done ∧ rec'.pending = some c | .over => True) → rec'.state ≠ .busy) →
        ∃ rec' : Loop, (match s with | .ready => rec'.state = .ready ∧ rec'.pending = none | .busy => rec'.state = .busy | .left c => rec'.state = .done ∧ rec'.pending = some c | .over => True) ∧
          (Instr.endLoop (w.heap.size + 1)).run E.P w' = .ok rec'.pending (w'.putObj (w.heap.size + 1) (.loop { rec' with state := .exhausted })) ∧
          Now X I ⟨killAll ks tm, h'.set h.length .dead⟩ (w'.putObj (w.heap.size + 1) (.loop { rec' with state := .exhausted })) { a with defers := mark ++ a.defers } := by
      intro tm' ps' as' bd' s hbs hnb
      obtain ⟨l', rec', q1, q2, q3, q4, q5, q6, q7, q8, q9⟩ := R'.objs _ _ hbs
      rw [hb0] at q2; injection q2 with q2; injection q2 with q2; subst q2
      refine ⟨rec', q9, run_endLoop q3 (hnb rec' q9), I', μ', ob', fun g hg => hI g (hI0 g hg), ?_⟩
      exact Rep.write (h := h') R4 (List.getElem?_eq_some_iff.1 hbs).1 q1 (grownBy_putObj _ _ _) trivial
    unfold RangeK at hK
    split at hK
    · rename_i tm' ps' as' bd' hbs
      obtain ⟨rec', h1, h2, h3⟩ := fin _ _ _ _ _ hbs (fun r hr => by rw [hr.1]; simp)
      refine ⟨_, _, h2, ?_⟩
      rw [h1.2] at h3 ⊢
      exact ⟨_, h3, hK⟩
    · rename_i tm' ps' as' bd' hbs
      obtain ⟨rec', h1, h2, h3⟩ := fin _ _ _ _ _ hbs (fun r hr => by rw [hr.1]; simp)
      refine ⟨_, _, h2, ?_⟩
      rw [h1.2] at h3 ⊢
      exact wpIn_ret ⟨_, h3, hK⟩
    · rename_i tm' ps' as' bd' id hbs
      obtain ⟨rec', h1, h2, h3⟩ := fin _ _ _ _ _ hbs (fun r hr => by rw [hr.1]; simp)
      refine ⟨_, _, h2, ?_⟩
      rw [h1.2] at h3 ⊢
      exact wpIn_exit ⟨_, h3, hK⟩
    · exact hK.elim
end
end Go.AM
end

section
namespace Go.AM
open Go.RowKit

/-! ### Lists, as the kernel likes them -/
section
variable {α β : Type}
end

def bEq : List UInt8 → List UInt8 → Bool
  | [], m => (match m with | [] => true | _ :: _ => false)
  | a :: l, m => (match m with
    | [] => false
    | b :: t => (match Nat.beq a.toNat b.toNat with | true => bEq l t | false => false))
theorem bEq_eq (l m : List UInt8) : bEq l m = decide (l = m) := by
  rw [Bool.eq_iff_iff, decide_eq_true_eq]
  induction l generalizing m with
  | nil => cases m <;> simp [bEq]
  | cons a t ih =>
    cases m with
    | nil => simp [bEq]
    | cons b u =>
      have : bEq (a :: t) (b :: u) = (match Nat.beq a.toNat b.toNat with | true => bEq t u | false => false) := rfl
      rw [this]
      cases hb : Nat.beq a.toNat b.toNat with
      | false =>
        have : a.toNat ≠ b.toNat := fun e => by rw [e] at hb; simp at hb
        simp only [Bool.false_eq_true, List.cons.injEq, false_iff, not_and]
        intro e; exact absurd (by rw [e]) this
      | true =>
        have e : a = b := UInt8.toNat_inj.1 (Nat.eq_of_beq_eq_true hb)
        simp only [List.cons.injEq]
        rw [ih]; simp [e]
def bLt : List UInt8 → List UInt8 → Bool
  | [], m => (match m with | [] => false | _ :: _ => true)
  | a :: l, m => (match m with
    | [] => false
    | b :: t => (match Nat.blt a.toNat b.toNat with
      | true => true
      | false => (match Nat.beq a.toNat b.toNat with | true => bLt l t | false => false)))
theorem bLt_eq (l m : List UInt8) : bLt l m = Op.bytesLess l m := by
  induction l generalizing m with
  | nil => cases m <;> rfl
  | cons a t ih =>
    cases m with
    | nil => rfl
    | cons b u =>
      have : bLt (a :: t) (b :: u) = (match Nat.blt a.toNat b.toNat with | true => true | false => (match Nat.beq a.toNat b.toNat with | true => bLt t u | false => false)) := rfl
      rw [this, ih]
      have h0 : Op.bytesLess (a :: t) (b :: u) = (decide (a < b) || (a == b && Op.bytesLess t u)) := rfl
      rw [h0]
      have h1 : Nat.blt a.toNat b.toNat = decide (a < b) := by
        rw [Bool.eq_iff_iff, decide_eq_true_eq, UInt8.lt_iff_toNat_lt]; simp [Nat.blt]; omega
      have h2 : Nat.beq a.toNat b.toNat = (a == b) := by
        rw [Bool.eq_iff_iff, beq_iff_eq, ← UInt8.toNat_inj]; rw [Nat.beq_eq]
      rw [h1, h2]
      cases decide (a < b) <;> cases a == b <;> rfl

section
variable {Γ : Gam} {h : List AObj} {K : AV → Prop} {v : AV}

end
end Go.AM
end

section
namespace Go.AM
open Go.RowKit

section
variable {Γ : Gam} {tm : List AV} {h : List AObj} {d : Option Nat} {K : St → Prop} {outs : List St}

end

/-! ### Names -/
end Go.AM
end

section
namespace Go.AM
open Go.RowKit

structure EC where
  P : Program
  Γ : Gam
  ax : FuncId → List AV → Option AV

structure ECOK (C : EC) : Prop where
  Γ : GamOK C.P C.Γ
  mix : C.P.follows .mixedOrders = true
  name : ∀ (f : FuncId) (fn : Func), C.P.funcs[f]? = some fn → (fn.name == "runtime.NumGoroutine") = false
  ax : ∀ f args v, C.ax f args = some v → AX C.P f args v ∨ ∀ h, AC C.P f args h [] (fun u h' => u = v ∧ h' = h)

def Rk : Type := Bool → Nat → List Nat → Code → St → Option (List (Exit × St))

end Go.AM
end

