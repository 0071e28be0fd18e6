/-
  Texts of this claim, joined.
-/
import Derived.Test.YtpljmccnfmkmfaaJad41afcb2056
import Derived.RangeFuncIn

section
namespace Go.AM
open Go.RowKit

def Ctx.sub (X : Ctx) (I : Nat → Prop) (μ : Nat → Value) (ob : Nat → Option Nat) (h : List AObj) (ks : List Nat) (w : World) : Ctx :=
  { B0 := X.B0, w0 := X.w0, I0 := I, μ0 := μ, n0 := h.length, ks := ks, fz := fun q => q < w.heap.size ∧ ∀ b : Nat, ob b ≠ some q, w1 := w }

section
variable {P : Program} {X : Ctx} {I I' : Nat → Prop} {μ μ' : Nat → Value} {ob ob' : Nat → Option Nat} {w w' : World} {h h' : List AObj} {ks : List Nat}

theorem RepH.into (RH : RepH X I μ ob h w) : RepH (X.sub I μ ob h ks w) I μ ob h w :=
  { below := RH.below, base := RH.base, imm := RH.imm, ctx := fun _ h => h, frz := fun _ hg => ⟨hg.1, rfl⟩, inew := fun _ h => .inl h, may := fun _ _ => rfl, names := Nat.le_refl _
    own := fun b g hg => ⟨(RH.own b g hg).1, ⟨(RH.own b g hg).2.1.1, fun hz => hz.2 b hg⟩, (RH.own b g hg).2.2⟩, sep := RH.sep, past := RH.past, objs := RH.objs }

theorem RepH.back0 {ob3 : Nat → Option Nat} {h3 : List AObj} (RH : RepH X I μ ob h w) (hks : ∀ k ∈ ks, X.may k) (R3 : RepH (X.sub I μ ob h ks w) I' μ' ob3 h3 w') (hI : ∀ g, I g → I' g) :
    RepH X I' μ' ob3 h3 w' ∧ (∀ b, b < h.length → b ∉ ks → μ' b = μ b) ∧ h.length ≤ h3.length ∧ (∀ g, I' g → I g ∨ (∃ b, ob b = some g) ∨ w.heap.size ≤ g) ∧
      (∀ b g, ob3 b = some g → (∃ c, ob c = some g) ∨ w.heap.size ≤ g) ∧ (∀ g, g < w.heap.size → (∀ b, ob b ≠ some g) → w'.heap[g]? = w.heap[g]?) := by
  have hnf : ∀ g, (X.sub I μ ob h ks w).mine g → (∃ b, ob b = some g) ∨ w.heap.size ≤ g := fun g hg => by
    rcases Nat.lt_or_ge g w.heap.size with h1 | h1
    · refine .inl (Classical.byContradiction fun h2 => hg.2 ⟨h1, fun b hb => h2 ⟨b, hb⟩⟩)
    · exact .inr h1
  refine ⟨?_, fun b hb hk => ?_, R3.names, fun g hg => ?_, fun b g hb => ?_, fun g hg ho => ?_⟩
  · exact {
      below := R3.below, base := R3.base, imm := R3.imm, ctx := fun g hg => hI g (RH.ctx g hg)
      frz := fun g hg => by
        have h1 := RH.frz g hg; have h2 := R3.frz g ⟨h1.1, fun b hb => (RH.own b g hb).2.1.2 hg⟩; exact ⟨h2.1, h2.2.trans h1.2⟩
      inew := fun g hg => by
        rcases R3.inew g hg with h1 | h1
        · exact RH.inew g h1
        · rcases hnf g h1 with ⟨b, hb⟩ | h2
          · exact .inr (RH.own b g hb).2.1
          · exact .inr (RH.fresh h2)
      may := fun b hb => by
        have hb1 : b < X.n0 := Nat.lt_of_not_le fun h1 => hb (.inl h1)
        have := RH.names; rw [R3.may b (fun h1 => h1.elim (fun h1 => by have h1 : h.length ≤ b := h1; omega) (fun h1 => hb (hks b h1)))]; exact RH.may b hb
      names := Nat.le_trans RH.names R3.names
      own := fun b g hb => by
        have h1 := R3.own b g hb; refine ⟨h1.1, ?_, h1.2.2⟩; rcases hnf g h1.2.1 with ⟨c, hc⟩ | h2
        · exact (RH.own c g hc).2.1
        · exact RH.fresh h2
      sep := R3.sep, past := R3.past, objs := R3.objs }
  · exact R3.may b (fun h1 => h1.elim (fun h1 => by have h1 : h.length ≤ b := h1; omega) hk)
  · rcases R3.inew g hg with h1 | h1
    · exact .inl h1
    · exact .inr (hnf g h1)
  · exact hnf g (R3.own b g hb).2.1
  · exact (R3.frz g ⟨hg, ho⟩).2

def Zac (n : Nat) (v : AV) (h : List AObj) : Prop := n = h.length ∨ (v.under n = true ∧ (h.take n).all (AObj.under n) = true ∧ n ≤ h.length)

theorem RepH.keepN {n : Nat} {v : AV} {cv : Value} (R : RepH X I μ ob h w) (hn : X.n0 ≤ n) (hk : Zac n v h) (hv : VR h.length μ I w v cv) : ∃ ob', RepH X I μ ob' (h.take n) w ∧ VR (h.take n).length μ I w v cv := by
  rcases hk with rfl | ⟨h1, h2, h3⟩
  · rw [List.take_length]; exact ⟨ob, R, hv⟩
  · refine ⟨_, R.trunc hn h3 h2, ?_⟩
    rw [List.length_take, Nat.min_eq_left h3]; exact hv.narrow h1

def setP (tm : List AV) : List Nat → List AV → List AV
  | p :: ps, v :: vs => setP (tm.set p v) ps vs
  | _, _ => tm

theorem zipA (ps : List Nat) (vs : List Value) : (ps.toArray.zip vs.toArray).toList = ps.zip vs := by simp

theorem Zcq {n : Nat} : ∀ (ps : List Nat) (vs : List AV) (cvs : List Value) (tm : List AV) (A : Array Value), vs.length = cvs.length → (∀ i, i < vs.length → VR n μ I w (vs.getD i .junk) (cvs.getD i undef)) →
    tm.length = A.size → (∀ i, i < tm.length → VR n μ I w (tm.getD i .junk) (A.getD i undef)) →
    ∃ B, (ps.zip cvs).foldl (fun tmps (x : Nat × Value) => tmps.setIfInBounds x.1 x.2) A = B ∧ (setP tm ps vs).length = B.size ∧ ∀ i, i < (setP tm ps vs).length → VR n μ I w ((setP tm ps vs).getD i .junk) (B.getD i undef)
  | [], vs, cvs, tm, A, _, _, hs, ht => ⟨A, by simp, by simpa [setP] using hs, by simpa [setP] using ht⟩
  | _ :: _, [], [], tm, A, _, _, hs, ht => ⟨A, by simp, by simpa [setP] using hs, by simpa [setP] using ht⟩
  | p :: ps, v :: vs, cv :: cvs, tm, A, hl, hv, hs, ht => by
    have h0 := hv 0 (by simp); simp only [List.getD_cons_zero] at h0; obtain ⟨B, e1, e2, e3⟩ := Zcq ps vs cvs (tm.set p v) (A.setIfInBounds p cv) (by simpa using hl) (fun i hi => by simpa using hv (i + 1) (by simpa using hi)) (by simpa using hs) (fun i hi => by
      simp only [List.length_set] at hi; by_cases e : p = i
      · subst e
        have e1 : (tm.set p v).getD p .junk = v := by simp [List.getD_eq_getElem?_getD, hi]
        have e2 : (A.setIfInBounds p cv).getD p undef = cv := by simp [Array.getD, show p < A.size by omega]
        rw [e1, e2]; exact h0
      · have e1 : (tm.set p v).getD i .junk = tm.getD i .junk := by simp [List.getD_eq_getElem?_getD, List.getElem?_set_ne e]
        have e2 : (A.setIfInBounds p cv).getD i undef = A.getD i undef := by simp [Array.getD, show i < A.size by omega, e]
        rw [e1, e2]; exact ht i hi)
    refine ⟨B, ?_, by simpa [setP] using e2, by simpa [setP] using e3⟩; rw [← e1]; rfl
  | _ :: _, [], _ :: _, _, _, hl, _, _, _ => by simp at hl
  | _ :: _, _ :: _, [], _, _, hl, _, _, _ => by simp at hl

def Z6i (b n0 : Nat) (R : Bool → List AObj → Prop) (e : Exit) (st : St) : Prop :=
  match st.h[b]? with
  | some (.lp tm ps as bd .busy) => (match e with
    | .normal => ∃ n, n0 ≤ n ∧ Zac n .junk (st.h.set b (.lp tm ps as bd .ready)) ∧ R true ((st.h.set b (.lp tm ps as bd .ready)).take n)
    | .ret => ∃ n, n0 ≤ n ∧ Zac n .junk (st.h.set b (.lp tm ps as bd (.left .ret))) ∧ R false ((st.h.set b (.lp tm ps as bd (.left .ret))).take n)
    | .exit id => ∃ n, n0 ≤ n ∧ Zac n .junk (st.h.set b (.lp tm ps as bd (.left (.exit id)))) ∧ R false ((st.h.set b (.lp tm ps as bd (.left (.exit id)))).take n)
    | _ => False)
  | _ => False

def Z7c (E : Env) (l : Nat) (b : Nat) (body : Code) (R : Bool → List AObj → Prop) (e : Exit) (st : St) : Prop :=
  e = .normal ∧ match st.h[b]? with
    | some (.lp tm ps as bd .ready) => AWp E (some l) body (Z6i b E.n0 R) ⟨st.tmps, st.h.set b (.lp tm ps as bd .busy)⟩
    | _ => False

theorem YC.of_body {Γ : Gam} {b : Nat} {tm args : List AV} {ps : List Nat} {assign body : Code} {R : AV → List AObj → Prop} (hb : h[b]? = some (.lp tm ps assign body .ready)) (hps : ps.length = args.length) (hbk : b ∉ ks)
    (hw : ∀ l, AWp ⟨P, Γ, h.length, ks⟩ (some l) assign (Z7c ⟨P, Γ, h.length, ks⟩ l b body (fun v h' => R (.p (.bool v)) h')) ⟨setP tm ps args, h⟩) : YC P b args h ks R := by
  intro X I μ ob w cargs RH hlen hargs hks; have hblt : b < h.length := (List.getElem?_eq_some_iff.1 hb).1; obtain ⟨l, rec, hob, hμ, hl, hsz, htm, hpar, has, hbd, hst, hpe⟩ := RH.objs _ _ hb; obtain ⟨B, e1, e2, e3⟩ := Zcq ps args cargs tm rec.tmps hlen hargs hsz htm; refine ⟨l, rec.fn, B, assign, body, hμ, ?_, ?_⟩
  · have := run_yield (P := P) (args := cargs.toArray) hl (by rw [hpar]; simp; omega)
    rw [this, hpar, has, hbd, ← e1, ← Array.foldl_toList, zipA]
  · refine roundIn_of_wpIn trivial ?_
    have hN : Now (X.sub I μ ob h ks w) I ⟨setP tm ps args, h⟩ w { tmps := B, defers := [] } :=
      ⟨I, μ, ob, fun _ h => h, { toRepH := RH.into, size := e2, tmps := e3, marks := ⟨[], rfl, List.nodup_nil, by simp⟩ }⟩
    refine wpIn_mono (hw l (X.sub I μ ob h ks w) I w _ ⟨rfl, rfl⟩ hN) ?_
    -- a record under the name b is the loop's own
    have same : ∀ {I' : Nat → Prop} {μ' : Nat → Value} {ob' : Nat → Option Nat} {h' : List AObj} {w' : World} {tm' : List AV} {ps' : List Nat} {as' bd' : Code} {s : LS}, RepH (X.sub I μ ob h ks w) I' μ' ob' h' w' → h'[b]? = some (.lp tm' ps' as' bd' s) →
        ∃ rec', ob' b = some l ∧ μ' b = .func (.yield l) #[] #[] ∧ w'.heap[l]? = some (.loop rec') ∧ tm'.length = rec'.tmps.size ∧ (∀ i, i < tm'.length → VR h'.length μ' I' w' (tm'.getD i .junk) (rec'.tmps.getD i undef)) ∧ rec'.params = ps'.toArray ∧ rec'.assign = as' ∧ rec'.body = bd' ∧
          (match s with | .ready => rec'.state = .ready ∧ rec'.pending = none | .busy => rec'.state = .busy | .left c => rec'.state = .done ∧ rec'.pending = some c | .over => True) := by
      intro I' μ' ob' h' w' tm' ps' as' bd' s R1 hb'; obtain ⟨l', rec', q1, q2, q3, q4, q5, q6, q7, q8, q9⟩ := R1.objs _ _ hb'; have hm : μ' b = μ b := R1.may b (fun h1 => h1.elim (fun h1 => by have h1 : h.length ≤ b := h1; omega) hbk); rw [hm, hμ] at q2; injection q2 with q2; injection q2 with q2; subst q2
      exact ⟨rec', q1, hm.trans hμ, q3, q4, q5, q6, q7, q8, q9⟩
    -- the record is written
    have put : ∀ {I' : Nat → Prop} {μ' : Nat → Value} {ob' : Nat → Option Nat} {st' : St} {w' : World} {a' : Act} {tm' : List AV} {ps' : List Nat} {as' bd' : Code} {s s' : LS} {rec' : Loop} (_ : Rep (X.sub I μ ob h ks w) I' μ' ob' st' w' a') (_ : st'.h[b]? = some (.lp tm' ps' as' bd' s))
        (_ : w'.heap[l]? = some (.loop rec')) (st2 : LoopState) (pe2 : Option Code), (match s' with | .ready => st2 = .ready ∧ pe2 = none | .busy => st2 = .busy | .left c => st2 = .done ∧ pe2 = some c | .over => True) →
        Rep (X.sub I μ ob h ks w) I' μ' ob' ⟨st'.tmps, st'.h.set b (.lp tm' ps' as' bd' s')⟩ (w'.putObj l (.loop { rec' with state := st2, pending := pe2 })) a' := by
      intro I' μ' ob' st' w' a' tm' ps' as' bd' s s' rec' R1 hb' hl' st2 pe2 hs'; obtain ⟨rec2, q1, q2, q3, q4, q5, q6, q7, q8, q9⟩ := same R1.toRepH hb'; rw [hl'] at q3; injection q3 with q3; injection q3 with q3; subst q3
      have hlt : l < w'.heap.size := (Array.getElem?_eq_some_iff.1 hl').1; have hg := Z1a w' l (.loop { rec' with state := st2, pending := pe2 }); have hIw : ∀ g, I' g → (w'.putObj l (.loop { rec' with state := st2, pending := pe2 })).heap[g]? = w'.heap[g]? := fun g hg' => hg.block g (R1.imm g hg') (fun e => by injection e with e; subst e; exact (R1.own _ _ q1).1 hg')
      exact Rep.write (h := st'.h) R1 (List.getElem?_eq_some_iff.1 hb').1 q1 hg ⟨l, _, q1, q2, World.putObj_heap_same hlt, q4, fun i hi => (q5 i hi).mono (Nat.le_refl _) (fun _ _ => rfl) (fun _ h => h) hIw, q6, q7, q8, hs'⟩
    rintro e a1 w1 ⟨st1, ⟨I1, μ1, ob1, hI1, R1⟩, rfl, hq⟩; show ∃ w₂, _
    split at hq
    · rename_i tm1 ps1 as1 bd1 hb1
      obtain ⟨rec1, q1, q2, q3, q4, q5, q6, q7, q8, q9, q10⟩ := same R1.toRepH hb1; refine ⟨_, run_beginRound q3 q9, ?_⟩; have R2 := put R1 hb1 q3 (s' := .busy) .busy rec1.pending rfl; refine wpIn_mono (hq (X.sub I μ ob h ks w) I _ a1 ⟨rfl, rfl⟩ ⟨I1, μ1, ob1, hI1, R2⟩) ?_; rintro e a2 w2 ⟨st2, ⟨I2, μ2, ob2, hI2, R3⟩, hr⟩; unfold Z6i at hr
      split at hr
      · rename_i tm2 ps2 as2 bd2 hb2
        obtain ⟨rec2, p1, p2, p3, p4, p5, p6, p7, p8, p9⟩ := same R3.toRepH hb2
        have fin : ∀ (v : Bool) (s' : LS) (st3 : LoopState) (pe3 : Option Code), (match s' with | .ready => st3 = .ready ∧ pe3 = none | .busy => st3 = .busy | .left c => st3 = .done ∧ pe3 = some c | .over => True) →
            (∃ n, h.length ≤ n ∧ Zac n .junk (st2.h.set b (.lp tm2 ps2 as2 bd2 s')) ∧ R (.p (.bool v)) ((st2.h.set b (.lp tm2 ps2 as2 bd2 s')).take n)) →
            ∃ cv v' h' I' μ' ob', Ending.returned (Value.bool v) = .returned cv ∧ RepH X I' μ' ob' h' (w2.putObj l (.loop { rec2 with state := st3, pending := pe3 })) ∧ VR h'.length μ' I' (w2.putObj l (.loop { rec2 with state := st3, pending := pe3 })) v' cv ∧ (∀ g, I g → I' g) ∧
              (∀ b, b < h.length → b ∉ ks → μ' b = μ b) ∧ h.length ≤ h'.length ∧ (∀ g, I' g → I g ∨ (∃ b, ob b = some g) ∨ w.heap.size ≤ g) ∧ (∀ b g, ob' b = some g → (∃ c, ob c = some g) ∨ w.heap.size ≤ g) ∧
              (∀ g, g < w.heap.size → (∀ b, ob b ≠ some g) → (w2.putObj l (.loop { rec2 with state := st3, pending := pe3 })).heap[g]? = w.heap[g]?) ∧ R v' h' := by
          rintro v s' st3 pe3 hs3 ⟨n, hn, hu, hR⟩; have R4 := put R3 hb2 p3 (s' := s') st3 pe3 hs3; obtain ⟨ob5, R5, _⟩ := R4.toRepH.keepN hn hu (.junk undef); obtain ⟨z1, z2, z3, z4, z5, z6⟩ := RH.back0 hks R5 hI2; exact ⟨_, .p (.bool v), _, I2, μ2, _, rfl, z1, .mkBool v, hI2, z2, z3, z4, z5, z6, hR⟩
        cases e with
        | normal => exact ⟨_, _, run_endRound none p3, fin true .ready .ready none ⟨rfl, rfl⟩ hr⟩
        | ret => exact ⟨_, _, run_endRound (some .ret) p3, fin false (.left .ret) .done (some .ret) ⟨rfl, rfl⟩ hr⟩
        | exit id => exact ⟨_, _, run_endRound (some (.exit id)) p3, fin false (.left (.exit id)) .done (some (.exit id)) ⟨rfl, rfl⟩ hr⟩
        | goto t => exact hr.elim
        | panic c => exact hr.elim
        | outgrown => exact hr.elim
      · exact hr.elim
    · exact hq.elim

def Less (st st' : St) : Prop := ∀ X I w a, Now X I st w a → Now X I st' w a
theorem Less.refl (st : St) : Less st st := fun _ _ _ _ h => h
theorem Less.fzL (l : List AV) (st : St) : Less st (AM.fzL l st) := fun X I w a ⟨I', μ', ob', hI, R⟩ => by
  obtain ⟨J, ob2, hJ, R2⟩ := R.fzL l; exact ⟨J, μ', ob2, fun g h => hJ g (hI g h), R2⟩
def Z32 (Γ : Gam) (rs : List ResultVar) (n0 : Nat) (R : AV → List AObj → Prop) (st : St) : Prop :=
  resK Γ st rs fun l => ∃ n, n0 ≤ n ∧ Zac n (Z07 l) st.h ∧ R (Z07 l) (st.h.take n)

theorem AC.of_bodyE {Γ : Gam} {f : FuncId} {fn : Func} {c : Code} {args : List AV} {R : AV → List AObj → Prop} (hΓ : Zs P Γ) (hf : P.funcs[f]? = some fn) (hname : (fn.name == "runtime.NumGoroutine") = false) (hb : fn.body = some c)
    (hw : AWp ⟨P, Γ, h.length, ks⟩ none c (fun e st => Ends e ∧ ∃ st', Less st st' ∧ Z32 Γ fn.results.toList h.length R st') ⟨args ++ List.replicate (fn.ntmps - args.length) .junk, h⟩) : AC P f args h ks R := by
  refine ⟨Z1n hf hname hb, fun X I μ ob w cargs RH hlen hargs hks => ?_⟩; refine callsIn_wide.1 (?_ : CallsIn (Fw none) 0 P f cargs.toArray w _); refine callsIn_of_wp_marks hf hb trivial ?_; have hN : Now (X.sub I μ ob h ks w) I ⟨args ++ List.replicate (fn.ntmps - args.length) .junk, h⟩ w { tmps := cargs.toArray ++ Array.replicate (fn.ntmps - cargs.toArray.size) undef, defers := [] } := by
    refine ⟨I, μ, ob, fun _ h => h, { toRepH := RH.into, size := by simp [hlen], tmps := fun i hi => ?_, marks := ⟨[], rfl, List.nodup_nil, by simp⟩ }⟩; by_cases h1 : i < args.length
    · have e1 : (args ++ List.replicate (fn.ntmps - args.length) AV.junk).getD i AV.junk = args.getD i .junk := by
        simp only [List.getD_eq_getElem?_getD, List.getElem?_append_left h1]
      have e2 : (cargs.toArray ++ Array.replicate (fn.ntmps - cargs.toArray.size) undef).getD i undef = cargs.getD i undef := by
        rw [Z7y, Array.toList_append]; simp only [List.getD_eq_getElem?_getD]; rw [List.getElem?_append_left (by simpa using (show i < cargs.length by omega))]
      rw [e1, e2]; exact hargs i h1
    · have e1 : (args ++ List.replicate (fn.ntmps - args.length) AV.junk).getD i AV.junk = .junk := by
        simp only [List.getD_eq_getElem?_getD, List.getElem?_append_right (show args.length ≤ i by omega), List.getElem?_replicate]
        split <;> rfl
      rw [e1]; exact .junk _
  refine wpIn_mono (hw (X.sub I μ ob h ks w) I w _ ⟨rfl, rfl⟩ hN) ?_; rintro e a' w' ⟨st0, hN0, he, st', hless, hres⟩; obtain ⟨I', μ', ob', hI, R1⟩ := hless _ _ _ _ hN0; obtain ⟨rs, m1, m2, m3⟩ := R1.marks
  have hleave : LeavesInM (Fw none) 0 P fn a'.tmps (fun e w' => ∃ cv v h' I' μ' ob', e = .returned cv ∧ RepH X I' μ' ob' h' w' ∧ VR h'.length μ' I' w' v cv ∧ (∀ g, I g → I' g) ∧
      (∀ b, b < h.length → b ∉ ks → μ' b = μ b) ∧ h.length ≤ h'.length ∧ (∀ g, I' g → I g ∨ (∃ b, ob b = some g) ∨ w.heap.size ≤ g) ∧ (∀ b g, ob' b = some g → (∃ c, ob c = some g) ∨ w.heap.size ≤ g) ∧
      (∀ g, g < w.heap.size → (∀ b, ob b ≠ some g) → w'.heap[g]? = w.heap[g]?) ∧ R v h') a'.defers .returning w' := by
    refine Z5c rs m1 m2 (fun r hr => (m3 r hr).1) (fun w'' a1 a2 a3 a4 a5 => ?_); have R2 := R1.toRepH.put a1 a2 a3 a4 a5 (fun k hk => ⟨(m3 k hk).2.1, (m3 k hk).2.2.1, (m3 k hk).2.2.2⟩)
    have htm : ∀ i, i < st'.tmps.length → VR st'.h.length μ' I' w'' (st'.tmps.getD i .junk) (a'.tmps.getD i undef) := fun i hi =>
      (R1.tmps i hi).mono (Nat.le_refl _) (fun _ _ => rfl) (fun _ h => h) (fun g hg => a5 g (fun hm => (m3 g hm).2.2.1 hg))
    obtain ⟨l, cs, r1, r2, r3, n, hn, hu, r4⟩ := Z5s (E := ⟨P, Γ, h.length, ks⟩) (a := a') hΓ R2 htm _ hres; have hm : (fn.results.mapM (Z12 a'.tmps)).run P w'' = .ok cs.toArray w'' := by
      have h5 : fn.results.mapM (Z12 a'.tmps) = Functor.map List.toArray (fn.results.toList.mapM (Z12 a'.tmps)) := by
        conv => lhs; rw [← Array.toArray_toList (xs := fn.results)]
        exact List.mapM_toArray
      rw [h5]; simp [r1]
    have hv : VR st'.h.length μ' I' w'' (Z07 l) (if h : cs.toArray.size = 1 then cs.toArray[0] else .tuple cs.toArray) := by
      match l, cs, r2, r3 with
      | [x], [c], _, r3 => exact r3 0 (by simp)
      | [], [], _, _ => exact .tup [] [] rfl (by simp)
      | x :: y :: l, c :: d :: cs, h2, r3 => exact VR.tup _ (c :: d :: cs) h2 r3
    obtain ⟨ob5, R5, hv5⟩ := R2.keepN hn hu hv; obtain ⟨z1, z2, z3, z4, z5, z6⟩ := RH.back0 hks R5 hI; exact ⟨_, by rw [Z4e]; simp only [Sem.run_bind]; rw [hm]; rfl, _, Z07 l, _, I', μ', _, rfl, z1, hv5, hI, z2, z3, z4, z5, z6, r4⟩
  rcases he with rfl | rfl
  · exact hleave
  · exact hleave

def Z50 (b : Nat) (tm : List AV) (Q : Exit → St → Prop) (h' : List AObj) : Prop :=
  match h'[b]? with
  | some (.lp _ _ _ _ .ready) => Q .normal ⟨tm, h'.set b .dead⟩
  | some (.lp _ _ _ _ (.left .ret)) => Q .ret ⟨tm, h'.set b .dead⟩
  | some (.lp _ _ _ _ (.left (.exit id))) => Q (.exit id) ⟨tm, h'.set b .dead⟩
  | _ => False

theorem AWp.rangeFunc {E : Env} {Q : Exit → St → Prop} {f : Operand} {ps : List Nat} {assign body : Code} {tm : List AV} {h : List AObj} {g : FuncId} {caps : List AV} {ks : List Nat} {R : AV → List AObj → Prop} (hf : ev tm f = .fn g caps)
    (hac : AC E.P g (.yld h.length :: caps) (h ++ [.lp tm ps assign body .ready]) ks R) (hks : ∀ k ∈ ks, E.n0 ≤ k ∨ k ∈ E.ks) (hbk : h.length ∉ ks)
    (hR : ∀ v h', R v h' → Z50 h.length (Z8 ks tm) Q h') : AWp E none (.rangeFunc f ps.toArray assign body) Q ⟨tm, h⟩ := by
  intro X I w a hE ⟨I0, μ, ob, hI0, R0⟩; refine wpIn_rangeFunc (F := Fw none) fun fn hfn => ?_
  have hfv := R0.evs f; rw [hf] at hfv; obtain ⟨cs, hcf, hcl, hcr⟩ := hfv.fn_inv
  let w1 := w.alloc (.deferred (some []))
  let rec0 : Loop := { state := .ready, pending := none, fn, tmps := a.tmps, params := ps.toArray, assign, body, defers := w.heap.size }
  let w2 := w1.alloc (.loop rec0)
  let mark : List Deferred := [{ target := .collected w.heap.size, args := #[] }]
  have hg1 : w.grownBy w1 none := World.grownBy_alloc w _ none; have hg2 : w1.grownBy w2 none := World.grownBy_alloc w1 _ none; have hs1 : w1.heap.size = w.heap.size + 1 := by simp [w1]
  have R1 := R0.grow (I' := I0) hg1 (fun _ h => h) (fun _ h => .inl h); have hIw : ∀ k, I0 k → w2.heap[k]? = w1.heap[k]? := fun k hk => hg2.block k (R1.imm k hk) (by simp)
  have R2 := R1.name (v := .func (.yield (w.heap.size + 1)) #[] #[]) (g := some (w.heap.size + 1)) (o := .lp tm ps assign body .ready) hg2 (fun k e => by injection e with e; subst e; simp [w2, hs1])
    ⟨w.heap.size + 1, rec0, by simp, by simp, by rw [← hs1]; exact World.alloc_heap_new w1 _, R0.size, fun i hi => by
      have h1 : VR h.length μ I0 w1 (tm.getD i .junk) (a.tmps.getD i undef) := R1.tmps i hi; exact h1.mono (Nat.le_succ _) (fun c hc => Z3 _ _ (by omega)) (fun _ h => h) hIw, rfl, rfl, rfl, rfl, rfl⟩
  -- the activation with the mark
  have R3 : Rep X I0 (upd μ h.length (.func (.yield (w.heap.size + 1)) #[] #[])) (upd ob h.length (some (w.heap.size + 1))) ⟨tm, h ++ [.lp tm ps assign body .ready]⟩ w2 { a with defers := mark ++ a.defers } := {
    toRepH := R2.toRepH, size := R2.size, tmps := R2.tmps
    marks := by
      obtain ⟨rs, m1, m2, m3⟩ := R2.marks; obtain ⟨rs0, n1, n2, n3⟩ := R0.marks; have hrs : rs = rs0 := by
        have := m1.symm.trans n1; exact List.map_inj_right (fun _ _ e => by injection e) |>.1 this
      subst hrs; have hw0 : w2.heap[w.heap.size]? = some (.deferred (some [])) := (hg2.block _ (by rw [hs1]; omega) (by simp)).trans (World.alloc_heap_new w _); refine ⟨w.heap.size :: rs, by simp [mark, m1], List.nodup_cons.2 ⟨fun hm => ?_, m2⟩, fun q hq => ?_⟩
      · have := (Array.getElem?_eq_some_iff.1 (n3 _ hm).1).1; omega
      · rcases List.mem_cons.1 hq with rfl | hq
        · refine ⟨hw0, R0.toRepH.fresh (Nat.le_refl _), fun hi => by have := R0.imm _ hi; omega, fun b hb => ?_⟩
          by_cases e : b = h.length
          · subst e; rw [Z6] at hb; injection hb with hb; omega
          · rw [Z3 _ _ e] at hb; have := (R0.own b _ hb).2.2; omega
        · exact m3 q hq }
  have hcargs : ∀ i, i < (AV.yld h.length :: caps).length → VR (h ++ [AObj.lp tm ps assign body .ready]).length (upd μ h.length (.func (.yield (w.heap.size + 1)) #[] #[])) I0 w2 ((AV.yld h.length :: caps).getD i .junk) ((Value.func (.yield (w.heap.size + 1)) #[] #[] :: cs).getD i undef) := fun i hi => by
    cases i with
    | zero => exact .yld _ _ (by simp) (by simp)
    | succ i =>
      have h1 : VR h.length μ I0 w (caps.getD i .junk) (cs.getD i undef) := hcr i (by simpa using hi)
      simpa using h1.mono (n' := h.length + 1) (w' := w2) (Nat.le_succ _) (fun c hc => Z3 _ _ (by omega)) (fun _ h => h) (fun k hk => (hIw k hk).trans (hg1.block k (R0.imm k hk) (by simp)))
  have hcall := hac.2 X I0 _ _ w2 (.func (.yield (w.heap.size + 1)) #[] #[] :: cs) R3.toRepH (by simp [hcl]) hcargs (fun k hk => by
    rcases hks k hk with h | h
    · exact .inl (by rw [hE.1]; exact h)
    · exact .inr (by rw [hE.2]; exact h))
  refine ⟨w.heap.size + 1, mark, w2, { target := .fn (.func g) cs.toArray, args := #[.func (.yield (w.heap.size + 1)) #[] #[]] }, w2, g, (.func (.yield (w.heap.size + 1)) #[] #[] :: cs).toArray, w2, run_enterLoop_outer _ _ _ _ _, ?_, fun _ _ => trivial, ?_, fun h => by simp [Fw, Fence.wide] at h, ?_⟩
  · have hcv : a.eval (.const (.func (.yield (w.heap.size + 1)) #[] #[])) = .func (.yield (w.heap.size + 1)) #[] #[] := rfl
    simp [resolve, hcf, hcv, Deferred.ofValue]
  · have := hac.1 (.func (.yield (w.heap.size + 1)) #[] #[] :: cs).toArray w2
    simpa [invoke] using this
  · have hc2 := (callsIn_wide (n := 0)).2 hcall
    refine CallsIn.mono (F := Fw none) hc2 ?_; rintro e w' ⟨cv, v, h', I', μ', ob', rfl, R', hv, hI, hμ, hlen, hI2, hob, hold, hRv⟩; have R4 := Z7j R3 R' hI hμ hlen hI2 hob hold; have hK := hR v h' hRv; have hb0 : μ' h.length = .func (.yield (w.heap.size + 1)) #[] #[] := by
      rw [hμ h.length (by simp) hbk]; simp
    have fin : ∀ (tm' : List AV) (ps' : List Nat) (as' bd' : Code) (s : LS), h'[h.length]? = some (.lp tm' ps' as' bd' s) → (∀ rec' : Loop, (match s with | .ready => rec'.state = .ready ∧ rec'.pending = none | .busy => rec'.state = .busy | .left c => rec'.state = .done ∧ rec'.pending = some c | .over => True) → rec'.state ≠ .busy) →
        ∃ rec' : Loop, (match s with | .ready => rec'.state = .ready ∧ rec'.pending = none | .busy => rec'.state = .busy | .left c => rec'.state = .done ∧ rec'.pending = some c | .over => True) ∧
          (Instr.endLoop (w.heap.size + 1)).run E.P w' = .ok rec'.pending (w'.putObj (w.heap.size + 1) (.loop { rec' with state := .exhausted })) ∧
          Now X I ⟨Z8 ks tm, h'.set h.length .dead⟩ (w'.putObj (w.heap.size + 1) (.loop { rec' with state := .exhausted })) { a with defers := mark ++ a.defers } := by
      intro tm' ps' as' bd' s hbs hnb; obtain ⟨l', rec', q1, q2, q3, q4, q5, q6, q7, q8, q9⟩ := R'.objs _ _ hbs; rw [hb0] at q2; injection q2 with q2; injection q2 with q2; subst q2
      refine ⟨rec', q9, run_endLoop q3 (hnb rec' q9), I', μ', ob', fun g hg => hI g (hI0 g hg), ?_⟩; exact Rep.write (h := h') R4 (List.getElem?_eq_some_iff.1 hbs).1 q1 (Z1a _ _ _) trivial
    unfold Z50 at hK
    split at hK
    · rename_i tm' ps' as' bd' hbs
      obtain ⟨rec', h1, h2, h3⟩ := fin _ _ _ _ _ hbs (fun r hr => by rw [hr.1]; simp); refine ⟨_, _, h2, ?_⟩; rw [h1.2] at h3 ⊢; exact ⟨_, h3, hK⟩
    · rename_i tm' ps' as' bd' hbs
      obtain ⟨rec', h1, h2, h3⟩ := fin _ _ _ _ _ hbs (fun r hr => by rw [hr.1]; simp); refine ⟨_, _, h2, ?_⟩; rw [h1.2] at h3 ⊢; exact wpIn_ret ⟨_, h3, hK⟩
    · rename_i tm' ps' as' bd' id hbs
      obtain ⟨rec', h1, h2, h3⟩ := fin _ _ _ _ _ hbs (fun r hr => by rw [hr.1]; simp); refine ⟨_, _, h2, ?_⟩; rw [h1.2] at h3 ⊢; exact wpIn_exit ⟨_, h3, hK⟩
    · exact hK.elim
end
end Go.AM
end

section
namespace Go.AM
open Go.RowKit

/-! ### Lists, as the kernel likes them -/
section
variable {α β : Type}
def gE (d : α) (l : List α) (i : Nat) : α := Nat.rec (motive := fun _ => List α → α) (fun l => List.casesOn l d fun a _ => a) (fun _ ih l => List.casesOn l d fun _ t => ih t) i l
def gO (l : List α) (i : Nat) : Option α := Nat.rec (motive := fun _ => List α → Option α) (fun l => List.casesOn l none fun a _ => some a) (fun _ ih l => List.casesOn l none fun _ t => ih t) i l
def sE (l : List α) (i : Nat) (v : α) : List α := Nat.rec (motive := fun _ => List α → List α) (fun l => List.casesOn l [] fun _ t => v :: t) (fun _ ih l => List.casesOn l [] fun a t => a :: ih t) i l
def mE (f : α → β) : List α → List β
  | [] => []
  | a :: t => f a :: mE f t
def lE : List α → Nat
  | [] => 0
  | _ :: t => lE t + 1
def aE (f : α → Bool) : List α → Bool
  | [] => true
  | a :: t => match f a with
    | true => aE f t
    | false => false
def apE (l m : List α) : List α := match l with
  | [] => m
  | a :: t => a :: apE t m
def tkE (n : Nat) (l : List α) : List α := Nat.rec (motive := fun _ => List α → List α) (fun _ => []) (fun _ ih l => List.casesOn l [] fun a t => a :: ih t) n l
def dpE (n : Nat) (l : List α) : List α := Nat.rec (motive := fun _ => List α → List α) (fun l => l) (fun _ ih l => List.casesOn l [] fun _ t => ih t) n l
def rpE (n : Nat) (v : α) : List α := Nat.rec (motive := fun _ => List α) [] (fun _ ih => v :: ih) n

theorem Z4o (d : α) (l : List α) (i : Nat) : gE d l i = l.getD i d := by
  induction i generalizing l with
  | zero => cases l <;> rfl
  | succ i ih => cases l with
    | nil => rfl
    | cons a t => show gE d t i = _; rw [ih]; simp
theorem Z0r (l : List α) (i : Nat) : gO l i = l[i]? := by
  induction i generalizing l with
  | zero => cases l <;> rfl
  | succ i ih => cases l with
    | nil => rfl
    | cons a t => show gO t i = _; rw [ih]; simp
theorem Z3x (l : List α) (i : Nat) (v : α) : sE l i v = l.set i v := by
  induction i generalizing l with
  | zero => cases l <;> rfl
  | succ i ih => cases l with
    | nil => rfl
    | cons a t => show a :: sE t i v = _; rw [ih]; rfl
theorem Z26 (f : α → β) (l : List α) : mE f l = l.map f := by
  induction l with
  | nil => rfl
  | cons a t ih => show f a :: mE f t = _; rw [ih]; rfl
theorem Zp (l : List α) : lE l = l.length := by
  induction l with
  | nil => rfl
  | cons a t ih => show lE t + 1 = _; rw [ih]; rfl
theorem Z6h (f : α → Bool) (l : List α) : aE f l = l.all f := by
  induction l with
  | nil => rfl
  | cons a t ih =>
    rw [List.all_cons, ← ih]; have : aE f (a :: t) = (match f a with | true => aE f t | false => false) := rfl; rw [this]
    cases f a <;> rfl
theorem Z0u (l m : List α) : apE l m = l ++ m := by
  induction l with
  | nil => rfl
  | cons a t ih => show a :: apE t m = _; rw [ih]; rfl
theorem Z1q (n : Nat) (l : List α) : tkE n l = l.take n := by
  induction n generalizing l with
  | zero => cases l <;> rfl
  | succ i ih => cases l with
    | nil => rfl
    | cons a t => show a :: tkE i t = _; rw [ih]; rfl
theorem Z3i (n : Nat) (l : List α) : dpE n l = l.drop n := by
  induction n generalizing l with
  | zero => cases l <;> rfl
  | succ i ih => cases l with
    | nil => rfl
    | cons a t => show dpE i t = _; rw [ih]; rfl
theorem Zcs (n : Nat) (v : α) : rpE n v = List.replicate n v := by
  induction n with
  | zero => rfl
  | succ n ih => show v :: rpE n v = _; rw [ih]; rfl

def Zh2 (f : α → Option (List β)) : List α → Option (List β)
  | [] => some []
  | a :: t => match t with
    | [] => f a
    | _ :: _ => match f a with
      | some x => (match Zh2 f t with
        | some y => some (apE x y)
        | none => none)
      | none => none
def Z4r (l : Option (List α)) (f : α → Option (List β)) : Option (List β) := match l with
  | none => none
  | some l => Zh2 f l

theorem Z7a {f : α → Option (List β)} : ∀ {l : List α} {out : List β}, Zh2 f l = some out → ∀ a ∈ l, ∃ o, f a = some o ∧ ∀ x ∈ o, x ∈ out
  | [], _, _ => by simp
  | [a], out, h => by
    intro b hb; rcases List.mem_singleton.1 hb with rfl
    exact ⟨out, h, fun x hx => hx⟩
  | a :: a2 :: t2, out, h => by
    unfold Zh2 at h; simp only at h
    split at h
    · rename_i x hx
      split at h
      · rename_i y hy
        simp only [Option.some.injEq] at h; subst h; intro b hb; rcases List.mem_cons.1 hb with rfl | hb
        · exact ⟨x, hx, fun z hz => by rw [Z0u]; exact List.mem_append_left _ hz⟩
        · obtain ⟨o, h1, h2⟩ := Z7a hy b hb
          exact ⟨o, h1, fun z hz => by rw [Z0u]; exact List.mem_append_right _ (h2 z hz)⟩
      · cases h
    · cases h
theorem Z0t {l : Option (List α)} {f : α → Option (List β)} {out : List β} (h : Z4r l f = some out) : ∃ l', l = some l' ∧ ∀ a ∈ l', ∃ o, f a = some o ∧ ∀ x ∈ o, x ∈ out := by
  unfold Z4r at h
  split at h
  · cases h
  · exact ⟨_, rfl, Z7a h⟩
end

def Za {α : Type} (c : Bool) (x : Option α) : Option α := match c with
  | true => x
  | false => none
theorem Z1 {α : Type} {c : Bool} {x : Option α} {v : α} (h : Za c x = some v) : c = true ∧ x = some v := by
  cases c
  · cases h
  · exact ⟨rfl, h⟩

/-! ### Numbers and strings -/
def iLt : Int → Int → Bool
  | .ofNat m, .ofNat n => Nat.blt m n
  | .ofNat _, .negSucc _ => false
  | .negSucc _, .ofNat _ => true
  | .negSucc m, .negSucc n => Nat.blt n m
def iEq : Int → Int → Bool
  | .ofNat m, .ofNat n => Nat.beq m n
  | .negSucc m, .negSucc n => Nat.beq m n
  | _, _ => false
theorem Z8r (a b : Int) : iLt a b = decide (a < b) := by
  rw [Bool.eq_iff_iff, decide_eq_true_eq]
  cases a <;> cases b
  · simp [iLt, Nat.blt]; omega
  · simp [iLt]; omega
  · simp [iLt]; omega
  · simp [iLt, Nat.blt]; omega
theorem Zb4 (a b : Int) : iEq a b = decide (a = b) := by
  rw [Bool.eq_iff_iff, decide_eq_true_eq]
  cases a <;> cases b
  · simp only [iEq, Nat.beq_eq]; constructor
    · intro h; rw [h]
    · intro h; injection h
  · simp [iEq]
  · simp [iEq]
  · simp only [iEq, Nat.beq_eq]; constructor
    · intro h; rw [h]
    · intro h; injection h
def iLe (a b : Int) : Bool := match iLt b a with
  | true => false
  | false => true
theorem Ze6 (a b : Int) : iLe a b = decide (a ≤ b) := by
  unfold iLe; rw [Z8r]; by_cases h : b < a
  · rw [decide_eq_true h, decide_eq_false (by omega)]
  · rw [decide_eq_false h, decide_eq_true (by omega)]
theorem Z01 {a b : Int} (h : iLe a b = true) : a ≤ b := by rw [Ze6] at h; simpa using h
theorem Z62 {a b : Int} (h : iLt a b = true) : a < b := by rw [Z8r] at h; simpa using h

def inRB (k : IntKind) (x : Int) : Bool := match k with
  | .i8 => iLe (-128) x && iLe x 127
  | .i16 => iLe (-32768) x && iLe x 32767
  | .i32 => iLe (-2147483648) x && iLe x 2147483647
  | .i64 => iLe (-9223372036854775808) x && iLe x 9223372036854775807
  | .u8 => iLe 0 x && iLe x 255
  | .u16 => iLe 0 x && iLe x 65535
  | .u32 => iLe 0 x && iLe x 4294967295
  | .u64 => iLe 0 x && iLe x 18446744073709551615
theorem Z1z {k : IntKind} {x : Int} (h : inRB k x = true) : InR k x := by
  cases k <;> simp only [inRB, Bool.and_eq_true, Ze6, decide_eq_true_eq] at h <;> exact h

def Zkv (k : IntKind) (x : Int) : Bool := match k with
  | .u32 => true
  | k => inRB k x
theorem Zbj {k : IntKind} {x : Int} (h : Zkv k x = true) : AddR k x := by
  cases k with
  | u32 => trivial
  | i8 => exact Z1z (k := .i8) h
  | i16 => exact Z1z (k := .i16) h
  | i32 => exact Z1z (k := .i32) h
  | i64 => exact Z1z (k := .i64) h
  | u8 => exact Z1z (k := .u8) h
  | u16 => exact Z1z (k := .u16) h
  | u64 => exact Z1z (k := .u64) h
def intE (op : BinOp) (k : IntKind) (a b : Int) : Option AV :=
  match op with
  | .add => Za (Zkv k (a + b)) (some (.p (.int k (addW k (a + b)))))
  | .sub => Za (inRB k (a - b)) (some (.p (.int k (a - b))))
  | .mul => Za (inRB k (a * b)) (some (.p (.int k (a * b))))
  | .quo => Za (iLe 0 a && iLt 0 b && inRB k a) (some (.p (.int k (a / b))))
  | .rem => Za (iLe 0 a && iLt 0 b) (some (.p (.int k (a % b))))
  | .and => some (.p (.int k (Z55 .and k a b)))
  | .or => some (.p (.int k (Z55 .or k a b)))
  | .xor => some (.p (.int k (Z55 .xor k a b)))
  | .andNot => some (.p (.int k (Z55 .andNot k a b)))
  | .shl => Za (iLe 0 b && iLt b k.bits && Zkv k (a * 2 ^ b.toNat)) (some (.p (.int k (addW k (a * 2 ^ b.toNat)))))
  | .shr => Za (iLe 0 b && iLt b k.bits && iLe 0 a) (some (.p (.int k (a / 2 ^ b.toNat))))
  | .eql => some (.p (.bool (iEq a b)))
  | .neq => some (.p (.bool (!iEq a b)))
  | .lss => some (.p (.bool (iLt a b)))
  | .leq => some (.p (.bool (iLe a b)))
  | .gtr => some (.p (.bool (iLt b a)))
  | .geq => some (.p (.bool (iLe b a)))
theorem Z9x {op : BinOp} {k : IntKind} {a b : Int} {v : AV} {K : AV → Prop} (h : intE op k a b = some v) (hk : K v) : intK op k a b K := by
  cases op <;> simp only [intE] at h <;> simp only [intK]
  case and | or | xor | andNot => injection h with h; subst h; exact hk
  case add => obtain ⟨h1, h2⟩ := Z1 h; injection h2 with h2; subst h2; exact ⟨Zbj h1, hk⟩
  case sub | mul => obtain ⟨h1, h2⟩ := Z1 h; injection h2 with h2; subst h2; exact ⟨Z1z h1, hk⟩
  case quo =>
    obtain ⟨h1, h2⟩ := Z1 h; injection h2 with h2; subst h2
    simp only [Bool.and_eq_true] at h1; exact ⟨⟨Z01 h1.1.1, Z62 h1.1.2, Z1z h1.2⟩, hk⟩
  case rem =>
    obtain ⟨h1, h2⟩ := Z1 h; injection h2 with h2; subst h2
    simp only [Bool.and_eq_true] at h1; exact ⟨⟨Z01 h1.1, Z62 h1.2⟩, hk⟩
  case shl =>
    obtain ⟨h1, h2⟩ := Z1 h; injection h2 with h2; subst h2
    simp only [Bool.and_eq_true] at h1; exact ⟨⟨Z01 h1.1.1, Z62 h1.1.2, Zbj h1.2⟩, hk⟩
  case shr =>
    obtain ⟨h1, h2⟩ := Z1 h; injection h2 with h2; subst h2
    simp only [Bool.and_eq_true] at h1; exact ⟨⟨Z01 h1.1.1, Z62 h1.1.2, Z01 h1.2⟩, hk⟩
  all_goals (injection h with h; subst h; simpa only [Zb4, Z8r, Ze6] using hk)

def bEq : List UInt8 → List UInt8 → Bool
  | [], m => (match m with | [] => true | _ :: _ => false)
  | a :: l, m => (match m with
    | [] => false
    | b :: t => (match Nat.beq a.toNat b.toNat with | true => bEq l t | false => false))
theorem Z96 (l m : List UInt8) : bEq l m = decide (l = m) := by
  rw [Bool.eq_iff_iff, decide_eq_true_eq]
  induction l generalizing m with
  | nil => cases m <;> simp [bEq]
  | cons a t ih =>
    cases m with
    | nil => simp [bEq]
    | cons b u =>
      have : bEq (a :: t) (b :: u) = (match Nat.beq a.toNat b.toNat with | true => bEq t u | false => false) := rfl; rw [this]
      cases hb : Nat.beq a.toNat b.toNat with
      | false =>
        have : a.toNat ≠ b.toNat := fun e => by rw [e] at hb; simp at hb
        simp only [Bool.false_eq_true, List.cons.injEq, false_iff, not_and]; intro e; exact absurd (by rw [e]) this
      | true =>
        have e : a = b := UInt8.toNat_inj.1 (Nat.eq_of_beq_eq_true hb); simp only [List.cons.injEq]; rw [ih]; simp [e]
def bLt : List UInt8 → List UInt8 → Bool
  | [], m => (match m with | [] => false | _ :: _ => true)
  | a :: l, m => (match m with
    | [] => false
    | b :: t => (match Nat.blt a.toNat b.toNat with
      | true => true
      | false => (match Nat.beq a.toNat b.toNat with | true => bLt l t | false => false)))
theorem Zbh (l m : List UInt8) : bLt l m = Op.bytesLess l m := by
  induction l generalizing m with
  | nil => cases m <;> rfl
  | cons a t ih =>
    cases m with
    | nil => rfl
    | cons b u =>
      have : bLt (a :: t) (b :: u) = (match Nat.blt a.toNat b.toNat with | true => true | false => (match Nat.beq a.toNat b.toNat with | true => bLt t u | false => false)) := rfl; rw [this, ih]; have h0 : Op.bytesLess (a :: t) (b :: u) = (decide (a < b) || (a == b && Op.bytesLess t u)) := rfl; rw [h0]; have h1 : Nat.blt a.toNat b.toNat = decide (a < b) := by
        rw [Bool.eq_iff_iff, decide_eq_true_eq, UInt8.lt_iff_toNat_lt]; simp [Nat.blt]; omega
      have h2 : Nat.beq a.toNat b.toNat = (a == b) := by
        rw [Bool.eq_iff_iff, beq_iff_eq, ← UInt8.toNat_inj]; rw [Nat.beq_eq]
      rw [h1, h2]
      cases decide (a < b) <;> cases a == b <;> rfl

def strE (op : BinOp) (a b : List UInt8) : Option AV :=
  match op with
  | .add => Za (Nat.ble (lE a + lE b) 9223372036854775807) (some (.p (.str (apE a b))))
  | .eql => some (.p (.bool (bEq a b)))
  | .neq => some (.p (.bool (!bEq a b)))
  | .lss => some (.p (.bool (bLt a b)))
  | .leq => some (.p (.bool (bLt a b || bEq a b)))
  | .gtr => some (.p (.bool (!(bLt a b || bEq a b))))
  | .geq => some (.p (.bool (!bLt a b)))
  | _ => none
theorem Zif {op : BinOp} {a b : List UInt8} {v : AV} {K : AV → Prop} (h : strE op a b = some v) (hk : K v) : strK op a b K := by
  cases op <;> simp only [strE] at h <;> simp only [strK] <;> try cases h
  case add =>
    obtain ⟨h1, h2⟩ := Z1 h; injection h2 with h2; subst h2
    rw [Zp, Zp] at h1; exact ⟨Nat.le_of_ble_eq_true h1, by simpa only [Z0u] using hk⟩
  all_goals (simpa only [Z96, Zbh] using hk)

/-! ### Types -/
def tdSl : TD → Option TypeId
  | .slice e => some e
  | _ => none
def tdMp : TD → Option (TypeId × TypeId)
  | .map k e => some (k, e)
  | _ => none
def tdFs : TD → Option (List (Nat × TypeId))
  | .struct fs => some fs
  | _ => none
def tdIn : TD → Option IntKind
  | .int k => some k
  | _ => none
def tdSt : TD → Bool
  | .str => true
  | _ => false
def tdBo : TD → Bool
  | .bool => true
  | _ => false
theorem Zi9 {d : TD} {e : TypeId} (h : tdSl d = some e) : d = .slice e := by cases d <;> simp [tdSl] at h; rw [h]
theorem Zia {d : TD} {k e : TypeId} (h : tdMp d = some (k, e)) : d = .map k e := by cases d <;> simp [tdMp] at h; rw [h.1, h.2]
theorem Z9c {d : TD} {fs : List (Nat × TypeId)} (h : tdFs d = some fs) : d = .struct fs := by cases d <;> simp [tdFs] at h; rw [h]
theorem Zib {d : TD} {k : IntKind} (h : tdIn d = some k) : d = .int k := by cases d <;> simp [tdIn] at h; rw [h]
theorem Zi8 {d : TD} (h : tdSt d = true) : d = .str := by cases d <;> simp [tdSt] at h; rfl
theorem Zic {d : TD} (h : tdBo d = true) : d = .bool := by cases d <;> simp [tdBo] at h; rfl
def Z54 (Γ : Gam) (t : TypeId) : Bool := match Γ t with | some te => tdSt te.td | none => false
def isBo (Γ : Gam) (t : TypeId) : Bool := match Γ t with | some te => tdBo te.td | none => false
def slOf (Γ : Gam) (t : TypeId) : Option TypeId := match Γ t with | some te => tdSl te.td | none => none
def mpOf (Γ : Gam) (t : TypeId) : Option (TypeId × TypeId) := match Γ t with | some te => tdMp te.td | none => none
def fsOf (Γ : Gam) (t : TypeId) : Option (List (Nat × TypeId)) := match Γ t with | some te => tdFs te.td | none => none
theorem Z0p {Γ : Gam} {t : TypeId} (h : Z54 Γ t = true) : tdAt Γ t .str := by
  unfold Z54 at h; unfold tdAt; split at h
  · rename_i te hte; simp only [hte]; exact Zi8 h
  · cases h
theorem Zjr {Γ : Gam} {t : TypeId} (h : isBo Γ t = true) : tdAt Γ t .bool := by
  unfold isBo at h; unfold tdAt; split at h
  · rename_i te hte; simp only [hte]; exact Zic h
  · cases h
theorem Z11 {Γ : Gam} {t e : TypeId} (h : slOf Γ t = some e) : ∃ te, Γ t = some te ∧ te.td = .slice e := by
  unfold slOf at h; split at h
  · rename_i te hte; exact ⟨te, hte, Zi9 h⟩
  · cases h
theorem Z7m {Γ : Gam} {t k e : TypeId} (h : mpOf Γ t = some (k, e)) : ∃ te, Γ t = some te ∧ te.td = .map k e := by
  unfold mpOf at h; split at h
  · rename_i te hte; exact ⟨te, hte, Zia h⟩
  · cases h
theorem Zjw {Γ : Gam} {t : TypeId} {fs : List (Nat × TypeId)} (h : fsOf Γ t = some fs) : ∃ te, Γ t = some te ∧ te.td = .struct fs := by
  unfold fsOf at h; split at h
  · rename_i te hte; exact ⟨te, hte, Z9c h⟩
  · cases h
theorem Z2n {Γ : Gam} {t : TypeId} {te : TE} {d : TD} (h : Γ t = some te) (hd : te.td = d) : tdAt Γ t d := by unfold tdAt; simp only [h]; exact hd
theorem Zc {Γ : Gam} {t : TypeId} {te : TE} {F : TE → Prop} (h : Γ t = some te) (hf : F te) : tyAt Γ t F := by unfold tyAt; simp only [h]; exact hf

/-! ### Operations that write nothing -/
section
variable {Γ : Gam} {h : List AObj} {K : AV → Prop} {v : AV}

def binE (Γ : Gam) (op : BinOp) (t : TypeId) (x y : AV) : Option AV :=
  match x, y with
  | .p (.int k a), .p (.int k' b) => (match op with
    | .shl => intE .shl k a b
    | .shr => intE .shr k a b
    | op => (match decEq k k' with
      | isTrue _ => intE op k a b
      | isFalse _ => none))
  | .p (.str a), .p (.str b) => strE op a b
  | .p (.bool a), .p (.bool b) => Za (isBo Γ t) (match op with
    | .eql => some (.p (.bool (a == b)))
    | .neq => some (.p (.bool (a != b)))
    | _ => none)
  | _, _ => none
theorem Zex {op : BinOp} {t : TypeId} {x y : AV} (h : binE Γ op t x y = some v) (hk : K v) : binK Γ op t x y K := by
  unfold binE at h
  split at h
  · rename_i k a k' b
    have go : (match decEq k k' with | isTrue _ => intE op k a b | isFalse _ => none) = some v → k = k' ∧ intK op k a b K := fun h2 => by
      clear h
      split at h2
      · rename_i e _; subst e; exact ⟨rfl, Z9x h2 hk⟩
      · cases h2
    cases op with
    | shl => exact Z9x (op := .shl) h hk
    | shr => exact Z9x (op := .shr) h hk
    | _ => exact go h
  · exact Zif h hk
  · obtain ⟨h1, h2⟩ := Z1 h
    refine ⟨Zjr h1, ?_⟩
    split at h2
    · injection h2 with h2; subst h2; exact hk
    · injection h2 with h2; subst h2; exact hk
    · cases h2
  · cases h

def eqAE (Γ : Gam) : List (Nat × TypeId) → List PV → List PV → Option Bool
  | [], _, _ => some true
  | q :: fs, l, m => match Γ q.2 with
    | some fe => (match fe.td, gO l q.1, gO m q.1 with
      | .bool, some (.bool a), some (.bool b) => (eqAE Γ fs l m).map fun r => a == b && r
      | .int _, some (.int k a), some (.int k' b) => (match decEq k k' with
        | isTrue _ => (eqAE Γ fs l m).map fun r => iEq a b && r
        | isFalse _ => none)
      | .str, some (.str a), some (.str b) => (eqAE Γ fs l m).map fun r => bEq a b && r
      | _, _, _ => none)
    | none => none
theorem Zel : ∀ (fs : List (Nat × TypeId)) (l m : List PV), eqAE Γ fs l m = Z1w Γ fs l m
  | [], _, _ => rfl
  | (o, ft) :: fs, l, m => by
    unfold eqAE Z1w; simp only [Z0r, Zel fs, Zb4, Z96]
    cases hg : Γ ft with
    | none => rfl
    | some fe =>
      simp only
      cases fe.td <;> first | rfl | (cases l[o]? with
        | none => rfl
        | some p => cases m[o]? with
          | none => cases p <;> rfl
          | some q => cases p <;> cases q <;> first | rfl | (rename_i k a k' b; simp only; cases hk : decEq k k' with
            | isTrue e => rw [if_pos e]
            | isFalse e => rw [if_neg e]))
def aggE (Γ : Gam) (op : BinOp) (t : TypeId) (x y : AV) : Option AV := match x.pure, y.pure with
  | some (.agg l), some (.agg m) => (match Γ t with
    | some te => Za (te.eqs && ((PV.agg l).scal && (PV.agg m).scal)) ((tdFs te.td).bind fun fs => (eqAE Γ fs l m).bind fun r => (match op with
      | .eql => some (.p (.bool r))
      | .neq => some (.p (.bool (!r)))
      | _ => none))
    | none => none)
  | _, _ => none
theorem Zf7 {op : BinOp} {t : TypeId} {x y : AV} (h : aggE Γ op t x y = some v) (hk : K v) : aggK Γ op t x y K := by
  unfold aggE at h; unfold aggK
  split at h
  · rename_i l m hl hm
    simp only [hl, hm]
    split at h
    · rename_i te hte
      obtain ⟨h1, h2⟩ := Z1 h; simp only [Bool.and_eq_true] at h1; obtain ⟨fs, h3, h4⟩ := Option.bind_eq_some_iff.1 h2; obtain ⟨r, h5, h6⟩ := Option.bind_eq_some_iff.1 h4; rw [Zel] at h5; have h5 := Z75 h5; refine Zc hte ⟨h1, ?_⟩; simp only [Z9c h3, h5]
      cases op <;> first | (injection h6 with h6; subst h6; exact hk) | cases h6
    · cases h
  · cases h
def Zkp (Γ : Gam) (op : BinOp) (t : TypeId) (x y : AV) : Option AV := match x with
  | .agg _ => aggE Γ op t x y
  | .p (.agg _) => aggE Γ op t x y
  | _ => binE Γ op t x y
theorem Zh3 {op : BinOp} {t : TypeId} {x y : AV} (h : Zkp Γ op t x y = some v) (hk : K v) : binA Γ op t x y K := by
  unfold Zkp at h; unfold binA
  split at h
  · exact Zf7 h hk
  · exact Zf7 h hk
  · split
    · rename_i hx _; exact absurd rfl (hx _)
    · rename_i hx; exact absurd rfl (hx _)
    · exact Zex h hk

/-! Rows of bytes. -/
def unU8 : List PV → Option (List UInt8)
  | [] => some []
  | v :: l => match v with
    | .int .u8 (.ofNat n) => (match Nat.blt n 256 with
      | true => (match unU8 l with | some m => some (n.toUInt8 :: m) | none => none)
      | false => none)
    | _ => none
theorem Z9b : ∀ {l : List PV} {m : List UInt8}, unU8 l = some m → l = m.map u8V
  | [], m, h => by injection h with h; subst h; rfl
  | v :: l, m, h => by
    unfold unU8 at h
    split at h
    · rename_i n
      split at h
      · rename_i hn
        split at h
        · rename_i m' hm
          injection h with h; subst h
          have := Nat.le_of_ble_eq_true hn; rw [Z9b hm, List.map_cons]
          congr 1
          unfold u8V
          congr 1
          show (n : Int) = _
          congr 1
          simp; omega
        · cases h
      · cases h
    · cases h
def isU8 (Γ : Gam) (t : TypeId) : Bool := match Γ t with
  | some te => (match te.td with | .int .u8 => true | _ => false)
  | none => false
theorem Z9v {t : TypeId} (h : isU8 Γ t = true) : tdAt Γ t (.int .u8) := by
  unfold isU8 at h; unfold tdAt
  split at h
  · rename_i te hte
    simp only [hte]
    split at h
    · assumption
    · cases h
  · cases h

def lenE (Γ : Gam) (t : TypeId) (x : AV) (h : List AObj) : Option AV :=
  match x with
  | .p (.str s) => Za (Z54 Γ t) (some (.p (.int .i64 (lE s))))
  | .p (.sl l) => (slOf Γ t).bind fun _ => some (.p (.int .i64 (lE l)))
  | .full l => (slOf Γ t).bind fun _ => some (.p (.int .i64 (lE l)))
  | .own _ n => (slOf Γ t).bind fun _ => some (.p (.int .i64 n))
  | .map b => (mpOf Γ t).bind fun _ => (match gO h b with | some (.mp es) => some (.p (.int .i64 (lE es))) | _ => none)
  | _ => none
theorem Zjo {t : TypeId} {x : AV} (hv : lenE Γ t x h = some v) (hk : K v) : lenK Γ t x h K := by
  unfold lenE at hv
  split at hv
  · obtain ⟨h1, h2⟩ := Z1 hv; injection h2 with h2; subst h2
    exact ⟨Z0p h1, by simpa only [Zp] using hk⟩
  · obtain ⟨e, h1, h2⟩ := Option.bind_eq_some_iff.1 hv; injection h2 with h2; subst h2
    obtain ⟨te, h3, h4⟩ := Z11 h1; exact ⟨⟨e, Z2n h3 h4⟩, by simpa only [Zp] using hk⟩
  · obtain ⟨e, h1, h2⟩ := Option.bind_eq_some_iff.1 hv; injection h2 with h2; subst h2
    obtain ⟨te, h3, h4⟩ := Z11 h1; exact ⟨⟨e, Z2n h3 h4⟩, by simpa only [Zp] using hk⟩
  · obtain ⟨e, h1, h2⟩ := Option.bind_eq_some_iff.1 hv; injection h2 with h2; subst h2
    obtain ⟨te, h3, h4⟩ := Z11 h1; exact ⟨⟨e, Z2n h3 h4⟩, hk⟩
  · obtain ⟨⟨k, e⟩, h1, h2⟩ := Option.bind_eq_some_iff.1 hv
    obtain ⟨te, h3, h4⟩ := Z7m h1; refine ⟨⟨k, e, Z2n h3 h4⟩, ?_⟩
    split at h2
    · rename_i es hes
      injection h2 with h2; subst h2
      rw [Z0r] at hes; simp only [hes]; simpa only [Zp] using hk
    · cases h2
  · cases hv

def extE (x : AV) (i : Nat) : Option AV := match x with
  | .tup l => gO l i
  | _ => none
theorem Zk0 {x : AV} {i : Nat} (hv : extE x i = some v) (hk : K v) : extK x i K := by
  unfold extE at hv
  split at hv
  · rename_i l
    rw [Z0r] at hv; obtain ⟨hi, e⟩ := List.getElem?_eq_some_iff.1 hv; exact ⟨hi, by rw [List.getD_eq_getElem?_getD, hv]; exact hk⟩
  · cases hv

def Zj1 (c x y : AV) : Option AV := match c with
  | .p (.bool b) => some (match b with | true => x | false => y)
  | _ => none
theorem Zfz {c x y : AV} (hv : Zj1 c x y = some v) (hk : K v) : Z2t c x y K := by
  unfold Zj1 at hv
  split at hv
  · rename_i b
    injection hv with hv; subst hv
    unfold Z2t; simp only
    split
    · cases b <;> exact hk
    · cases b
      · exact ⟨fun h => (by cases h), fun _ => hk⟩
      · exact ⟨fun _ => hk, fun h => (by cases h)⟩
  · cases hv

def unE (op : UnOp) (x : AV) : Option AV := match op, x with
  | .not, .p (.bool b) => some (.p (.bool (!b)))
  | .neg, .p (.int k a) => Za (inRB k (-a)) (some (.p (.int k (-a))))
  | _, _ => none
theorem Zmr {op : UnOp} {x : AV} (hv : unE op x = some v) (hk : K v) : unK op x K := by
  unfold unE at hv
  split at hv
  · injection hv with hv; subst hv; exact hk
  · obtain ⟨h1, h2⟩ := Z1 hv; injection h2 with h2; subst h2; exact ⟨Z1z h1, hk⟩
  · cases hv

def Zc3 (Γ : Gam) (s d : TypeId) (x : AV) : Option AV := match x with
  | .p (.int _ a) => Za (Γ s).isSome (match Γ d with
    | some te => (tdIn te.td).bind fun k => some (.p (.int k (k.wrap a)))
    | none => none)
  | .p (.str s') => Za (Z54 Γ s && Z54 Γ d) (some (.p (.str s')))
  | _ => none
theorem Zb9 {s d : TypeId} {x : AV} (hv : Zc3 Γ s d x = some v) (hk : K v) : Z2l Γ s d x K := by
  unfold Zc3 at hv
  split at hv
  · obtain ⟨h1, h2⟩ := Z1 hv
    refine ⟨h1, ?_⟩
    split at h2
    · rename_i te hte
      obtain ⟨k, h3, h4⟩ := Option.bind_eq_some_iff.1 h2
      injection h4 with h6; subst h6
      have := Zib h3; simp only [hte, this]; exact hk
    · cases h2
  · obtain ⟨h1, h2⟩ := Z1 hv; injection h2 with h2; subst h2
    simp only [Bool.and_eq_true] at h1; exact ⟨Z0p h1.1, Z0p h1.2, hk⟩
  · cases hv

def idxE (Γ : Gam) (t : TypeId) (x i : AV) : Option AV := match x, i with
  | .p (.str s), .p (.int _ j) => Za (Z54 Γ t && iLe 0 j && iLt j (lE s)) (some (.p (.int .u8 (gE 0 s j.toNat).toNat)))
  | _, _ => none
theorem Zjt {t : TypeId} {x i : AV} (hv : idxE Γ t x i = some v) (hk : K v) : idxK Γ t x i K := by
  unfold idxE at hv
  split at hv
  · obtain ⟨h1, h2⟩ := Z1 hv; injection h2 with h2; subst h2
    simp only [Bool.and_eq_true, Zp] at h1; exact ⟨Z0p h1.1.1, ⟨Z01 h1.1.2, Z62 h1.2⟩, by simpa only [Z4o] using hk⟩
  · cases hv

def iaL (Γ : Gam) (e : TypeId) (l : List PV) (j : Int) : Option AV := match Γ e with
  | some ee => Za (iLe 0 j && iLt j (lE l) && Nat.beq (lE (gE default l j.toNat).cells) ee.cells) (some (.ipt (gE default l j.toNat).cells))
  | none => none
def iaE (Γ : Gam) (h : List AObj) (t : TypeId) (x i : AV) : Option AV := match i with
  | .p (.int _ j) => (slOf Γ t).bind fun e => (match x with
    | .p (.sl l) => iaL Γ e l j
    | .full l => iaL Γ e l j
    | .own b m => (match Γ e, gO h b with
      | some ee, some (.row _ s _ _) => Za (iLe 0 j && iLt j m && Nat.beq s ee.cells) (some (.eptr b s j.toNat 0))
      | _, _ => none)
    | _ => none)
  | _ => none
theorem Zhz {e : TypeId} {l : List PV} {j : Int} (hv : iaL Γ e l j = some v) (hk : K v) :
    ∃ ee, Γ e = some ee ∧ (0 ≤ j ∧ j < l.length) ∧ (l.getD j.toNat default).cells.length = ee.cells ∧ K (.ipt (l.getD j.toNat default).cells) := by
  unfold iaL at hv
  split at hv
  · rename_i ee hee
    obtain ⟨h1, h2⟩ := Z1 hv; injection h2 with h2; subst h2
    simp only [Bool.and_eq_true, Zp, Z4o] at h1; exact ⟨ee, hee, ⟨Z01 h1.1.1, Z62 h1.1.2⟩, Nat.eq_of_beq_eq_true h1.2, by simpa only [Z4o] using hk⟩
  · cases hv
theorem Zoi {t : TypeId} {x i : AV} (hv : iaE Γ h t x i = some v) (hk : K v) : iaK Γ h t x i K := by
  unfold iaE at hv
  split at hv
  · rename_i k j
    obtain ⟨e, h1, h2⟩ := Option.bind_eq_some_iff.1 hv; obtain ⟨te, hte, hd⟩ := Z11 h1
    split at h2
    · obtain ⟨ee, q1, q2⟩ := Zhz h2 hk
      show tyAt Γ t _; refine Zc hte ?_; simp only [hd]; exact Zc q1 q2
    · obtain ⟨ee, q1, q2⟩ := Zhz h2 hk
      show tyAt Γ t _; refine Zc hte ?_; simp only [hd]; exact Zc q1 q2
    · split at h2
      · rename_i ee E' s' xs' rk hee hb
        obtain ⟨h3, h4⟩ := Z1 h2; injection h4 with h4; subst h4
        rw [Z0r] at hb; simp only [Bool.and_eq_true] at h3; show tyAt Γ t _; refine Zc hte ?_; simp only [hd]; refine Zc hee ⟨⟨Z01 h3.1.1, Z62 h3.1.2⟩, ?_⟩; simp only [hb]; exact ⟨Nat.eq_of_beq_eq_true h3.2, hk⟩
      · cases h2
    · cases h2
  · cases hv

def fldE (Γ : Gam) (t : TypeId) (f : Nat) : Option (Nat × TE) := (fsOf Γ t).bind fun fs => (match gO fs f with
  | some (o, ft) => (match Γ ft with | some fe => some (o, fe) | none => none)
  | none => none)
theorem Za3 {t : TypeId} {f o : Nat} {fe : TE} {F : Nat → TE → Prop} (h1 : fldE Γ t f = some (o, fe)) (hF : F o fe) : fldOff Γ t f F := by
  unfold fldE at h1; obtain ⟨fs, h2, h3⟩ := Option.bind_eq_some_iff.1 h1; obtain ⟨te, hte, hd⟩ := Zjw h2
  split at h3
  · rename_i o' ft hg
    split at h3
    · rename_i fe' hfe
      simp only [Option.some.injEq, Prod.mk.injEq] at h3; obtain ⟨rfl, rfl⟩ := h3; rw [Z0r] at hg; refine Zc hte ?_; simp only [hd, hg]; exact Zc hfe hF
    · cases h3
  · cases h3
def faE (Γ : Gam) (t : TypeId) (x : AV) (f : Nat) : Option AV := (fldE Γ t f).bind fun q => Za (!Nat.beq q.2.cells 0) (match x with
  | .ptr b off => some (.ptr b (off + q.1))
  | .eptr b s i g => some (.eptr b s i (g + q.1))
  | .ipt l => Za (Nat.ble q.1 (lE l)) (some (.ipt (dpE q.1 l)))
  | _ => none)
theorem Zol {t : TypeId} {x : AV} {f : Nat} (hv : faE Γ t x f = some v) (hk : K v) : faK Γ t x f K := by
  unfold faE at hv; obtain ⟨⟨o, fe⟩, h1, h2⟩ := Option.bind_eq_some_iff.1 hv; obtain ⟨h3, h4⟩ := Z1 h2; refine Za3 h1 ⟨fun e => by simp [e] at h3, ?_⟩
  split at h4
  · injection h4 with h4; subst h4; exact hk
  · injection h4 with h4; subst h4; exact hk
  · obtain ⟨h5, h6⟩ := Z1 h4; injection h6 with h6; subst h6
    rw [Zp] at h5; exact ⟨Nat.le_of_ble_eq_true h5, by simpa only [Z3i] using hk⟩
  · cases h4

def Zgm (Γ : Gam) (h : List AObj) (t : TypeId) (x : AV) : Option AV := match Γ t with
  | some te => (match x with
    | .ipt l => (match te.isAgg with
      | true => Za (Nat.ble te.cells (lE l)) (some (.p (.agg (tkE te.cells l))))
      | false => (gO l 0).bind fun u => some (.p u))
    | .ptr b off => (match gO h b with
      | some (.box cs) => (match te.isAgg with
        | true => Za (Nat.ble (off + te.cells) (lE cs)) (some (.agg (tkE te.cells (dpE off cs))))
        | false => gO cs off)
      | _ => none)
    | .eptr b s i f => (match gO h b with
      | some (.row _ s' xs _) => Za (Nat.beq s' s) ((gO xs i).bind fun u => (match te.isAgg with
        | true => Za (Nat.ble (f + te.cells) s) (some (.p (.agg (tkE te.cells (dpE f u.cells)))))
        | false => Za (Nat.blt f s) (some (.p (gE default u.cells f)))))
      | _ => none)
    | _ => none)
  | none => none
theorem Zax {t : TypeId} {x : AV} (hv : Zgm Γ h t x = some v) (hk : K v) : Z2k Γ h t x K := by
  unfold Zgm at hv
  split at hv
  · rename_i te hte
    refine Zc hte ?_
    split at hv
    · rename_i l
      split at hv
      · rename_i ha
        obtain ⟨h1, h2⟩ := Z1 hv; injection h2 with h2; subst h2
        rw [Zp] at h1; simp only [ha, if_true]; exact ⟨Nat.le_of_ble_eq_true h1, by simpa only [Z1q] using hk⟩
      · rename_i ha
        obtain ⟨u, h1, h2⟩ := Option.bind_eq_some_iff.1 hv; injection h2 with h2; subst h2
        rw [Z0r] at h1; obtain ⟨hlt, _⟩ := List.getElem?_eq_some_iff.1 h1; simp only [ha, Bool.false_eq_true, if_false]; exact ⟨hlt, by rw [List.getD_eq_getElem?_getD, h1]; exact hk⟩
    · rename_i b off
      split at hv
      · rename_i cs hb
        rw [Z0r] at hb; simp only [hb]
        split at hv
        · rename_i ha
          obtain ⟨h1, h2⟩ := Z1 hv; injection h2 with h2; subst h2
          rw [Zp] at h1; simp only [ha, if_true]; exact ⟨Nat.le_of_ble_eq_true h1, by simpa only [Z1q, Z3i] using hk⟩
        · rename_i ha
          rw [Z0r] at hv; obtain ⟨hlt, _⟩ := List.getElem?_eq_some_iff.1 hv; simp only [ha, Bool.false_eq_true, if_false]; exact ⟨hlt, by rw [List.getD_eq_getElem?_getD, hv]; exact hk⟩
      · cases hv
    · rename_i b s i f
      split at hv
      · rename_i E' s' xs rk hb
        obtain ⟨h1, hv⟩ := Z1 hv; obtain ⟨u, h2, hv⟩ := Option.bind_eq_some_iff.1 hv; rw [Z0r] at hb h2; obtain ⟨hlt, _⟩ := List.getElem?_eq_some_iff.1 h2; have hu : xs.getD i default = u := by rw [List.getD_eq_getElem?_getD, h2]; rfl
        simp only [hb]; refine ⟨Nat.eq_of_beq_eq_true h1, hlt, ?_⟩; rw [hu]
        split at hv
        · rename_i ha
          obtain ⟨h3, h4⟩ := Z1 hv; injection h4 with h4; subst h4
          simp only [ha, if_true]; exact ⟨Nat.le_of_ble_eq_true h3, by simpa only [Z1q, Z3i] using hk⟩
        · rename_i ha
          obtain ⟨h3, h4⟩ := Z1 hv; injection h4 with h4; subst h4
          simp only [ha, Bool.false_eq_true, if_false]; exact ⟨Nat.le_of_ble_eq_true h3, by simpa only [Z4o] using hk⟩
      · cases hv
    · cases hv
  · cases hv

def Zbn (l : List PV) (c : Nat) : Bool := aE (fun x => Nat.beq (lE x.cells) c) l
theorem Z56 {l : List PV} {c : Nat} (h : Zbn l c = true) : Zb l c := fun x hx => by
  unfold Zbn at h; rw [Z6h, List.all_eq_true] at h; have := Nat.eq_of_beq_eq_true (h x hx); rw [Zp] at this; exact this

def slLE (L : List PV) (bl bh bm : Option (Option Int)) : Option AV := match bl, bh, bm with
  | some none, some (some h), some none => Za (iLe 0 h && iLe h (lE L)) (some (.p (.sl (tkE h.toNat L))))
  | some (some l), some none, some none => Za (iLe 0 l && iLe l (lE L)) (some (.p (.sl (dpE l.toNat L))))
  | some (some l), some (some h), some none => Za (iLe 0 l && iLe l h && iLe h (lE L)) (some (.p (.sl (tkE (h.toNat - l.toNat) (dpE l.toNat L)))))
  | some none, some (some h), some (some m) => Za (iLe 0 h && iEq h m && iLe h (lE L)) (some (.full (tkE h.toNat L)))
  | _, _, _ => none
def Zaj (Γ : Gam) (t : TypeId) (x : AV) (lo hi mx : Option AV) : Option AV := match x with
  | .p (.str s) => Za (Z54 Γ t) (match bnd lo, bnd hi, bnd mx with
    | some none, some (some h), some none => Za (iLe 0 h && iLe h (lE s)) (some (.p (.str (tkE h.toNat s))))
    | some (some l), some none, some none => Za (iLe 0 l && iLe l (lE s)) (some (.p (.str (dpE l.toNat s))))
    | some (some l), some (some h), some none => Za (iLe 0 l && iLe l h && iLe h (lE s)) (some (.p (.str (tkE (h.toNat - l.toNat) (dpE l.toNat s)))))
    | _, _, _ => none)
  | x => x.list.bind fun L => (slOf Γ t).bind fun e => (match Γ e with
    | some ee => Za (Zbn L ee.cells) (slLE L (bnd lo) (bnd hi) (bnd mx))
    | none => none)
theorem Z85 {t : TypeId} {x : AV} {lo hi mx : Option AV} (hv : Zaj Γ t x lo hi mx = some v) (hk : K v) : Z06 Γ t x lo hi mx K := by
  unfold Zaj at hv
  split at hv
  · rename_i s
    obtain ⟨h1, hv⟩ := Z1 hv
    split at hv
    · rename_i h e1 e2 e3
      obtain ⟨h2, h3⟩ := Z1 hv; injection h3 with h3; subst h3
      simp only [Bool.and_eq_true, Zp] at h2; unfold Z06; simp only [e1, e2, e3]; exact ⟨Z0p h1, ⟨Z01 h2.1, Z01 h2.2⟩, by simpa only [Z1q] using hk⟩
    · rename_i l e1 e2 e3
      obtain ⟨h2, h3⟩ := Z1 hv; injection h3 with h3; subst h3
      simp only [Bool.and_eq_true, Zp] at h2; unfold Z06; simp only [e1, e2, e3]; exact ⟨Z0p h1, ⟨Z01 h2.1, Z01 h2.2⟩, by simpa only [Z3i] using hk⟩
    · rename_i l h e1 e2 e3
      obtain ⟨h2, h3⟩ := Z1 hv; injection h3 with h3; subst h3
      simp only [Bool.and_eq_true, Zp] at h2; unfold Z06; simp only [e1, e2, e3]; exact ⟨Z0p h1, ⟨Z01 h2.1.1, Z01 h2.1.2, Z01 h2.2⟩, by simpa only [Z1q, Z3i] using hk⟩
    · cases hv
  · obtain ⟨L, hL, hv⟩ := Option.bind_eq_some_iff.1 hv
    obtain ⟨e, h1, hv⟩ := Option.bind_eq_some_iff.1 hv; obtain ⟨te, hte, hd⟩ := Z11 h1
    split at hv
    · rename_i ee hee
      obtain ⟨h2, hv⟩ := Z1 hv; have key : slBK L (bnd lo) (bnd hi) (bnd mx) K := by
        unfold slLE at hv
        split at hv
        · rename_i h e1 e2 e3
          obtain ⟨h2, h3⟩ := Z1 hv; injection h3 with h3; subst h3
          simp only [Bool.and_eq_true, Zp] at h2; unfold slBK; simp only [e1, e2, e3]; exact ⟨⟨Z01 h2.1, Z01 h2.2⟩, by simpa only [Z1q] using hk⟩
        · rename_i l e1 e2 e3
          obtain ⟨h2, h3⟩ := Z1 hv; injection h3 with h3; subst h3
          simp only [Bool.and_eq_true, Zp] at h2; unfold slBK; simp only [e1, e2, e3]; exact ⟨⟨Z01 h2.1, Z01 h2.2⟩, by simpa only [Z3i] using hk⟩
        · rename_i l h e1 e2 e3
          obtain ⟨h2, h3⟩ := Z1 hv; injection h3 with h3; subst h3
          simp only [Bool.and_eq_true, Zp] at h2; unfold slBK; simp only [e1, e2, e3]; exact ⟨⟨Z01 h2.1.1, Z01 h2.1.2, Z01 h2.2⟩, by simpa only [Z1q, Z3i] using hk⟩
        · rename_i h m e1 e2 e3
          obtain ⟨h2, h3⟩ := Z1 hv; injection h3 with h3; subst h3
          simp only [Bool.and_eq_true, Zp, Zb4, decide_eq_true_eq] at h2; unfold slBK; simp only [e1, e2, e3]; exact ⟨⟨Z01 h2.1.1, h2.1.2, Z01 h2.2⟩, by simpa only [Z1q] using hk⟩
        · cases hv
      have fin : slTK Γ t L (bnd lo) (bnd hi) (bnd mx) K := Zc hte (by simp only [hd]; exact Zc hee ⟨Z56 h2, key⟩); unfold Z06
      split
      · cases hL
      · cases hL
      · cases hL
      · simp only [hL]; exact fin
    · cases hv

def Zeh (Γ : Gam) (t : TypeId) (x : AV) (f : Nat) : Option AV := match x with
  | .agg l => (fldE Γ t f).bind fun q => (match q.2.isAgg with
    | true => Za (Nat.ble (q.1 + q.2.cells) (lE l)) (some (.agg (tkE q.2.cells (dpE q.1 l))))
    | false => gO l q.1)
  | .p (.agg l) => (fldE Γ t f).bind fun q => (match q.2.isAgg with
    | true => Za (Nat.ble (q.1 + q.2.cells) (lE l)) (some (.p (.agg (tkE q.2.cells (dpE q.1 l)))))
    | false => (gO l q.1).bind fun u => some (.p u))
  | _ => none
theorem Zeg {t : TypeId} {x : AV} {f : Nat} (hv : Zeh Γ t x f = some v) (hk : K v) : Z27 Γ t x f K := by
  unfold Zeh at hv
  split at hv
  · obtain ⟨⟨o, fe⟩, h1, hv⟩ := Option.bind_eq_some_iff.1 hv
    refine Za3 h1 ?_; simp only at hv
    split at hv
    · rename_i ha
      obtain ⟨h2, h3⟩ := Z1 hv; injection h3 with h3; subst h3
      rw [Zp] at h2; simp only [ha, if_true]; exact ⟨Nat.le_of_ble_eq_true h2, by simpa only [Z1q, Z3i] using hk⟩
    · rename_i ha
      rw [Z0r] at hv; obtain ⟨hlt, _⟩ := List.getElem?_eq_some_iff.1 hv; simp only [ha, Bool.false_eq_true, if_false]; exact ⟨hlt, by rw [List.getD_eq_getElem?_getD, hv]; exact hk⟩
  · obtain ⟨⟨o, fe⟩, h1, hv⟩ := Option.bind_eq_some_iff.1 hv
    refine Za3 h1 ?_; simp only at hv
    split at hv
    · rename_i ha
      obtain ⟨h2, h3⟩ := Z1 hv; injection h3 with h3; subst h3
      rw [Zp] at h2; simp only [ha, if_true]; exact ⟨Nat.le_of_ble_eq_true h2, by simpa only [Z1q, Z3i] using hk⟩
    · rename_i ha
      obtain ⟨u, hu, h3⟩ := Option.bind_eq_some_iff.1 hv; injection h3 with h3; subst h3
      rw [Z0r] at hu; obtain ⟨hlt, _⟩ := List.getElem?_eq_some_iff.1 hu; simp only [ha, Bool.false_eq_true, if_false]; exact ⟨hlt, by rw [List.getD_eq_getElem?_getD, hu]; exact hk⟩
  · cases hv

def nilE (x : AV) : Option AV := match x with
  | .ptr _ _ => some x
  | .eptr _ _ _ _ => some x
  | .ipt _ => some x
  | .fn _ _ => some x
  | .yld _ => some x
  | _ => none
theorem Zjf {x : AV} (hv : nilE x = some v) (hk : K v) : nilK x K := by
  unfold nilE at hv; split at hv <;> first | (injection hv with hv; subst hv; exact hk) | cases hv

def stE (cs : List AV) (o : Nat) : List AV → List AV
  | [] => cs
  | v :: l => stE (sE cs o v) (o + 1) l
theorem Zhl (l cs : List AV) (o : Nat) : stE cs o l = setL cs o l := by
  induction l generalizing cs o with
  | nil => rfl
  | cons v t ih =>
    show stE (sE cs o v) (o + 1) t = _; rw [ih, Z3x]; rfl
def Zh1 (Γ : Gam) (fs : List (Nat × TypeId)) : List (Nat × AV) → List AV → Option (List AV)
  | [], cs => some cs
  | q :: ps, cs => match gO fs q.1, q.2.cellL with
    | some (o, ft), some l => (match Γ ft with
      | some fe => Za (Nat.beq (lE l) fe.cells && Nat.ble (o + lE l) (lE cs)) (Zh1 Γ fs ps (stE cs o l))
      | none => none)
    | _, _ => none
theorem Zbf {fs : List (Nat × TypeId)} {K : List AV → Prop} : ∀ (ps : List (Nat × AV)) {cs out : List AV}, Zh1 Γ fs ps cs = some out → K out → bldL Γ fs cs ps K
  | [], cs, out, h, hk => by injection h with h; subst h; exact hk
  | (f, u) :: ps, cs, out, h, hk => by
    have h : (match gO fs f, u.cellL with
      | some (o, ft), some l => (match Γ ft with
        | some fe => Za (Nat.beq (lE l) fe.cells && Nat.ble (o + lE l) (lE cs)) (Zh1 Γ fs ps (stE cs o l))
        | none => none)
      | _, _ => none) = some out := h
    unfold bldL
    split at h
    · rename_i o ft l hf hl
      rw [Z0r] at hf; simp only [hf, hl]
      split at h
      · rename_i fe hfe
        obtain ⟨h1, h2⟩ := Z1 h; simp only [Bool.and_eq_true, Zp] at h1; refine Zc hfe ⟨⟨Nat.eq_of_beq_eq_true h1.1, Nat.le_of_ble_eq_true h1.2⟩, ?_⟩; rw [Zhl] at h2; exact Zbf ps h2 hk
      · cases h
    · cases h
def bldE (Γ : Gam) (t : TypeId) (ps : List (Nat × AV)) : Option AV := match Γ t with
  | some te => (match tdFs te.td, te.zero with
    | some fs, some (.agg zs) => Za (aE (fun f => (Γ f.2).isSome) fs) ((Zh1 Γ fs ps zs).bind fun cs => some (.agg cs))
    | _, _ => none)
  | none => none
theorem Zkm {t : TypeId} {ps : List (Nat × AV)} (hv : bldE Γ t ps = some v) (hk : K v) : bldK Γ t ps K := by
  unfold bldE at hv
  split at hv
  · rename_i te hte
    refine Zc hte ?_
    split at hv
    · rename_i fs zs hfs hz
      obtain ⟨h1, h2⟩ := Z1 hv; obtain ⟨cs, h3, h4⟩ := Option.bind_eq_some_iff.1 h2; injection h4 with h4; subst h4
      simp only [Z9c hfs, hz]; rw [Z6h] at h1; exact ⟨h1, Zbf ps h3 hk⟩
    · cases hv
  · cases hv

def ixE (k : List UInt8) : List (List UInt8 × PV) → Option Nat
  | [] => none
  | e :: t => (match bEq k e.1 with
    | true => some 0
    | false => (match ixE k t with | some j => some (j + 1) | none => none))
theorem Zhw (k : List UInt8) (es : List (List UInt8 × PV)) : ixE k es = midx k es := by
  induction es with
  | nil => rfl
  | cons e t ih =>
    have : ixE k (e :: t) = (match bEq k e.1 with | true => some 0 | false => (match ixE k t with | some j => some (j + 1) | none => none)) := rfl; have h0 : midx k (e :: t) = if k = e.1 then some 0 else (midx k t).map (· + 1) := rfl
    rw [this, ih, Z96, h0]; by_cases h : k = e.1
    · rw [if_pos h, decide_eq_true h]
    · rw [if_neg h, decide_eq_false h]
      cases midx k t <;> rfl
def mgE (k : List UInt8) (es : List (List UInt8 × PV)) : Option PV := match ixE k es with
  | some j => some (gE default es j).2
  | none => none
theorem Zo8 (k : List UInt8) (es : List (List UInt8 × PV)) : mgE k es = mget k es := by
  unfold mgE mget; rw [Zhw]; cases midx k es <;> simp [Z4o]
def msE (k : List UInt8) (v : PV) (es : List (List UInt8 × PV)) : List (List UInt8 × PV) := match ixE k es with
  | some j => sE es j (k, v)
  | none => apE es [(k, v)]
theorem Zo5 (k : List UInt8) (v : PV) (es : List (List UInt8 × PV)) : msE k v es = mset k v es := by
  unfold msE mset; rw [Zhw]; cases midx k es <;> simp [Z3x, Z0u]

def Zjl (Γ : Gam) (h : List AObj) (t : TypeId) (x i : AV) (ok : Bool) : Option AV := match x, i with
  | .map b, .p (.str s) => (mpOf Γ t).bind fun q => Za (Z54 Γ q.1) (match Γ q.2 with
    | some ee => (match ee.zero.bind AV.pure, gO h b with
      | some z, some (.mp es) => (match ok with
        | true => some (.tup [.p ((mgE s es).getD z), .p (.bool (mgE s es).isSome)])
        | false => some (.p ((mgE s es).getD z)))
      | _, _ => none)
    | none => none)
  | _, _ => none
theorem Zgl {t : TypeId} {x i : AV} {ok : Bool} (hv : Zjl Γ h t x i ok = some v) (hk : K v) : Z44 Γ h t x i ok K := by
  unfold Zjl at hv
  split at hv
  · obtain ⟨⟨k, e⟩, h1, h2⟩ := Option.bind_eq_some_iff.1 hv
    obtain ⟨te, hte, hd⟩ := Z7m h1; obtain ⟨h3, h4⟩ := Z1 h2; refine Zc hte ?_; simp only [hd]; refine ⟨Z0p h3, ?_⟩; simp only at h4
    split at h4
    · rename_i ee hee
      refine Zc hee ?_
      split at h4
      · rename_i z es hz hb
        rw [Z0r] at hb; simp only [hz, hb]
        split at h4 <;> (injection h4 with h4; subst h4; simpa only [Zo8, if_true, if_false, Bool.false_eq_true] using hk)
      · cases h4
    · cases h4
  · cases hv

def pinE : Nat → List (Nat × AV) → Option (List PV)
  | _, [] => some []
  | k, (i, u) :: l => (match Nat.beq i k with
    | true => (match u.pure with
      | some p => (match pinE (k + 1) l with | some ps => some (p :: ps) | none => none)
      | none => none)
    | false => none)
theorem Zd6 : ∀ (l : List (Nat × AV)) (k : Nat) {ps : List PV}, pinE k l = some ps → Z2e k l = some ps
  | [], _, _, h => h
  | (i, u) :: l, k, ps, h => by
    have h : (match Nat.beq i k with
      | true => (match u.pure with
        | some p => (match pinE (k + 1) l with | some ps => some (p :: ps) | none => none)
        | none => none)
      | false => none) = some ps := h
    unfold Z2e
    split at h
    · rename_i hik
      rw [if_pos (Nat.eq_of_beq_eq_true hik)]
      split at h
      · rename_i p hp
        split at h
        · rename_i ps' hps
          injection h with h; subst h
          rw [hp, Zd6 l (k + 1) hps]
        · cases h
      · cases h
    · cases h
def bsPE (Γ : Gam) (t : TypeId) (len : Nat) (parts : List (Nat × AV)) : Option (List PV) := (slOf Γ t).bind fun e => (match Γ e with
  | some ee => (match pinE 0 parts with
    | some ps => Za (Nat.beq (lE ps) len && ee.zero.isSome && Zbn ps ee.cells && Nat.ble (len * ee.cells) 16777216) (some ps)
    | none => none)
  | none => none)
theorem Zer {t : TypeId} {len : Nat} {parts : List (Nat × AV)} {ps : List PV} (hv : bsPE Γ t len parts = some ps) : (∀ K : AV → Prop, K (.full ps) → bsPK Γ t len parts K) ∧ ∀ (tm : List AV) (h : List AObj) (d : Option Nat) (K : St → Prop), K ⟨putD tm d (.full ps), h⟩ → bsK Γ tm h d t len parts K := by
  unfold bsPE at hv; obtain ⟨e, h1, hv⟩ := Option.bind_eq_some_iff.1 hv; obtain ⟨te, hte, hd⟩ := Z11 h1
  split at hv
  · rename_i ee hee
    split at hv
    · rename_i ps' hps
      obtain ⟨h2, h3⟩ := Z1 hv; injection h3 with h3; subst h3
      simp only [Bool.and_eq_true, Zp] at h2; have hp := Zd6 parts 0 hps; have c : ps'.length = len ∧ ee.zero.isSome = true ∧ Zb ps' ee.cells ∧ len * ee.cells ≤ 16777216 := ⟨Nat.eq_of_beq_eq_true h2.1.1.1, h2.1.1.2, Z56 h2.1.2, Nat.le_of_ble_eq_true h2.2⟩; refine ⟨fun K hk => Zc hte ?_, fun tm h d K hk => Zc hte ?_⟩
      · simp only [hd]; refine Zc hee ?_; simp only [hp]; exact ⟨c, hk⟩
      · simp only [hd]; refine Zc hee ?_; simp only [hp]; exact ⟨c, hk⟩
    · cases hv
  · cases hv

def evE (tm : List AV) : Operand → AV
  | .tmp t => gE .junk tm t
  | .const v => AV.ofValue v
  | .global _ => .junk
  | .func f => .fn f []
theorem Z8v (tm : List AV) (x : Operand) : evE tm x = ev tm x := by
  cases x <;> simp only [evE, ev, Z4o]
def opE? (e : Operand → AV) : Option Operand → Option AV
  | none => none
  | some x => some (e x)
def putE (tm : List AV) (d : Option Nat) (v : AV) : List AV := match d with
  | some d => sE tm d v
  | none => tm
theorem Zi (tm : List AV) (d : Option Nat) (v : AV) : putE tm d v = putD tm d v := by
  cases d <;> simp only [putE, putD, Z3x]

def Zfw (Γ : Gam) (h : List AObj) (e : Operand → AV) : Op → Option AV
  | .move x => some (e x)
  | .assign x => some (e x)
  | .pick c x y => Zj1 (e c) (e x) (e y)
  | .binOp op t x y _ => binE Γ op t (e x) (e y)
  | .unOp op _ x => unE op (e x)
  | .convert src dst x => Zc3 Γ src dst (e x)
  | .fieldAddr t x f => faE Γ t (e x) f
  | .field t x f => Zeh Γ t (e x) f
  | .indexAddr t x i => iaE Γ h t (e x) (e i)
  | .index t x i => idxE Γ t (e x) (e i)
  | .load t x => Zgm Γ h t (e x)
  | .slice t x lo hi mx => Zaj Γ t (e x) (opE? e lo) (opE? e hi) (opE? e mx)
  | .extract x i => extE (e x) i
  | .makeFunc (.func f) ⟨[]⟩ caps => some (.fn f (mE e caps.toList))
  | .buildSlice t len parts => (bsPE Γ t len (mE (fun p => (p.1, e p.2)) parts.toList)).bind fun ps => some (.full ps)
  | .nilCheck x => nilE (e x)
  | .build t parts => bldE Γ t (mE (fun p => (p.1, e p.2)) parts.toList)
  | .lookup t x i ok => Zjl Γ h t (e x) (e i) ok
  | .call { callee := .builtin .len, args := ⟨[x]⟩, argTypes := ⟨[t]⟩ } => lenE Γ t (e x) h
  | _ => none
theorem Zaq {E : Env} {tm : List AV} {op : Op} (hv : Zfw E.Γ h (ev tm) op = some v) (hk : K v) : Zd E op h (ev tm) K := by
  unfold Zfw at hv
  split at hv
  case h_1 => injection hv with hv; subst hv; exact hk
  case h_2 => injection hv with hv; subst hv; exact hk
  case h_3 => exact Zfz hv hk
  case h_4 => exact Zey (Zex hv hk)
  case h_5 => exact Zmr hv hk
  case h_6 => exact Zb9 hv hk
  case h_7 => exact Zol hv hk
  case h_8 => exact Zeg hv hk
  case h_9 => exact Zoi hv hk
  case h_10 => exact Zjt hv hk
  case h_11 => exact Zax hv hk
  case h_12 t x lo hi mx =>
    have e : ∀ y : Option Operand, opE? (ev tm) y = y.map (ev tm) := fun y => by cases y <;> rfl
    rw [e, e, e] at hv; exact Z85 hv hk
  case h_13 => exact Zk0 hv hk
  case h_14 => injection hv with hv; subst hv; show K (.fn _ (List.map _ _)); simpa only [Z26] using hk
  case h_15 =>
    obtain ⟨ps, h1, h2⟩ := Option.bind_eq_some_iff.1 hv; injection h2 with h2; subst h2
    rw [Z26] at h1; exact (Zer h1).1 K hk
  case h_16 => exact Zjf hv hk
  case h_17 => rw [Z26] at hv; exact Zkm hv hk
  case h_18 => exact Zgl hv hk
  case h_19 => exact Zjo hv hk
  case h_20 => cases hv
end
end Go.AM
end

