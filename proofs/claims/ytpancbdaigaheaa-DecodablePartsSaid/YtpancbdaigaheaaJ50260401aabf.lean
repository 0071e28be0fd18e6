/-
  AM 24: a reckoner: calls, rounds, code.
-/
import Derived.Test.YtpancbdaigaheaaJ7285de51d350

namespace Go.AM
open Go.RowKit

structure EC where
  P : Program
  Γ : Gam
  ax : FuncId → List AV → Option AV

structure ECOK (C : EC) : Prop where
  Γ : GamOK C.P C.Γ
  mix : C.P.follows .mixedOrders = true
  name : ∀ (f : FuncId) (fn : Func), C.P.funcs[f]? = some fn → (fn.name == "runtime.NumGoroutine") = false
  ax : ∀ f args v, C.ax f args = some v → AX C.P f args v

/-- What the reckoner is: from a state, the ways out of the code. -/
def Rk : Type := Bool → Nat → List Nat → Code → St → Option (List (Exit × St))

def Sound (C : EC) (rec : Rk) : Prop := ∀ top n0 ks c st outs, rec top n0 ks c st = some outs → ∀ r : Option Nat, (top = true → r = none) → AWp ⟨C.P, C.Γ, n0, ks⟩ r c (fun e s => (e, s) ∈ outs) st

def resE (Γ : Gam) (st : St) : List ResultVar → Option (List AV)
  | [] => some []
  | .tmp t :: rs => (match resE Γ st rs with
    | some l => some (gE .junk st.tmps t :: l)
    | none => none)
  | .cell x t :: rs => (match loadE Γ st.h t (gE .junk st.tmps x) with
    | some v => (match resE Γ st rs with
      | some l => some (v :: l)
      | none => none)
    | none => none)
theorem resE_ok {Γ : Gam} {st : St} : ∀ {rs : List ResultVar} {l : List AV} {K : List AV → Prop}, resE Γ st rs = some l → K l → resK Γ st rs K
  | [], l, K, h, hk => by injection h with h; subst h; exact hk
  | .tmp t :: rs, l, K, h, hk => by
    unfold resE at h
    split at h
    · rename_i l' hl
      injection h with h; subst h
      rw [gE_eq] at hk
      exact resE_ok (K := fun l => K (st.tmps.getD t .junk :: l)) hl hk
    · cases h
  | .cell x t :: rs, l, K, h, hk => by
    unfold resE at h
    split at h
    · rename_i v hv
      split at h
      · rename_i l' hl
        injection h with h; subst h
        rw [gE_eq] at hv
        exact loadE_ok (K := fun v => resK Γ st rs fun l => K (v :: l)) hv (resE_ok (K := fun l => K (v :: l)) hl hk)
      · cases h
    · cases h

def endE : Exit → Bool
  | .normal => true
  | .ret => true
  | _ => false
theorem endE_ok {e : Exit} (h : endE e = true) : Ends e := by
  cases e <;> first | exact .inl rfl | exact .inr rfl | cases h

/-- Outcomes, each once. -/
def inE (v : AV) (h : List AObj) : List (AV × List AObj) → Bool
  | [] => false
  | q :: l => match aEq 8 v q.1 && hEq h q.2 with
    | true => true
    | false => inE v h l
theorem inE_ok {v : AV} {h : List AObj} : ∀ {l : List (AV × List AObj)}, inE v h l = true → (v, h) ∈ l
  | q :: l, hi => by
    unfold inE at hi
    split at hi
    · rename_i he
      simp only [Bool.and_eq_true] at he
      rw [aEq_ok 8 he.1, hEq_ok he.2]; exact List.mem_cons_self
    · exact List.mem_cons_of_mem _ (inE_ok hi)
def dedE : List (AV × List AObj) → List (AV × List AObj)
  | [] => []
  | q :: l => match inE q.1 q.2 (dedE l) with
    | true => dedE l
    | false => q :: dedE l
theorem dedE_ok {q : AV × List AObj} : ∀ {l : List (AV × List AObj)}, q ∈ l → q ∈ dedE l
  | p :: l, h => by
    unfold dedE
    rcases List.mem_cons.1 h with rfl | h
    · split
      · rename_i hi; exact inE_ok hi
      · exact List.mem_cons_self
    · split
      · exact dedE_ok h
      · exact List.mem_cons_of_mem _ (dedE_ok h)

/-- A body, as a call sees it. -/
def bodyE (C : EC) (rec : Rk) (fn : Func) (c : Code) (ks : List Nat) (args : List AV) (h : List AObj) : Option (List (AV × List AObj)) :=
  match (bindL (rec true (lE h) ks c ⟨apE args (rpE (fn.ntmps - lE args) .junk), h⟩) fun es => onlyIf (endE es.1) (match resE C.Γ es.2 fn.results.toList with
    | some l => (match keepE (lE h) (packAV l) es.2.h with
      | some h' => some [(packAV l, h')]
      | none => none)
    | none => none)) with
  | some l => some (match l with
    | [q] => [q]
    | l => dedE l)
  | none => none

theorem bodyE_ok {C : EC} {rec : Rk} (hC : ECOK C) (hrec : Sound C rec) {f : FuncId} {fn : Func} {c : Code} {ks : List Nat} {args : List AV} {h : List AObj} {outs : List (AV × List AObj)} (hf : C.P.funcs[f]? = some fn) (hb : fn.body = some c)
    (hv : bodyE C rec fn c ks args h = some outs) : AC C.P f args h ks (fun v h' => (v, h') ∈ outs) := by
  unfold bodyE at hv
  split at hv
  · rename_i l0 hv0
    have hsub : ∀ q ∈ l0, q ∈ outs := by
      injection hv with hv; subst hv
      split
      · exact fun q hq => hq
      · exact fun q hq => dedE_ok hq
    obtain ⟨l', h1, h2⟩ := bindL_some hv0
    refine AC.of_bodyE hC.Γ hf (hC.name f fn hf) hb ?_
    have := hrec _ _ _ _ _ _ h1 none (fun _ => rfl)
    rw [lE_eq, lE_eq, apE_eq, rpE_eq] at this
    refine this.mono ?_
    intro e s hm
    obtain ⟨o, h3, h4⟩ := h2 (e, s) hm
    obtain ⟨h5, h6⟩ := onlyIf_some h3
    refine ⟨endE_ok h5, s, Less.refl s, ?_⟩
    split at h6
    · rename_i l hl
      split at h6
      · rename_i h' hk
        injection h6 with h6; subst h6
        rw [lE_eq] at hk
        obtain ⟨n, n1, n2, n3⟩ := keepE_ok hk
        refine resE_ok hl ⟨n, n1, n2, ?_⟩
        rw [n3]; exact hsub _ (h4 _ (List.mem_singleton.2 rfl))
      · cases h6
    · cases h6
  · cases hv

def flat1 : List AV → List AV
  | [] => []
  | v :: l => match v with
    | .agg m => apE m (flat1 l)
    | _ => v :: flat1 l
def flatO : AV → List AV
  | .agg l => l
  | .tup l => flat1 l
  | v => [v]

/-- One outcome of a call that leaves memory as it is. -/
def quiet1 (C : EC) (fn : Func) (h : List AObj) (h0 : List AObj) (es : Exit × St) : Option AV :=
  onlyIf (endE es.1) (match resE C.Γ es.2 fn.results.toList with
    | some l => (match resE C.Γ (fzL (flatO (packAV l)) es.2) fn.results.toList with
      | some l2 => onlyIf (undV (lE h) (packAV l2) && Nat.ble (lE h) (lE (fzL (flatO (packAV l)) es.2).h) && hEq (tkE (lE h) (fzL (flatO (packAV l)) es.2).h) h0 && aE (undO (lE h)) h0) (some (packAV l2))
      | none => none)
    | none => none)
def quietL (C : EC) (fn : Func) (h : List AObj) (h0 : List AObj) (v : AV) : List (Exit × St) → Bool
  | [] => true
  | es :: l => match quiet1 C fn h h0 es with
    | some u => aEq 8 u v && quietL C fn h h0 v l
    | none => false

/-- A call that leaves memory as it is. -/
def quietE (C : EC) (rec : Rk) (fn : Func) (c : Code) (args : List AV) (h : List AObj) (all : Bool) : Option AV :=
  match rec true (lE h) [] c ⟨apE args (rpE (fn.ntmps - lE args) .junk), mE (hidO all) h⟩ with
  | some (es :: l) => (match quiet1 C fn h (mE (hidO all) h) es with
    | some v => onlyIf (quietL C fn h (mE (hidO all) h) v l) (some v)
    | none => none)
  | _ => none

theorem quiet1_ok {C : EC} {fn : Func} {h : List AObj} {all : Bool} {es : Exit × St} {v : AV} (hv : quiet1 C fn h (mE (hidO all) h) es = some v) :
    Ends es.1 ∧ ∃ st', Less es.2 st' ∧ DoneE C.Γ fn.results.toList h.length (fun v' h' => v' = v ∧ h' = h.map (hidO all)) st' := by
  unfold quiet1 at hv
  obtain ⟨h2, hv⟩ := onlyIf_some hv
  refine ⟨endE_ok h2, ?_⟩
  split at hv
  · rename_i l hl
    refine ⟨_, Less.fzL (flatO (packAV l)) es.2, ?_⟩
    split at hv
    · rename_i l2 hl2
      obtain ⟨h3, h4⟩ := onlyIf_some hv; injection h4 with h4; subst h4
      simp only [Bool.and_eq_true, lE_eq, mE_eq, tkE_eq, aE_eq] at h3
      have hh := hEq_ok h3.1.2
      refine resE_ok hl2 ⟨h.length, Nat.le_refl _, .inr ⟨undV_ok h3.1.1.1, ?_, Nat.le_of_ble_eq_true h3.1.1.2⟩, rfl, hh⟩
      rw [hh, List.all_eq_true]
      have h5 := h3.2
      rw [List.all_eq_true] at h5
      exact fun o ho => undO_ok (h5 o ho)
    · cases hv
  · cases hv
theorem quietL_ok {C : EC} {fn : Func} {h h0 : List AObj} {v : AV} : ∀ {l : List (Exit × St)}, quietL C fn h h0 v l = true → ∀ es ∈ l, quiet1 C fn h h0 es = some v
  | es :: l, hv => by
    unfold quietL at hv
    split at hv
    · rename_i u hu
      simp only [Bool.and_eq_true] at hv
      intro e he
      rcases List.mem_cons.1 he with rfl | he
      · rw [hu, aEq_ok 8 hv.1]
      · exact quietL_ok hv.2 e he
    · cases hv
  | [], _ => by simp

theorem quietE_ok {C : EC} {rec : Rk} (hC : ECOK C) (hrec : Sound C rec) {f : FuncId} {fn : Func} {c : Code} {args : List AV} {h : List AObj} {all : Bool} {v : AV} (hf : C.P.funcs[f]? = some fn) (hb : fn.body = some c)
    (hv : quietE C rec fn c args h all = some v) : AC C.P f args h [] (fun v' h' => v' = v ∧ h' = h) := by
  refine AC.hide all ?_
  refine AC.of_bodyE hC.Γ hf (hC.name f fn hf) hb ?_
  unfold quietE at hv
  split at hv
  · rename_i es l h1
    have hw := hrec _ _ _ _ _ _ h1 none (fun _ => rfl)
    rw [lE_eq, lE_eq, apE_eq, rpE_eq, mE_eq] at hw
    rw [List.length_map]
    split at hv
    · rename_i u hu
      obtain ⟨h2, h3⟩ := onlyIf_some hv; injection h3 with h3; subst h3
      refine hw.mono ?_
      intro e s hm
      have : quiet1 C fn h (mE (hidO all) h) (e, s) = some u := by
        rcases List.mem_cons.1 hm with he | hm
        · rw [he]; exact hu
        · exact quietL_ok h2 _ hm
      exact quiet1_ok this
    · cases hv
  · cases hv

def pureA : List AV → Bool
  | [] => true
  | v :: l => match v with
    | .p _ => pureA l
    | .full _ => pureA l
    | .fn _ [] => pureA l
    | _ => false

/-- A call in a statement whose order is open. -/
def pcallE (C : EC) (rec : Rk) (h : List AObj) (f : AV) (args : List AV) : Option AV := match f with
  | .fn g caps => (match C.ax g (apE args caps) with
    | some v => some v
    | none => (match gO C.P.funcs.toList g with
      | some fn => (match fn.body with
        | some c => quietE C rec fn c (apE args caps) h (pureA (apE args caps))
        | none => none)
      | none => none))
  | _ => none
theorem pcallE_ok {C : EC} {rec : Rk} (hC : ECOK C) (hrec : Sound C rec) {n0 : Nat} {ks : List Nat} {h : List AObj} {f : AV} {args : List AV} {v : AV} {K : AV → Prop} (hv : pcallE C rec h f args = some v) (hk : K v) :
    callVPK ⟨C.P, C.Γ, n0, ks⟩ h f args K := by
  unfold pcallE at hv
  split at hv
  · rename_i g caps
    rw [apE_eq] at hv
    split at hv
    · rename_i u hu
      injection hv with hv; subst hv
      exact callVPK_ax (hC.ax _ _ _ hu) hk
    · split at hv
      · rename_i fn hfn
        rw [gO_eq, Array.getElem?_toList] at hfn
        split at hv
        · rename_i c hc
          exact callVPK_ac (quietE_ok hC hrec hfn hc hv) hk
        · cases hv
      · cases hv
  · cases hv

/-- A round of a loop over a function. -/
def roundE (rec : Rk) (b : Nat) (ks : List Nat) (args : List AV) (h : List AObj) : Option (List (AV × List AObj)) := match gO h b with
  | some (.lp tm ps as bd .ready) => onlyIf (Nat.beq (lE ps) (lE args) && !cE b ks) (bindL (rec false (lE h) ks as ⟨setP tm ps args, h⟩) fun es => (match es.1 with
    | .normal => (match gO es.2.h b with
      | some (.lp tm1 ps1 as1 bd1 .ready) => bindL (rec false (lE h) ks bd ⟨es.2.tmps, sE es.2.h b (.lp tm1 ps1 as1 bd1 .busy)⟩) fun e2 => (match gO e2.2.h b with
        | some (.lp tm2 ps2 as2 bd2 .busy) => (match e2.1 with
          | .normal => (match keepE (lE h) .junk (sE e2.2.h b (.lp tm2 ps2 as2 bd2 .ready)) with
            | some h' => some [(.p (.bool true), h')]
            | none => none)
          | .ret => (match keepE (lE h) .junk (sE e2.2.h b (.lp tm2 ps2 as2 bd2 (.left .ret))) with
            | some h' => some [(.p (.bool false), h')]
            | none => none)
          | .exit id => (match keepE (lE h) .junk (sE e2.2.h b (.lp tm2 ps2 as2 bd2 (.left (.exit id)))) with
            | some h' => some [(.p (.bool false), h')]
            | none => none)
          | _ => none)
        | _ => none)
      | _ => none)
    | _ => none))
  | _ => none

theorem roundE_ok {C : EC} {rec : Rk} (hrec : Sound C rec) {b : Nat} {ks : List Nat} {args : List AV} {h : List AObj} {outs : List (AV × List AObj)} (hv : roundE rec b ks args h = some outs) : YC C.P b args h ks (fun v h' => (v, h') ∈ outs) := by
  unfold roundE at hv
  split at hv
  · rename_i tm ps as bd hb
    rw [gO_eq] at hb
    obtain ⟨h1, hv⟩ := onlyIf_some hv
    simp only [Bool.and_eq_true, lE_eq, Bool.not_eq_true'] at h1
    refine YC.of_body (Γ := C.Γ) hb (Nat.eq_of_beq_eq_true h1.1) (fun hm => by rw [cE_ok.2 hm] at h1; exact absurd h1.2 (by simp)) (fun l => ?_)
    obtain ⟨l', h2, h3⟩ := bindL_some hv
    have hw := hrec _ _ _ _ _ _ h2 (some l) (fun h => by cases h)
    rw [lE_eq] at hw
    refine hw.mono ?_
    intro e s hm
    obtain ⟨o, h4, h5⟩ := h3 (e, s) hm
    simp only at h4
    split at h4
    · refine ⟨rfl, ?_⟩
      split at h4
      · rename_i tm1 ps1 as1 bd1 hb1
        rw [gO_eq] at hb1
        simp only [hb1]
        obtain ⟨l2, h6, h7⟩ := bindL_some h4
        have hw2 := hrec _ _ _ _ _ _ h6 (some l) (fun h => by cases h)
        rw [lE_eq, sE_eq] at hw2
        refine hw2.mono ?_
        intro e2 s2 hm2
        obtain ⟨o2, h8, h9⟩ := h7 (e2, s2) hm2
        unfold RoundE
        simp only at h8
        split at h8
        · rename_i tm2 ps2 as2 bd2 hb2
          rw [gO_eq] at hb2
          simp only [hb2]
          split at h8
          · split at h8
            · rename_i h' hk
              injection h8 with h8; subst h8
              rw [lE_eq, sE_eq] at hk
              obtain ⟨n, n1, n2, n3⟩ := keepE_ok hk
              refine ⟨n, n1, n2, ?_⟩
              rw [n3]; exact h5 _ (h9 _ (List.mem_singleton.2 rfl))
            · cases h8
          · split at h8
            · rename_i h' hk
              injection h8 with h8; subst h8
              rw [lE_eq, sE_eq] at hk
              obtain ⟨n, n1, n2, n3⟩ := keepE_ok hk
              refine ⟨n, n1, n2, ?_⟩
              rw [n3]; exact h5 _ (h9 _ (List.mem_singleton.2 rfl))
            · cases h8
          · split at h8
            · rename_i h' hk
              injection h8 with h8; subst h8
              rw [lE_eq, sE_eq] at hk
              obtain ⟨n, n1, n2, n3⟩ := keepE_ok hk
              refine ⟨n, n1, n2, ?_⟩
              rw [n3]; exact h5 _ (h9 _ (List.mem_singleton.2 rfl))
            · cases h8
          · cases h8
        · cases h8
      · cases h4
    · cases h4
  · cases hv

/-- The rows that a call may move. -/
def rowsE (n0 : Nat) (ks : List Nat) : Nat → List AObj → List Nat
  | _, [] => []
  | b, o :: h => match o with
    | .row _ _ _ _ => (match Nat.ble n0 b || cE b ks with
      | true => b :: rowsE n0 ks (b + 1) h
      | false => rowsE n0 ks (b + 1) h)
    | _ => rowsE n0 ks (b + 1) h
theorem rowsE_ok {n0 : Nat} {ks : List Nat} : ∀ {h : List AObj} {b k : Nat}, k ∈ rowsE n0 ks b h → (n0 ≤ k ∨ k ∈ ks) ∧ k < b + h.length
  | [], _, _, hk => by simp [rowsE] at hk
  | o :: h, b, k, hk => by
    have step : k ∈ rowsE n0 ks (b + 1) h → (n0 ≤ k ∨ k ∈ ks) ∧ k < b + (o :: h).length := fun hk => by
      have := rowsE_ok hk; simp only [List.length_cons]; exact ⟨this.1, by omega⟩
    unfold rowsE at hk
    split at hk
    · split at hk
      · rename_i hb
        rcases List.mem_cons.1 hk with rfl | hk
        · rw [Bool.or_eq_true] at hb
          refine ⟨hb.imp Nat.le_of_ble_eq_true cE_ok.1, by simp⟩
        · exact step hk
      · exact step hk
    · exact step hk

def kMap {α : Type} (tm : List AV) (l : List (α × List AObj)) : List (α × List AObj × List AV) := mE (fun q => (q.1, q.2, tm)) l

/-- Something that is called may move rows: first those that the caller does not hold itself, then all. -/
def tryE {α : Type} (n0 : Nat) (ks : List Nat) (tm : List AV) (h : List AObj) (F : List Nat → Option (List (α × List AObj))) : Option (List (α × List AObj × List AV)) :=
  match (match nmL nmV tm with
    | some ns => (match F (flE (fun b => !cE b ns) (rowsE n0 ks 0 h)) with
      | some outs => some (kMap tm outs)
      | none => none)
    | none => none) with
  | some o => some o
  | none => (match F (rowsE n0 ks 0 h) with
    | some outs => some (kMap (killAll (rowsE n0 ks 0 h) tm) outs)
    | none => none)

theorem kill_id {b : Nat} {tm : List AV} {ns : List Nat} (h : nmL nmV tm = some ns) (hb : b ∉ ns) : tm.map (AV.kill b) = tm := by
  conv => rhs; rw [← List.map_id tm]
  refine List.map_congr_left (fun u hu => ?_)
  obtain ⟨a, h1, h2⟩ := nmL_some h u hu
  exact nmV_kill h1 (fun hm => hb (h2 b hm))
theorem killAll_id {tm : List AV} {ns : List Nat} (h : nmL nmV tm = some ns) : ∀ {l : List Nat}, (∀ b ∈ l, b ∉ ns) → killAll l tm = tm
  | [], _ => rfl
  | b :: l, hl => by
    show killAll l (tm.map (AV.kill b)) = tm
    rw [kill_id h (hl b (by simp))]
    exact killAll_id h (fun c hc => hl c (by simp [hc]))

theorem tryE_some {α : Type} {n0 : Nat} {ks : List Nat} {tm : List AV} {h : List AObj} {F : List Nat → Option (List (α × List AObj))} {outs : List (α × List AObj × List AV)} (hv : tryE n0 ks tm h F = some outs) :
    ∃ ks' o, F ks' = some o ∧ (∀ k ∈ ks', (n0 ≤ k ∨ k ∈ ks) ∧ k < h.length) ∧ ∀ v h', (v, h') ∈ o → (v, h', killAll ks' tm) ∈ outs := by
  have hrow : ∀ k ∈ rowsE n0 ks 0 h, (n0 ≤ k ∨ k ∈ ks) ∧ k < h.length := fun k hk => by simpa using rowsE_ok hk
  have hmem : ∀ {o : List (α × List AObj)} {t : List AV} {v : α} {h' : List AObj}, (v, h') ∈ o → (v, h', t) ∈ kMap t o := fun {o t v h'} hm => by
    unfold kMap; rw [mE_eq]; exact List.mem_map.2 ⟨(v, h'), hm, rfl⟩
  unfold tryE at hv
  split at hv
  · rename_i o ho
    injection hv with hv; subst hv
    split at ho
    · rename_i ns hns
      split at ho
      · rename_i outs' hF
        injection ho with ho; subst ho
        refine ⟨_, outs', hF, fun k hk => hrow k (flE_ok.1 hk).1, fun v h' hm => ?_⟩
        rw [killAll_id hns (fun b hb hc => by
          have := (flE_ok.1 hb).2
          rw [cE_ok.2 hc] at this; simp at this)]
        exact hmem hm
      · cases ho
    · cases ho
  · split at hv
    · rename_i outs' hF
      injection hv with hv; subst hv
      exact ⟨_, outs', hF, hrow, fun v h' hm => hmem hm⟩
    · cases hv

def callE (C : EC) (rec : Rk) (n0 : Nat) (ks : List Nat) (st : St) (f : AV) (args : List AV) : Option (List (AV × List AObj × List AV)) := match f with
  | .fn g caps => (match C.ax g (apE args caps) with
    | some v => some [(v, st.h, st.tmps)]
    | none => (match gO C.P.funcs.toList g with
      | some fn => (match fn.body with
        | some c => tryE n0 ks st.tmps st.h fun ks' => bodyE C rec fn c ks' (apE args caps) st.h
        | none => none)
      | none => none))
  | .yld b => tryE n0 ks st.tmps st.h fun ks' => roundE rec b ks' args st.h
  | _ => none

theorem callE_ok {C : EC} {rec : Rk} (hC : ECOK C) (hrec : Sound C rec) {n0 : Nat} {ks : List Nat} {st : St} {f : AV} {args : List AV} {d : Option Nat} {outs : List (AV × List AObj × List AV)} {K : St → Prop}
    (hv : callE C rec n0 ks st f args = some outs) (hk : ∀ q ∈ outs, K ⟨putD q.2.2 d q.1, q.2.1⟩) : callK ⟨C.P, C.Γ, n0, ks⟩ st d f args K := by
  unfold callE at hv
  split at hv
  · rename_i g caps
    rw [apE_eq] at hv
    split at hv
    · rename_i u hu
      injection hv with hv; subst hv
      exact .inr ⟨u, hC.ax _ _ _ hu, hk _ (List.mem_singleton.2 rfl)⟩
    · split at hv
      · rename_i fn hfn
        rw [gO_eq, Array.getElem?_toList] at hfn
        split at hv
        · rename_i c hc
          obtain ⟨ks', o, h1, h2, h3⟩ := tryE_some hv
          exact .inl ⟨ks', _, bodyE_ok hC hrec hfn hc h1, fun k hk => (h2 k hk).1, fun v h' hm => hk _ (h3 v h' hm)⟩
        · cases hv
      · cases hv
  · rename_i b
    obtain ⟨ks', o, h1, h2, h3⟩ := tryE_some hv
    exact ⟨ks', _, roundE_ok hrec h1, fun k hk => (h2 k hk).1, fun v h' hm => hk _ (h3 v h' hm)⟩
  · cases hv

/-! ### Statements -/
def stepE (C : EC) (rec : Rk) (n0 : Nat) (ks : List Nat) (o : Oper) (st : St) : Option (List St) := match o.op with
  | .call { callee := .value f, args := args, argTypes := _ } => (match callE C rec n0 ks st (evE st.tmps f) (mE (evE st.tmps) args.toList) with
    | some outs => some (mE (fun q => ⟨putE q.2.2 o.dst q.1, q.2.1⟩) outs)
    | none => none)
  | op => impE C.Γ n0 ks o.dst st op
theorem stepE_ok {C : EC} {rec : Rk} (hC : ECOK C) (hrec : Sound C rec) {n0 : Nat} {ks : List Nat} {o : Oper} {st : St} {outs : List St} {K : St → Prop} (hv : stepE C rec n0 ks o st = some outs) (hk : ∀ s ∈ outs, K s) :
    opK ⟨C.P, C.Γ, n0, ks⟩ o st K := by
  obtain ⟨dst, op, ty, pos, after, guard⟩ := o
  unfold stepE at hv
  simp only at hv
  split at hv
  · rename_i f args ats
    have hev : evE st.tmps = ev st.tmps := funext (evE_eq _)
    rw [hev, mE_eq] at hv
    split at hv
    · rename_i outs' ho
      injection hv with hv; subst hv
      refine callE_ok hC hrec ho (fun q hq => ?_)
      have := hk ⟨putE q.2.2 dst q.1, q.2.1⟩ (by rw [mE_eq]; exact List.mem_map.2 ⟨q, hq, rfl⟩)
      rwa [putE_eq] at this
    · cases hv
  · exact impE_ok (E := ⟨C.P, C.Γ, n0, ks⟩) (o := ⟨dst, op, ty, pos, after, guard⟩) hv hk

def slotE (d : Option Nat) (tm : List AV) : AV := match d with
  | some d => gE .junk tm d
  | none => .junk
theorem slotE_eq (d : Option Nat) (tm : List AV) : slotE d tm = slotG d tm := by
  cases d <;> simp only [slotE, slotG, gE_eq]

def regE (C : EC) (rec : Rk) (n0 : Nat) (ks : List Nat) (sl : List (Option Nat)) : List Oper → St → Option (List St)
  | [], st => some [st]
  | o :: l, st => match o.guard with
    | none => bindL (stepE C rec n0 ks o st) (regE C rec n0 ks sl l)
    | some (j, w) => (match slotE (gE none sl j) st.tmps with
      | .p (.bool b) => (match b == w with
        | true => bindL (stepE C rec n0 ks o st) (regE C rec n0 ks sl l)
        | false => regE C rec n0 ks sl l ⟨putE st.tmps o.dst (.tup []), st.h⟩)
      | .tup _ => regE C rec n0 ks sl l ⟨putE st.tmps o.dst (.tup []), st.h⟩
      | _ => none)
theorem regE_ok {C : EC} {rec : Rk} (hC : ECOK C) (hrec : Sound C rec) {n0 : Nat} {ks : List Nat} {sl : List (Option Nat)} : ∀ {l : List Oper} {st : St} {outs : List St} {K : St → Prop}, regE C rec n0 ks sl l st = some outs → (∀ s ∈ outs, K s) → stepsL ⟨C.P, C.Γ, n0, ks⟩ sl l st K
  | [], st, outs, K, hv, hk => by injection hv with hv; subst hv; exact hk _ (List.mem_singleton.2 rfl)
  | o :: l, st, outs, K, hv, hk => by
    have run : bindL (stepE C rec n0 ks o st) (regE C rec n0 ks sl l) = some outs → opK ⟨C.P, C.Γ, n0, ks⟩ o st fun st' => stepsL ⟨C.P, C.Γ, n0, ks⟩ sl l st' K := fun hb => by
      obtain ⟨l', h1, h2⟩ := bindL_some hb
      refine stepE_ok hC hrec h1 (fun s hs => ?_)
      obtain ⟨o2, h3, h4⟩ := h2 s hs
      exact regE_ok hC hrec h3 (fun x hx => hk x (h4 x hx))
    unfold regE at hv
    unfold stepsL
    split at hv
    · rename_i hg
      simp only [hg]; exact run hv
    · rename_i j w hg
      simp only [hg]
      rw [gE_eq, slotE_eq] at hv
      split at hv
      · rename_i b hs
        simp only [hs]
        split at hv
        · rename_i hbw
          have hbw := eq_of_beq hbw
          exact ⟨fun _ => run hv, fun h => by subst hbw; cases b <;> cases h⟩
        · rename_i hbw
          refine ⟨fun h => by subst h; simp at hbw, fun _ => ?_⟩
          rw [putE_eq] at hv
          exact regE_ok hC hrec hv hk
      · rename_i u hs
        simp only [hs]
        rw [putE_eq] at hv
        exact regE_ok hC hrec hv hk
      · cases hv

def pstepE (C : EC) (rec : Rk) (h : List AObj) (tm : List AV) (op : Op) : Option AV := match op with
  | .call { callee := .value f, args := args, argTypes := _ } => pcallE C rec h (evE tm f) (mE (evE tm) args.toList)
  | op => pureE C.Γ h (evE tm) op
theorem pstepE_ok {C : EC} {rec : Rk} (hC : ECOK C) (hrec : Sound C rec) {n0 : Nat} {ks : List Nat} {h : List AObj} {tm : List AV} {op : Op} {v : AV} {K : AV → Prop} (hv : pstepE C rec h tm op = some v) (hk : K v) : pureK ⟨C.P, C.Γ, n0, ks⟩ op h (ev tm) K := by
  have hev : evE tm = ev tm := funext (evE_eq _)
  unfold pstepE at hv
  rw [hev] at hv
  split at hv
  · rename_i f args ats
    rw [mE_eq] at hv
    exact pcallE_ok hC hrec hv hk
  · exact pureE_ok (E := ⟨C.P, C.Γ, n0, ks⟩) hv hk

def lexE (C : EC) (rec : Rk) (sl : List (Option Nat)) (h : List AObj) : List Oper → List AV → Option (List AV)
  | [], tm => some tm
  | o :: l, tm => match o.guard with
    | none => (match pstepE C rec h tm o.op with
      | some v => lexE C rec sl h l (putE tm o.dst v)
      | none => none)
    | some (j, w) => (match slotE (gE none sl j) tm with
      | .p (.bool b) => (match b == w with
        | true => (match pstepE C rec h tm o.op with
          | some v => lexE C rec sl h l (putE tm o.dst v)
          | none => none)
        | false => lexE C rec sl h l (putE tm o.dst (.tup [])))
      | .tup _ => lexE C rec sl h l (putE tm o.dst (.tup []))
      | _ => none)
theorem lexE_ok {C : EC} {rec : Rk} (hC : ECOK C) (hrec : Sound C rec) {n0 : Nat} {ks : List Nat} {sl : List (Option Nat)} {h : List AObj} : ∀ {l : List Oper} {tm out : List AV} {K : List AV → Prop}, lexE C rec sl h l tm = some out → K out → lexL ⟨C.P, C.Γ, n0, ks⟩ sl h l tm K
  | [], tm, out, K, hv, hk => by injection hv with hv; subst hv; exact hk
  | o :: l, tm, out, K, hv, hk => by
    have run : (match pstepE C rec h tm o.op with
      | some v => lexE C rec sl h l (putE tm o.dst v)
      | none => none) = some out → pureK ⟨C.P, C.Γ, n0, ks⟩ o.op h (ev tm) fun v => lexL ⟨C.P, C.Γ, n0, ks⟩ sl h l (putD tm o.dst v) K := fun hb => by
      split at hb
      · rename_i v h1
        refine pstepE_ok hC hrec h1 ?_
        rw [putE_eq] at hb
        exact lexE_ok hC hrec hb hk
      · cases hb
    unfold lexE at hv
    unfold lexL
    split at hv
    · rename_i hg
      simp only [hg]; exact run hv
    · rename_i j w hg
      simp only [hg]
      rw [gE_eq, slotE_eq] at hv
      split at hv
      · rename_i b hs
        simp only [hs]
        split at hv
        · rename_i hbw
          have hbw := eq_of_beq hbw
          exact ⟨fun _ => run hv, fun h => by subst hbw; cases b <;> cases h⟩
        · rename_i hbw
          refine ⟨fun h => by subst h; simp at hbw, fun _ => ?_⟩
          rw [putE_eq] at hv
          exact lexE_ok hC hrec hv hk
      · rename_i u hs
        simp only [hs]
        rw [putE_eq] at hv
        exact lexE_ok hC hrec hv hk
      · cases hv

/-- How many operations stand ahead of the first that writes by its form. -/
def quietOp : Op → Bool
  | .move _ => true
  | .assign _ => true
  | .pick _ _ _ => true
  | .binOp _ _ _ _ _ => true
  | .unOp _ _ _ => true
  | .convert _ _ _ => true
  | .fieldAddr _ _ _ => true
  | .field _ _ _ => true
  | .indexAddr _ _ _ => true
  | .index _ _ _ => true
  | .load _ _ => true
  | .slice _ _ _ _ _ => true
  | .extract _ _ => true
  | .makeFunc _ _ _ => true
  | .buildSlice _ _ _ => true
  | .nilCheck _ => true
  | .build _ _ => true
  | .lookup _ _ _ _ => true
  | .call { callee := .value _, args := _, argTypes := _ } => true
  | .call { callee := .builtin .len, args := _, argTypes := _ } => true
  | _ => false
def isCall : Op → Bool
  | .call { callee := .value _, args := _, argTypes := _ } => true
  | _ => false
/-- The places at which the part that writes nothing may end: the last one first. -/
def cutsE : Nat → List Oper → List Nat → List Nat
  | k, [], acc => k :: acc
  | k, o :: l, acc => match quietOp o.op with
    | true => (match isCall o.op with
      | true => cutsE (k + 1) l (k :: acc)
      | false => cutsE (k + 1) l acc)
    | false => k :: acc

def drawE (C : EC) (rec : Rk) (n0 : Nat) (ks : List Nat) (ops : List Oper) (st : St) : List Nat → Option (List St)
  | [] => none
  | m :: ms => match (match drawOK m ops with
      | true => (match lexE C rec (mE (·.dst) ops) st.h (tkE m ops) st.tmps with
        | some tm => regE C rec n0 ks (mE (·.dst) ops) (dpE m ops) ⟨tm, st.h⟩
        | none => none)
      | false => none) with
    | some o => some o
    | none => drawE C rec n0 ks ops st ms
theorem drawE_ok {C : EC} {rec : Rk} (hC : ECOK C) (hrec : Sound C rec) {n0 : Nat} {ks : List Nat} {ops : List Oper} {st : St} {r : Option Nat} {id : Nat} {outs : List St} {Q : Exit → St → Prop} (hk : ∀ s ∈ outs, Q .normal s) :
    ∀ {ms : List Nat}, drawE C rec n0 ks ops st ms = some outs → AWp ⟨C.P, C.Γ, n0, ks⟩ r (.region id ops.toArray true) Q st
  | [], hv => by cases hv
  | m :: ms, hv => by
    unfold drawE at hv
    split at hv
    · rename_i o ho
      injection hv with hv; subst hv
      split at ho
      · rename_i hd
        split at ho
        · rename_i tm htm
          obtain ⟨tm0, h⟩ := st
          refine AWp.drawL hC.Γ hC.mix m hd ?_
          rw [mE_eq, tkE_eq] at htm
          rw [mE_eq, dpE_eq] at ho
          exact lexE_ok hC hrec htm (regE_ok hC hrec ho hk)
        · cases ho
      · cases ho
    · exact drawE_ok hC hrec hk hv

/-- A loop over a function. -/
def rfE (C : EC) (rec : Rk) (n0 : Nat) (ks : List Nat) (f : AV) (ps : List Nat) (as bd : Code) (st : St) : Option (List (Exit × St)) := match f with
  | .fn g caps => (match gO C.P.funcs.toList g with
    | some fn => (match fn.body with
      | some c => bindL (tryE n0 ks st.tmps st.h fun ks' => bodyE C rec fn c ks' (.yld (lE st.h) :: caps) (apE st.h [.lp st.tmps ps as bd .ready])) fun q => (match gO q.2.1 (lE st.h) with
        | some (.lp _ _ _ _ .ready) => some [(.normal, ⟨q.2.2, sE q.2.1 (lE st.h) .dead⟩)]
        | some (.lp _ _ _ _ (.left .ret)) => some [(.ret, ⟨q.2.2, sE q.2.1 (lE st.h) .dead⟩)]
        | some (.lp _ _ _ _ (.left (.exit id))) => some [(.exit id, ⟨q.2.2, sE q.2.1 (lE st.h) .dead⟩)]
        | _ => none)
      | none => none)
    | none => none)
  | _ => none

theorem rfE_ok {C : EC} {rec : Rk} (hC : ECOK C) (hrec : Sound C rec) {n0 : Nat} {ks : List Nat} {f : Operand} {ps : Array Tmp} {as bd : Code} {st : St} {outs : List (Exit × St)} (hv : rfE C rec n0 ks (evE st.tmps f) ps.toList as bd st = some outs) :
    AWp ⟨C.P, C.Γ, n0, ks⟩ none (.rangeFunc f ps as bd) (fun e s => (e, s) ∈ outs) st := by
  obtain ⟨tm, h⟩ := st
  rw [evE_eq] at hv
  unfold rfE at hv
  split at hv
  · rename_i g caps hf
    split at hv
    · rename_i fn hfn
      rw [gO_eq, Array.getElem?_toList] at hfn
      split at hv
      · rename_i c hc
        obtain ⟨l', h1, h2⟩ := bindL_some hv
        obtain ⟨ks', o, h3, h4, h5⟩ := tryE_some h1
        rw [lE_eq, apE_eq] at h3
        have hps : ps = ps.toList.toArray := by simp
        rw [hps]
        refine AWp.rangeFunc (ps := ps.toList) hf (bodyE_ok hC hrec hfn hc h3) (fun k hk => (h4 k hk).1) (fun hm => by have := (h4 _ hm).2; simp at this) (fun v h' hm => ?_)
        obtain ⟨o2, h6, h7⟩ := h2 _ (h5 v h' hm)
        simp only [lE_eq, gO_eq, sE_eq] at h6
        unfold RangeK
        split at h6
        · rename_i hb
          injection h6 with h6; subst h6
          simp only [hb]; exact h7 _ (List.mem_singleton.2 rfl)
        · rename_i hb
          injection h6 with h6; subst h6
          simp only [hb]; exact h7 _ (List.mem_singleton.2 rfl)
        · rename_i id hb
          injection h6 with h6; subst h6
          simp only [hb]; exact h7 _ (List.mem_singleton.2 rfl)
        · cases h6
      · cases hv
    · cases hv
  · cases hv

def norm (s : St) : Exit × St := (.normal, s)

def evStep (C : EC) (rec : Rk) : Rk := fun top n0 ks c st => match c with
  | .skip => some [(.normal, st)]
  | .label _ => some [(.normal, st)]
  | .ret => some [(.ret, st)]
  | .exit id => some [(.exit id, st)]
  | .region _ ops draw => (match (match draw with
      | true => drawE C rec n0 ks ops.toList st (cutsE 0 ops.toList [])
      | false => regE C rec n0 ks (mE (·.dst) ops.toList) ops.toList st) with
    | some outs => some (mE norm outs)
    | none => none)
  | .seq x y => bindL (rec top n0 ks x st) fun es => (match es.1 with
    | .normal => rec top n0 ks y es.2
    | e => some [(e, es.2)])
  | .cond x a b => (match evE st.tmps x with
    | .p (.bool true) => rec top n0 ks a st
    | .p (.bool false) => rec top n0 ks b st
    | _ => none)
  | .block id c => bindL (rec top n0 ks c st) fun es => (match es.1 with
    | .exit i => (match Nat.beq i id with
      | true => some [(.normal, es.2)]
      | false => some [(.exit i, es.2)])
    | e => some [(e, es.2)])
  | .loop c => bindL (rec top n0 ks c st) fun es => (match es.1 with
    | .normal => rec top n0 ks (.loop c) es.2
    | e => some [(e, es.2)])
  | .rangeFunc f ps as bd => onlyIf top (rfE C rec n0 ks (evE st.tmps f) ps.toList as bd st)
  | _ => none

def evN (C : EC) (fuel : Nat) : Rk := Nat.rec (motive := fun _ => Rk) (fun _ _ _ _ _ => none) (fun _ rec => evStep C rec) fuel

theorem evStep_ok {C : EC} {rec : Rk} (hC : ECOK C) (hrec : Sound C rec) {top : Bool} {n0 : Nat} {ks : List Nat} {c : Code} {st : St} {outs : List (Exit × St)} (hl : ∀ c', c ≠ .loop c') (hv : evStep C rec top n0 ks c st = some outs) {r : Option Nat} (hr : top = true → r = none) :
    AWp ⟨C.P, C.Γ, n0, ks⟩ r c (fun e s => (e, s) ∈ outs) st := by
  unfold evStep at hv
  split at hv
  · injection hv with hv; subst hv; exact .skip (List.mem_singleton.2 rfl)
  · injection hv with hv; subst hv; exact .label (List.mem_singleton.2 rfl)
  · injection hv with hv; subst hv; exact .ret (List.mem_singleton.2 rfl)
  · injection hv with hv; subst hv; exact .exit (List.mem_singleton.2 rfl)
  · rename_i id ops draw
    split at hv
    · rename_i o ho
      injection hv with hv; subst hv
      have hk : ∀ s ∈ o, (Exit.normal, s) ∈ mE norm o := fun s hs => by rw [mE_eq]; exact List.mem_map.2 ⟨s, hs, rfl⟩
      obtain ⟨ops⟩ := ops
      cases draw with
      | true => exact drawE_ok hC hrec (Q := fun e s => (e, s) ∈ mE norm o) hk ho
      | false =>
        refine AWp.region hC.Γ ?_
        rw [stepsL_eq]
        simp only [mE_eq (fun x : Oper => x.dst)] at ho
        exact regE_ok hC hrec ho hk
    · cases hv
  · rename_i x y
    obtain ⟨l', h1, h2⟩ := bindL_some hv
    refine AWp.seq ((hrec _ _ _ _ _ _ h1 r hr).mono ?_)
    intro e s hm
    obtain ⟨o, h3, h4⟩ := h2 (e, s) hm
    cases e with
    | normal => exact (hrec _ _ _ _ _ _ h3 r hr).mono (fun e' s' hm' => h4 _ hm')
    | _ => injection h3 with h3; subst h3; exact h4 _ (List.mem_singleton.2 rfl)
  · rename_i x a b
    refine AWp.cond ?_
    rw [evE_eq] at hv
    split at hv
    · rename_i hx
      rw [hx]; exact ⟨fun _ => hrec _ _ _ _ _ _ hv r hr, fun h => (by cases h)⟩
    · rename_i hx
      rw [hx]; exact ⟨fun h => (by cases h), fun _ => hrec _ _ _ _ _ _ hv r hr⟩
    · cases hv
  · rename_i id c
    obtain ⟨l', h1, h2⟩ := bindL_some hv
    refine AWp.block ((hrec _ _ _ _ _ _ h1 r hr).mono ?_)
    intro e s hm
    obtain ⟨o, h3, h4⟩ := h2 (e, s) hm
    cases e with
    | exit i =>
      simp only at h3
      show if i = id then _ else _
      split at h3
      · rename_i hi
        injection h3 with h3; subst h3
        rw [if_pos (Nat.eq_of_beq_eq_true hi)]; exact h4 _ (List.mem_singleton.2 rfl)
      · rename_i hi
        injection h3 with h3; subst h3
        rw [if_neg (fun e => by subst e; simp at hi)]; exact h4 _ (List.mem_singleton.2 rfl)
    | _ => injection h3 with h3; subst h3; exact h4 _ (List.mem_singleton.2 rfl)
  · rename_i c'; exact absurd rfl (hl c')
  · obtain ⟨h1, h2⟩ := onlyIf_some hv
    have := hr h1
    subst this
    exact rfE_ok hC hrec h2
  · cases hv

theorem evN_ok {C : EC} (hC : ECOK C) (fuel : Nat) : Sound C (evN C fuel) := by
  induction fuel using Nat.strongRecOn with
  | _ fuel ih =>
    intro top n0 ks c st outs hv r hr
    cases fuel with
    | zero => cases hv
    | succ fuel =>
      by_cases hl : ∃ c', c = .loop c'
      · obtain ⟨c', rfl⟩ := hl
        refine AWp.loopI (fun x : Nat × St => x.2) (fun x => x.1 ≤ fuel + 1 ∧ ∃ outs', evN C x.1 top n0 ks (.loop c') x.2 = some outs' ∧ ∀ o ∈ outs', o ∈ outs) (fun x => x.1) (fuel + 1, st) (Weak.refl st) ⟨Nat.le_refl _, outs, hv, fun _ h => h⟩ ?_
        rintro ⟨f, s⟩ ⟨hf, outs', ho, hsub⟩
        cases f with
        | zero => cases ho
        | succ f =>
          have ho : bindL (evN C f top n0 ks c' s) (fun es => (match es.1 with
            | .normal => evN C f top n0 ks (.loop c') es.2
            | e => some [(e, es.2)])) = some outs' := ho
          obtain ⟨l', h1, h2⟩ := bindL_some ho
          refine (ih f (Nat.lt_of_succ_le hf) _ _ _ _ _ _ h1 r hr).mono ?_
          intro e s' hm
          obtain ⟨o, h3, h4⟩ := h2 (e, s') hm
          cases e with
          | normal => exact ⟨(f, s'), Weak.refl s', ⟨Nat.le_of_succ_le hf, o, h3, fun q hq => hsub q (h4 q hq)⟩, Nat.lt_succ_self f⟩
          | _ => injection h3 with h3; subst h3; exact hsub _ (h4 _ (List.mem_singleton.2 rfl))
      · exact evStep_ok hC (ih fuel (Nat.lt_succ_self _)) (fun c' h => hl ⟨c', h⟩) hv hr

/-! ### A function, reckoned -/
def runE (C : EC) (fuel : Nat) (f : FuncId) (args : List AV) : Option AV := match gO C.P.funcs.toList f with
  | some fn => (match fn.body with
    | some c => quietE C (evN C fuel) fn c args [] true
    | none => none)
  | none => none
/-- What a function gives at these arguments, in whatever memory. -/
theorem runE_ok {C : EC} (hC : ECOK C) {fuel : Nat} {f : FuncId} {args : List AV} {v : AV} (hv : runE C fuel f args = some v) : AC C.P f args [] [] (fun v' h' => v' = v ∧ h' = []) := by
  unfold runE at hv
  split at hv
  · rename_i fn hfn
    rw [gO_eq, Array.getElem?_toList] at hfn
    split at hv
    · rename_i c hc
      exact quietE_ok hC (evN_ok hC fuel) hfn hc hv
    · cases hv
  · cases hv
end Go.AM
