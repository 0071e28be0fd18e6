/-
  AM 16: a contract with the heap in sight, out of a body; names that are given up.
-/
import Derived.Test.YtpancbdaigaheaaAm15
namespace Go.AM
open Go.RowKit

/-- Every name in it is below n. -/
def AV.under (n : Nat) : AV → Bool
  | .own c _ => Nat.blt c n
  | .ptr c _ => Nat.blt c n
  | .eptr c _ _ _ => Nat.blt c n
  | .map c => Nat.blt c n
  | .yld c => Nat.blt c n
  | .fn _ caps => underL n caps
  | .agg l => underL n l
  | .tup l => underL n l
  | _ => true
where
  underL (n : Nat) : List AV → Bool
    | [] => true
    | v :: l => v.under n && underL n l

def AObj.under (n : Nat) : AObj → Bool
  | .box cs => cs.all (AV.under n)
  | .it m _ _ _ => Nat.blt m n
  | .lp tm _ _ _ _ => tm.all (AV.under n)
  | _ => true

theorem underL_get {n : Nat} : ∀ {l : List AV}, AV.under.underL n l = true → ∀ i, i < l.length → (l.getD i .junk).under n = true
  | v :: l, h, i, hi => by
    simp only [AV.under.underL, Bool.and_eq_true] at h
    cases i with
    | zero => exact h.1
    | succ i => simpa using underL_get h.2 i (by simpa using hi)

theorem VR.narrow {m n : Nat} {μ : Nat → Value} {I : Nat → Prop} {w : World} {x : AV} {v : Value} (h : VR m μ I w x v) (hu : x.under n = true) : VR n μ I w x v := by
  induction h with
  | junk v => exact .junk v
  | cell v h => exact .cell v h
  | p x v h => exact .p x v h
  | full l a h => exact .full l a h
  | own b k a c hb h => exact .own b k a c (Nat.le_of_ble_eq_true hu) h
  | ptr b off g hb h => exact .ptr b off g (Nat.le_of_ble_eq_true hu) h
  | eptr b s i f g k c hb h => exact .eptr b s i f g k c (Nat.le_of_ble_eq_true hu) h
  | ipt l g off cur E fz vs hg hb hv hr => exact .ipt l g off cur E fz vs hg hb hv hr
  | map b r hb h => exact .map b r (Nat.le_of_ble_eq_true hu) h
  | yld b l hb h => exact .yld b l (Nat.le_of_ble_eq_true hu) h
  | fn f caps cs hl _ ih => exact .fn f caps cs hl (fun i hi => ih i hi (underL_get hu i hi))
  | agg l cs hl _ ih => exact .agg l cs hl (fun i hi => ih i hi (underL_get hu i hi))
  | tup l cs hl _ ih => exact .tup l cs hl (fun i hi => ih i hi (underL_get hu i hi))

def cut (n : Nat) (ob : Nat → Option Nat) : Nat → Option Nat := fun b => if b < n then ob b else none
theorem cut_some {n : Nat} {ob : Nat → Option Nat} {b g : Nat} (h : cut n ob b = some g) : b < n ∧ ob b = some g := by
  unfold cut at h
  split at h
  · exact ⟨‹_›, h⟩
  · cases h

section
variable {P : Program} {X : Ctx} {I : Nat → Prop} {μ : Nat → Value} {ob : Nat → Option Nat} {w w' : World} {h : List AObj}

theorem RepH.trunc (R : RepH X I μ ob h w) {n : Nat} (hn : X.n0 ≤ n) (hle : n ≤ h.length) (hu : (h.take n).all (AObj.under n) = true) : RepH X I μ (cut n ob) (h.take n) w := by
  have hlen : (h.take n).length = n := by simp [hle]
  exact {
    below := R.below, base := R.base, imm := R.imm, ctx := R.ctx, frz := R.frz, inew := R.inew, may := R.may
    names := by rw [hlen]; exact hn
    own := fun b g hb => R.own b g (cut_some hb).2
    sep := fun b b' g h1 h2 => R.sep b b' g (cut_some h1).2 (cut_some h2).2
    past := fun b hb => by rw [hlen] at hb; simp [cut, Nat.not_lt.2 hb]
    objs := fun b o ho => by
      have hb : b < n := by have := (List.getElem?_eq_some_iff.1 ho).1; omega
      have hmem : o ∈ h.take n := List.mem_of_getElem? ho
      have hou := List.all_eq_true.1 hu o hmem
      rw [List.getElem?_take, if_pos hb] at ho
      have hO := R.objs b o ho
      have hcut : cut n ob b = ob b := by simp [cut, hb]
      rw [hlen]
      cases o with
      | dead => trivial
      | box cs =>
        obtain ⟨g, T, cur, h1, h2, h3, h4, h5⟩ := hO
        refine ⟨g, T, cur, hcut.trans h1, h2, h3, h4, fun i hi => (h5 i hi).narrow ?_⟩
        simp only [AObj.under, List.all_eq_true] at hou
        exact hou _ (by rw [List.getD_eq_getElem?_getD, List.getElem?_eq_getElem hi, Option.getD_some]; exact List.getElem_mem _)
      | row E s xs k =>
        obtain ⟨h0, hO⟩ := hO
        refine ⟨h0, ?_⟩
        rcases hO with ⟨g, h1, h2⟩ | ⟨h1, h2, a, h3, h4⟩
        · exact .inl ⟨g, hcut.trans h1, h2⟩
        · exact .inr ⟨h1, hcut.trans h2, a, h3, h4⟩
      | mp es =>
        obtain ⟨r, ents, h1, h2, h3, h4, h5, h6⟩ := hO
        exact ⟨r, ents, hcut.trans h1, h2, h3, h4, h5, h6⟩
      | it m since seen last =>
        obtain ⟨r, g, h0, h1, h2, h3, h4, h5⟩ := hO
        exact ⟨r, g, Nat.le_of_ble_eq_true hou, hcut.trans h1, h2, h3, h4, h5⟩
      | lp tm ps assign body s =>
        obtain ⟨l, rec, h1, h2, h3, h4, h5, h6⟩ := hO
        refine ⟨l, rec, hcut.trans h1, h2, h3, h4, fun i hi => (h5 i hi).narrow ?_, h6⟩
        simp only [AObj.under, List.all_eq_true] at hou
        exact hou _ (by rw [List.getD_eq_getElem?_getD, List.getElem?_eq_getElem hi, Option.getD_some]; exact List.getElem_mem _) }

/-- What a body owes at its end: n names are kept. -/
def DoneK (Γ : Gam) (rs : List ResultVar) (n : Nat) (R : AV → List AObj → Prop) (st : St) : Prop :=
  resK Γ st rs fun l => ((packAV l).under n = true ∧ (st.h.take n).all (AObj.under n) = true ∧ n ≤ st.h.length) ∧ R (packAV l) (st.h.take n)

theorem AC.of_body {Γ : Gam} {f : FuncId} {fn : Func} {c : Code} {args : List AV} {ks : List Nat} {R : AV → List AObj → Prop} (n : Nat) (hΓ : GamOK P Γ) (hf : P.funcs[f]? = some fn) (hname : (fn.name == "runtime.NumGoroutine") = false) (hb : fn.body = some c)
    (hn : h.length ≤ n) (hw : AWp ⟨P, Γ, h.length, ks⟩ none c (fun e st => Ends e ∧ DoneK Γ fn.results.toList n R st) ⟨args ++ List.replicate (fn.ntmps - args.length) .junk, h⟩) : AC P f args h ks R := by
  refine ⟨entersF_of hf hname hb, fun X I μ ob w cargs RH hlen hargs hks => ?_⟩
  let X' : Ctx := { B0 := X.B0, w0 := X.w0, I0 := I, μ0 := μ, n0 := h.length, ks := ks, fz := fun g => g < w.heap.size ∧ ∀ b, ob b ≠ some g, w1 := w }
  refine callsIn_wide.1 (?_ : CallsIn (Fw none) 0 P f cargs.toArray w _)
  refine callsIn_of_wp_marks hf hb trivial ?_
  have hN : Now X' I ⟨args ++ List.replicate (fn.ntmps - args.length) .junk, h⟩ w { tmps := cargs.toArray ++ Array.replicate (fn.ntmps - cargs.toArray.size) undef, defers := [] } := by
    refine ⟨I, μ, ob, fun _ h => h, {
      below := RH.below, base := RH.base, imm := RH.imm, ctx := fun _ h => h, frz := fun g hg => ⟨hg.1, rfl⟩, inew := fun _ h => .inl h, may := fun _ _ => rfl, names := Nat.le_refl _
      own := fun b g hg => ⟨(RH.own b g hg).1, ⟨(RH.own b g hg).2.1.1, fun hz => hz.2 b hg⟩, (RH.own b g hg).2.2⟩, sep := RH.sep, past := RH.past, objs := RH.objs
      size := by simp [hlen], tmps := fun i hi => ?_, marks := ⟨[], rfl, List.nodup_nil, by simp⟩ }⟩
    by_cases h1 : i < args.length
    · have e1 : (args ++ List.replicate (fn.ntmps - args.length) AV.junk).getD i AV.junk = args.getD i .junk := by
        simp only [List.getD_eq_getElem?_getD, List.getElem?_append_left h1]
      have e2 : (cargs.toArray ++ Array.replicate (fn.ntmps - cargs.toArray.size) undef).getD i undef = cargs.getD i undef := by
        rw [agetD, Array.toList_append]
        simp only [List.getD_eq_getElem?_getD]
        rw [List.getElem?_append_left (by simpa using (show i < cargs.length by omega))]
      rw [e1, e2]; exact hargs i h1
    · have e1 : (args ++ List.replicate (fn.ntmps - args.length) AV.junk).getD i AV.junk = .junk := by
        simp only [List.getD_eq_getElem?_getD, List.getElem?_append_right (show args.length ≤ i by omega), List.getElem?_replicate]
        split <;> rfl
      rw [e1]; exact .junk _
  refine wpIn_mono (hw X' I w _ ⟨rfl, rfl⟩ hN) ?_
  rintro e a' w' ⟨st', ⟨I', μ', ob', hI, R1⟩, he, hres⟩
  obtain ⟨rs, m1, m2, m3⟩ := R1.marks
  have hleave : LeavesInM (Fw none) 0 P fn a'.tmps (fun e w' => ∃ cv v h' I' μ' ob', e = .returned cv ∧ RepH X I' μ' ob' h' w' ∧ VR h'.length μ' I' w' v cv ∧ (∀ g, I g → I' g) ∧
      (∀ b, b < h.length → b ∉ ks → μ' b = μ b) ∧ h.length ≤ h'.length ∧ (∀ g, I' g → I g ∨ (∃ b, ob b = some g) ∨ w.heap.size ≤ g) ∧ (∀ b g, ob' b = some g → (∃ c, ob c = some g) ∨ w.heap.size ≤ g) ∧
      (∀ g, g < w.heap.size → (∀ b, ob b ≠ some g) → w'.heap[g]? = w.heap[g]?) ∧ R v h') a'.defers .returning w' := by
    refine leave_ok rs m1 m2 (fun r hr => (m3 r hr).1) (fun w'' a1 a2 a3 a4 a5 => ?_)
    have R2 := R1.toRepH.put a1 a2 a3 a4 a5 (fun k hk => ⟨(m3 k hk).2.1, (m3 k hk).2.2.1, (m3 k hk).2.2.2⟩)
    have htm : ∀ i, i < st'.tmps.length → VR st'.h.length μ' I' w'' (st'.tmps.getD i .junk) (a'.tmps.getD i undef) := fun i hi =>
      (R1.tmps i hi).mono (Nat.le_refl _) (fun _ _ => rfl) (fun _ h => h) (fun g hg => a5 g (fun hm => (m3 g hm).2.2.1 hg))
    obtain ⟨l, cs, r1, r2, r3, ⟨u1, u2, u3⟩, r4⟩ := resK_ok (E := ⟨P, Γ, h.length, ks⟩) (a := a') hΓ R2 htm _ hres
    have hm : (fn.results.mapM (readRes a'.tmps)).run P w'' = .ok cs.toArray w'' := by
      have h5 : fn.results.mapM (readRes a'.tmps) = Functor.map List.toArray (fn.results.toList.mapM (readRes a'.tmps)) := by
        conv => lhs; rw [← Array.toArray_toList (xs := fn.results)]
        exact List.mapM_toArray
      rw [h5]; simp [r1]
    have hlen' : (st'.h.take n).length = n := by simp [u3]
    have R3 := R2.trunc hn u3 u2
    have hnf : ∀ g, X'.mine g → (∃ b, ob b = some g) ∨ w.heap.size ≤ g := fun g hg => by
      rcases Nat.lt_or_ge g w.heap.size with h1 | h1
      · refine .inl (Classical.byContradiction fun h2 => hg.2 ⟨h1, fun b hb => h2 ⟨b, hb⟩⟩)
      · exact .inr h1
    refine ⟨_, by rw [results_eq]; simp only [Sem.run_bind]; rw [hm]; rfl, _, packAV l, st'.h.take n, I', μ', cut n ob', rfl, ?_, ?_, hI, fun b hb hk => ?_, by rw [hlen']; exact hn, fun g hg => ?_, fun b g hb => ?_, fun g hg ho => ?_, r4⟩
    · exact {
        below := R3.below, base := R3.base, imm := R3.imm, ctx := fun g hg => hI g (RH.ctx g hg)
        frz := fun g hg => by
          have h1 := RH.frz g hg
          have h2 := R3.frz g ⟨h1.1, fun b hb => (RH.own b g hb).2.1.2 hg⟩
          exact ⟨h2.1, h2.2.trans h1.2⟩
        inew := fun g hg => by
          rcases R3.inew g hg with h1 | h1
          · exact RH.inew g h1
          · rcases hnf g h1 with ⟨b, hb⟩ | h2
            · exact .inr (RH.own b g hb).2.1
            · exact .inr (RH.fresh h2)
        may := fun b hb => by
          have hb1 : b < X.n0 := Nat.lt_of_not_le fun h1 => hb (.inl h1)
          have := RH.names
          rw [R3.may b (fun h1 => h1.elim (fun h1 => by have h1 : h.length ≤ b := h1; omega) (fun h1 => hb (hks b h1)))]
          exact RH.may b hb
        names := Nat.le_trans RH.names R3.names
        own := fun b g hb => by
          have h1 := R3.own b g hb
          refine ⟨h1.1, ?_, h1.2.2⟩
          rcases hnf g h1.2.1 with ⟨c, hc⟩ | h2
          · exact (RH.own c g hc).2.1
          · exact RH.fresh h2
        sep := R3.sep, past := R3.past, objs := R3.objs }
    · rw [hlen']
      match l, cs, r2, r3, u1 with
      | [x], [c], _, r3, u1 => exact (r3 0 (by simp)).narrow u1
      | [], [], _, _, _ => exact .tup [] [] rfl (by simp)
      | x :: y :: l, c :: d :: cs, h2, r3, u1 => exact (VR.tup _ (c :: d :: cs) h2 r3).narrow u1
    · exact R3.may b (fun h1 => h1.elim (fun h1 => by have h1 : h.length ≤ b := h1; omega) hk)
    · rcases R3.inew g hg with h1 | h1
      · exact .inl h1
      · exact .inr (hnf g h1)
    · exact hnf g (R3.own b g hb).2.1
    · exact (R3.frz g ⟨hg, ho⟩).2
  rcases he with rfl | rfl
  · exact hleave
  · exact hleave
end

attribute [go_sem] DoneK AV.under AV.under.underL AObj.under List.all_cons List.all_nil Bool.and_true Bool.true_and
end Go.AM
