/-
  Texts of this claim, joined.
-/
import Derived.Test.YtnilegembmcelaaDoorJ1f0705b636c9
import Derived.WalkSpells

namespace Go.AM
open Go.RowKit
section
variable {P : Program} {X : Ctx} {I : Nat → Prop} {μ : Nat → Value} {ob : Nat → Option Nat} {w w' : World} {a : Act} {tm : List AV} {h : List AObj} {n : Nat}

/-! a nil check -/
def nilK (x : AV) (K : AV → Prop) : Prop :=
  match x with
  | .ptr _ _ => K x
  | .eptr _ _ _ _ => K x
  | .ipt _ => K x
  | .fn _ _ => K x
  | .yld _ => K x
  | _ => False

theorem Zi3 {x : AV} {v : Value} {K : AV → Prop} (hx : VR n μ I w x v) (hk : nilK x K) : (∃ a, v = .pointer (some a)) ∨ (∃ g cs, v = .func (.func g) #[] cs) ∨ (∃ l, v = .func (.yield l) #[] #[]) := by
  cases hx <;> first | exact hk.elim | exact .inl ⟨_, rfl⟩ | exact .inr (.inl ⟨_, _, rfl⟩) | exact .inr (.inr ⟨_, rfl⟩)

theorem Z9q {x : AV} {K : AV → Prop} (hk : nilK x K) : K x := by
  unfold nilK at hk; split at hk <;> first | exact hk | exact hk.elim

/-! a slice against nil -/
def Z0b (Γ : Gam) (t : TypeId) (neg : Bool) (x : AV) (h : List AObj) (K : AV → Prop) : Prop :=
  (∃ e, tdAt Γ t (.slice e)) ∧ match x with
    | .nil => K (.p (.bool (!neg)))
    | x => (match x.listH h with
      | some (_ :: _) => K (.p (.bool neg))
      | some [] => K (.p (.bool neg)) ∧ K (.p (.bool (!neg)))
      | none => False)

/-! a struct literal -/
def bldL (Γ : Gam) (fs : List (Nat × TypeId)) : List AV → List (Nat × AV) → (List AV → Prop) → Prop
  | cs, [], K => K cs
  | cs, (f, v) :: ps, K => match fs[f]?, v.cellL with
    | some (o, ft), some l => tyAt Γ ft fun fe => (l.length = fe.cells ∧ o + l.length ≤ cs.length) ∧ bldL Γ fs (setL cs o l) ps K
    | _, _ => False
def bldK (Γ : Gam) (t : TypeId) (parts : List (Nat × AV)) (K : AV → Prop) : Prop :=
  tyAt Γ t fun te => match te.td, te.zero with
    | .struct fs, some (.agg zs) => (fs.all fun f => (Γ f.2).isSome) = true ∧ bldL Γ fs zs parts fun cs => K (.agg cs)
    | _, _ => False

def CsOK (n : Nat) (μ : Nat → Value) (I : Nat → Prop) (w : World) (cs : List AV) (A : Array Value) : Prop := cs.length = A.size ∧ ∀ i, i < cs.length → VR n μ I w (cs.getD i .junk) (A.getD i undef)

theorem Zal {Γ : Gam} (hΓ : Zg P Γ) {fs : List (Nat × TypeId)} {place : Nat → Option (Nat × Nat)} (hp : ∀ f o ft fe, fs[f]? = some (o, ft) → Γ ft = some fe → place f = some (o, fe.cells)) :
    ∀ (ps : List (Nat × AV)) (cps : List (Nat × Value)) (cs : List AV) (A : Array Value) {K : List AV → Prop}, CsOK n μ I w cs A → ps.length = cps.length → (∀ i, i < ps.length → (ps.getD i default).1 = (cps.getD i default).1 ∧ VR n μ I w (ps.getD i default).2 (cps.getD i default).2) →
      bldL Γ fs cs ps K → ∃ B cs', Instr.fill place A cps = some B ∧ CsOK n μ I w cs' B ∧ K cs'
  | [], [], cs, A, K, hA, _, _, hk => ⟨A, cs, rfl, hA, hk⟩
  | (f, v) :: ps, (cf, cv) :: cps, cs, A, K, hA, hl, hr, hk => by
    have h0 := hr 0 (by simp); simp only [List.getD_cons_zero] at h0; obtain ⟨rfl, hv⟩ := h0; unfold bldL at hk
    split at hk
    · rename_i o ft l hf hcl
      obtain ⟨fe, hfe, ⟨hlen, hle⟩, hk⟩ := hk.get; obtain ⟨hcs, hc⟩ := hv.cellL hcl; have hpl := hp _ _ _ _ hf hfe
      let A' := cv.cells.zipIdx.foldl (fun cs (c : Value × Nat) => cs.setIfInBounds (o + c.2) c.1) A
      have hA' : A'.toList = _ := Z49 cv.cells o A; obtain ⟨f1, f2⟩ := Zaa cv.cells.toList 0 o A.toList; have hsz : A'.size = A.size := by rw [← Array.length_toList, hA', f1, Array.length_toList]
      have hOK : CsOK n μ I w (setL cs o l) A' := by
        refine ⟨by rw [Z14, hsz]; exact hA.1, fun i hi => ?_⟩; rw [Z14] at hi; rw [Z5y _ _ _ _ hi, Z5m, hA', f2 i (by simpa using (show i < A.size by rw [← hA.1]; exact hi))]; simp only [Nat.add_zero, Array.length_toList]; by_cases c1 : o ≤ i ∧ i < o + l.length
        · rw [if_pos c1, if_pos (by omega), ← Z5m]; exact hc _ (by omega)
        · rw [if_neg c1, if_neg (by omega), ← Z5m]; exact hA.2 i hi
      obtain ⟨B, cs', e1, e2, e3⟩ := Zal hΓ hp ps cps _ A' hOK (by simpa using hl) (fun i hi => by simpa using hr (i + 1) (by simpa using hi)) hk; refine ⟨B, cs', ?_, e2, e3⟩; unfold Instr.fill; simp only [hpl]; rw [if_neg (by simp only [ne_eq, Bool.or_eq_true, decide_eq_true_eq]; have := hA.1; omega)]; exact e1
    · exact hk.elim
  | [], _ :: _, _, _, _, _, hl, _, _ => by simp at hl
  | _ :: _, [], _, _, _, _, hl, _, _ => by simp at hl

theorem Z4r {Γ : Gam} (hΓ : Zg P Γ) : ∀ (fs : List Field), (fs.all fun f => (Γ f.type).isSome) = true →
    ∃ ps : List (Nat × Nat), (fs.mapM (fun f => do pure (f.offset, ← sizeOf f.type) : Field → Sem (Nat × Nat))).run P w = .ok ps w ∧ ps.length = fs.length ∧
      ∀ (f o : Nat) (ft : TypeId) (fe : TE), (fs.map fun f => (f.offset, f.type))[f]? = some (o, ft) → Γ ft = some fe → ps[f]? = some (o, fe.cells)
  | [], _ => ⟨[], rfl, rfl, fun f o ft fe h => by simp at h⟩
  | x :: fs, h => by
    simp only [List.all_cons, Bool.and_eq_true] at h; obtain ⟨te, hte⟩ := Option.isSome_iff_exists.1 h.1; obtain ⟨i, hi, hisz, _, _⟩ := (hΓ _ _ hte).info; obtain ⟨ps, e1, e2, e3⟩ := Z4r hΓ fs h.2; refine ⟨(x.offset, te.cells) :: ps, ?_, by simp [e2], fun f o ft fe hf hfe => ?_⟩
    · have h0 : (do pure (x.offset, ← sizeOf x.type) : Sem (Nat × Nat)).run P w = .ok (x.offset, te.cells) w := by simp [sizeOf, typeInfo, hi, hisz]
      simp only [List.mapM_cons, Sem.run_bind, h0, e1, Result.andThen]; rfl
    · cases f with
      | zero =>
        simp only [List.map_cons, List.getElem?_cons_zero, Option.some.injEq, Prod.mk.injEq] at hf; obtain ⟨rfl, rfl⟩ := hf; rw [hte] at hfe; injection hfe with hfe; subst hfe; rfl
      | succ f => simpa using e3 f o ft fe (by simpa using hf) hfe

theorem Zji {Γ : Gam} (hΓ : Zg P Γ) {t : TypeId} {ps : List (Nat × AV)} {cps : List (Nat × Value)} {K : AV → Prop} (hl : ps.length = cps.length)
    (hr : ∀ i, i < ps.length → (ps.getD i default).1 = (cps.getD i default).1 ∧ VR n μ I w (ps.getD i default).2 (cps.getD i default).2) (hk : bldK Γ t ps K) :
    ∃ a cv, (Instr.build t cps.toArray).run P w = .ok cv w ∧ VR n μ I w a cv ∧ K a := by
  unfold bldK at hk; obtain ⟨te, ht, hk⟩ := hk.get
  split at hk
  · rename_i fs zs htd hz
    obtain ⟨hall, hk⟩ := hk; obtain ⟨d, hu, hd, _⟩ := (hΓ _ _ ht).desc; rw [htd] at hd; obtain ⟨fa, rfl, hfs⟩ := hd; obtain ⟨i, hi, hisz, _, hzero⟩ := (hΓ _ _ ht).info; obtain ⟨zv, hzv, hplain, hzs⟩ := hzero _ hz; obtain ⟨zcs, rfl, hzl, hzr⟩ := (hplain n μ I w).agg_inv; have hall' : (fa.toList.all fun f => (Γ f.type).isSome) = true := by
      rw [← hfs] at hall
      simpa [List.all_map, Function.comp_def] using hall
    obtain ⟨pl, e1, e2, e3⟩ := Z4r (w := w) hΓ fa.toList hall'; have hm : (fa.mapM (fun f => do pure (f.offset, ← sizeOf f.type) : Field → Sem (Nat × Nat))).run P w = .ok pl.toArray w := by
      have h5 : fa.mapM (fun f => do pure (f.offset, ← sizeOf f.type) : Field → Sem (Nat × Nat)) = Functor.map List.toArray (fa.toList.mapM (fun f => do pure (f.offset, ← sizeOf f.type) : Field → Sem (Nat × Nat))) := by
        conv => lhs; rw [← Array.toArray_toList (xs := fa)]
        exact List.mapM_toArray
      rw [h5]; show ((fa.toList.mapM _) >>= fun x => pure x.toArray : Sem _).run P w = _; simp only [Sem.run_bind, e1, Result.andThen]; rfl
    have hA : CsOK n μ I w zs (Value.agg zcs.toArray).cells := ⟨by simp [Value.cells, hzl], fun j hj => by
      have := hzr j hj; simp only [Value.cells]; rw [Z5m]; simpa using this⟩
    obtain ⟨B, cs', f1, f2, f3⟩ := Zal (place := (pl.toArray[·]?)) hΓ (fun f o ft fe h1 h2 => by rw [← hfs] at h1; simpa using e3 f o ft fe h1 h2) ps cps zs _ hA hl hr hk; refine ⟨.agg cs', .agg B, ?_, ?_, f3⟩
    · simp only [Instr.build, Sem.run_bind, zeroValue, typeInfo, run_program, hi, hzv, Result.andThen, Sem.run_pure, run_underlying hu]
      rw [hm]; simp only [f1]; rfl
    · have := VR.agg (n := n) (μ := μ) (I := I) (w := w) cs' B.toList (by simpa using f2.1) (fun j hj => by rw [← Z5m]; exact f2.2 j hj)
      simpa using this
  · exact hk.elim

/-! make of a slice -/
theorem PR.cellsD {x : PV} {v : Value} (hx : PR I w x v) : x.cells.length = v.cells.size ∧ ∀ i, i < x.cells.length → PR I w (x.cells.getD i default) (v.cells.toList.getD i undef) := by
  cases hx with
  | agg l cs hl hr => exact ⟨by simp [PV.cells, Value.cells, hl], fun i hi => by simpa [Value.cells, PV.cells] using hr i hi⟩
  | bool b => exact ⟨rfl, fun i hi => by have : i = 0 := by simpa [PV.cells] using hi
                                         subst this; exact .bool b⟩
  | int k m => exact ⟨rfl, fun i hi => by have : i = 0 := by simpa [PV.cells] using hi
                                          subst this; exact .int k m⟩
  | str s => exact ⟨rfl, fun i hi => by have : i = 0 := by simpa [PV.cells] using hi
                                        subst this; exact .str s⟩
  | sl0 a c hc => exact ⟨rfl, fun i hi => by have : i = 0 := by simpa [PV.cells] using hi
                                             subst this; exact .sl0 a c hc⟩
  | sl l s g off cap cur E fz vs hl hI hw hc hs hv hr => exact ⟨rfl, fun i hi => by have : i = 0 := by simpa [PV.cells] using hi
                                                                                    subst this; exact .sl l s g off cap cur E fz vs hl hI hw hc hs hv hr⟩

def mkSK (Γ : Gam) (tm : List AV) (h : List AObj) (d : Option Nat) (t : TypeId) (l c : AV) (K : St → Prop) : Prop :=
  match l, c with
  | .p (.int _ n), .p (.int _ m) => tyAt Γ t fun te => (match te.td with
    | .slice e => tyAt Γ e fun ee => (match ee.zero.bind AV.pure with
      | some p => (0 ≤ n ∧ n ≤ m ∧ m * ee.bytes ≤ 140737488355328 ∧ m ≤ 9223372036854775807 ∧ p.cells.length = ee.cells ∧ 0 < ee.cells) ∧ K ⟨putD tm d (.own h.length n.toNat), h ++ [.row e ee.cells (List.replicate n.toNat p) .own]⟩
      | none => False)
    | _ => False)
  | _, _ => False

theorem Z21 {p : PV} {s : Nat} (hp : p.cells.length = s) (hs : 0 < s) (n j : Nat) (hj : j < n * s) : (Zk (List.replicate n p)).getD j default = p.cells.getD (j % s) default := by
  have hi : j / s < n := (Nat.div_lt_iff_lt_mul hs).2 hj; have hall : ∀ x ∈ List.replicate n p, x.cells.length = s := fun x hx => by rw [List.eq_of_mem_replicate hx]; exact hp
  have h2 := Z0o (l := List.replicate n p) hall (i := j / s) (j := j % s) (by simpa using hi) (Nat.mod_lt _ hs); have e : j / s * s + j % s = j := by rw [Nat.mul_comm]; exact Nat.div_add_mod j s
  rw [e] at h2; rw [h2]
  congr 2
  simp [List.getD_eq_getElem?_getD, hi]

theorem Zi4 {Γ : Gam} (hΓ : Zg P Γ) {t : TypeId} {l c : AV} {vl vc : Value} {d : Option Nat} {K : St → Prop} (R : Rep X I μ ob ⟨tm, h⟩ w a) (hx : VR h.length μ I w l vl) (hy : VR h.length μ I w c vc)
    (hk : mkSK Γ tm h d t l c K) : StepOK P X I μ h.length (Instr.makeSlice t vl vc) w a d K := by
  unfold mkSK at hk
  split at hk
  · rename_i k n k' m
    rw [hx.int_inv, hy.int_inv]; obtain ⟨te, ht, hk⟩ := hk.get
    split at hk
    · rename_i e he
      obtain ⟨ee, hee, hk⟩ := hk.get
      split at hk
      · rename_i p hp
        obtain ⟨⟨h0, hnm, hb, hm, hpc, hs⟩, hK⟩ := hk; obtain ⟨dd, hu, hd, _⟩ := (hΓ _ _ ht).desc; rw [he] at hd; simp only [Z7] at hd; subst hd; obtain ⟨inf, hinf, hisz, hby, hzero⟩ := (hΓ _ _ hee).info; obtain ⟨z, hz, hzp⟩ := Option.bind_eq_some_iff.1 hp; obtain ⟨zv, hzv, hplain, hzs⟩ := hzero z hz; have hpz := (hplain h.length μ I w).pure hzp; obtain ⟨z1, z2⟩ := hpz.cellsD; obtain ⟨N, rfl⟩ := Int.eq_ofNat_of_zero_le h0; obtain ⟨M, rfl⟩ := Int.eq_ofNat_of_zero_le (show 0 ≤ m by omega); have hNM : N ≤ M := by omega
        have wN : IntKind.i64.wrap (N : Int) = N := InR.wrap (k := .i64) (by simp only [InR]; omega); have wM : IntKind.i64.wrap (M : Int) = M := InR.wrap (k := .i64) (by simp only [InR]; omega)
        let B : Array Value := (Array.range (M * ee.cells)).map fun i => zv.cells[i % zv.cells.size]!
        have hBs : B.size = M * ee.cells := by simp [B]
        have hrun : (Instr.makeSlice t (.int k N) (.int k' M)).run P w = .ok (.slice (some ⟨w.heap.size, 0, none⟩) N M) (w.alloc (.cells B e)) := by
          have hbytes : ee.bytes * (M : Int) ≤ 140737488355328 := by rw [Int.mul_comm]; exact hb
          have hlen : (IntKind.i64.wrap (N : Int)) = N := wN; have hNb : ee.bytes * (N : Int) ≤ ee.bytes * (M : Int) := Int.mul_le_mul_of_nonneg_left (by omega) (by omega); have hcell : (if M * ee.cells = 0 then (#[] : Array Value) else zv.cells) = if M * ee.cells = 0 then #[] else zv.cells := rfl
          have hnat : M * ee.bytes ≤ 140737488355328 := by
            have : ((M * ee.bytes : Nat) : Int) ≤ 140737488355328 := by rw [Int.natCast_mul]; exact hb
            omega
          simp only [Instr.makeSlice, Sem.run_bind, run_underlying hu, Result.andThen, asInt, asIntOf, Sem.run_pure, typeInfo, run_program, hinf, hby, wN, wM]; rw [if_neg (by simp only [Bool.or_eq_true, decide_eq_true_eq, not_or]; refine ⟨⟨⟨by omega, by omega⟩, by omega⟩, by omega⟩)]; have hroom : ¬ (M * ee.bytes > 2 ^ 47) := by omega
          simp only [Int.toNat_natCast, askRoom, roomBytes, hroom, if_false, Sem.run_bind, Sem.run_pure, Result.andThen]; by_cases hz0 : M * ee.cells = 0
          · have hM0 : M = 0 := by
              rcases Nat.mul_eq_zero.1 hz0 with h | h
              · exact h
              · omega
            subst hM0; have hN0 : N = 0 := by omega
            subst hN0; have hB0 : B = #[] := Array.eq_empty_of_size_eq_zero (by rw [hBs]; simp); rw [hB0]; simp [sizeOf, typeInfo, hinf, hisz, newRow, Array.range_zero']
          · simp [sizeOf, typeInfo, hinf, hisz, hz0, zeroValue, hzv, newRow, B]
        have hg : w.grownBy (w.alloc (.cells B e)) none := World.grownBy_alloc w _ none; have hnew := heap_alloc_new w (.cells B e)
        have R1 := R.name (v := .slice (some ⟨w.heap.size, 0, none⟩) N M) (g := some w.heap.size) (o := .row e ee.cells (List.replicate N p) .own) hg (fun k e => by injection e with e; subst e; simp) (by
          have hall : ∀ x ∈ List.replicate N p, x.cells.length = ee.cells := fun x hx => by rw [List.eq_of_mem_replicate hx]; exact hpc
          refine ⟨hall, .inl ⟨w.heap.size, by simp, 0, M, B, (0, 0), B.toList.take (N * ee.cells), by simp, hnew, fun _ => rfl, fun j _ => by simp, by simpa using hNM, by simp only [maxLen]; omega, by rw [Nat.zero_add]; exact Nat.le_of_eq hBs.symm, by simp, ?_, fun j hj => ?_⟩⟩
          · have hle := Nat.mul_le_mul_right ee.cells hNM
            simp only [List.length_take, Array.length_toList, hBs, List.length_replicate]; omega
          · simp only [List.length_replicate] at hj
            have hle := Nat.mul_le_mul_right ee.cells hNM; have hjM : j < M * ee.cells := by omega
            rw [Z21 hpc hs N j hj]; have e1 : (B.toList.take (N * ee.cells)).getD j undef = zv.cells.toList.getD (j % ee.cells) undef := by
              have hlt : j % zv.cells.size < zv.cells.size := Nat.mod_lt _ (by omega); simp only [List.getD_eq_getElem?_getD, List.getElem?_take, if_pos hj]; simp only [B, Array.toList_map, List.getElem?_map, Array.toList_range, List.getElem?_range hjM, Option.map_some, Option.getD_some]; rw [hzs] at hlt ⊢; rw [getElem!_pos zv.cells (j % ee.cells) (by rw [hzs]; exact hlt)]; simp [hzs, hlt]
            rw [e1]; exact (z2 _ (by rw [hpc]; exact Nat.mod_lt _ hs)).mono (fun _ h => h) (fun g h => hg.block g (R.imm g h) (by simp)))
        have R2 := R1.put (v := .own h.length N) (cv := .slice (some ⟨w.heap.size, 0, none⟩) N M) (.own _ _ _ _ (by simp) (by simp)) d; exact ⟨_, _, _, hrun, ⟨_, _, _, fun _ h => h, R2, fun b hb _ => Zy hb _⟩, by simpa using hK⟩
      · exact hk.elim
    · exact hk.elim
  · exact hk.elim

theorem Z77 {Γ : Gam} {t : TypeId} {neg : Bool} {x : AV} {h : List AObj} {K : AV → Prop} (hk : Z0b Γ t neg x h K) : x = .nil ∨ ∃ xs, x.listH h = some xs := by
  obtain ⟨_, hk⟩ := hk; by_cases hn : x = .nil
  · exact .inl hn
  · have hk : (match x.listH h with
      | some (_ :: _) => K (.p (.bool neg))
      | some [] => K (.p (.bool neg)) ∧ K (.p (.bool (!neg)))
      | none => False) := by cases x <;> first | exact absurd rfl hn | exact hk
    split at hk
    · rename_i hl; exact .inr ⟨_, hl⟩
    · rename_i hl; exact .inr ⟨_, hl⟩
    · exact hk.elim
theorem Zbm {Γ : Gam} (hΓ : Zg P Γ) {t : TypeId} {x : AV} {v : Value} {K : AV → Prop} (_hx : VR n μ I w x v)
    (hs : ∀ xs, x.listH h = some xs → ∃ a c, v = .slice a xs.length c ∧ (a = none → c = 0) ∧ xs.length ≤ c) :
    (Z0b Γ t false x h K → ∃ a cv, (binOp .eql t v (.slice none 0 0)).run P w = .ok cv w ∧ VR n μ I w a cv ∧ K a) ∧
    (Z0b Γ t true x h K → ∃ a cv, (binOp .neq t v (.slice none 0 0)).run P w = .ok cv w ∧ VR n μ I w a cv ∧ K a) := by
  have key : ∀ neg, Z0b Γ t neg x h K → ∃ (b : Bool) (p : Option Addr) (l c : Nat) (e : TypeId), P.underlying t = some (.slice e) ∧ v = .slice p l c ∧ p.isNone = b ∧ K (.p (.bool (b ^^ neg))) := by
    intro neg hk; obtain ⟨⟨e, ht⟩, hk⟩ := hk; obtain ⟨d, hu, hd⟩ := ht.und hΓ; simp only [Z7] at hd; subst hd; by_cases hn : x = .nil
    · subst hn
      cases _hx
      exact ⟨true, none, 0, 0, e, hu, rfl, rfl, by simpa using hk⟩
    have hk : (match x.listH h with
      | some (_ :: _) => K (.p (.bool neg))
      | some [] => K (.p (.bool neg)) ∧ K (.p (.bool (!neg)))
      | none => False) := by cases x <;> first | exact absurd rfl hn | exact hk
    split at hk
    · rename_i y ys hl
      obtain ⟨p, c, rfl, h1, h2⟩ := hs _ hl; refine ⟨false, p, _, c, e, hu, rfl, ?_, by simpa using hk⟩
      cases p with
      | none => have := h1 rfl; simp at h2; omega
      | some _ => rfl
    · rename_i hl
      obtain ⟨p, c, rfl, h1, h2⟩ := hs _ hl; refine ⟨p.isNone, p, _, c, e, hu, rfl, rfl, ?_⟩
      cases p <;> cases neg <;> simp_all
    · exact hk.elim
  constructor
  · intro hk
    obtain ⟨b, p, l, c, e, hu, rfl, rfl, hK⟩ := key false hk; refine ⟨_, .bool p.isNone, ?_, .mkBool _, by simpa using hK⟩; exact Lib.run_eql_slice_nil w t e p l c 0 0 hu
  · intro hk
    obtain ⟨b, p, l, c, e, hu, rfl, rfl, hK⟩ := key true hk; refine ⟨_, .bool (!p.isNone), ?_, .mkBool _, by simpa using hK⟩; exact run_neq_slice_nil_any w t e p l c 0 0 hu
end
end Go.AM
