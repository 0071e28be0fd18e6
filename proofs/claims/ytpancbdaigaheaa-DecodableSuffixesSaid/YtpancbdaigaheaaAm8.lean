/-
  AM 8: slice literals, struct literals, make.
-/
import Derived.Test.YtpancbdaigaheaaAm7
namespace Go.AM
open Go.RowKit
section
variable {P : Program} {X : Ctx} {I : Nat → Prop} {μ : Nat → Value} {ob : Nat → Option Nat} {w w' : World} {a : Act} {tm : List AV} {h : List AObj} {n : Nat}

theorem agetD (A : Array Value) (i : Nat) : A.getD i undef = A.toList.getD i undef := by
  simp [Array.getD, List.getD_eq_getElem?_getD]; split <;> simp_all

theorem foldSet (vs : List Value) : ∀ (k off : Nat) (A : List Value),
    ((vs.zipIdx k).foldl (fun cs (c : Value × Nat) => cs.set (off + c.2) c.1) A).length = A.length ∧
    ∀ i, i < A.length → ((vs.zipIdx k).foldl (fun cs (c : Value × Nat) => cs.set (off + c.2) c.1) A).getD i undef = if off + k ≤ i ∧ i < off + k + vs.length then vs.getD (i - (off + k)) undef else A.getD i undef := by
  induction vs with
  | nil => intro k off A; refine ⟨rfl, fun i hi => ?_⟩; rw [if_neg (by simp only [List.length_nil]; omega)]; rfl
  | cons v vs ih =>
    intro k off A
    simp only [List.zipIdx_cons, List.foldl_cons]
    obtain ⟨h1, h2⟩ := ih (k + 1) off (A.set (off + k) v)
    refine ⟨by rw [h1]; simp, fun i hi => ?_⟩
    rw [h2 i (by simpa using hi)]
    by_cases c1 : off + (k + 1) ≤ i ∧ i < off + (k + 1) + vs.length
    · rw [if_pos c1, if_pos (by simp only [List.length_cons]; omega), show i - (off + k) = (i - (off + (k + 1))) + 1 by omega]; simp
    · rw [if_neg c1]
      by_cases c2 : i = off + k
      · subst c2
        rw [if_pos (by simp only [List.length_cons]; omega)]
        simp [List.getD_eq_getElem?_getD, hi]
      · rw [if_neg (by simp only [List.length_cons]; omega)]
        simp [List.getD_eq_getElem?_getD, List.getElem?_set_ne (fun e => c2 e.symm)]

theorem foldSet_arr (v : Array Value) (off : Nat) (A : Array Value) :
    (v.zipIdx.foldl (fun cs (c : Value × Nat) => cs.setIfInBounds (off + c.2) c.1) A).toList = (v.toList.zipIdx.foldl (fun cs (c : Value × Nat) => cs.set (off + c.2) c.1) A.toList) := by
  rw [← Array.foldl_toList, Array.toList_zipIdx]
  generalize v.toList.zipIdx 0 = L
  induction L generalizing A with
  | nil => rfl
  | cons c L ih => simp only [List.foldl_cons]; rw [ih]; simp

/-- The parts of a literal, filled in one behind the other. -/
theorem fill_ok (place : Nat → Option (Nat × Nat)) (s : Nat) : ∀ (vs : List Value) (k : Nat) (A : Array Value), (∀ i, k ≤ i → i < k + vs.length → place i = some (i * s, s)) →
    (∀ v ∈ vs, v.cells.size = s) → (k + vs.length) * s ≤ A.size →
    ∃ B, Instr.fill place A ((List.range' k vs.length).zip vs) = some B ∧ B.size = A.size ∧ ∀ i, i < A.size → B.toList.getD i undef =
      if k * s ≤ i ∧ i < (k + vs.length) * s then (vs.getD (i / s - k) undef).cells.toList.getD (i % s) undef else A.toList.getD i undef
  | [], k, A, _, _, _ => ⟨A, rfl, rfl, fun i _ => by rw [if_neg (by simp only [List.length_nil, Nat.add_zero]; omega)]⟩
  | v :: vs, k, A, hp, hs, hle => by
    have h1 := hp k (Nat.le_refl _) (by simp)
    have h2 := hs v (by simp)
    have hk1 : (k + 1 + vs.length) * s ≤ A.size := by
      have e : k + 1 + vs.length = k + (v :: vs).length := by simp only [List.length_cons]; omega
      rw [e]; exact hle
    have hks : k * s + s ≤ A.size := by
      have := Nat.mul_le_mul_right s (show k + 1 ≤ k + 1 + vs.length by omega)
      rw [Nat.add_mul, Nat.one_mul] at this; omega
    let A' := v.cells.zipIdx.foldl (fun cs (c : Value × Nat) => cs.setIfInBounds (k * s + c.2) c.1) A
    have hA' : A'.toList = _ := foldSet_arr v.cells (k * s) A
    obtain ⟨f1, f2⟩ := foldSet v.cells.toList 0 (k * s) A.toList
    have hsz : A'.size = A.size := by rw [← Array.length_toList, hA', f1, Array.length_toList]
    obtain ⟨B, e1, e2, e3⟩ := fill_ok place s vs (k + 1) A' (fun i hi hi' => hp i (by omega) (by simp only [List.length_cons]; omega)) (fun u hu => hs u (by simp [hu])) (by rw [hsz]; exact hk1)
    refine ⟨B, ?_, e2.trans hsz, fun i hi => ?_⟩
    · simp only [List.length_cons, List.range'_succ, List.zip_cons_cons, Instr.fill, h1, h2]
      rw [if_neg (by simp only [ne_eq, not_true_eq_false, Bool.or_eq_true, decide_eq_true_eq, false_or]; omega)]
      exact e1
    · rw [e3 i (by rw [hsz]; exact hi), hA', f2 i (by simpa using hi)]
      have h0 : 0 < s ∨ s = 0 := by omega
      have hl : (v :: vs).length = vs.length + 1 := rfl
      have hm : (k + (v :: vs).length) * s = (k + 1 + vs.length) * s := by rw [hl]; congr 1; omega
      rw [hm]
      have hk1' : (k + 1) * s = k * s + s := by rw [Nat.add_mul, Nat.one_mul]
      by_cases c1 : (k + 1) * s ≤ i ∧ i < (k + 1 + vs.length) * s
      · rw [if_pos c1, if_pos (by omega)]
        have hs0 : 0 < s := by
          rcases h0 with h | h
          · exact h
          · subst h; simp at c1
        have : k + 1 ≤ i / s := (Nat.le_div_iff_mul_le hs0).2 c1.1
        rw [show i / s - k = (i / s - (k + 1)) + 1 by omega]; simp
      · rw [if_neg c1]
        simp only [Nat.add_zero, Array.length_toList, h2]
        by_cases c2 : k * s ≤ i ∧ i < k * s + s
        · rw [if_pos c2]
          have hle' : (k + 1) * s ≤ (k + 1 + vs.length) * s := Nat.mul_le_mul_right _ (by omega)
          rw [if_pos (by omega)]
          have hs0 : 0 < s := by omega
          have hd : i / s = k := by
            have h2 : k ≤ i / s := (Nat.le_div_iff_mul_le hs0).2 c2.1
            have h3 : i / s < k + 1 := (Nat.div_lt_iff_lt_mul hs0).2 (by rw [hk1']; exact c2.2)
            omega
          have hmod : i % s = i - k * s := by
            have := Nat.div_add_mod i s
            rw [hd, Nat.mul_comm] at this; omega
          rw [hd, Nat.sub_self, hmod]; rfl
        · rw [if_neg c2, if_neg (by omega)]

/-! a slice literal -/
def partsIn : Nat → List (Nat × AV) → Option (List PV)
  | _, [] => some []
  | k, (i, v) :: l => if i = k then (match v.pure, partsIn (k + 1) l with
    | some p, some ps => some (p :: ps)
    | _, _ => none) else none

theorem zip_parts {α β : Type} (l : List (α × β)) : (l.map (·.1)).zip (l.map (·.2)) = l := by
  induction l with
  | nil => rfl
  | cons c l ih => simp only [List.map_cons, List.zip_cons_cons]; rw [ih]

theorem partsIn_ok : ∀ (k : Nat) (L : List (Nat × AV)) (ps : List PV), partsIn k L = some ps → L.map (·.1) = List.range' k ps.length ∧ L.length = ps.length ∧
    ∀ i, i < L.length → AV.pure (List.getD (L.map fun x : Nat × AV => x.2) i AV.junk) = some (ps.getD i default)
  | k, [], ps, h => by simp only [partsIn, Option.some.injEq] at h; subst h; simp
  | k, (i, v) :: l, ps, h => by
    simp only [partsIn] at h
    split at h
    · rename_i hik; subst hik
      split at h
      · rename_i p ps' hp hps
        simp only [Option.some.injEq] at h; subst h
        obtain ⟨e1, e2, e3⟩ := partsIn_ok _ l ps' hps
        refine ⟨by simp [e1, List.range'_succ], by simp [e2], fun j hj => ?_⟩
        cases j with
        | zero => simpa using hp
        | succ j => simpa using e3 j (by simpa using hj)
      · cases h
    · cases h

def bsK (Γ : Gam) (tm : List AV) (h : List AObj) (d : Option Nat) (t : TypeId) (len : Nat) (parts : List (Nat × AV)) (K : St → Prop) : Prop :=
  tyAt Γ t fun te => (match te.td with
    | .slice e => tyAt Γ e fun ee => (match partsIn 0 parts with
      | some ps => (ps.length = len ∧ ee.zero.isSome = true ∧ sizeOK ps ee.cells ∧ len * ee.cells ≤ 16777216) ∧ K ⟨putD tm d (.full ps), h⟩
      | none => False)
    | _ => False)

theorem bs_ok {Γ : Gam} (hΓ : GamOK P Γ) {t : TypeId} {len : Nat} {parts : List (Nat × AV)} {cparts : List (Nat × Value)} {d : Option Nat} {K : St → Prop} (R : Rep X I μ ob ⟨tm, h⟩ w a)
    (hl : parts.map (·.1) = cparts.map (·.1)) (hv : ∀ i, i < parts.length → VR h.length μ I w ((parts.map (·.2)).getD i .junk) ((cparts.map (·.2)).getD i undef))
    (hk : bsK Γ tm h d t len parts K) : StepOK P X I μ h.length (Instr.buildSlice t len cparts.toArray) w a d K := by
  unfold bsK at hk
  obtain ⟨te, ht, hk⟩ := hk.get
  split at hk
  · rename_i e he
    obtain ⟨ee, hee, hk⟩ := hk.get
    split at hk
    · rename_i ps hps
      obtain ⟨⟨hlen, hz, hsz, hcells⟩, hK⟩ := hk
      obtain ⟨dd, hu, hd, _⟩ := (hΓ _ _ ht).desc
      rw [he] at hd; simp only [descOK] at hd; subst hd
      obtain ⟨inf, hinf, hisz, _, hzero⟩ := (hΓ _ _ hee).info
      obtain ⟨z, hz'⟩ := Option.isSome_iff_exists.1 hz
      obtain ⟨zv, hzv, _, hzs⟩ := hzero z hz'
      obtain ⟨p1, p2, p3⟩ := partsIn_ok 0 parts ps hps
      have hpl : cparts.length = parts.length := by have := congrArg List.length hl; simpa using this.symm
      have hvp : ∀ i, i < ps.length → PR I w (ps.getD i default) ((cparts.map (·.2)).getD i undef) := fun i hi => (hv i (by omega)).pure (p3 i (by omega))
      have hcs : ∀ v ∈ cparts.map (·.2), v.cells.size = ee.cells := by
        intro v hv'
        obtain ⟨i, hi, rfl⟩ := List.getElem_of_mem hv'
        have hi' : i < ps.length := by simp only [List.length_map] at hi; omega
        have h1 := VR.p (n := 0) (μ := μ) _ _ (hvp i hi')
        have e1 : (cparts.map (·.2)).getD i undef = (cparts.map (·.2))[i] := by simp only [List.getD_eq_getElem?_getD, List.getElem?_eq_getElem hi, Option.getD_some]
        rw [e1] at h1
        have hs := hsz (ps.getD i default) (by rw [List.getD_eq_getElem?_getD, List.getElem?_eq_getElem hi', Option.getD_some]; exact List.getElem_mem _)
        have hcl : ∃ L, (AV.p (ps.getD i default)).cellL = some L ∧ L.length = (ps.getD i default).cells.length := by
          cases ps.getD i default with
          | agg l => exact ⟨l.map .p, rfl, by simp [PV.cells]⟩
          | _ => exact ⟨_, rfl, rfl⟩
        obtain ⟨L, hL, hLl⟩ := hcl
        obtain ⟨hs1, _⟩ := h1.cellL hL
        omega
      have hinit : ∀ m : Nat, ((Array.range m).map fun i => zv.cells[i % zv.cells.size]!).size = m := fun m => by simp
      have hzip : cparts = (List.range' 0 (cparts.map (·.2)).length).zip (cparts.map (·.2)) := by
        have h1 : cparts.map (·.1) = List.range' 0 (cparts.map (·.2)).length := by rw [← hl, p1]; congr 1; simp only [List.length_map]; omega
        rw [← h1]; exact (zip_parts cparts).symm
      have hll : (cparts.map (·.2)).length = len := by simp only [List.length_map]; omega
      -- the cells
      have hrun : ∃ B : Array Value, B.size = len * ee.cells ∧ (∀ i, i < len * ee.cells → B.toList.getD i undef = ((cparts.map (·.2)).getD (i / ee.cells) undef).cells.toList.getD (i % ee.cells) undef) ∧
          (Instr.buildSlice t len cparts.toArray).run P w = .ok (.slice (some ⟨w.heap.size, 0, none⟩) len len) (w.alloc (.cells B e)) := by
        let init : Array Value := if len * ee.cells = 0 then (Array.range (len * ee.cells)).map (fun i => (#[] : Array Value)[i % (#[] : Array Value).size]!) else (Array.range (len * ee.cells)).map (fun i => zv.cells[i % zv.cells.size]!)
        have hsi : init.size = len * ee.cells := by
          show (if _ then _ else _ : Array Value).size = _
          split <;> simp
        obtain ⟨B, b1, b2, b3⟩ := fill_ok (fun i => some (i * ee.cells, ee.cells)) ee.cells (cparts.map (·.2)) 0 init (fun _ _ _ => rfl) hcs (by rw [hll, hsi]; simp)
        rw [← hzip] at b1
        refine ⟨B, b2.trans hsi, fun i hi => ?_, ?_⟩
        · rw [b3 i (by rw [hsi]; exact hi), if_pos (by rw [hll]; simpa using hi)]; simp
        · have hgt : ¬ (2 ^ 24 < len * ee.cells) := by omega
          by_cases h0 : len * ee.cells = 0
          · have e0 : init = #[] := Array.eq_empty_of_size_eq_zero (by rw [hsi]; exact h0)
            rw [e0] at b1
            simp only [Instr.buildSlice, Sem.run_bind, run_underlying hu, Result.andThen, sizeOf, typeInfo, run_program, hinf, Sem.run_pure, hisz, gt_iff_lt, h0, if_true]
            simp [Array.range_zero', b1, newRow]
          · have e0 : init = (Array.range (len * ee.cells)).map (fun i => zv.cells[i % zv.cells.size]!) := if_neg h0
            rw [e0] at b1
            simp only [Instr.buildSlice, Sem.run_bind, run_underlying hu, Result.andThen, sizeOf, typeInfo, run_program, hinf, Sem.run_pure, hisz, gt_iff_lt, hgt, if_false, h0, zeroValue, hzv]
            simp only [b1]
            simp [newRow]
      obtain ⟨B, hB, hBc, hrun⟩ := hrun
      have hg : w.grownBy (w.alloc (.cells B e)) none := World.grownBy_alloc w _ none
      have R1 := R.grow (I' := fun g => I g ∨ g = w.heap.size) hg (fun g h => .inl h) (fun g h => h.elim .inl (fun e => .inr (by subst e; simp)))
      have hnew := heap_alloc_new w (.cells B e)
      have hpr : PR (fun g => I g ∨ g = w.heap.size) (w.alloc (.cells B e)) (.sl ps) (.slice (some ⟨w.heap.size, 0, none⟩) len len) := by
        by_cases h0 : ps = []
        · subst h0; have : len = 0 := by simpa using hlen.symm
          subst this; exact .sl0 _ _ (by simp)
        · have := PR.sl (I := fun g => I g ∨ g = w.heap.size) (w := w.alloc (.cells B e)) ps ee.cells w.heap.size 0 len B e (0, 0) (fun j => B.toList.getD j undef) h0 (.inr rfl) hnew (by omega) hsz
            (fun j hj => by
              have hj' : j < B.size := by rw [hB, ← hlen]; exact hj
              simp [List.getD_eq_getElem?_getD, hj'])
            (fun i j hi hj => by
              have hj2 : i * ee.cells + j < len * ee.cells := by
                have := Nat.mul_le_mul_right ee.cells (show i + 1 ≤ len by omega)
                rw [Nat.add_mul, Nat.one_mul] at this; omega
              rw [hBc _ hj2]
              have hd : (i * ee.cells + j) / ee.cells = i := by
                rw [Nat.mul_comm, Nat.mul_add_div (by omega), Nat.div_eq_of_lt hj]; rfl
              have hm : (i * ee.cells + j) % ee.cells = j := by rw [Nat.mul_comm, Nat.mul_add_mod]; exact Nat.mod_eq_of_lt hj
              rw [hd, hm]
              have h1 := VR.p (n := 0) (μ := μ) _ _ (hvp i hi)
              have hs := hsz (ps.getD i default) (by rw [List.getD_eq_getElem?_getD, List.getElem?_eq_getElem hi, Option.getD_some]; exact List.getElem_mem _)
              have hcl : ∃ L, (AV.p (ps.getD i default)).cellL = some L ∧ L.length = (ps.getD i default).cells.length ∧ ∀ q, q < L.length → L.getD q .junk = .p ((ps.getD i default).cells.getD q default) := by
                cases ps.getD i default with
                | agg l => exact ⟨l.map .p, rfl, by simp [PV.cells], fun q hq => getD_map_p l q (by simpa using hq)⟩
                | _ => exact ⟨_, rfl, rfl, fun q hq => by
                    have : q = 0 := by simpa using hq
                    subst this; rfl⟩
              obtain ⟨L, hL, hLl, hLg⟩ := hcl
              obtain ⟨_, hs2⟩ := h1.cellL hL
              have h3 := hs2 j (by omega)
              rw [hLg j (by omega), agetD] at h3
              cases h3 with
              | p _ _ h3 => exact h3.mono (fun _ h => .inl h) (fun g hg' => hg.block g (R.imm g hg') (by simp)))
          rwa [hlen] at this
      have R2 := R1.put (v := .full ps) (cv := .slice (some ⟨w.heap.size, 0, none⟩) len len) (by rw [← hlen]; exact .full ps _ (by rw [hlen]; exact hpr)) d
      exact ⟨_, _, _, hrun, ⟨_, _, _, fun _ h => .inl h, R2, fun _ _ _ => rfl⟩, hK⟩
    · exact hk.elim
  · exact hk.elim
end
end Go.AM
