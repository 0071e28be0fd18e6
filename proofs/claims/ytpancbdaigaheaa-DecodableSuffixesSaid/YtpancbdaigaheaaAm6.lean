/-
  AM 6: the operations that make memory or write it: variables, stores, slices, append.
-/
import Derived.Test.YtpancbdaigaheaaAm5
namespace Go.AM
open Go.RowKit

def putD (tm : List AV) (d : Option Nat) (v : AV) : List AV := match d with | some d => tm.set d v | none => tm

section
variable {P : Program} {X : Ctx} {I : Nat → Prop} {μ : Nat → Value} {ob : Nat → Option Nat} {w w' : World} {a : Act} {tm : List AV} {h : List AObj}

theorem Rep.put (R : Rep X I μ ob ⟨tm, h⟩ w a) {v : AV} {cv : Value} (hv : VR h.length μ I w v cv) (d : Option Nat) : Rep X I μ ob ⟨putD tm d v, h⟩ w (a.put d cv) := by
  cases d with
  | none => exact R
  | some d =>
    refine { toRepH := R.toRepH, size := ?_, tmps := ?_, marks := R.marks }
    · simpa [putD, Act.put] using R.size
    · intro i hi
      have hs : tm.length = a.tmps.size := R.size
      simp only [putD, List.length_set] at hi
      simp only [putD, Act.put]
      by_cases e : d = i
      · subst e
        have e1 : (tm.set d v).getD d .junk = v := by simp [List.getD_eq_getElem?_getD, hi]
        have e2 : (a.tmps.setIfInBounds d cv).getD d undef = cv := by simp [Array.getD, show d < a.tmps.size by omega]
        rw [e1, e2]; exact hv
      · have e1 : (tm.set d v).getD i .junk = tm.getD i .junk := by simp [List.getD_eq_getElem?_getD, List.getElem?_set_ne e]
        have e2 : (a.tmps.setIfInBounds d cv).getD i undef = a.tmps.getD i undef := by
          simp [Array.getD, show i < a.tmps.size by omega, e]
        rw [e1, e2]; exact R.tmps i hi

theorem Rep.evs (R : Rep X I μ ob ⟨tm, h⟩ w a) (x : Operand) : VR h.length μ I w (ev tm x) (a.eval x) := VR.ev R.tmps x

/-- What a step leaves: a related state, in which no more than before is taken back. -/
def Leaves (X : Ctx) (I : Nat → Prop) (μ : Nat → Value) (n : Nat) (st : St) (w : World) (a : Act) : Prop :=
  ∃ I' μ' ob', (∀ g, I g → I' g) ∧ Rep X I' μ' ob' st w a ∧ (∀ b, b < n → ¬ X.may b → μ' b = μ b)

theorem Rep.grow {I' : Nat → Prop} (R : Rep X I μ ob ⟨tm, h⟩ w a) (hg : w.grownBy w' none) (hI : ∀ g, I g → I' g) (hn : ∀ g, I' g → I g ∨ (w.heap.size ≤ g ∧ g < w'.heap.size)) : Rep X I' μ ob ⟨tm, h⟩ w' a :=
  { toRepH := R.toRepH.grow hg hI hn, size := R.size, marks := R.marks.keep hg (fun _ e => by cases e) (fun g h => (hn g h).imp id (fun h => h.1)) (fun b g h => .inl ⟨b, h⟩), tmps := fun i hi => (R.tmps i hi).mono (Nat.le_refl _) (fun _ _ => rfl) hI (fun g h => hg.block g (R.imm g h) (by simp)) }

theorem Rep.name (R : Rep X I μ ob ⟨tm, h⟩ w a) (hg : w.grownBy w' none) {v : Value} {g : Option Nat} {o : AObj} (hgn : ∀ k, g = some k → w.heap.size ≤ k ∧ k < w'.heap.size)
    (ho : ObjOK (h.length + 1) (upd μ h.length v) I (upd ob h.length g) w' h.length o) : Rep X I (upd μ h.length v) (upd ob h.length g) ⟨tm, h ++ [o]⟩ w' a :=
  { toRepH := R.toRepH.name hg hgn ho, size := R.size, marks := R.marks.keep hg (fun _ e => by cases e) (fun g h => .inl h) (fun b k hb => by
      by_cases e : b = h.length
      · subst e; rw [upd_same] at hb; exact .inr (hgn k hb).1
      · rw [upd_other _ _ e] at hb; exact .inl ⟨b, hb⟩), tmps := fun i hi => by
      have := (R.tmps i hi).mono (n' := h.length + 1) (μ' := upd μ h.length v) (w' := w') (Nat.le_succ _) (fun c hc => upd_other _ _ (by have : c < h.length := hc; omega)) (fun _ h => h) (fun g h => hg.block g (R.imm g h) (by simp))
      simpa using this }

theorem Rep.write (R : Rep X I μ ob ⟨tm, h⟩ w a) {b0 g0 : Nat} {o : AObj} (hb0 : b0 < h.length) (hob : ob b0 = some g0) (hg : w.grownBy w' (some g0)) (ho : ObjOK h.length μ I ob w' b0 o) :
    Rep X I μ ob ⟨tm, h.set b0 o⟩ w' a :=
  { toRepH := R.toRepH.write hb0 hob hg ho, size := R.size, marks := R.marks.keep hg (fun r e => by injection e with e; subst e; exact ⟨b0, hob⟩) (fun g h => .inl h) (fun b g h => .inl ⟨b, h⟩), tmps := fun i hi => by
      have := (R.tmps i hi).mono (n' := h.length) (μ' := μ) (I' := I) (w' := w') (Nat.le_refl _) (fun _ _ => rfl) (fun _ h => h) (fun g h => hg.block g (R.imm g h) (fun e => by injection e with e; subst e; exact (R.own b0 g hob).1 h))
      simpa using this }

theorem Rep.move (R : Rep X I μ ob ⟨tm, h⟩ w a) {b0 : Nat} {o : AObj} (hb0 : b0 < h.length) (hmay : X.may b0) (hg : w.grownBy w' (ob b0)) {v : Value} {g : Option Nat}
    (hgn : ∀ k, g = some k → (ob b0 = some k ∨ w.heap.size ≤ k) ∧ k < w'.heap.size) (ho : ObjOK h.length (upd μ b0 v) I (upd ob b0 g) w' b0 o) :
    Rep X I (upd μ b0 v) (upd ob b0 g) ⟨tm.map (AV.kill b0), (h.map (AObj.kill b0)).set b0 o⟩ w' a :=
  { toRepH := R.toRepH.move hb0 hmay hg hgn ho, size := by simpa using R.size, marks := R.marks.keep hg (fun r e => ⟨b0, e⟩) (fun g h => .inl h) (fun b k hb => by
      by_cases e : b = b0
      · subst e; rw [upd_same] at hb; exact ((hgn k hb).1).imp (fun h => ⟨_, h⟩) id
      · rw [upd_other _ _ e] at hb; exact .inl ⟨b, hb⟩), tmps := fun i hi => by
      simp only [List.length_map] at hi
      have := (R.tmps i hi).kill (n' := h.length) (μ' := upd μ b0 v) (I' := I) (w' := w') b0 (Nat.le_refl _) (fun c _ hc => upd_other _ _ hc) (fun _ h => h) (fun g h => hg.block g (R.imm g h) (fun e => (R.own b0 g e.symm).1 h))
      simpa [List.getD_eq_getElem?_getD, List.getElem?_map, List.getElem?_eq_getElem hi] using this }

/-- A step's outcome: the model's run gives a value (or nothing) and a world, and they are as the layer says. -/
def StepOK (P : Program) (X : Ctx) (I : Nat → Prop) (μ : Nat → Value) (n : Nat) (r : Sem Value) (w : World) (a : Act) (d : Option Nat) (K : St → Prop) : Prop :=
  ∃ cv w' st', r.run P w = .ok cv w' ∧ Leaves X I μ n st' w' (a.put d cv) ∧ K st'

theorem StepOK.pure {r : Sem Value} {d : Option Nat} {K : St → Prop} (R : Rep X I μ ob ⟨tm, h⟩ w a) {v : AV} {cv : Value} (hr : r.run P w = .ok cv w) (hv : VR h.length μ I w v cv)
    (hk : K ⟨putD tm d v, h⟩) : StepOK P X I μ h.length r w a d K :=
  ⟨cv, w, _, hr, ⟨I, μ, ob, fun _ h => h, R.put hv d, fun _ _ _ => rfl⟩, hk⟩

theorem not_may_len {h : List AObj} {μ : Nat → Value} {b : Nat} (hb : b < h.length) (v : Value) : upd μ h.length v b = μ b := upd_other _ _ (by omega)

/-! a new variable -/
def boxK (tm : List AV) (h : List AObj) (d : Option Nat) (x : AV) (K : St → Prop) : Prop :=
  match x.cellL with
  | some l => K ⟨putD tm d (.ptr h.length 0), h ++ [.box l]⟩
  | none => False

theorem box_ok {t : TypeId} {x : AV} {v : Value} {d : Option Nat} {K : St → Prop} (R : Rep X I μ ob ⟨tm, h⟩ w a) (hx : VR h.length μ I w x v) (hk : boxK tm h d x K) :
    StepOK P X I μ h.length (do pure (.pointer (some (← newVar t v)))) w a d K := by
  unfold boxK at hk
  split at hk
  · rename_i l hl
    obtain ⟨hs, hc⟩ := hx.cellL hl
    have hg : w.grownBy (w.alloc (.cells v.cells t)) none := World.grownBy_alloc w _ none
    have hnew := heap_alloc_new w (.cells v.cells t)
    have R1 := R.name (v := .pointer (some ⟨w.heap.size, 0, none⟩)) (g := some w.heap.size) (o := .box l) hg (fun k e => by injection e with e; subst e; simp) (by
      refine ⟨w.heap.size, t, v.cells, by simp, by simp, hnew, hs.symm, fun i hi => ?_⟩
      exact (hc i hi).mono (Nat.le_succ _) (fun c hc => upd_other _ _ (by omega)) (fun _ h => h) (fun g h => hg.block g (R.imm g h) (by simp)))
    have R2 := R1.put (v := .ptr h.length 0) (cv := .pointer (some ⟨w.heap.size, 0, none⟩)) (.ptr _ _ _ (by simp) (by simp)) d
    exact ⟨_, _, _, by simp [newVar, newRow], ⟨_, _, _, fun _ h => h, R2, fun b hb _ => not_may_len hb _⟩, hk⟩
  · exact hk.elim

def allocK (Γ : Gam) (tm : List AV) (h : List AObj) (d : Option Nat) (t : TypeId) (K : St → Prop) : Prop :=
  tyAt Γ t fun te => (match te.zero with | some z => boxK tm h d z K | none => False)

theorem alloc_ok {Γ : Gam} (hΓ : GamOK P Γ) {t : TypeId} {d : Option Nat} {K : St → Prop} (R : Rep X I μ ob ⟨tm, h⟩ w a) (hk : allocK Γ tm h d t K) :
    StepOK P X I μ h.length (Instr.alloc t true (.tuple #[])) w a d K := by
  unfold allocK at hk
  obtain ⟨te, ht, hk⟩ := hk.get
  split at hk
  · rename_i z hz
    obtain ⟨i, hi, _, _, hzero⟩ := (hΓ _ _ ht).info
    obtain ⟨zv, hzv, hplain, _⟩ := hzero z hz
    obtain ⟨cv, w', st', hr, hl, hK⟩ := box_ok (P := P) (t := t) R (hplain _ _ _ _) hk
    refine ⟨cv, w', st', ?_, hl, hK⟩
    simpa [Instr.alloc, zeroValue, typeInfo, hi, hzv] using hr
  · exact hk.elim

/-! a store into a variable -/
def setL (cs : List AV) (off : Nat) : List AV → List AV
  | [] => cs
  | v :: l => setL (cs.set off v) (off + 1) l

theorem setL_length (cs : List AV) (off : Nat) (l : List AV) : (setL cs off l).length = cs.length := by
  induction l generalizing cs off with
  | nil => rfl
  | cons v l ih => simp [setL, ih]

theorem setL_getD (cs l : List AV) (off i : Nat) (hi : i < cs.length) : (setL cs off l).getD i .junk = if off ≤ i ∧ i < off + l.length then l.getD (i - off) .junk else cs.getD i .junk := by
  induction l generalizing cs off with
  | nil => rw [if_neg (by simp only [List.length_nil]; omega)]; rfl
  | cons v l ih =>
    simp only [setL]
    rw [ih _ _ (by simpa using hi)]
    by_cases h1 : off + 1 ≤ i ∧ i < off + 1 + l.length
    · rw [if_pos h1, if_pos (by simp only [List.length_cons]; omega), show i - off = (i - (off + 1)) + 1 by omega]; simp
    · rw [if_neg h1]
      by_cases h2 : i = off
      · subst h2
        rw [if_pos (by simp only [List.length_cons]; omega)]
        simp [List.getD_eq_getElem?_getD, hi]
      · rw [if_neg (by simp only [List.length_cons]; omega)]
        simp [List.getD_eq_getElem?_getD, List.getElem?_set_ne (fun e => h2 e.symm)]

def AV.one : AV → Bool
  | .junk | .agg _ | .tup _ | .p (.agg _) => false
  | _ => true

theorem VR.one' {n : Nat} {x : AV} {v : Value} (hx : VR n μ I w x v) (h : x.one = true) : v.oneCell' = true := by
  cases hx with
  | p x v h' => cases h' <;> first | rfl | simp [AV.one] at h
  | cell v h' => exact h'
  | _ => first | rfl | simp [AV.one] at h

def AV.pv : AV → Option PV
  | .p v => some v
  | _ => none
theorem AV.pv_eq {x : AV} {v : PV} (h : x.pv = some v) : x = .p v := by cases x <;> simp [AV.pv] at h; rw [h]

def storeK (Γ : Gam) (tm : List AV) (h : List AObj) (t : TypeId) (x y : AV) (K : St → Prop) : Prop :=
  tyAt Γ t fun te =>
  match x with
  | .ptr b off => (match h[b]?, y.cellL with
    | some (.box cs), some l => (l.length = te.cells ∧ off + l.length ≤ cs.length ∧ l.all AV.one = true) ∧ K ⟨tm, h.set b (.box (setL cs off l))⟩
    | _, _ => False)
  | .eptr b s i f => (match h[b]?, y.pv with
    | some (.row E s' xs k), some v => (k = .own ∧ s' = s ∧ f = 0 ∧ i < xs.length ∧ v.cells.length = s ∧ te.cells = s ∧ v.cells.all (AV.one ∘ AV.p) = true) ∧ K ⟨tm, h.set b (.row E s (xs.set i v) k)⟩
    | _, _ => False)
  | _ => False

theorem grownBy_setRow (w : World) (g : Nat) (cs : Array Value) : w.grownBy (w.setRow g cs) (some g) :=
  ⟨rfl, rfl, rfl, by simp, fun k _ hk => setRow_other w g k _ (fun e => hk (by rw [e]))⟩

theorem run_storeAt (t : TypeId) (i : TypeInfo) (hi : P.info? t = some i) (g o : Nat) (T : TypeId) (v : Value) (cur : Array Value) (hw : w.heap[g]? = some (.cells cur T (0, 0)))
    (hs : v.cells.size = i.size) (ho : o + v.cells.size ≤ cur.size) (h1 : ∀ u ∈ v.cells.toList, u.oneCell' = true) :
    (Instr.storeAt t (.pointer (some ⟨g, o, none⟩)) v).run P w = .ok () (w.setRow g (cur.toList.take o ++ v.cells.toList ++ cur.toList.drop (o + v.cells.size)).toArray) := by
  have hst := run_storeCells_at P g o T v.cells.toList 0 cur w hw (by simpa using ho) h1
  simp only [Nat.add_zero, Array.length_toList] at hst
  simp [Instr.storeAt, Instr.sureAddr, storeVar, sizeOf, typeInfo, hi, hs, hst]

theorem getD_splice {α : Type} (cur vs : List α) (o : Nat) (i : Nat) (d : α) (ho : o + vs.length ≤ cur.length) :
    (cur.take o ++ vs ++ cur.drop (o + vs.length)).getD i d = if o ≤ i ∧ i < o + vs.length then vs.getD (i - o) d else cur.getD i d := by
  have ht : (cur.take o).length = o := by simp only [List.length_take]; omega
  by_cases h1 : i < o
  · rw [if_neg (by omega)]
    simp only [List.getD_eq_getElem?_getD]
    rw [List.append_assoc, List.getElem?_append_left (by omega), List.getElem?_take, if_pos h1]
  · by_cases h2 : i < o + vs.length
    · rw [if_pos (by omega)]
      simp only [List.getD_eq_getElem?_getD]
      rw [List.append_assoc, List.getElem?_append_right (by omega), ht, List.getElem?_append_left (by omega)]
    · rw [if_neg (by omega)]
      simp only [List.getD_eq_getElem?_getD]
      rw [List.getElem?_append_right (by simp only [List.length_append]; omega), List.getElem?_drop]
      congr 2; simp only [List.length_append]; omega

theorem cellL_one {n : Nat} {y : AV} {v : Value} {l : List AV} (hy : VR n μ I w y v) (hl : y.cellL = some l) (h : l.all AV.one = true) : ∀ u ∈ v.cells.toList, u.oneCell' = true := by
  obtain ⟨hs, hc⟩ := hy.cellL hl
  intro u hu
  obtain ⟨i, hi, rfl⟩ := List.getElem_of_mem hu
  have hi' : i < v.cells.size := by simpa using hi
  have h1 := hc i (by omega)
  have e : v.cells.getD i undef = v.cells.toList[i] := by simp [Array.getD, hi']
  rw [e] at h1
  refine h1.one' ?_
  have := List.all_eq_true.1 h (l.getD i .junk) (by
    rw [List.getD_eq_getElem?_getD, List.getElem?_eq_getElem (by omega), Option.getD_some]; exact List.getElem_mem _)
  exact this

theorem flats_set {xs : List PV} {s i : Nat} {v : PV} (hs : ∀ x ∈ xs, x.cells.length = s) (hv : v.cells.length = s) (hi : i < xs.length) (j : Nat) (hj : j < xs.length * s) :
    (flats (xs.set i v)).getD j default = if i * s ≤ j ∧ j < i * s + s then v.cells.getD (j - i * s) default else (flats xs).getD j default := by
  have hs' : ∀ x ∈ xs.set i v, x.cells.length = s := fun x hx => by
    rcases List.mem_or_eq_of_mem_set hx with h | h
    · exact hs x h
    · rw [h]; exact hv
  have h0 : 0 < s := by
    rcases Nat.eq_zero_or_pos s with h | h
    · subst h; simp at hj
    · exact h
  have hq : j / s < xs.length := Nat.div_lt_of_lt_mul (by rw [Nat.mul_comm]; exact hj)
  have hr : j % s < s := Nat.mod_lt _ h0
  have hjq : j = (j / s) * s + j % s := by rw [Nat.mul_comm]; exact (Nat.div_add_mod j s).symm
  have e1 := flats_getD hs' (i := j / s) (j := j % s) (by simpa using hq) hr
  have e2 := flats_getD hs (i := j / s) (j := j % s) hq hr
  rw [← hjq] at e1 e2
  rw [e1, e2]
  by_cases e : j / s = i
  · have h1 : i * s ≤ j ∧ j < i * s + s := by subst e; omega
    rw [if_pos h1, e]
    have : j - i * s = j % s := by subst e; omega
    rw [this]
    simp [List.getD_eq_getElem?_getD, hi]
  · have h1 : ¬ (i * s ≤ j ∧ j < i * s + s) := by
      intro hh
      have : j / s = i := by
        have h2 : i ≤ j / s := (Nat.le_div_iff_mul_le h0).2 hh.1
        have h3 : j / s < i + 1 := (Nat.div_lt_iff_lt_mul h0).2 (by rw [Nat.add_mul]; omega)
        omega
      exact e this
    rw [if_neg h1]
    have : (xs.set i v).getD (j / s) default = xs.getD (j / s) default := by simp [List.getD_eq_getElem?_getD, List.getElem?_set_ne (fun h => e h.symm)]
    rw [this]

theorem store_ok {Γ : Gam} (hΓ : GamOK P Γ) {t : TypeId} {x y : AV} {vx vy : Value} {K : St → Prop} (R : Rep X I μ ob ⟨tm, h⟩ w a) (hx : VR h.length μ I w x vx) (hy : VR h.length μ I w y vy) (hk : storeK Γ tm h t x y K) :
    ∃ w' st', (Instr.storeAt t vx vy).run P w = .ok () w' ∧ Leaves X I μ h.length st' w' a ∧ K st' := by
  unfold storeK at hk
  obtain ⟨te, ht, hk⟩ := hk.get
  obtain ⟨inf, hinf, hsz, _⟩ := (hΓ _ _ ht).info
  split at hk
  · rename_i b off _
    split at hk
    · rename_i cs l hb hl
      obtain ⟨⟨h1, h2, h3⟩, hk⟩ := hk
      obtain ⟨g, T, cur, hob, hμ, hw, hlen, hcs⟩ := R.objs _ _ hb
      obtain ⟨g', rfl, hbn, h'⟩ := hx.ptr_inv
      rw [hμ] at h'; injection h' with h'; injection h' with h'; injection h' with h' _; subst h'
      obtain ⟨hs, hc⟩ := hy.cellL hl
      have hone := cellL_one hy hl h3
      have hrun := run_storeAt (P := P) t inf hinf g off T vy cur hw (by omega) (by omega) hone
      have hg := grownBy_setRow w g (cur.toList.take off ++ vy.cells.toList ++ cur.toList.drop (off + vy.cells.size)).toArray
      refine ⟨_, _, hrun, ⟨I, μ, ob, fun _ h => h, R.write hbn hob hg ?_, fun _ _ _ => rfl⟩, hk⟩
      have hnew := setRow_heap w g cur (cur.toList.take off ++ vy.cells.toList ++ cur.toList.drop (off + vy.cells.size)).toArray T (0, 0) hw
      have hIw : ∀ k, I k → (w.setRow g (cur.toList.take off ++ vy.cells.toList ++ cur.toList.drop (off + vy.cells.size)).toArray).heap[k]? = w.heap[k]? :=
        fun k hk => hg.block k (R.imm k hk) (fun e => by injection e with e; subst e; exact (R.own _ _ hob).1 hk)
      refine ⟨g, T, _, hob, hμ, hnew, ?_, fun i hi => ?_⟩
      · simp only [setL_length, List.size_toArray, List.length_append, List.length_take, List.length_drop, Array.length_toList]; omega
      · rw [setL_length] at hi
        rw [setL_getD _ _ _ _ hi]
        have e := getD_splice cur.toList vy.cells.toList off i undef (by simp only [Array.length_toList]; omega)
        simp only [Array.length_toList] at e
        have e' : ∀ L : List Value, L.toArray.getD i undef = L.getD i undef := fun L => by simp [Array.getD, List.getD_eq_getElem?_getD]; split <;> simp_all
        have e'' : ∀ (A : Array Value) j, A.toList.getD j undef = A.getD j undef := fun A j => by simp [Array.getD, List.getD_eq_getElem?_getD]; split <;> simp_all
        rw [e', e, e'', e'']
        by_cases hin : off ≤ i ∧ i < off + l.length
        · rw [if_pos hin, if_pos (by omega)]
          exact (hc _ (by omega)).mono (Nat.le_refl _) (fun _ _ => rfl) (fun _ h => h) hIw
        · rw [if_neg hin, if_neg (by omega)]
          exact (hcs i hi).mono (Nat.le_refl _) (fun _ _ => rfl) (fun _ h => h) hIw
    · exact hk.elim
  · rename_i b s i f _
    split at hk
    · rename_i E s' xs k v hb hyv
      obtain ⟨⟨hown, rfl, rfl, hi, hvl, hte, hone⟩, hK⟩ := hk
      obtain rfl := AV.pv_eq hyv
      obtain ⟨hall, hrow⟩ := R.objs _ _ hb
      obtain ⟨g, k', c, rfl, hbn, hbm⟩ := hx.eptr_inv
      rcases hrow with ⟨g', hob, cap, cur, fr, vs, hμ, hw, hfr, hfz, hle, hmax, hcs, htake, hvlen, hpr⟩ | ⟨h1, _⟩
      · rw [hbm] at hμ; injection hμ with h1 h2 h3; injection h1 with h1; injection h1 with h1 _ _; subst h1
        have hfr := hfr (by subst hown; rfl); subst hfr
        have hle' : i * s' + s' ≤ xs.length * s' := by
          have h1 : (i + 1) * s' ≤ xs.length * s' := Nat.mul_le_mul_right _ hi
          rw [Nat.add_mul, Nat.one_mul] at h1; exact h1
        have hcap : xs.length * s' ≤ cap * s' := Nat.mul_le_mul_right _ hle
        have hcl : ∃ L, (AV.p v).cellL = some L ∧ L.length = v.cells.length ∧ L.all AV.one = true ∧ ∀ j, j < v.cells.length → L.getD j .junk = .p (v.cells.getD j default) := by
          cases v with
          | agg l => exact ⟨l.map .p, rfl, by simp [PV.cells], by rw [List.all_map]; exact hone, fun j hj => getD_map_p l j hj⟩
          | _ => exact ⟨_, rfl, rfl, rfl, fun j hj => by have : j = 0 := by simpa [PV.cells] using hj
                                                         subst this; rfl⟩
        obtain ⟨L, hL, hLl, hLone, hLg⟩ := hcl
        obtain ⟨hs, hc⟩ := hy.cellL hL
        have honeC := cellL_one hy hL hLone
        have hrun := run_storeAt (P := P) t inf hinf g (i * s' + 0) E vy cur hw (by omega) (by omega) honeC
        have hg := grownBy_setRow w g (cur.toList.take (i * s' + 0) ++ vy.cells.toList ++ cur.toList.drop (i * s' + 0 + vy.cells.size)).toArray
        refine ⟨_, _, hrun, ⟨I, μ, ob, fun _ h => h, R.write hbn hob hg ?_, fun _ _ _ => rfl⟩, hK⟩
        have hnew := setRow_heap w g cur (cur.toList.take (i * s' + 0) ++ vy.cells.toList ++ cur.toList.drop (i * s' + 0 + vy.cells.size)).toArray E (0, 0) hw
        have hIw : ∀ k, I k → (w.setRow g (cur.toList.take (i * s' + 0) ++ vy.cells.toList ++ cur.toList.drop (i * s' + 0 + vy.cells.size)).toArray).heap[k]? = w.heap[k]? :=
          fun k hk => hg.block k (R.imm k hk) (fun e => by injection e with e; subst e; exact (R.own _ _ hob).1 hk)
        refine ⟨fun x hx => ?_, .inl ⟨g, hob, cap, _, (0, 0), _, ?_, hnew, fun _ => rfl, fun j _ => by simp, by simpa using hle, hmax, ?_, rfl, ?_, fun j hj => ?_⟩⟩
        · rcases List.mem_or_eq_of_mem_set hx with h | h
          · exact hall x h
          · rw [h]; exact hvl
        · rw [hbm]; subst h2 h3; simp
        · simp only [List.size_toArray, List.length_append, List.length_take, List.length_drop, Array.length_toList]; omega
        · simp only [List.length_set, List.length_take, List.length_append, List.length_drop, Array.length_toList]; omega
        · simp only [List.length_set] at hj ⊢
          rw [flats_set hall hvl hi j hj]
          have e := getD_splice cur.toList vy.cells.toList (i * s' + 0) j undef (by simp only [Array.length_toList]; omega)
          simp only [Array.length_toList] at e
          have e0 : ((cur.toList.take (i * s' + 0) ++ vy.cells.toList ++ cur.toList.drop (i * s' + 0 + vy.cells.size)).take (xs.length * s')).getD j undef = (cur.toList.take (i * s' + 0) ++ vy.cells.toList ++ cur.toList.drop (i * s' + 0 + vy.cells.size)).getD j undef := by
            simp only [List.getD_eq_getElem?_getD, List.getElem?_take, if_pos hj]
          rw [e0, e]
          have e'' : ∀ (A : Array Value) j, A.toList.getD j undef = A.getD j undef := fun A j => by simp [Array.getD, List.getD_eq_getElem?_getD]; split <;> simp_all
          have ev : cur.toList.getD j undef = vs.getD j undef := by
            rw [← htake]; simp only [List.getD_eq_getElem?_getD, List.getElem?_take, if_pos hj]
          by_cases hin : i * s' ≤ j ∧ j < i * s' + s'
          · rw [if_pos hin, if_pos (by omega), e'']
            have h1 := (hc (j - i * s') (by omega)).mono (Nat.le_refl _) (fun _ _ => rfl) (fun _ h => h) hIw
            rw [hLg _ (by omega)] at h1
            cases h1 with | p _ _ h1 => exact h1
          · rw [if_neg hin, if_neg (by omega), ev]
            exact (hpr j hj).mono (fun _ h => h) hIw
      · exact absurd h1 (by rw [hown]; simp)
    · exact hk.elim
  · exact hk.elim
end
end Go.AM
