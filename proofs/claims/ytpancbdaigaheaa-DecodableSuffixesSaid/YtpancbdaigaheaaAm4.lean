/-
  AM 4: the operations that write nothing, continued: addresses, loads, indexing, slicing, struct values.
-/
import Derived.Test.YtpancbdaigaheaaAm3
namespace Go.AM
open Go.RowKit
section
variable {P : Program} {n : Nat} {μ : Nat → Value} {I : Nat → Prop} {w : World}

def tyAt (Γ : Gam) (t : TypeId) (f : TE → Prop) : Prop := match Γ t with | some te => f te | none => False
theorem tyAt.get {Γ : Gam} {t : TypeId} {f : TE → Prop} (h : tyAt Γ t f) : ∃ te, Γ t = some te ∧ f te := by
  unfold tyAt at h; split at h
  · exact ⟨_, ‹_›, h⟩
  · exact h.elim

/-! string index -/
def idxK (Γ : Gam) (t : TypeId) (x i : AV) (K : AV → Prop) : Prop :=
  match x, i with
  | .p (.str s), .p (.int _ j) => tdAt Γ t .str ∧ (0 ≤ j ∧ j < s.length) ∧ K (.p (.int .u8 (s.getD j.toNat 0).toNat))
  | _, _ => False
theorem idx_ok {Γ : Gam} (hΓ : GamOK P Γ) {t : TypeId} {x i : AV} {v vi : Value} {K : AV → Prop} (hx : VR n μ I w x v) (hi : VR n μ I w i vi) (hk : idxK Γ t x i K) :
    ∃ a cv, (Instr.index t v vi).run P w = .ok cv w ∧ VR n μ I w a cv ∧ K a := by
  unfold idxK at hk
  split at hk
  · rename_i s k j
    obtain ⟨ht, hj, hk⟩ := hk
    obtain ⟨td, hu, hd⟩ := ht.und hΓ
    simp only [descOK] at hd; subst hd
    obtain ⟨b, rfl, rfl⟩ := hx.str_inv
    rw [hi.int_inv]
    have hl : b.data.toList.length = b.size := Array.length_toList
    have hj' : 0 ≤ j ∧ j < b.size := by omega
    refine ⟨_, _, by rw [run_index_string (P := P) (w := w) t b k j hu, dif_pos hj'], ?_, hk⟩
    have h2 : j.toNat < b.data.toList.length := by omega
    rw [List.getD_eq_getElem?_getD, List.getElem?_eq_getElem h2, Option.getD_some]
    exact .mkInt _ _
  · exact hk.elim

/-! the address of an element -/
def iaK (Γ : Gam) (h : List AObj) (t : TypeId) (x i : AV) (K : AV → Prop) : Prop :=
  match i with
  | .p (.int _ j) => tyAt Γ t fun te => (match te.td with
    | .slice e => tyAt Γ e fun ee => (match x with
      | .p (.sl l) => (0 ≤ j ∧ j < l.length) ∧ (l.getD j.toNat default).cells.length = ee.cells ∧ K (.ipt (l.getD j.toNat default).cells)
      | .full l => (0 ≤ j ∧ j < l.length) ∧ (l.getD j.toNat default).cells.length = ee.cells ∧ K (.ipt (l.getD j.toNat default).cells)
      | .own b m => (0 ≤ j ∧ j < m) ∧ (match h[b]? with | some (.row _ s _ k) => k ≠ .lax ∧ s = ee.cells ∧ K (.eptr b s j.toNat 0) | _ => False)
      | _ => False)
    | _ => False)
  | _ => False

theorem PR.ia {v : Value} {l : List PV} {Γ : Gam} {te : TE} {t e : TypeId} (hΓ : GamOK P Γ) (hu : P.underlying t = some (.slice e)) (he : Γ e = some te) {k : IntKind} {j : Int} (h : PR I w (.sl l) v)
    (hj : 0 ≤ j ∧ j < l.length) (hs : (l.getD j.toNat default).cells.length = te.cells) :
    ∃ cv, (Instr.indexAt t v (.int k j)).run P w = .ok cv w ∧ VR n μ I w (.ipt (l.getD j.toNat default).cells) cv := by
  obtain ⟨g, off, c, s, rfl, hall, hv⟩ := h.sl_at (n := n) (μ := μ) (i := j.toNat) (by omega)
  obtain ⟨i, hi, hsz, _⟩ := (hΓ _ _ he).info
  have hs' : s = te.cells := by
    rw [← hs]; refine (hall _ ?_).symm
    rw [List.getD_eq_getElem?_getD, List.getElem?_eq_getElem (by omega), Option.getD_some]; exact List.getElem_mem _
  have hel : P.elem t = e := by simp [Program.elem, hu]
  refine ⟨_, ?_, hv⟩
  rw [run_indexAt_slice (P := P) w t _ _ _ _ _ (by rw [hel]; exact hu), if_pos hj]
  simp [sizeOf, typeInfo, hel, hi, hsz, hs', Addr.add_lit]

theorem ia_ok {Γ : Gam} (hΓ : GamOK P Γ) {t : TypeId} {x i : AV} {v vi : Value} {h : List AObj} {ob : Nat → Option Nat} {K : AV → Prop} (hx : VR n μ I w x v) (hi : VR n μ I w i vi)
    (hobj : ∀ b o, h[b]? = some o → ObjOK n μ I ob w b o) (hk : iaK Γ h t x i K) :
    ∃ a cv, (Instr.indexAt t v vi).run P w = .ok cv w ∧ VR n μ I w a cv ∧ K a := by
  unfold iaK at hk
  split at hk
  · rename_i k j
    obtain ⟨te, ht, hk⟩ := hk.get
    split at hk
    · rename_i e he
      obtain ⟨ee, hee, hk⟩ := hk.get
      obtain ⟨d, hu, hd, _⟩ := (hΓ _ _ ht).desc
      rw [he] at hd; simp only [descOK] at hd; subst hd
      rw [hi.int_inv]
      split at hk
      · obtain ⟨hj, hs, hk⟩ := hk
        obtain ⟨cv, hr, hv⟩ := (hx.list_inv (l := _) rfl).ia (n := n) (μ := μ) (k := k) hΓ hu hee hj hs
        exact ⟨_, cv, hr, hv, hk⟩
      · obtain ⟨hj, hs, hk⟩ := hk
        obtain ⟨cv, hr, hv⟩ := (hx.list_inv (l := _) rfl).ia (n := n) (μ := μ) (k := k) hΓ hu hee hj hs
        exact ⟨_, cv, hr, hv, hk⟩
      · obtain ⟨hj, hk⟩ := hk
        split at hk
        · rename_i b m _ E s xs rk hb
          obtain ⟨hlax, hs, hk⟩ := hk
          obtain ⟨_, hrow⟩ := hobj _ _ hb
          rcases hrow with ⟨g, hob, cap, cur, fr, vs, hμ, _⟩ | ⟨h1, _⟩
          · obtain ⟨a, c, rfl, hbn, hbm⟩ := hx.own_inv
            rw [hμ] at hbm; injection hbm with h1 h2 h3; subst h1 h2 h3
            obtain ⟨inf, hinf, hsz, _⟩ := (hΓ _ _ hee).info
            have hel : P.elem t = e := by simp [Program.elem, hu]
            refine ⟨_, .pointer (some ⟨g, j.toNat * s + 0, none⟩), ?_, .eptr _ s j.toNat 0 g _ _ hbn hμ, hk⟩
            rw [run_indexAt_slice (P := P) w t _ _ _ _ _ (by rw [hel]; exact hu), if_pos hj]
            simp [sizeOf, typeInfo, hel, hinf, hsz, hs, Addr.add_lit]
          · exact absurd h1 hlax
        · exact hk.elim
      · exact hk.elim
    · exact hk.elim
  · exact hk.elim

/-! the address of a field -/
def fldOff (Γ : Gam) (t : TypeId) (f : Nat) (K : Nat → TE → Prop) : Prop :=
  tyAt Γ t fun te => (match te.td with
    | .struct fs => (match fs[f]? with
      | some (o, ft) => tyAt Γ ft fun fe => K o fe
      | none => False)
    | _ => False)

theorem fldOff.get {Γ : Gam} (hΓ : GamOK P Γ) {t : TypeId} {f : Nat} {K : Nat → TE → Prop} (h : fldOff Γ t f K) :
    ∃ (a : Array Field) (fl : Field) (fe : TE) (inf : TypeInfo) (d : TypeDesc), P.underlying t = some (.struct a) ∧ a[f]? = some fl ∧ P.info? fl.type = some inf ∧ inf.size = fe.cells ∧
      P.underlying fl.type = some d ∧ fe.isAgg = aggDesc d ∧ K fl.offset fe := by
  unfold fldOff at h
  obtain ⟨te, ht, h⟩ := h.get
  split at h
  · rename_i fs hfs
    obtain ⟨d, hu, hd, _⟩ := (hΓ _ _ ht).desc
    rw [hfs] at hd; simp only [descOK] at hd
    obtain ⟨a, rfl, ha⟩ := hd
    split at h
    · rename_i o ft hft
      obtain ⟨fe, hfe, hK⟩ := h.get
      rw [← ha] at hft
      simp only [List.getElem?_map] at hft
      cases hl : a.toList[f]? with
      | none => rw [hl] at hft; simp at hft
      | some fl =>
        rw [hl] at hft; simp only [Option.map_some, Option.some.injEq, Prod.mk.injEq] at hft
        obtain ⟨rfl, rfl⟩ := hft
        obtain ⟨inf, hinf, hsz, _⟩ := (hΓ _ _ hfe).info
        obtain ⟨d', hu', _, hag⟩ := (hΓ _ _ hfe).desc
        exact ⟨a, fl, fe, inf, d', hu, by simpa using hl, hinf, hsz, hu', hag, hK⟩
    · exact h.elim
  · exact h.elim

def faK (Γ : Gam) (t : TypeId) (x : AV) (f : Nat) (K : AV → Prop) : Prop :=
  fldOff Γ t f fun o fe => fe.cells ≠ 0 ∧ (match x with
    | .ptr b off => K (.ptr b (off + o))
    | .eptr b s i g => K (.eptr b s i (g + o))
    | .ipt l => o ≤ l.length ∧ K (.ipt (l.drop o))
    | _ => False)

theorem fa_ok {Γ : Gam} (hΓ : GamOK P Γ) {t : TypeId} {x : AV} {f : Nat} {v : Value} {K : AV → Prop} (hx : VR n μ I w x v) (hk : faK Γ t x f K) :
    ∃ a cv, (Instr.fieldAt t v f).run P w = .ok cv w ∧ VR n μ I w a cv ∧ K a := by
  unfold faK at hk
  obtain ⟨a, fl, fe, inf, d, hu, hf, hinf, hsz, _, _, hne, hk⟩ := fldOff.get hΓ hk
  have hrun : ∀ g off, (Instr.fieldAt t (.pointer (some ⟨g, off, none⟩)) f).run P w = .ok (.pointer (some ⟨g, off + fl.offset, none⟩)) w := by
    intro g off
    simp [Instr.fieldAt, run_underlying hu, hf, Instr.sureAddr, fieldPlace, sizeOf, typeInfo, hinf, hsz, hne, Addr.add_lit]
  split at hk
  · obtain ⟨g, rfl, hb, h⟩ := hx.ptr_inv
    exact ⟨_, _, hrun g _, .ptr _ _ g hb h, hk⟩
  · obtain ⟨g, k, c, rfl, hb, h⟩ := hx.eptr_inv
    exact ⟨_, _, by rw [hrun g _, Nat.add_assoc], .eptr _ _ _ _ g k c hb h, hk⟩
  · rename_i l
    obtain ⟨g, off, cur, E, fz, vs, rfl, hI, hw, hv, hr⟩ := hx.ipt_inv
    refine ⟨_, _, hrun g off, .ipt _ g _ cur E fz (fun j => vs (fl.offset + j)) hI hw (fun j hj => ?_) (fun j hj => ?_), hk.2⟩
    · simp only [List.length_drop] at hj
      rw [Nat.add_assoc]; exact hv _ (by omega)
    · simp only [List.length_drop] at hj
      have := hr (fl.offset + j) (by omega)
      simpa [List.getD_eq_getElem?_getD, List.getElem?_drop] using this
  · exact hk.elim

/-! load -/
def loadK (Γ : Gam) (h : List AObj) (t : TypeId) (x : AV) (K : AV → Prop) : Prop :=
  tyAt Γ t fun te =>
    match x with
    | .ipt l => if te.isAgg then te.cells ≤ l.length ∧ K (.p (.agg (l.take te.cells))) else 0 < l.length ∧ K (.p (l.getD 0 default))
    | .ptr b off => (match h[b]? with
      | some (.box cs) => if te.isAgg then off + te.cells ≤ cs.length ∧ K (.agg ((cs.drop off).take te.cells)) else off < cs.length ∧ K (cs.getD off .junk)
      | _ => False)
    | .eptr b s i f => (match h[b]? with
      | some (.row _ s' xs rk) => rk ≠ .lax ∧ s' = s ∧ i < xs.length ∧
        (if te.isAgg then f + te.cells ≤ s ∧ K (.p (.agg ((((xs.getD i default).cells).drop f).take te.cells))) else f < s ∧ K (.p (((xs.getD i default).cells).getD f default)))
      | _ => False)
    | _ => False

theorem run_loadAt_one {t : TypeId} {d : TypeDesc} {a : Addr} {v : Value} (hu : P.underlying t = some d) (hd : aggDesc d = false)
    (hc : w.cell? a = some v) : (Instr.loadAt t (.pointer (some a))).run P w = .ok v w := by
  have hag : (isAgg t).run P w = .ok false w := by
    simp only [isAgg, Sem.run_bind, run_underlying hu, Result.andThen]
    cases d <;> simp_all [aggDesc]
  simp [Instr.loadAt, Instr.sureAddr, loadVar, hag, hc]

theorem run_loadAt_agg {t : TypeId} {d : TypeDesc} {i : TypeInfo} {a : Addr} {cs : List Value} (hu : P.underlying t = some d) (hd : aggDesc d = true)
    (hi : P.info? t = some i) (hl : cs.length = i.size) (hc : ∀ j v, cs[j]? = some v → w.cell? (a.add j) = some v) : (Instr.loadAt t (.pointer (some a))).run P w = .ok (.agg cs.toArray) w := by
  have hag : (isAgg t).run P w = .ok true w := by
    simp only [isAgg, Sem.run_bind, run_underlying hu, Result.andThen]
    cases d <;> simp_all [aggDesc]
  have hlc := run_loadCells_list (P := P) w a cs hc
  rw [hl] at hlc
  simp [Instr.loadAt, Instr.sureAddr, loadVar, hag, sizeOf, typeInfo, hi, hlc]

theorem flats_length {l : List PV} {s : Nat} (hs : ∀ x ∈ l, x.cells.length = s) : (flats l).length = l.length * s := by
  induction l with
  | nil => simp [flats]
  | cons a l ih =>
    have h1 := hs a (by simp)
    have h2 := ih (fun x hx => hs x (by simp [hx]))
    simp only [flats, List.flatMap_cons, List.length_append, List.length_cons] at h2 ⊢
    rw [h1, h2, Nat.add_mul, Nat.one_mul, Nat.add_comm]

theorem flats_getD {l : List PV} {s : Nat} (hs : ∀ x ∈ l, x.cells.length = s) {i j : Nat} (hi : i < l.length) (hj : j < s) :
    (flats l).getD (i * s + j) default = ((l.getD i default).cells).getD j default := by
  induction l generalizing i with
  | nil => simp at hi
  | cons a l ih =>
    have h1 := hs a (by simp)
    cases i with
    | zero =>
      simp only [flats, List.flatMap_cons, Nat.zero_mul, Nat.zero_add, List.getD_eq_getElem?_getD]
      rw [List.getElem?_append_left (by omega)]; rfl
    | succ i =>
      have h2 := ih (fun x hx => hs x (by simp [hx])) (i := i) (by simpa using hi)
      simp only [flats, List.flatMap_cons, List.getD_eq_getElem?_getD] at h2 ⊢
      rw [List.getElem?_append_right (by rw [h1, Nat.add_mul]; omega), h1, show (i + 1) * s + j - s = i * s + j by rw [Nat.add_mul]; omega]
      simpa using h2

theorem getD_of_get {α : Type} {l : List α} {i : Nat} {d : α} (h : i < l.length) : l[i]? = some (l.getD i d) := by
  simp [List.getD_eq_getElem?_getD, List.getElem?_eq_getElem h]

theorem load_ok {Γ : Gam} (hΓ : GamOK P Γ) {t : TypeId} {x : AV} {v : Value} {h : List AObj} {ob : Nat → Option Nat} {K : AV → Prop} (hx : VR n μ I w x v)
    (hobj : ∀ b o, h[b]? = some o → ObjOK n μ I ob w b o) (hk : loadK Γ h t x K) :
    ∃ a cv, (Instr.loadAt t v).run P w = .ok cv w ∧ VR n μ I w a cv ∧ K a := by
  unfold loadK at hk
  obtain ⟨te, ht, hk⟩ := hk.get
  obtain ⟨d, hu, _, hag⟩ := (hΓ _ _ ht).desc
  obtain ⟨inf, hinf, hsz, _⟩ := (hΓ _ _ ht).info
  have hagT : te.isAgg = true → aggDesc d = true := fun h => hag ▸ h
  have hagF : ¬ te.isAgg = true → aggDesc d = false := fun h => by rw [← hag]; simpa using h
  split at hk
  · rename_i l _
    obtain ⟨g, off, cur, E, fz, vs, rfl, hI, hw, hv, hr⟩ := hx.ipt_inv
    have hcell : ∀ j, j < l.length → w.cell? ⟨g, off + j, none⟩ = some (vs j) := fun j hj => by rw [cell_of_row w g _ cur E fz hw]; exact hv j hj
    split at hk
    · rename_i hisA
      refine ⟨_, _, run_loadAt_agg (cs := (List.range te.cells).map vs) hu (hagT hisA) hinf (by simp [hsz]) (fun j v hj => ?_), ?_, hk.2⟩
      · have hjl : j < te.cells := by
          have := (List.getElem?_eq_some_iff.1 hj).1; simpa using this
        simp only [List.getElem?_map, List.getElem?_range hjl, Option.map_some, Option.some.injEq] at hj
        rw [Addr.add_lit, ← hj]; exact hcell j (by have := hk.1; omega)
      · refine .p _ _ (.agg _ _ (by simp only [List.length_take, List.length_map, List.length_range]; have := hk.1; omega) (fun i hi => ?_))
        have hi' : i < te.cells := by simp only [List.length_take] at hi; omega
        have := hr i (by have := hk.1; omega)
        simpa [List.getD_eq_getElem?_getD, List.getElem?_take, hi', List.getElem?_range hi'] using this
    · rename_i hisA
      have := hcell 0 hk.1
      exact ⟨_, _, run_loadAt_one hu (hagF hisA) (by simpa using this), .p _ _ (hr 0 hk.1), hk.2⟩
  · rename_i b off _
    split at hk
    · rename_i cs hb
      obtain ⟨g, T, cur, hob, hμ, hw, hl, hcs⟩ := hobj _ _ hb
      obtain ⟨g', rfl, hbn, h'⟩ := hx.ptr_inv
      rw [hμ] at h'; injection h' with h'; injection h' with h'; injection h' with h' _; subst h'
      have hcell : ∀ j, j < cs.length → w.cell? ⟨g, j, none⟩ = some (cur.getD j undef) := fun j hj => by
        rw [cell_of_row w g _ cur T (0, 0) hw, Array.getElem?_eq_getElem (by omega)]
        simp [Array.getD, show j < cur.size by omega]
      split at hk
      · rename_i hisA
        refine ⟨_, _, run_loadAt_agg (cs := (List.range te.cells).map fun j => cur.getD (off + j) undef) hu (hagT hisA) hinf (by simp [hsz]) (fun j v hj => ?_), ?_, hk.2⟩
        · have hjl : j < te.cells := by
            have := (List.getElem?_eq_some_iff.1 hj).1; simpa using this
          simp only [List.getElem?_map, List.getElem?_range hjl, Option.map_some, Option.some.injEq] at hj
          rw [Addr.add_lit, ← hj]; exact hcell _ (by have := hk.1; omega)
        · refine .agg _ _ (by simp only [List.length_take, List.length_drop, List.length_map, List.length_range]; have := hk.1; omega) (fun i hi => ?_)
          have hi' : i < te.cells := by simp only [List.length_take] at hi; omega
          have := hcs (off + i) (by have := hk.1; omega)
          simpa [List.getD_eq_getElem?_getD, List.getElem?_take, hi', List.getElem?_range hi', List.getElem?_drop] using this
      · rename_i hisA
        exact ⟨_, _, run_loadAt_one hu (hagF hisA) (hcell off hk.1), hcs off hk.1, hk.2⟩
    · exact hk.elim
  · rename_i b s i f _
    split at hk
    · rename_i E s' xs rk hb
      obtain ⟨hlax, rfl, hi, hk⟩ := hk
      obtain ⟨hall, hrow⟩ := hobj _ _ hb
      obtain ⟨g, k, c, rfl, hbn, hbm⟩ := hx.eptr_inv
      rcases hrow with ⟨g', hob, cap, cur, fr, vs, hμ, hw, _, _, hle, hmax, hcs, htake, hvl, hpr⟩ | ⟨h1, _⟩
      · rw [hbm] at hμ; injection hμ with h1 h2 h3; injection h1 with h1; injection h1 with h1 _ _; subst h1
        have hmul : ∀ j, j < s' → i * s' + j < xs.length * s' := fun j hj => by
          have h1 : (i + 1) * s' ≤ xs.length * s' := Nat.mul_le_mul_right _ hi
          rw [Nat.add_mul, Nat.one_mul] at h1; omega
        have hcell : ∀ j, j < s' → w.cell? ⟨g, i * s' + j, none⟩ = some (vs.getD (i * s' + j) undef) := fun j hj => by
          have hlt := hmul j hj
          rw [cell_of_row w g _ cur E fr hw, ← getD_of_get (d := undef) (by omega), ← htake, List.getElem?_take, if_pos hlt]; simp
        have hv : ∀ j, j < s' → PR I w (((xs.getD i default).cells).getD j default) (vs.getD (i * s' + j) undef) := fun j hj => by
          have := hpr (i * s' + j) (hmul j hj)
          rwa [flats_getD hall hi hj] at this
        have hlen : (xs.getD i default).cells.length = s' := hall _ (by
          rw [List.getD_eq_getElem?_getD, List.getElem?_eq_getElem hi, Option.getD_some]; exact List.getElem_mem hi)
        split at hk
        · rename_i hisA
          refine ⟨_, _, run_loadAt_agg (cs := (List.range te.cells).map fun j => vs.getD (i * s' + (f + j)) undef) hu (hagT hisA) hinf (by simp [hsz]) (fun j v hj => ?_), ?_, hk.2⟩
          · have hjl : j < te.cells := by
              have := (List.getElem?_eq_some_iff.1 hj).1; simpa using this
            simp only [List.getElem?_map, List.getElem?_range hjl, Option.map_some, Option.some.injEq] at hj
            rw [Addr.add_lit, ← hj, Nat.add_assoc]; exact hcell _ (by have := hk.1; omega)
          · refine .p _ _ (.agg _ _ (by simp only [List.length_take, List.length_drop, List.length_map, List.length_range, hlen]; have := hk.1; omega) (fun j hj => ?_))
            have hj' : j < te.cells := by simp only [List.length_take] at hj; omega
            have := hv (f + j) (by have := hk.1; omega)
            simpa [List.getD_eq_getElem?_getD, List.getElem?_take, hj', List.getElem?_range hj', List.getElem?_drop] using this
        · rename_i hisA
          exact ⟨_, _, run_loadAt_one hu (hagF hisA) (hcell f hk.1), .p _ _ (hv f hk.1), hk.2⟩
      · exact absurd h1 hlax
    · exact hk.elim
  · exact hk.elim
end
end Go.AM
