/-
  AM 5: slicing, struct values; all operations that write nothing, together.
-/
import Derived.Test.YtpancbdaigaheaaAm4
namespace Go.AM
open Go.RowKit
section
variable {P : Program} {n : Nat} {μ : Nat → Value} {I : Nat → Prop} {w : World}

theorem extract_toList (b : ByteArray) (l h : Nat) : (b.extract l h).data.toList = (b.data.toList.drop l).take (h - l) := by
  simp [List.take_drop]

def sizeOK (l : List PV) (c : Nat) : Prop := ∀ x ∈ l, x.cells.length = c

theorem PR.sub {l : List PV} {a : Option Addr} {N c s lo k m : Nat} (h : PR I w (.sl l) (.slice a N c)) (hs : sizeOK l s) (hlo : lo + k ≤ l.length) (hm : lo + k ≤ m) (hmc : m ≤ c) :
    PR I w (.sl ((l.drop lo).take k)) (sliced a lo (lo + k) m s) := by
  unfold sliced
  have hk : lo + k - lo = k := by omega
  rw [hk]
  by_cases h0 : k = 0
  · subst h0
    simp only [List.take_zero]
    refine .sl0 _ _ (fun hn => ?_)
    split at hn
    · omega
    · simp only [Option.map_eq_none_iff] at hn
      obtain ⟨a', c', e, _, hc⟩ := h.sl_len
      injection e with e1 e2 e3; subst e1 e3
      have := hc hn; omega
  · generalize hL : PV.sl l = L at h
    cases h with
    | sl0 a cap ha => injection hL with hL; subst hL; simp at hlo; omega
    | sl l' s' g off cap cur E fz vs hl hI hw hc hs' hv hr =>
      injection hL with hL; subst hL
      have hne : m ≠ lo := by omega
      rw [if_neg hne]
      have hss : s = s' := by
        cases l with
        | nil => exact absurd rfl hl
        | cons x l => exact (hs x (by simp)).symm.trans (hs' x (by simp))
      subst hss
      simp only [Option.map_some, Addr.add_lit]
      have hlen : ((l.drop lo).take k).length = k := by simp only [List.length_take, List.length_drop]; omega
      have := PR.sl (I := I) (w := w) ((l.drop lo).take k) s g (off + lo * s) (m - lo) cur E fz (fun j => vs (lo * s + j)) (by
          intro e; rw [e] at hlen; simp at hlen; omega) hI hw (by omega) (fun x hx => hs' x (List.mem_of_mem_drop (List.mem_of_mem_take hx)))
        (fun j hj => by
          rw [hlen] at hj
          rw [Nat.add_assoc]; refine hv _ ?_
          have h1 : (lo + k) * s ≤ l.length * s := Nat.mul_le_mul_right _ hlo
          rw [Nat.add_mul] at h1; omega)
        (fun i j hi hj => by
          rw [hlen] at hi
          have := hr (lo + i) j (by omega) hj
          rw [Nat.add_mul, Nat.add_assoc] at this
          simpa [List.getD_eq_getElem?_getD, List.getElem?_take, hi, List.getElem?_drop] using this)
      rwa [hlen] at this

def bnd : Option AV → Option (Option Int)
  | none => some none
  | some (.p (.int _ i)) => some (some i)
  | _ => none

def sliceK (Γ : Gam) (t : TypeId) (x : AV) (lo hi mx : Option AV) (K : AV → Prop) : Prop :=
  match x, bnd lo, bnd hi, bnd mx with
  | .p (.str s), some none, some (some h), some none => tdAt Γ t .str ∧ (0 ≤ h ∧ h ≤ s.length) ∧ K (.p (.str (s.take h.toNat)))
  | .p (.str s), some (some l), some none, some none => tdAt Γ t .str ∧ (0 ≤ l ∧ l ≤ s.length) ∧ K (.p (.str (s.drop l.toNat)))
  | .p (.str s), some (some l), some (some h), some none => tdAt Γ t .str ∧ (0 ≤ l ∧ l ≤ h ∧ h ≤ s.length) ∧ K (.p (.str ((s.drop l.toNat).take (h.toNat - l.toNat))))
  | x, bl, bh, bm => (match x.list with
    | some L => tyAt Γ t fun te => (match te.td with
      | .slice e => tyAt Γ e fun ee => sizeOK L ee.cells ∧ (match bl, bh, bm with
        | some none, some (some h), some none => (0 ≤ h ∧ h ≤ L.length) ∧ K (.p (.sl (L.take h.toNat)))
        | some (some l), some none, some none => (0 ≤ l ∧ l ≤ L.length) ∧ K (.p (.sl (L.drop l.toNat)))
        | some (some l), some (some h), some none => (0 ≤ l ∧ l ≤ h ∧ h ≤ L.length) ∧ K (.p (.sl ((L.drop l.toNat).take (h.toNat - l.toNat))))
        | some none, some (some h), some (some m) => (0 ≤ h ∧ h = m ∧ h ≤ L.length) ∧ K (.full (L.take h.toNat))
        | _, _, _ => False)
      | _ => False)
    | none => False)

theorem bnd_inv {x : Option AV} {v : Option Value} {b : Option Int} (hx : match x, v with | none, none => True | some x, some v => VR n μ I w x v | _, _ => False) (h : bnd x = some b) :
    match b with | none => v = none | some i => ∃ k, v = some (.int k i) := by
  unfold bnd at h
  split at h
  · injection h with h; subst h; cases v with
    | none => rfl
    | some v => exact hx.elim
  · injection h with h; subst h; cases v with
    | none => exact hx.elim
    | some v => exact ⟨_, by rw [VR.int_inv hx]⟩
  · cases h

theorem slice_ok {Γ : Gam} (hΓ : GamOK P Γ) {t : TypeId} {x : AV} {v : Value} {lo hi mx : Option AV} {vl vh vm : Option Value} {K : AV → Prop} (hx : VR n μ I w x v)
    (hlo : match lo, vl with | none, none => True | some x, some v => VR n μ I w x v | _, _ => False)
    (hhi : match hi, vh with | none, none => True | some x, some v => VR n μ I w x v | _, _ => False)
    (hmx : match mx, vm with | none, none => True | some x, some v => VR n μ I w x v | _, _ => False) (hk : sliceK Γ t x lo hi mx K) :
    ∃ a cv, (Instr.sliceAt t v vl vh vm).run P w = .ok cv w ∧ VR n μ I w a cv ∧ K a := by
  unfold sliceK at hk
  split at hk
  · rename_i s h e1 e2 e3
    obtain rfl := bnd_inv hlo e1
    obtain ⟨kh, rfl⟩ := bnd_inv hhi e2
    obtain rfl := bnd_inv hmx e3
    obtain ⟨ht, hb, hk⟩ := hk
    obtain ⟨td, hu, hd⟩ := ht.und hΓ
    simp only [descOK] at hd; subst hd
    obtain ⟨b, rfl, rfl⟩ := hx.str_inv
    have hl : b.data.toList.length = b.size := Array.length_toList
    refine ⟨_, _, by rw [run_sliceAt_string (P := P) w t _ _ _ _ hu, run_slice_string_h (P := P) w t b hu kh h hb.1 (by omega)], .mkStr ?_, hk⟩
    rw [extract_toList]; simp
  · rename_i s l e1 e2 e3
    obtain ⟨kl, rfl⟩ := bnd_inv hlo e1
    obtain rfl := bnd_inv hhi e2
    obtain rfl := bnd_inv hmx e3
    obtain ⟨ht, hb, hk⟩ := hk
    obtain ⟨td, hu, hd⟩ := ht.und hΓ
    simp only [descOK] at hd; subst hd
    obtain ⟨b, rfl, rfl⟩ := hx.str_inv
    have hl : b.data.toList.length = b.size := Array.length_toList
    refine ⟨_, _, by rw [run_sliceAt_string (P := P) w t _ _ _ _ hu, run_slice_string_l (P := P) w t b hu kl l hb.1 (by omega)], .mkStr ?_, hk⟩
    rw [extract_toList, List.take_of_length_le]; simp only [List.length_drop]; omega
  · rename_i s l h e1 e2 e3
    obtain ⟨kl, rfl⟩ := bnd_inv hlo e1
    obtain ⟨kh, rfl⟩ := bnd_inv hhi e2
    obtain rfl := bnd_inv hmx e3
    obtain ⟨ht, hb, hk⟩ := hk
    obtain ⟨td, hu, hd⟩ := ht.und hΓ
    simp only [descOK] at hd; subst hd
    obtain ⟨b, rfl, rfl⟩ := hx.str_inv
    have hl : b.data.toList.length = b.size := Array.length_toList
    have eh : (h.toNat : Int) = h := Int.toNat_of_nonneg (by omega)
    refine ⟨_, .string (b.extract l.toNat h.toNat), ?_, .mkStr ?_, hk⟩
    · rw [run_sliceAt_string (P := P) w t _ _ _ _ hu]
      simp [Instr.slice, run_underlying hu, Instr.sliceBounds, run_sliceBound, show (0 : Int) ≤ l by omega, show (0 : Int) ≤ h by omega, show h ≤ (b.size : Int) by omega]
      rw [run_sliceBound (P := P) w kl l h.toNat .sliceB hb.1 (by omega)]; rfl
    · rw [extract_toList]
  · rename_i x bl bh bm _ _ _
    split at hk
    · rename_i L hL
      obtain ⟨te, ht, hk⟩ := hk.get
      split at hk
      · rename_i e he
        obtain ⟨ee, hee, hk⟩ := hk.get
        obtain ⟨hsz, hk⟩ := hk
        obtain ⟨d, hu, hd, _⟩ := (hΓ _ _ ht).desc
        rw [he] at hd; simp only [descOK] at hd; subst hd
        obtain ⟨inf, hinf, hisz, _⟩ := (hΓ _ _ hee).info
        have hel : P.elem t = e := by simp [Program.elem, hu]
        have hu' : P.underlying t = some (.slice (P.elem t)) := by rw [hel]; exact hu
        have hpr := hx.list_inv hL
        obtain ⟨a, c, rfl, hc, _⟩ := hpr.sl_len
        have hsize : ∀ (w : World), (sizeOf (P.elem t)).run P w = .ok ee.cells w := fun w => by simp [sizeOf, typeInfo, hel, hinf, hisz]
        split at hk
        · rename_i h e1 e2 e3
          obtain rfl := bnd_inv hlo e1
          obtain ⟨kh, rfl⟩ := bnd_inv hhi e2
          obtain rfl := bnd_inv hmx e3
          have := hpr.sub (lo := 0) (k := h.toNat) (m := c) hsz (by omega) (by omega) (Nat.le_refl _)
          refine ⟨_, _, by rw [run_sliceAt_slice (P := P) w t _ _ _ _ hu', run_slice_h (P := P) w t a _ c hu' kh h hk.1.1 (by omega), hsize]; rfl, .p _ _ ?_, hk.2⟩
          simpa using this
        · rename_i l e1 e2 e3
          obtain ⟨kl, rfl⟩ := bnd_inv hlo e1
          obtain rfl := bnd_inv hhi e2
          obtain rfl := bnd_inv hmx e3
          have := hpr.sub (lo := l.toNat) (k := L.length - l.toNat) (m := c) hsz (by omega) (by omega) (Nat.le_refl _)
          refine ⟨_, _, by rw [run_sliceAt_slice (P := P) w t _ _ _ _ hu', run_slice_l (P := P) w t a _ c hu' kl l hk.1.1 hk.1.2, hsize]; rfl, .p _ _ ?_, hk.2⟩
          rw [show l.toNat + (L.length - l.toNat) = L.length by omega, List.take_of_length_le (by simp)] at this
          exact this
        · rename_i l h e1 e2 e3
          obtain ⟨kl, rfl⟩ := bnd_inv hlo e1
          obtain ⟨kh, rfl⟩ := bnd_inv hhi e2
          obtain rfl := bnd_inv hmx e3
          have := hpr.sub (lo := l.toNat) (k := h.toNat - l.toNat) (m := c) hsz (by omega) (by omega) (Nat.le_refl _)
          refine ⟨_, _, by rw [run_sliceAt_slice (P := P) w t _ _ _ _ hu', run_slice_lh (P := P) w t a _ c hu' kl kh l h hk.1.1 hk.1.2.1 (by omega), hsize]; rfl, .p _ _ ?_, hk.2⟩
          rw [show l.toNat + (h.toNat - l.toNat) = h.toNat by omega] at this
          exact this
        · rename_i h m e1 e2 e3
          obtain rfl := bnd_inv hlo e1
          obtain ⟨kh, rfl⟩ := bnd_inv hhi e2
          obtain ⟨km, rfl⟩ := bnd_inv hmx e3
          obtain ⟨⟨h0, rfl, h1⟩, hk⟩ := hk
          have := hpr.sub (lo := 0) (k := h.toNat) (m := h.toNat) hsz (by omega) (by omega) (by omega)
          refine ⟨_, _, by rw [run_sliceAt_slice (P := P) w t _ _ _ _ hu', run_slice_hm (P := P) w t a _ c hu' kh km h h h0 (Int.le_refl _) (by omega), hsize]; rfl, ?_, hk⟩
          simp only [List.drop_zero, Nat.zero_add] at this
          have hl : (L.take h.toNat).length = h.toNat := by simp only [List.length_take]; omega
          have hs : sliced a 0 h.toNat h.toNat ee.cells = .slice (if h.toNat = 0 then a else a.map (·.add (0 * ee.cells))) (L.take h.toNat).length (L.take h.toNat).length := by
            rw [hl]; simp [sliced]
          rw [hs] at this
          show VR n μ I w _ (sliced a 0 h.toNat h.toNat ee.cells)
          rw [hs]
          exact .full _ _ this
        · exact hk.elim
      · exact hk.elim
    · exact hk.elim

/-! a field of a struct value -/
def AV.cellL : AV → Option (List AV)
  | .junk => none
  | .agg l => some l
  | .p (.agg l) => some (l.map .p)
  | .tup _ => none
  | v => some [v]

theorem getD_map_p (l : List PV) (i : Nat) (hi : i < l.length) : (l.map AV.p).getD i .junk = .p (l.getD i default) := by
  simp [List.getD_eq_getElem?_getD, List.getElem?_map, List.getElem?_eq_getElem hi]

theorem PR.cells_one {x : PV} {v : Value} (h : PR I w x v) (hx : ∀ l, x ≠ .agg l) : v.cells = #[v] := by
  cases h <;> first | rfl | exact absurd rfl (hx _)

theorem VR.cellL {x : AV} {v : Value} {l : List AV} (hx : VR n μ I w x v) (h : x.cellL = some l) :
    v.cells.size = l.length ∧ ∀ i, i < l.length → VR n μ I w (l.getD i .junk) (v.cells.getD i undef) := by
  have one : ∀ y, VR n μ I w y v → v.cells = #[v] → v.cells.size = [y].length ∧ ∀ i, i < [y].length → VR n μ I w ([y].getD i .junk) (v.cells.getD i undef) := by
    intro y hy hc
    rw [hc]
    refine ⟨rfl, fun i hi => ?_⟩
    have : i = 0 := by simpa using hi
    subst this; exact hy
  cases hx with
  | junk v => simp [AV.cellL] at h
  | cell v h' => simp only [AV.cellL, Option.some.injEq] at h; subst h; exact one _ (.cell _ h') (by cases v <;> first | rfl | simp [Value.oneCell'] at h')
  | p x v h' =>
    have h0 := h'
    cases h' with
    | agg l' cs hl hr =>
      simp only [AV.cellL, Option.some.injEq] at h; subst h
      refine ⟨by simp [Value.cells, hl], fun i hi => ?_⟩
      rw [getD_map_p _ _ (by simpa using hi)]
      simp only [List.length_map] at hi
      have hi' : i < cs.length := by omega
      have := hr i hi
      have e : cs.toArray.getD i undef = cs.getD i undef := by simp [Array.getD, hi', List.getD_eq_getElem?_getD]
      simp only [Value.cells]; rw [e]; exact .p _ _ this
    | _ => simp only [AV.cellL, Option.some.injEq] at h; subst h; exact one _ (.p _ _ h0) rfl
  | agg l' cs hl hr =>
    simp only [AV.cellL, Option.some.injEq] at h; subst h
    refine ⟨by simp [Value.cells, hl], fun i hi => ?_⟩
    have hi' : i < cs.length := by omega
    have := hr i hi
    have e : cs.toArray.getD i undef = cs.getD i undef := by simp [Array.getD, hi', List.getD_eq_getElem?_getD]
    simp only [Value.cells]; rw [e]; exact this
  | tup l' cs hl hr => simp [AV.cellL] at h
  | full l a h' => simp only [AV.cellL, Option.some.injEq] at h; subst h; exact one _ (.full _ _ h') rfl
  | own b k a c hb h' => simp only [AV.cellL, Option.some.injEq] at h; subst h; exact one _ (.own _ _ _ _ hb h') rfl
  | ptr b off g hb h' => simp only [AV.cellL, Option.some.injEq] at h; subst h; exact one _ (.ptr _ _ _ hb h') rfl
  | eptr b s i f g k c hb h' => simp only [AV.cellL, Option.some.injEq] at h; subst h; exact one _ (.eptr _ _ _ _ _ _ _ hb h') rfl
  | ipt l g off cur E fz vs h1 h2 h3 h4 => simp only [AV.cellL, Option.some.injEq] at h; subst h; exact one _ (.ipt _ _ _ _ _ _ _ h1 h2 h3 h4) rfl
  | map b r hb h' => simp only [AV.cellL, Option.some.injEq] at h; subst h; exact one _ (.map _ _ hb h') rfl
  | yld b l hb h' => simp only [AV.cellL, Option.some.injEq] at h; subst h; exact one _ (.yld _ _ hb h') rfl
  | fn f caps cs hl hr => simp only [AV.cellL, Option.some.injEq] at h; subst h; exact one _ (.fn _ _ _ hl hr) rfl

def fieldK (Γ : Gam) (t : TypeId) (x : AV) (f : Nat) (K : AV → Prop) : Prop :=
  match x with
  | .agg l => fldOff Γ t f fun o fe => if fe.isAgg then o + fe.cells ≤ l.length ∧ K (.agg ((l.drop o).take fe.cells)) else o < l.length ∧ K (l.getD o .junk)
  | .p (.agg l) => fldOff Γ t f fun o fe => if fe.isAgg then o + fe.cells ≤ l.length ∧ K (.p (.agg ((l.drop o).take fe.cells))) else o < l.length ∧ K (.p (l.getD o default))
  | _ => False

theorem field_ok {Γ : Gam} (hΓ : GamOK P Γ) {t : TypeId} {x : AV} {f : Nat} {v : Value} {K : AV → Prop} (hx : VR n μ I w x v) (hk : fieldK Γ t x f K) :
    ∃ a cv, (Instr.field t v f).run P w = .ok cv w ∧ VR n μ I w a cv ∧ K a := by
  have main : ∀ (a : Array Field) (fl : Field) (fe : TE) (inf : TypeInfo) (d : TypeDesc) (cs : List Value), P.underlying t = some (.struct a) → a[f]? = some fl → P.info? fl.type = some inf → inf.size = fe.cells →
      P.underlying fl.type = some d → fe.isAgg = aggDesc d → 
      (fe.isAgg = true → (Instr.field t (.agg cs.toArray) f).run P w = .ok (.agg ((cs.drop fl.offset).take fe.cells).toArray) w) ∧
      (fe.isAgg = false → fl.offset < cs.length → (Instr.field t (.agg cs.toArray) f).run P w = .ok (cs.getD fl.offset undef) w) := by
    intro a fl fe inf d cs hu hf hinf hsz hud hag
    refine ⟨fun h => ?_, fun h hl => ?_⟩
    · have hagd : (isAgg fl.type).run P w = .ok true w := by
        simp only [isAgg, Sem.run_bind, run_underlying hud, Result.andThen]
        rw [hag] at h
        cases d <;> simp_all [aggDesc]
      simp [Instr.field, run_underlying hu, hf, asAgg, part, hagd, sizeOf, typeInfo, hinf, hsz]
    · have hagd : (isAgg fl.type).run P w = .ok false w := by
        simp only [isAgg, Sem.run_bind, run_underlying hud, Result.andThen]
        rw [hag] at h
        cases d <;> simp_all [aggDesc]
      simp [Instr.field, run_underlying hu, hf, asAgg, part, hagd, List.getElem?_eq_getElem hl, List.getD_eq_getElem?_getD]
  unfold fieldK at hk
  split at hk
  · rename_i l
    obtain ⟨a, fl, fe, inf, d, hu, hf, hinf, hsz, hud, hag, hk⟩ := fldOff.get hΓ hk
    obtain ⟨cs, rfl, hl, hr⟩ := hx.agg_inv
    have hm := main a fl fe inf d cs hu hf hinf hsz hud hag
    split at hk
    · rename_i hA
      refine ⟨_, _, hm.1 hA, .agg _ _ (by simp [hl]) (fun i hi => ?_), hk.2⟩
      have hi' : i < fe.cells := by simp only [List.length_take] at hi; omega
      have := hr (fl.offset + i) (by have := hk.1; omega)
      simpa [List.getD_eq_getElem?_getD, List.getElem?_take, hi', List.getElem?_drop] using this
    · rename_i hA
      exact ⟨_, _, hm.2 (by simpa using hA) (by have := hk.1; omega), hr _ hk.1, hk.2⟩
  · rename_i l
    obtain ⟨a, fl, fe, inf, d, hu, hf, hinf, hsz, hud, hag, hk⟩ := fldOff.get hΓ hk
    cases hx with
    | p x v h' =>
      cases h' with
      | agg l cs hl hr =>
        have hm := main a fl fe inf d cs hu hf hinf hsz hud hag
        split at hk
        · rename_i hA
          refine ⟨_, _, hm.1 hA, .p _ _ (.agg _ _ (by simp [hl]) (fun i hi => ?_)), hk.2⟩
          have hi' : i < fe.cells := by simp only [List.length_take] at hi; omega
          have := hr (fl.offset + i) (by have := hk.1; omega)
          simpa [List.getD_eq_getElem?_getD, List.getElem?_take, hi', List.getElem?_drop] using this
        · rename_i hA
          exact ⟨_, _, hm.2 (by simpa using hA) (by have := hk.1; omega), .p _ _ (hr _ hk.1), hk.2⟩
  · exact hk.elim
end
end Go.AM
