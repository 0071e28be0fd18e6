/-
  AM 13: a statement whose order Go leaves open: its first operations write nothing, the others come behind all before them; one walk in the order of the text serves every order.
-/
import Derived.Test.YtpancbdaigaheaaAm12
namespace Go.AM
open Go.RowKit

/-- One value, whatever is asked of it. -/
def Detm (F : (AV → Prop) → Prop) : Prop := ∀ K, F K → ∃ v, K v ∧ ∀ K', K' v → F K'

theorem Detm.ret (v : AV) : Detm (fun K => K v) := fun _ h => ⟨v, h, fun _ hk => hk⟩
theorem Detm.and {F : (AV → Prop) → Prop} {p : Prop} (h : Detm F) : Detm (fun K => p ∧ F K) := fun K ⟨hp, hk⟩ => let ⟨v, h1, h2⟩ := h K hk; ⟨v, h1, fun K' hk => ⟨hp, h2 K' hk⟩⟩
theorem Detm.no : Detm (fun _ => False) := fun _ h => h.elim

theorem intK_detm (op : BinOp) (k : IntKind) (a b : Int) : Detm (intK op k a b) := by
  cases op <;> first | exact Detm.ret _ | exact Detm.and (Detm.ret _) | exact Detm.no
theorem strK_detm (op : BinOp) (a b : List UInt8) : Detm (strK op a b) := by
  cases op <;> first | exact Detm.ret _ | exact Detm.and (Detm.ret _) | exact Detm.no
theorem binK_detm (Γ : Gam) (op : BinOp) (t : TypeId) (x y : AV) : Detm (binK Γ op t x y) := by
  intro K h
  unfold binK at h
  split at h
  · obtain ⟨rfl, h⟩ := h
    obtain ⟨v, h1, h2⟩ := intK_detm op _ _ _ K h
    exact ⟨v, h1, fun K' hk => ⟨rfl, h2 K' hk⟩⟩
  · obtain ⟨v, h1, h2⟩ := strK_detm op _ _ K h
    exact ⟨v, h1, h2⟩
  · obtain ⟨ht, h⟩ := h
    cases op <;> first | exact h.elim | exact ⟨_, h, fun _ hk => ⟨ht, hk⟩⟩
  · exact h.elim
theorem pickK_detm (c x y : AV) : Detm (pickK c x y) := by
  intro K h
  unfold pickK at h
  split at h
  · rename_i b
    split at h
    · exact ⟨_, h, fun _ hk => hk⟩
    · rename_i hno
      cases b with
      | true => exact ⟨x, h.1 rfl, fun K' hk => by rw [pickK_true]; exact hk⟩
      | false => exact ⟨y, h.2 rfl, fun K' hk => by rw [pickK_false]; exact hk⟩
  · exact h.elim
theorem unK_detm (op : UnOp) (x : AV) : Detm (unK op x) := by
  intro K h
  unfold unK at h
  split at h
  · exact ⟨_, h, fun _ hk => hk⟩
  · exact ⟨_, h.2, fun _ hk => ⟨h.1, hk⟩⟩
  · exact h.elim
theorem extK_detm (x : AV) (i : Nat) : Detm (extK x i) := by
  intro K h
  unfold extK at h
  split at h
  · exact ⟨_, h.2, fun _ hk => ⟨h.1, hk⟩⟩
  · exact h.elim
theorem idxK_detm (Γ : Gam) (t : TypeId) (x i : AV) : Detm (idxK Γ t x i) := by
  intro K h
  unfold idxK at h
  split at h
  · exact ⟨_, h.2.2, fun _ hk => ⟨h.1, h.2.1, hk⟩⟩
  · exact h.elim
theorem lenK_detm (Γ : Gam) (t : TypeId) (x : AV) (hp : List AObj) : Detm (lenK Γ t x hp) := by
  intro K h
  unfold lenK at h
  split at h
  · exact ⟨_, h.2, fun _ hk => ⟨h.1, hk⟩⟩
  · exact ⟨_, h.2, fun _ hk => ⟨h.1, hk⟩⟩
  · exact ⟨_, h.2, fun _ hk => ⟨h.1, hk⟩⟩
  · exact ⟨_, h.2, fun _ hk => ⟨h.1, hk⟩⟩
  · obtain ⟨ht, h⟩ := h
    split at h
    · rename_i es hes
      exact ⟨_, h, fun K' hk => by simp only [lenK, hes]; exact ⟨ht, hk⟩⟩
    · exact h.elim
  · exact h.elim
theorem tyAt_detm (Γ : Gam) (t : TypeId) {F : TE → (AV → Prop) → Prop} (h : ∀ te, Detm (F te)) : Detm (fun K => tyAt Γ t fun te => F te K) := by
  intro K hk
  unfold tyAt at hk
  split at hk
  · rename_i te hte
    obtain ⟨v, h1, h2⟩ := h te K hk
    exact ⟨v, h1, fun K' hk => by simp only [tyAt, hte]; exact h2 K' hk⟩
  · exact hk.elim
theorem fldOff_detm (Γ : Gam) (t : TypeId) (f : Nat) {F : Nat → TE → (AV → Prop) → Prop} (hF : ∀ o te, Detm (F o te)) : Detm (fun K => fldOff Γ t f fun o te => F o te K) := by
  intro K h
  unfold fldOff at h
  obtain ⟨te, hte, h⟩ := h.get
  split at h
  · rename_i fs hfs
    split at h
    · rename_i o ft hft
      obtain ⟨fe, hfe, h⟩ := h.get
      obtain ⟨v, h1, h2⟩ := hF o fe K h
      refine ⟨v, h1, fun K' hk => ?_⟩
      simp only [fldOff, tyAt, hte, hfs, hft, hfe]
      exact h2 K' hk
    · exact h.elim
  · exact h.elim
theorem iaK_detm (Γ : Gam) (hp : List AObj) (t : TypeId) (x i : AV) : Detm (iaK Γ hp t x i) := by
  intro K h
  unfold iaK at h
  split at h
  · obtain ⟨te, hte, h⟩ := h.get
    split at h
    · rename_i e he
      obtain ⟨ee, hee, h⟩ := h.get
      split at h
      · refine ⟨_, h.2.2, fun K' hk => ?_⟩
        simp only [iaK, tyAt, hte, he, hee]; exact ⟨h.1, h.2.1, hk⟩
      · refine ⟨_, h.2.2, fun K' hk => ?_⟩
        simp only [iaK, tyAt, hte, he, hee]; exact ⟨h.1, h.2.1, hk⟩
      · obtain ⟨hj, h⟩ := h
        split at h
        · rename_i hb
          refine ⟨_, h.2.2, fun K' hk => ?_⟩
          simp only [iaK, tyAt, hte, he, hee, hb]; exact ⟨hj, h.1, h.2.1, hk⟩
        · exact h.elim
      · exact h.elim
    · exact h.elim
  · exact h.elim
theorem faK_detm (Γ : Gam) (t : TypeId) (x : AV) (f : Nat) : Detm (faK Γ t x f) := by
  refine fldOff_detm Γ t f (F := fun o fe K => fe.cells ≠ 0 ∧ (match x with
    | .ptr b off => K (.ptr b (off + o))
    | .eptr b s i g => K (.eptr b s i (g + o))
    | .ipt l => o ≤ l.length ∧ K (.ipt (l.drop o))
    | _ => False)) (fun o fe => Detm.and ?_)
  intro K h
  split at h
  · exact ⟨_, h, fun _ hk => hk⟩
  · exact ⟨_, h, fun _ hk => hk⟩
  · exact ⟨_, h.2, fun _ hk => ⟨h.1, hk⟩⟩
  · exact h.elim
theorem nilK_detm (x : AV) : Detm (nilK x) := by
  intro K h
  unfold nilK at h
  split at h <;> first | exact ⟨_, h, fun K' hk => hk⟩ | exact h.elim

theorem bldL_detm (Γ : Gam) (fs : List (Nat × TypeId)) : ∀ (ps : List (Nat × AV)) (cs : List AV) (K : List AV → Prop), bldL Γ fs cs ps K → ∃ v, K v ∧ ∀ K' : List AV → Prop, K' v → bldL Γ fs cs ps K'
  | [], cs, K, h => ⟨cs, h, fun _ hk => hk⟩
  | (f, v) :: ps, cs, K, h => by
    unfold bldL at h
    split at h
    · rename_i o ft l hf hl
      obtain ⟨fe, hfe, hc, hk⟩ := h.get
      obtain ⟨u, h1, h2⟩ := bldL_detm Γ fs ps _ K hk
      refine ⟨u, h1, fun K' hk' => ?_⟩
      unfold bldL
      simp only [hf, hl, tyAt, hfe]
      exact ⟨hc, h2 K' hk'⟩
    · exact h.elim
theorem bldK_detm (Γ : Gam) (t : TypeId) (ps : List (Nat × AV)) : Detm (bldK Γ t ps) := by
  intro K h
  unfold bldK at h
  obtain ⟨te, hte, h⟩ := h.get
  split at h
  · rename_i fs zs h1 h2
    obtain ⟨ha, h⟩ := h
    obtain ⟨u, hu, hk⟩ := bldL_detm Γ fs ps _ _ h
    refine ⟨_, hu, fun K' hk' => ?_⟩
    simp only [bldK, tyAt, hte, h1, h2]
    exact ⟨ha, hk _ hk'⟩
  · exact h.elim
theorem lookK_detm (Γ : Gam) (h : List AObj) (t : TypeId) (x i : AV) (ok : Bool) : Detm (lookK Γ h t x i ok) := by
  intro K hk
  unfold lookK at hk
  split at hk
  · rename_i b s
    obtain ⟨te, hte, hk⟩ := hk.get
    split at hk
    · rename_i k e h1
      obtain ⟨h2, hk⟩ := hk
      obtain ⟨ee, hee, hk⟩ := hk.get
      split at hk
      · rename_i z es hz hb
        cases ok with
        | true => exact ⟨_, hk, fun K' hk' => by simp only [lookK, tyAt, hte, h1, hee, hz, hb]; exact ⟨h2, hk'⟩⟩
        | false => exact ⟨_, hk, fun K' hk' => by simp only [lookK, tyAt, hte, h1, hee, hz, hb]; exact ⟨h2, hk'⟩⟩
      · exact hk.elim
    · exact hk.elim
  · exact hk.elim

theorem ite_detm (b : Bool) {F G : (AV → Prop) → Prop} (hF : Detm F) (hG : Detm G) : Detm (fun K => if b then F K else G K) := by
  cases b with
  | true => exact hF
  | false => exact hG
theorem fieldK_detm (Γ : Gam) (t : TypeId) (x : AV) (f : Nat) : Detm (fieldK Γ t x f) := by
  intro K h
  unfold fieldK at h
  split at h
  · exact fldOff_detm Γ t f (fun o fe => ite_detm fe.isAgg (Detm.and (Detm.ret _)) (Detm.and (Detm.ret _))) K h
  · exact fldOff_detm Γ t f (fun o fe => ite_detm fe.isAgg (Detm.and (Detm.ret _)) (Detm.and (Detm.ret _))) K h
  · exact h.elim
theorem loadK_detm (Γ : Gam) (hp : List AObj) (t : TypeId) (x : AV) : Detm (loadK Γ hp t x) := by
  intro K h
  unfold loadK at h
  obtain ⟨te, hte, h⟩ := h.get
  split at h
  · obtain ⟨v, h1, h2⟩ := ite_detm te.isAgg (Detm.and (Detm.ret _)) (Detm.and (Detm.ret _)) K h
    refine ⟨v, h1, fun K' hk => ?_⟩
    simp only [loadK, tyAt, hte]; exact h2 K' hk
  · split at h
    · rename_i hb
      obtain ⟨v, h1, h2⟩ := ite_detm te.isAgg (Detm.and (Detm.ret _)) (Detm.and (Detm.ret _)) K h
      refine ⟨v, h1, fun K' hk => ?_⟩
      simp only [loadK, tyAt, hte, hb]; exact h2 K' hk
    · exact h.elim
  · split at h
    · rename_i hb
      obtain ⟨v, h1, h2⟩ := Detm.and (Detm.and (Detm.and (ite_detm te.isAgg (Detm.and (Detm.ret _)) (Detm.and (Detm.ret _))))) K h
      refine ⟨v, h1, fun K' hk => ?_⟩
      simp only [loadK, tyAt, hte, hb]; exact h2 K' hk
    · exact h.elim
  · exact h.elim
theorem convK_detm (Γ : Gam) (s t : TypeId) (x : AV) : Detm (convK Γ s t x) := by
  intro K h
  unfold convK at h
  split at h
  · obtain ⟨hs, h⟩ := h
    split at h
    · rename_i te hte
      split at h
      · rename_i k' hk'
        refine ⟨_, h.2, fun K' hk => ?_⟩
        simp only [convK, hte, hk']; exact ⟨hs, h.1, hk⟩
      · exact h.elim
    · exact h.elim
  · exact ⟨_, h.2.2, fun _ hk => ⟨h.1, h.2.1, hk⟩⟩
  · exact h.elim
def slBK (L : List PV) (bl bh bm : Option (Option Int)) (K : AV → Prop) : Prop :=
  match bl, bh, bm with
  | some none, some (some h), some none => (0 ≤ h ∧ h ≤ L.length) ∧ K (.p (.sl (L.take h.toNat)))
  | some (some l), some none, some none => (0 ≤ l ∧ l ≤ L.length) ∧ K (.p (.sl (L.drop l.toNat)))
  | some (some l), some (some h), some none => (0 ≤ l ∧ l ≤ h ∧ h ≤ L.length) ∧ K (.p (.sl ((L.drop l.toNat).take (h.toNat - l.toNat))))
  | some none, some (some h), some (some m) => (0 ≤ h ∧ h = m ∧ h ≤ L.length) ∧ K (.full (L.take h.toNat))
  | _, _, _ => False
theorem slBK_detm (L : List PV) (bl bh bm : Option (Option Int)) : Detm (slBK L bl bh bm) := by
  intro K h
  unfold slBK at h
  split at h
  · exact ⟨_, h.2, fun _ hk => ⟨h.1, hk⟩⟩
  · exact ⟨_, h.2, fun _ hk => ⟨h.1, hk⟩⟩
  · exact ⟨_, h.2, fun _ hk => ⟨h.1, hk⟩⟩
  · exact ⟨_, h.2, fun _ hk => ⟨h.1, hk⟩⟩
  · exact h.elim
def slTK (Γ : Gam) (t : TypeId) (L : List PV) (bl bh bm : Option (Option Int)) (K : AV → Prop) : Prop :=
  tyAt Γ t fun te => (match te.td with
      | .slice e => tyAt Γ e fun ee => sizeOK L ee.cells ∧ slBK L bl bh bm K
      | _ => False)
theorem slTK_detm (Γ : Gam) (t : TypeId) (L : List PV) (bl bh bm : Option (Option Int)) : Detm (slTK Γ t L bl bh bm) := by
  intro K h
  unfold slTK at h
  obtain ⟨te, hte, h⟩ := h.get
  split at h
  · rename_i e he
    obtain ⟨ee, hee, hsz, h⟩ := h.get
    obtain ⟨v, h1, h2⟩ := slBK_detm L bl bh bm K h
    refine ⟨v, h1, fun K' hk => ?_⟩
    simp only [slTK, tyAt, hte, he, hee]; exact ⟨hsz, h2 K' hk⟩
  · exact h.elim
theorem sliceK_detm (Γ : Gam) (t : TypeId) (x : AV) (lo hi mx : Option AV) : Detm (sliceK Γ t x lo hi mx) := by
  intro K h
  have hno : ∀ {x : AV}, x.list = none → (∀ s, x ≠ .p (.str s)) → sliceK Γ t x lo hi mx K → False := by
    intro x hx hs h
    unfold sliceK at h
    split at h
    · exact hs _ rfl
    · exact hs _ rfl
    · exact hs _ rfl
    · rw [hx] at h; exact h
  cases x with
  | full l => exact slTK_detm Γ t l (bnd lo) (bnd hi) (bnd mx) K h
  | p v =>
    cases v with
    | sl l => exact slTK_detm Γ t l (bnd lo) (bnd hi) (bnd mx) K h
    | str s =>
      have hg : ∀ bl bh bm, bnd lo = bl → bnd hi = bh → bnd mx = bm → ∃ v, K v ∧ ∀ K', K' v → sliceK Γ t (.p (.str s)) lo hi mx K' := by
        intro bl bh bm e1 e2 e3
        unfold sliceK at h ⊢
        simp only [e1, e2, e3] at h ⊢
        split at h
        · exact ⟨_, h.2.2, fun _ hk => ⟨h.1, h.2.1, hk⟩⟩
        · exact ⟨_, h.2.2, fun _ hk => ⟨h.1, h.2.1, hk⟩⟩
        · exact ⟨_, h.2.2, fun _ hk => ⟨h.1, h.2.1, hk⟩⟩
        · exact h.elim
      exact hg _ _ _ rfl rfl rfl
    | _ => exact (hno rfl (by simp) h).elim
  | _ => exact (hno rfl (by simp) h).elim
end Go.AM
