/-
  Texts of this claim, joined.
-/
import Derived.Test.YtnilegembmcelaaDoorJ51a1fd4ff5ef
import Derived.Lib.ConvBytes
import Derived.Laws.BytesArg

set_option linter.unusedSimpArgs false
namespace Go.AM
open Go.RowKit

def u8V (b : UInt8) : PV := .int .u8 b.toNat

def cvZ1 (Γ : Gam) (st : St) (d : Option Nat) (s t : TypeId) (td : TD) (v : AV) (K : St → Prop) : Prop :=
  match td, v with
  | .slice e, .p (.str a) => tdAt Γ s .str ∧ tdAt Γ e (.int .u8) ∧ a.length ≤ 140737488355327 ∧ K ⟨putD st.tmps d (.own st.h.length a.length), st.h ++ [.row e 1 (a.map u8V) .raw]⟩
  | .str, .own b _ => (∃ e, tdAt Γ s (.slice e) ∧ tdAt Γ e (.int .u8)) ∧ (match st.h[b]? with
    | some (.row _ _ xs _) => ∃ l, xs = l.map u8V ∧ K ⟨putD st.tmps d (.p (.str l)), st.h⟩
    | _ => False)
  | .str, .p (.sl xs) => (∃ e, tdAt Γ s (.slice e) ∧ tdAt Γ e (.int .u8)) ∧ ∃ l, xs = l.map u8V ∧ K ⟨putD st.tmps d (.p (.str l)), st.h⟩
  | _, v => Z1q Γ s t v fun v => K ⟨putD st.tmps d v, st.h⟩
def cvZ (Γ : Gam) (st : St) (d : Option Nat) (s t : TypeId) (v : AV) (K : St → Prop) : Prop := tyAt Γ t fun te => cvZ1 Γ st d s t te.td v K

theorem Z6l {Γ : Gam} {st : St} {d : Option Nat} {s t : TypeId} {v : AV} {K : St → Prop} (hk : Z1q Γ s t v fun v => K ⟨putD st.tmps d v, st.h⟩) : cvZ Γ st d s t v K := by
  have hk' := hk; unfold Z1q at hk; unfold cvZ tyAt
  split at hk
  · obtain ⟨_, hk⟩ := hk
    split at hk
    · rename_i te hte
      simp only [hte]
      split at hk
      · rename_i k hk2
        simp only [cvZ1, hk2]; exact hk'
      · exact hk.elim
    · exact hk.elim
  · obtain ⟨_, h2, _⟩ := hk
    unfold tdAt at h2
    split at h2
    · rename_i te hte
      simp only [hte, h2, cvZ1]; exact hk'
    · exact h2.elim
  · exact hk.elim

section
variable {P : Program} {X : Ctx} {I : Nat → Prop} {μ : Nat → Value} {ob : Nat → Option Nat} {w : World} {a : Act} {tm : List AV} {h : List AObj}

theorem Z8b (l : List UInt8) : Zk (l.map u8V) = l.map u8V := by
  induction l with
  | nil => rfl
  | cons b l ih =>
    have : Zk ((b :: l).map u8V) = u8V b :: Zk (l.map u8V) := rfl; rw [this, ih]; rfl
theorem Zda (l : List UInt8) : ∀ y ∈ l.map u8V, y.cells.length = 1 := fun y hy => by
  obtain ⟨b, _, rfl⟩ := List.mem_map.1 hy
  rfl
theorem Z7c (w : World) (e : TypeId) (s : ByteArray) : w.grownBy (Lib.bytesWorld w e s) none :=
  ⟨rfl, rfl, rfl, by rw [Lib.bytesWorld_size]; omega, fun k hk _ => Lib.bytesWorld_at_old w e s k hk⟩

theorem cv_ok {Γ : Gam} (hΓ : Zg P Γ) {s t : TypeId} {x : AV} {v : Value} {d : Option Nat} {K : St → Prop} (R : Rep X I μ ob ⟨tm, h⟩ w a) (hx : VR h.length μ I w x v) (hk : cvZ Γ ⟨tm, h⟩ d s t x K) :
    StepOK P X I μ h.length (convert s t v) w a d K := by
  obtain ⟨te, ht, hk⟩ := hk.get; obtain ⟨dd, hu, hd, _⟩ := (hΓ _ _ ht).desc; have rd : ∀ (xs : List PV) (l : List UInt8), x.listH h = some xs → xs = l.map u8V → te.td = .str → (∃ e, tdAt Γ s (.slice e) ∧ tdAt Γ e (.int .u8)) → K ⟨putD tm d (.p (.str l)), h⟩ → StepOK P X I μ h.length (convert s t v) w a d K := by
    intro xs l hl hxs htd hse hK; subst hxs; obtain ⟨e, h1, h2⟩ := hse; obtain ⟨ds, hus, hs⟩ := h1.und hΓ; obtain ⟨de, hue, he⟩ := h2.und hΓ; simp only [Z7] at hs he; subst hs he; rw [htd] at hd; simp only [Z7] at hd; subst hd; have hone : Zp (l.map u8V) 1 := fun y hy => by obtain ⟨b, _, rfl⟩ := List.mem_map.1 hy; rfl
    obtain ⟨⟨ad, c, rfl, hc⟩, hne⟩ := hx.listH R.objs hl hone; by_cases h0 : l = []
    · subst h0
      refine StepOK.pure R (v := .p (.str [])) (cv := .string ⟨#[]⟩) ?_ (.mkStr rfl) hK
      cases ad with
      | none => exact run_convert_bytes_nil (P := P) w s e hus hue 0 c t hu
      | some ad =>
        rw [run_convert_bytes_string w s t e _ _ c hus hue hu]; have h5 := run_bytesToString (P := P) w ad 0 c [] (by simpa using run_loadCells_list (P := P) w ad [] (fun j v hj => by simp at hj)); exact h5
    · obtain ⟨ad', c', news, e1, hcell⟩ := hne (by simpa using h0)
      injection e1 with e1 _ e2; subst e1 e2
      obtain ⟨n1, n2, n3⟩ := hcell; have hl1 : (l.map u8V).length = l.length := by simp
      have hfl := Z8b l; have hld : (loadCells ad' (l.map u8V).length).run P w = .ok ((l.map fun b => (b.toNat : Int)).map (Value.int .u8)).toArray w := by
        have h5 := run_loadCells_list (P := P) w ad' ((l.map fun b => (b.toNat : Int)).map (Value.int .u8)) (fun j u hj => by
          have hjl : j < l.length := by have := (List.getElem?_eq_some_iff.1 hj).1; simpa using this
          have h6 := n3 j (by simpa using hjl); rw [hfl] at h6; have h7 : news[j]? = some (news.getD j undef) := by
            have : j < news.length := by rw [n1]; simpa using hjl
            rw [List.getD_eq_getElem?_getD, List.getElem?_eq_getElem this, Option.getD_some]
          have h8 := n2 j _ h7; rw [h8]; have h9 : (l.map u8V).getD j default = u8V l[j] := by
            rw [List.getD_eq_getElem?_getD, List.getElem?_map, List.getElem?_eq_getElem hjl]; rfl
          rw [h9] at h6; generalize news.getD j undef = q at h6; have hq : q = .int .u8 (l[j].toNat : Int) := by
            unfold u8V at h6
            cases h6 with | int k n => rfl
          rw [hq]; have : u = .int .u8 (l[j].toNat : Int) := by
            simp [List.getElem?_eq_getElem hjl] at hj; exact hj.symm
          rw [this])
        simpa using h5
      refine StepOK.pure R (v := .p (.str l)) (cv := .string (strOfNums (l.map fun b => (b.toNat : Int)))) ?_ (.mkStr ?_) hK
      · rw [run_convert_bytes_string w s t e _ _ c hus hue hu, run_bytesToString (P := P) w ad' _ c _ hld, foldl_push_bytes]
        simp [strOfNums, ByteArray.empty, ByteArray.emptyWithCapacity]
        rfl
      · rw [strOfNums_data]; simp [List.map_map, Function.comp_def]
  unfold cvZ1 at hk
  split at hk
  · rename_i e s' htd hk0
    obtain ⟨h1, h2, hlen, hK⟩ := hk; obtain ⟨ds, hus, hs⟩ := h1.und hΓ; obtain ⟨de, hue, he⟩ := h2.und hΓ; simp only [Z7] at hs he; subst hs he; rw [htd] at hd; simp only [Z7] at hd; subst hd; obtain ⟨b, rfl, rfl⟩ := hx.str_inv; have hbs : b.data.toList.length = b.size := by simp
    have hrun := Lib.run_convert_string_bytes (P := P) w s t e b hus hu hue; have hg := Z7c w e b; have hsz := Lib.bytesWorld_size w e b; have hcg : b.size ≤ grownCap w b.size 0 e := grownCap_ge w _ _ _; have hcm : grownCap w b.size 0 e ≤ maxLen := grownCap_le_maxLen w _ _ _ (by simp only [maxLen]; omega); have hcs : (Lib.bytesCells w e b).size = grownCap w b.size 0 e := by simp [Lib.bytesCells]; omega
    have hsl : (b.data.toList.map u8V).length = b.size := by simp
    have R1 := R.name (v := .slice (some ⟨w.heap.size, 0, none⟩) b.size (grownCap w b.size 0 e)) (g := some w.heap.size) (o := .row e 1 (b.data.toList.map u8V) .raw) hg (fun k e => by injection e with e; subst e; exact ⟨Nat.le_refl _, by rw [hsz]; omega⟩) (by
      refine ⟨Zda _, .inl ⟨w.heap.size, by simp, 0, grownCap w b.size 0 e, Lib.bytesCells w e b, _, (Lib.bytesCells w e b).toList.take b.size, by simp, Lib.bytesWorld_at_new w e b, fun h => (by cases h),
        fun j hj => (by have := hj; simp only [not_and, Nat.not_lt]; omega), by rw [hsl]; exact hcg, hcm, by rw [hcs]; simp, by rw [hsl]; simp, by rw [hsl, List.length_take, Array.length_toList, hcs]; omega, fun j hj => ?_⟩⟩
      rw [hsl, Nat.mul_one] at hj; have hfl := Z8b; rw [hfl]; have e1 : (b.data.toList.map u8V).getD j default = .int .u8 (b.data.toList.getD j 0).toNat := by
        rw [List.getD_eq_getElem?_getD, List.getElem?_map, List.getD_eq_getElem?_getD, List.getElem?_eq_getElem (by omega)]; rfl
      have e2 : ((Lib.bytesCells w e b).toList.take b.size).getD j undef = .int .u8 (b.data.toList.getD j 0).toNat := by
          simp [List.getD_eq_getElem?_getD, hj, Lib.bytesCells]
      rw [e1, e2]; exact .int _ _)
    have R2 := R1.put (v := .own h.length b.size) (cv := .slice (some ⟨w.heap.size, 0, none⟩) b.size (grownCap w b.size 0 e)) (.own _ _ _ _ (by simp) (by simp)) d; exact ⟨_, _, _, hrun, ⟨_, _, _, fun _ h => h, R2, fun b hb _ => Zy hb _⟩, by simpa using hK⟩
  · rename_i b n htd hk0
    obtain ⟨hse, hk⟩ := hk
    split at hk
    · rename_i E s2 xs rk hb
      obtain ⟨l, hxs, hK⟩ := hk; exact rd xs l (by simp only [AV.listH]; simp only at hb; rw [hb]) hxs htd hse hK
    · exact hk.elim
  · rename_i xs htd hk0
    obtain ⟨hse, l, hxs, hK⟩ := hk; exact rd xs l rfl hxs htd hse hK
  · obtain ⟨v, cv, hr, hv, hK⟩ := Zei (P := P) (w := w) hΓ hx hk
    exact StepOK.pure R hr hv hK
end
end Go.AM
