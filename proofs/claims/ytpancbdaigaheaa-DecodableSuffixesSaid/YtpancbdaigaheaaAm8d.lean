/-
  AM 8d: the entry that an iterator met; an owned row made shorter.
-/
import Derived.Test.YtpancbdaigaheaaAm8c
namespace Go.AM
open Go.RowKit
section
variable {P : Program} {X : Ctx} {I : Nat → Prop} {μ : Nat → Value} {ob : Nat → Option Nat} {w : World} {a : Act} {tm : List AV} {h : List AObj}

def entK (h : List AObj) (x : AV) (K : AV → Prop) : Prop :=
  match x with
  | .ptr b 0 => (match h[b]? with
    | some (.it m _ seen last) => (match h[m]?, seen.getLast? with
      | some (.mp es), some i => (last = es.length ∧ i < es.length) ∧ K (.tup [.p (.str (es.getD i default).1), .p (es.getD i default).2])
      | _, _ => False)
    | _ => False)
  | _ => False

theorem find_born {ents : Array MapEntry} {i : Nat} (hi : i < ents.size) (hb : ∀ j, j < ents.size → (ents.getD j default).born = j) : ents.find? (fun e => e.born == i) = some (ents.getD i default) := by
  rw [← Array.find?_toList]
  have e0 : ∀ j (h : j < ents.size), ents.getD j default = ents.toList[j]'(by simpa using h) := fun j h => by simp [Array.getD_eq_getD_getElem?, h]
  rw [List.find?_eq_some_iff_getElem]
  refine ⟨by rw [hb i hi]; simp, i, by simpa using hi, (e0 i hi).symm, fun j hj => ?_⟩
  rw [← e0 j (by omega), hb j (by omega)]
  simp; omega

theorem ent_ok {x : AV} {v : Value} {K : AV → Prop} (hx : VR h.length μ I w x v) (hobj : ∀ b o, h[b]? = some o → ObjOK h.length μ I ob w b o) (hk : entK h x K) :
    ∃ a cv, (Instr.entry v).run P w = .ok cv w ∧ VR h.length μ I w a cv ∧ K a := by
  unfold entK at hk
  split at hk
  · rename_i b
    split at hk
    · rename_i m since seen last hb
      split at hk
      · rename_i es i hm hlast
        obtain ⟨⟨hl, hi⟩, hK⟩ := hk
        obtain ⟨g0, rfl, hbn, hμ0⟩ := hx.ptr_inv
        obtain ⟨r, g, hmn, hobr, hμb, hμm, hwi, _⟩ := hobj _ _ hb
        rw [hμ0] at hμb; injection hμb with hμb; injection hμb with hμb; injection hμb with hμb _ _; have hμb := hμb.symm; subst hμb
        obtain ⟨r', ents, hobm, hm', hw, hlen, hents, hborn⟩ := hobj _ _ hm
        rw [hμm] at hm'; injection hm' with hm'; injection hm' with hm'; subst hm'
        obtain ⟨⟨kb, hkb, hkb2⟩, hpv⟩ := hents i hi
        have hback : seen.toArray.back? = some i := by simpa [List.getLast?_eq_getElem?, Array.back?] using hlast
        have hf := find_born (ents := ents) (i := i) (by omega) hborn
        have hgi : (getObj r).run P w = .ok (.mapIter (some g) since seen.toArray last) w := by simp [getObj, Sem.run, hwi]
        refine ⟨_, .tuple #[(ents.getD i default).key, (ents.getD i default).val], ?_, ?_, hK⟩
        · simp only [Instr.entry, Sem.run_bind, hgi, Result.andThen, hback, gobj_map hw]
          rw [if_neg (by simp [hl])]
          simp only [hf]; rfl
        · refine .tup _ [(ents.getD i default).key, (ents.getD i default).val] rfl (fun j hj => ?_)
          have : j = 0 ∨ j = 1 := by simp at hj; omega
          rcases this with rfl | rfl
          · show VR _ _ _ _ (.p (.str (es.getD i default).1)) (ents.getD i default).key
            rw [hkb]; exact .mkStr hkb2
          · exact .p _ _ hpv
      · exact hk.elim
    · exact hk.elim
  · exact hk.elim

theorem flats_take {s : Nat} : ∀ {xs : List PV}, (∀ x ∈ xs, x.cells.length = s) → ∀ J : Nat, flats (xs.take J) = (flats xs).take (J * s)
  | [], _, J => by simp [flats]
  | x :: xs, hall, 0 => by simp [flats]
  | x :: xs, hall, J + 1 => by
    have hx := hall x (by simp)
    have ih := flats_take (xs := xs) (fun y hy => hall y (by simp [hy])) J
    simp only [flats, List.take_succ_cons, List.flatMap_cons] at ih ⊢
    rw [ih, Nat.add_mul, Nat.one_mul, Nat.add_comm (J * s) s, ← hx, List.take_length_add_append]

def slOwnK (Γ : Gam) (n0 : Nat) (ks : List Nat) (tm : List AV) (h : List AObj) (d : Option Nat) (t : TypeId) (b m : Nat) (hi : Option AV) (K : St → Prop) : Prop :=
  match hi with
  | some (.p (.int _ j)) => tyAt Γ t fun te => (match te.td with
    | .slice e => tyAt Γ e fun _ => (match h[b]? with
      | some (.row E s xs k) => (k ≠ .lax ∧ (n0 ≤ b ∨ b ∈ ks) ∧ 0 ≤ j ∧ j ≤ m) ∧ K ⟨putD (tm.map (AV.kill b)) d (.own b j.toNat), (h.map (AObj.kill b)).set b (.row E s (xs.take j.toNat) k)⟩
      | _ => False)
    | _ => False)
  | _ => False

theorem slOwn_ok {Γ : Gam} (hΓ : GamOK P Γ) {t : TypeId} {b m : Nat} {v : Value} {hi : Option AV} {vh : Option Value} {d : Option Nat} {K : St → Prop} (R : Rep X I μ ob ⟨tm, h⟩ w a) (hx : VR h.length μ I w (.own b m) v)
    (hh : match hi, vh with | none, none => True | some x, some v => VR h.length μ I w x v | _, _ => False) (hk : slOwnK Γ X.n0 X.ks tm h d t b m hi K) : StepOK P X I μ h.length (Instr.sliceAt t v none vh none) w a d K := by
  unfold slOwnK at hk
  split at hk
  · rename_i q j
    obtain ⟨kh, rfl⟩ : ∃ kh, vh = some (.int kh j) := by
      cases vh with
      | none => exact hh.elim
      | some u => exact ⟨q, by rw [hh.int_inv]⟩
    obtain ⟨te, ht, hk⟩ := hk.get
    split at hk
    · rename_i e he
      obtain ⟨ee, hee, hk⟩ := hk.get
      split at hk
      · rename_i E s xs k hb
        obtain ⟨⟨hlax, hmay, h0, hjm⟩, hK⟩ := hk
        obtain ⟨dd, hu, hd, _⟩ := (hΓ _ _ ht).desc
        rw [he] at hd; simp only [descOK] at hd; subst hd
        obtain ⟨inf, hinf, hisz, _⟩ := (hΓ _ _ hee).info
        have hel : P.elem t = e := by simp [Program.elem, hu]
        have hu' : P.underlying t = some (.slice (P.elem t)) := by rw [hel]; exact hu
        have hsize : (sizeOf (P.elem t)).run P w = .ok ee.cells w := by simp [sizeOf, typeInfo, hel, hinf, hisz]
        obtain ⟨hall, hrow⟩ := R.objs _ _ hb
        obtain ⟨xa, xc, rfl, hbn, hbm⟩ := hx.own_inv
        rcases hrow with ⟨g, hobg, cap, cur, fr, vs, e3, hw, hfr, hnf, hle, hcm, hcs, htake, hvl, hpr⟩ | ⟨hl2, _⟩
        · rw [hbm] at e3; injection e3 with e4 e5 e6; subst e4 e5 e6
          obtain ⟨J, rfl⟩ := Int.eq_ofNat_of_zero_le h0
          have hJ : J ≤ xs.length := by omega
          have hrun : (Instr.sliceAt t (.slice (some ⟨g, 0, none⟩) xs.length xc) none (some (.int kh J)) none).run P w = .ok (.slice (some ⟨g, 0, none⟩) J xc) w := by
            rw [run_sliceAt_slice (P := P) w t _ _ _ _ hu', run_slice_h (P := P) w t _ _ xc hu' kh J h0 (by omega), hsize]
            simp [sliced, Result.andThen, Addr.add]
          have hlt : (xs.take J).length = J := by simp [hJ]
          have R1 := R.move (w' := w) (v := .slice (some ⟨g, 0, none⟩) J xc) (g := some g) (o := .row E s (xs.take J) k) hbn (by rcases hmay with h | h; exact .inl h; exact .inr h)
            (World.grownBy.refl _ _) (fun k e => by injection e with e; subst e; exact ⟨.inl hobg, (R.own _ _ hobg).2.2⟩) (by
              refine ⟨fun x hx => hall x (List.mem_of_mem_take hx), .inl ⟨g, by simp, xc, cur, fr, vs.take (J * s), by simp [hlt], hw, hfr, hnf, by rw [hlt]; omega, hcm, hcs, ?_, ?_, fun j hj => ?_⟩⟩
              · rw [hlt, ← htake, List.take_take, Nat.min_eq_left (Nat.mul_le_mul_right _ hJ)]
              · have := Nat.mul_le_mul_right s hJ
                rw [hlt, List.length_take, hvl]; omega
              · rw [hlt] at hj
                have hJs := Nat.mul_le_mul_right s hJ
                have hfl : flats (xs.take J) = (flats xs).take (J * s) := flats_take hall J
                rw [hfl]
                have := hpr j (by omega)
                simpa [List.getD_eq_getElem?_getD, List.getElem?_take, hj] using this)
          have R2 := R1.put (v := .own b J) (cv := .slice (some ⟨g, 0, none⟩) J xc) (.own _ _ _ _ (by simpa using hbn) (by simp)) d
          exact ⟨_, _, _, hrun, ⟨_, _, _, fun _ h => h, R2, fun c hc hm => upd_other _ _ (fun e => hm (by subst e; rcases hmay with h | h; exact .inl h; exact .inr h))⟩, by simpa using hK⟩
        · exact absurd hl2 hlax
      · exact hk.elim
    · exact hk.elim
  · exact hk.elim
end
end Go.AM
