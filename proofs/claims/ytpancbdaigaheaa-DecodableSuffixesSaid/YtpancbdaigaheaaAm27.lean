/-
  AM 27: a pure function whose result is a row of its own, at a call.
-/
import Derived.Test.YtpancbdaigaheaaAm26
namespace Go.AM
open Go.RowKit

section
variable {P : Program} {X : Ctx} {I I' : Nat → Prop} {μ : Nat → Value} {ob : Nat → Option Nat} {w w' : World} {h : List AObj} {o : AObj}

/-- A name for a block that nobody names yet. -/
theorem RepH.nameOld (R : RepH X I μ ob h w) {v : Value} {g : Option Nat} (hgn : ∀ k, g = some k → X.mine k ∧ k < w.heap.size ∧ ¬ I k ∧ ∀ b, ob b ≠ some k)
    (ho : ObjOK (h.length + 1) (upd μ h.length v) I (upd ob h.length g) w h.length o) : RepH X I (upd μ h.length v) (upd ob h.length g) (h ++ [o]) w := by
  have hlt : ∀ c, c < h.length → c ≠ h.length := fun c hc => by omega
  exact {
    below := R.below, base := R.base, imm := R.imm, ctx := R.ctx, frz := R.frz, inew := R.inew
    may := fun b hb => by
      have : b ≠ h.length := fun e => hb (.inl (by rw [e]; exact R.names))
      rw [upd_other _ _ this]; exact R.may b hb
    names := by simpa using Nat.le_succ_of_le R.names
    own := fun b k hb => by
      by_cases e : b = h.length
      · subst e; rw [upd_same] at hb
        have := hgn k hb
        exact ⟨this.2.2.1, this.1, this.2.1⟩
      · rw [upd_other _ _ e] at hb
        exact R.own b k hb
    sep := fun b b' k hb hb' => by
      by_cases e : b = h.length <;> by_cases e' : b' = h.length
      · omega
      · subst e; rw [upd_same] at hb; rw [upd_other _ _ e'] at hb'
        exact absurd hb' ((hgn k hb).2.2.2 b')
      · subst e'; rw [upd_same] at hb'; rw [upd_other _ _ e] at hb
        exact absurd hb ((hgn k hb').2.2.2 b)
      · rw [upd_other _ _ e] at hb; rw [upd_other _ _ e'] at hb'; exact R.sep b b' k hb hb'
    past := fun b hb => by
      simp only [List.length_append, List.length_singleton] at hb
      rw [upd_other _ _ (by omega)]; exact R.past b (by omega)
    objs := fun b o' hb => by
      simp only [List.length_append, List.length_singleton]
      by_cases e : b < h.length
      · rw [List.getElem?_append_left e] at hb
        exact (R.objs b o' hb).keep (Nat.le_succ _) (fun c hc => upd_other _ _ (hlt c hc)) (upd_other _ _ (hlt b e)) (upd_other _ _ (hlt b e)) (fun _ h => h) (fun _ _ => rfl) (fun _ _ => rfl)
      · have hb2 : b = h.length := by
          have := (List.getElem?_eq_some_iff.1 hb).1; simp only [List.length_append, List.length_singleton] at this; omega
        subst hb2
        simp only [List.getElem?_append_right (Nat.le_refl _), Nat.sub_self, List.getElem?_cons_zero, Option.some.injEq] at hb
        subst hb; exact ho }

/-- A pure function that gives a row of its own. -/
def PRow (P : Program) (f : FuncId) (args : List PV) (E : TypeId) (s : Nat) (xs : List PV) : Prop :=
  AC P f (args.map .p) [] [] (fun v h' => ∃ b rk, v = .own b xs.length ∧ h'[b]? = some (.row E s xs rk) ∧ rk ≠ .raw)

theorem AC.of_row {f : FuncId} {args : List AV} {pargs xs : List PV} {E : TypeId} {s : Nat} (hf : PRow P f pargs E s xs) (hp : AV.pures args = some pargs ∨ AV.purL [] args = some pargs) :
    AC P f args h [] (fun v h' => v = .own h.length xs.length ∧ h' = h ++ [.row E s xs .lax]) := by
  refine ⟨hf.1, fun X I μ ob w cargs R hlen hargs _ => ?_⟩
  have key : args.length = pargs.length ∧ ∀ i, i < args.length → PR I w (pargs.getD i default) (cargs.getD i undef) := by
    rcases hp with hp | hp
    · obtain ⟨e1, e2⟩ := AV.pures_get hp
      exact ⟨e1, fun i hi => (hargs i hi).pure1 (e2 i hi)⟩
    · obtain ⟨e1, e2⟩ := AV.purL_get hp
      refine ⟨e1, fun i hi => ?_⟩
      have := (hargs i hi).pur (h := []) (ob := fun _ => none) (fun b o hb => by simp at hb) (e2 i hi)
      exact this.mono (fun g hg => hg.elim id (fun ⟨b, hb⟩ => by cases hb)) (fun _ _ => rfl)
  let X0 : Ctx := { B0 := w.heap.size, w0 := w, I0 := I, μ0 := fun _ => undef, n0 := 0, ks := [], fz := fun _ => False, w1 := w }
  have R0 : RepH X0 I (fun _ => undef) (fun _ => none) [] w := {
      below := Below.refl _ _, base := Nat.le_refl _, imm := R.imm, ctx := fun _ h => h, frz := fun _ h => h.elim, inew := fun _ h => .inl h, may := fun _ _ => rfl, names := Nat.zero_le _
      own := fun b g h => (by cases h), sep := fun b b' g h => (by cases h), past := fun _ _ => rfl, objs := fun b o h => (by simp at h) }
  refine (hf.2 X0 I _ _ w cargs R0 (by simp; omega) (fun i hi => by
    rw [List.length_map] at hi
    rw [getD_map_p _ _ hi]; exact .p _ _ (key.2 i (by omega))) (by simp)).mono ?_
  rintro e w' ⟨cv, v, h', I', μ', ob', rfl, R', hv, hI, _, _, hinew, hobn, _, b, rk, rfl, hrow, hraw⟩
  have hg : w.grownBy w' none := ⟨R'.below.os, R'.below.tape, R'.below.output, R'.below.size, fun k hk _ => R'.below.block k hk⟩
  have hI2 : ∀ g, I' g → I g ∨ (w.heap.size ≤ g ∧ g < w'.heap.size) := fun g hg => (hinew g hg).elim .inl (fun h => h.elim (fun ⟨b, hb⟩ => by cases hb) (fun h => .inr ⟨h, R'.imm g hg⟩))
  obtain ⟨a, c, rfl, hbn, hbm⟩ := hv.own_inv
  have hobj := R'.objs b _ hrow
  have hfr : ∀ k, ob' b = some k → X.mine k ∧ k < w'.heap.size ∧ ¬ I' k ∧ ∀ c, ob c ≠ some k := fun k hk => by
    have h1 := R'.own b k hk
    have h2 : w.heap.size ≤ k := (hobn b k hk).elim (fun ⟨c, hc⟩ => by cases hc) id
    exact ⟨R.fresh h2, h1.2.2, h1.1, fun c hc => by have := (R.own c k hc).2.2; omega⟩
  have R1 := R.grow hg hI hI2
  have R2 : RepH X I' (upd μ h.length (.slice a xs.length c)) (upd ob h.length (ob' b)) (h ++ [.row E s xs .lax]) w' := by
    refine R1.nameOld hfr ⟨hobj.1, ?_⟩
    rcases hobj.2 with ⟨g, hg, hin⟩ | ⟨_, hn, a', h1, h2⟩
    · left
      refine ⟨g, by rw [upd_same]; exact hg, ?_⟩
      rw [upd_same, ← hbm]
      have : (rk != .raw) = true := by simpa using hraw
      rw [this] at hin
      exact hin
    · right
      exact ⟨rfl, by rw [upd_same]; exact hn, a', by rw [upd_same, ← hbm]; exact h1, by rw [upd_same, ← hbm]; exact h2⟩
  refine ⟨_, .own h.length xs.length, _, I', _, _, rfl, R2, .own _ _ _ _ (by simp) (upd_same _ _ _), hI, fun c hc _ => upd_other _ _ (by omega), by simp, fun g hg => (hI2 g hg).imp id (fun h => .inr h.1), fun c g hc => ?_, fun g hlt _ => hg.block g hlt (by simp), rfl, rfl⟩
  by_cases e : c = h.length
  · subst e
    rw [upd_same] at hc
    exact .inr ((hobn b g hc).elim (fun ⟨c, hc⟩ => by cases hc) id)
  · rw [upd_other _ _ e] at hc; exact .inl ⟨c, hc⟩

theorem PFn.of_row {f : FuncId} {args xs : List PV} {E : TypeId} {s : Nat} (hf : PRow P f args E s xs) : PFn P f args [.sl xs] := by
  refine ⟨hf.1, fun I w cargs himm hlen hargs => ?_⟩
  let X : Ctx := { B0 := w.heap.size, w0 := w, I0 := I, μ0 := fun _ => undef, n0 := 0, ks := [], fz := fun _ => False, w1 := w }
  have R : RepH X I (fun _ => undef) (fun _ => none) [] w := {
      below := Below.refl _ _, base := Nat.le_refl _, imm := himm, ctx := fun _ h => h, frz := fun _ h => h.elim, inew := fun _ h => .inl h, may := fun _ _ => rfl, names := Nat.zero_le _
      own := fun b g h => (by cases h), sep := fun b b' g h => (by cases h), past := fun _ _ => rfl, objs := fun b o h => (by simp at h) }
  refine (hf.2 X I _ _ w cargs R (by simpa using hlen) (fun i hi => by
    rw [List.length_map] at hi
    rw [getD_map_p _ _ hi]; exact .p _ _ (hargs i hi)) (by simp)).mono ?_
  rintro e w' ⟨cv, v, h', I', μ', ob', rfl, R', hv, hI, _, _, hinew, hobn, _, b, rk, rfl, hrow, hraw⟩
  refine ⟨cv, fun g => I' g ∨ Owned ob' g, rfl, ⟨R'.below.os, R'.below.tape, R'.below.output, R'.below.size, fun k hk _ => R'.below.block k hk⟩, fun g h => .inl (hI g h), fun g hg => ?_, .p _ _ (hv.pur R'.objs ?_)⟩
  · rcases hg with hg | ⟨b, hb⟩
    · exact (hinew g hg).elim .inl (fun h => h.elim (fun ⟨b, hb⟩ => by cases hb) (fun h => .inr ⟨h, R'.imm g hg⟩))
    · exact .inr ⟨(hobn b g hb).elim (fun ⟨c, hc⟩ => by cases hc) id, (R'.own b g hb).2.2⟩
  · show AV.pur1 h' (.own b xs.length) = _
    unfold AV.pur1
    simp only [hrow]
end
end Go.AM
