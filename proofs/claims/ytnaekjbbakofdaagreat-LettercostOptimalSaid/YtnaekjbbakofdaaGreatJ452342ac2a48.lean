/-
  AM 31: a strings.Builder of the function's own, beside the abstract heap: what it writes lies above all that was there when it was made.
  AM 34: a function that gives a row of its own, which may be written.
  AM 35: a nobody's list taken as a pure one; the lowest bit.
  AM 36: the reckoner with plans for statements whose order is open and that change the heap.
  AM 37: a pure function's contract at a call that is given an owned row to keep.
-/
import Derived.Test.YtnaekjbbakofdaaGreatJ55c5db00ba4b
import Derived.Shelf.Strings.Builder1
import Derived.Test.YtnaekjbbakofdaaGreatJ21f202083f56
import Derived.Test.YtnaekjbbakofdaaGreatJ4e8bb2ff1847
import Derived.Test.YtnaekjbbakofdaaGreatJ9daa5109031c

section
namespace Go.AM
open Go.RowKit
set_option linter.unusedSimpArgs false

section
variable {E : Env} {X : Ctx} {I : Nat → Prop} {μ : Nat → Value} {ob : Nat → Option Nat} {h : List AObj} {tm tm' : List AV} {wb w w' : World} {a : Act} {r : Option Nat} {K : List AV → Prop} {Q : Exit → Act → World → Prop}

theorem grown_of_below (hb : Below wb.heap.size wb w) : wb.grownBy w none := ⟨hb.os, hb.tape, hb.output, hb.size, fun k hk _ => hb.block k hk⟩
theorem Rep.above (R : Rep X I μ ob ⟨tm, h⟩ wb a) (hb : Below wb.heap.size wb w) : Rep X I μ ob ⟨tm, h⟩ w a := R.grow (grown_of_below hb) (fun _ h => h) (fun _ h => .inl h)

structure Bld (X : Ctx) (I : Nat → Prop) (μ : Nat → Value) (ob : Nat → Option Nat) (h : List AObj) (wb : World) (T e : TypeId) (s : Nat) (tm : List AV) (l : List UInt8) (w : World) (a : Act) : Prop where
  base : Rep X I μ ob ⟨tm, h⟩ wb a
  below : Below wb.heap.size wb w
  bld : Lib.IsBuilder T e wb.heap.size wb.heap.size (Lib.byteCells l) w
  ptr : a.tmps.getD s undef = .pointer (some ⟨wb.heap.size, 0, none⟩)

variable {T e : TypeId} {s : Nat} {l l' : List UInt8}

theorem put_other (a : Act) {d s : Nat} (v : Value) (hd : d ≠ s) : (a.put (some d) v).tmps.getD s undef = a.tmps.getD s undef := by
  simp only [Act.put]
  rw [Array.getD_eq_getD_getElem?, Array.getD_eq_getD_getElem?]
  simp [Array.set!_eq_setIfInBounds, Array.getElem?_setIfInBounds, hd]

theorem Bld.put (B : Bld X I μ ob h wb T e s tm l w a) {v : AV} {cv : Value} (hv : VR h.length μ I w v cv) {d : Nat} (hd : d ≠ s) : Bld X I μ ob h wb T e s (putD tm (some d) v) l w (a.put (some d) cv) where
  base := B.base.put (hv.mono (Nat.le_refl _) (fun _ _ => rfl) (fun _ h => h) (fun g hg => (B.below.block g (B.base.imm g hg)).symm)) _
  below := B.below
  bld := B.bld
  ptr := by rw [put_other _ _ hd]; exact B.ptr

theorem Bld.weak (B : Bld X I μ ob h wb T e s tm l w a) (hw : weakT tm tm') : Bld X I μ ob h wb T e s tm' l w a where
  base := by
    obtain ⟨t1, t2⟩ := weakT_ok hw
    refine { toRepH := B.base.toRepH, size := t1.trans B.base.size, marks := B.base.marks, tmps := fun i hi => ?_ }
    rcases t2 i (by simp only at hi; omega) with h | h
    · simp only; rw [h]; exact .junk _
    · simp only; rw [h]; exact B.base.tmps i (by simp only at hi ⊢; omega)
  below := B.below
  bld := B.bld
  ptr := B.ptr

theorem Bld.start (R : Rep X I μ ob ⟨tm, h⟩ w a) (hs : s < tm.length) : Bld X I μ ob h w T e s (putD tm (some s) .junk) [] (w.alloc (.cells #[.pointer none, .slice none 0 0] T)) (a.put (some s) (.pointer (some ⟨w.heap.size, 0, none⟩))) where
  base := R.put (.junk _) _
  below := (Below.refl _ _).alloc (Nat.le_refl _) _
  bld := .inl ⟨Nat.le_refl _, .slice none 0 0, heap_alloc_new w _, ⟨by simp [Lib.byteCells], .inl ⟨rfl, rfl⟩⟩, by simp [Value.ownBlock]⟩
  ptr := by
    have hsz : s < a.tmps.size := by have := R.size; simp only at this; omega
    simp only [Act.put]
    rw [Array.getD_eq_getD_getElem?]
    simp [Array.set!_eq_setIfInBounds, Array.getElem?_setIfInBounds, hsz]

end
end Go.AM
end

section
namespace Go.AM
open Go.RowKit

def PRowO (P : Program) (f : FuncId) (args : List PV) (E : TypeId) (s : Nat) (xs : List PV) : Prop :=
  AC P f (args.map .p) [] [] (fun v h' => ∃ b, v = .own b xs.length ∧ h'[b]? = some (.row E s xs .own))

theorem PRowO.row {P : Program} {f : FuncId} {args : List PV} {E : TypeId} {s : Nat} {xs : List PV} (h : PRowO P f args E s xs) : PRow P f args E s xs :=
  AC.monoR h fun _ _ ⟨b, h1, h2⟩ => ⟨b, .own, h1, h2, by decide⟩
theorem PFn.of_rowO {P : Program} {f : FuncId} {args xs : List PV} {E : TypeId} {s : Nat} (hf : PRowO P f args E s xs) : PFn P f args [.sl xs] := .of_row hf.row

theorem AC.of_rowO {P : Program} {h : List AObj} {f : FuncId} {args : List AV} {pargs xs : List PV} {E : TypeId} {s : Nat} (hf : PRowO P f pargs E s xs) (hp : AV.pures args = some pargs ∨ AV.purL [] args = some pargs) :
    AC P f args h [] (fun v h' => v = .own h.length xs.length ∧ h' = h ++ [.row E s xs .own]) := by
  refine ⟨hf.1, fun X I μ ob w cargs R hlen hargs _ => ?_⟩
  have key : args.length = pargs.length ∧ ∀ i, i < args.length → PR I w (pargs.getD i default) (cargs.getD i undef) := by
    rcases hp with hp | hp
    · obtain ⟨e1, e2⟩ := AV.pures_get hp
      exact ⟨e1, fun i hi => (hargs i hi).pure1 (e2 i hi)⟩
    · obtain ⟨e1, e2⟩ := AV.purL_get hp
      refine ⟨e1, fun i hi => ?_⟩
      have := (hargs i hi).pur (h := []) (ob := fun _ => none) (fun b o hb => by simp at hb) (e2 i hi)
      exact this.mono (fun g hg => hg.elim id (fun ⟨b, hb⟩ => by cases hb)) (fun _ _ => rfl)
  let X0 : Ctx := { B0 := w.heap.size, w0 := w, I0 := I, μ0 := fun _ => undef, n0 := 0, ks := [], fz := fun _ => False, w1 := w }
  have R0 : RepH X0 I (fun _ => undef) (fun _ => none) [] w := {
      below := Below.refl _ _, base := Nat.le_refl _, imm := R.imm, ctx := fun _ h => h, frz := fun _ h => h.elim, inew := fun _ h => .inl h, may := fun _ _ => rfl, names := Nat.zero_le _
      own := fun b g h => (by cases h), sep := fun b b' g h => (by cases h), past := fun _ _ => rfl, objs := fun b o h => (by simp at h) }
  refine (hf.2 X0 I _ _ w cargs R0 (by simp; omega) (fun i hi => by
    rw [List.length_map] at hi
    rw [getD_map_p _ _ hi]; exact .p _ _ (key.2 i (by omega))) (by simp)).mono ?_
  rintro e w' ⟨cv, v, h', I', μ', ob', rfl, R', hv, hI, _, _, hinew, hobn, _, b, rfl, hrow⟩
  have hg : w.grownBy w' none := ⟨R'.below.os, R'.below.tape, R'.below.output, R'.below.size, fun k hk _ => R'.below.block k hk⟩
  have hI2 : ∀ g, I' g → I g ∨ (w.heap.size ≤ g ∧ g < w'.heap.size) := fun g hg => (hinew g hg).elim .inl (fun h => h.elim (fun ⟨b, hb⟩ => by cases hb) (fun h => .inr ⟨h, R'.imm g hg⟩))
  obtain ⟨a, c, rfl, hbn, hbm⟩ := hv.own_inv
  have hobj := R'.objs b _ hrow
  have hfr : ∀ k, ob' b = some k → X.mine k ∧ k < w'.heap.size ∧ ¬ I' k ∧ ∀ c, ob c ≠ some k := fun k hk => by
    have h1 := R'.own b k hk
    have h2 : w.heap.size ≤ k := (hobn b k hk).elim (fun ⟨c, hc⟩ => by cases hc) id
    exact ⟨R.fresh h2, h1.2.2, h1.1, fun c hc => by have := (R.own c k hc).2.2; omega⟩
  have R1 := R.grow hg hI hI2
  have R2 : RepH X I' (upd μ h.length (.slice a xs.length c)) (upd ob h.length (ob' b)) (h ++ [.row E s xs .own]) w' := by
    refine R1.nameOld hfr ⟨hobj.1, ?_⟩
    rcases hobj.2 with ⟨g, hg, hin⟩ | ⟨h0, _⟩
    · left
      refine ⟨g, by rw [upd_same]; exact hg, ?_⟩
      rw [upd_same, ← hbm]
      exact hin
    · cases h0
  refine ⟨_, .own h.length xs.length, _, I', _, _, rfl, R2, .own _ _ _ _ (by simp) (upd_same _ _ _), hI, fun c hc _ => upd_other _ _ (by omega), by simp, fun g hg => (hI2 g hg).imp id (fun h => .inr h.1), fun c g hc => ?_, fun g hlt _ => hg.block g hlt (by simp), rfl, rfl⟩
  by_cases e : c = h.length
  · subst e
    rw [upd_same] at hc
    exact .inr ((hobn b g hc).elim (fun ⟨c, hc⟩ => by cases hc) id)
  · rw [upd_other _ _ e] at hc; exact .inl ⟨c, hc⟩

theorem AWp.seqM {E : Env} {r : Option Nat} {Q : Exit → St → Prop} {st : St} {x y : Code} {α : Type} (fr : α → St) (Inv : α → Prop) (h1 : AWp E r x (fun e st => e = .normal ∧ ∃ a, Weak st (fr a) ∧ Inv a) st)
    (h2 : ∀ a, Inv a → AWp E r y Q (fr a)) : AWp E r (.seq x y) Q st :=
  AWp.seq (h1.mono fun e st ⟨he, a, hw, hi⟩ => by subst he; exact AWp.weak hw (h2 a hi))
end Go.AM
end

section
namespace Go.AM
open Go.RowKit

theorem AWp.fullP {E : Env} {r : Option Nat} {Q : Exit → St → Prop} {c : Code} {tm : List AV} {h : List AObj} {l : List PV} (i : Nat) (hi : tm.getD i .junk = .full l) (hw : AWp E r c Q ⟨tm.set i (.p (.sl l)), h⟩) : AWp E r c Q ⟨tm, h⟩ := by
  intro X I w a hE hN
  obtain ⟨I', μ', ob', hI, R⟩ := hN
  refine hw X I w a hE ⟨I', μ', ob', hI, { toRepH := R.toRepH, marks := R.marks, size := (by simpa using R.size), tmps := ?_ }⟩
  intro j hj
  have hj' : j < tm.length := by simpa using hj
  have h1 := R.tmps j hj'
  show VR _ _ _ _ ((tm.set i (.p (.sl l))).getD j .junk) _
  by_cases e : i = j
  · subst e
    have e2 : (tm.set i (.p (.sl l))).getD i .junk = .p (.sl l) := by simp [List.getD_eq_getElem?_getD, hj']
    rw [e2]
    simp only at h1
    rw [hi] at h1
    generalize a.tmps.getD i undef = v at h1 ⊢
    cases h1 with
    | full _ _ h => exact .p _ _ h
  · have e2 : (tm.set i (.p (.sl l))).getD j .junk = tm.getD j .junk := by simp [List.getD_eq_getElem?_getD, e]
    rw [e2]; exact h1

end Go.AM
end

section
namespace Go.AM
open Go.RowKit

section
variable {C : EC} {rec : Rk} {n0 : Nat} {ks : List Nat} {ops : List Oper} {sl : List (Option Nat)}
end

/-! ### The reckoner once more, with plans -/
end Go.AM
end

section
namespace Go.AM
open Go.RowKit
section
variable {P : Program} {X : Ctx} {I : Nat → Prop} {μ : Nat → Value} {ob : Nat → Option Nat} {w : World} {h : List AObj} {b : Nat} {E : TypeId} {s : Nat} {xs : List PV} {k : RK}

theorem RepH.freeze (R : RepH X I μ ob h w) (hb : h[b]? = some (.row E s xs k)) : ∃ J, (∀ g, I g → J g) ∧ (∀ g, J g → I g ∨ ob b = some g) ∧ PR J w (.sl xs) (μ b) ∧ RepH X J μ (upd ob b none) ((h.map (AObj.thaw b xs)).set b .dead) w := by
  obtain ⟨hall, hrow⟩ := R.objs b _ hb
  have hlt : b < h.length := (List.getElem?_eq_some_iff.1 hb).1
  let J : Nat → Prop := fun g => I g ∨ ob b = some g
  have hIJ : ∀ g, I g → J g := fun _ h => .inl h
  have hr : PR J w (.sl xs) (μ b) := by
    rcases hrow with ⟨g, h1, h2⟩ | ⟨_, _, a, h3, h4⟩
    · exact h2.pr hall hIJ (.inr h1)
    · exact h4.mono hIJ (fun _ _ => rfl)
  refine ⟨J, hIJ, fun _ h => h, hr, {
    below := R.below, base := R.base, imm := fun g hg => hg.elim (R.imm g) (fun h => (R.own b g h).2.2), ctx := fun g hg => .inl (R.ctx g hg), frz := R.frz
    inew := fun g hg => hg.elim (R.inew g) (fun h => .inr (R.own b g h).2.1), may := R.may, names := by simpa using R.names
    own := fun c g hc => ?_, sep := fun c c' g h1 h2 => ?_, past := fun c hc => ?_, objs := fun c o ho => ?_ }⟩
  · by_cases e : c = b
    · subst e; rw [upd_same] at hc; cases hc
    · rw [upd_other _ _ e] at hc
      exact ⟨fun h => h.elim (R.own c g hc).1 (fun h => e (R.sep c b g hc h)), (R.own c g hc).2⟩
  · by_cases e : c = b
    · subst e; rw [upd_same] at h1; cases h1
    · by_cases e' : c' = b
      · subst e'; rw [upd_same] at h2; cases h2
      · rw [upd_other _ _ e] at h1; rw [upd_other _ _ e'] at h2; exact R.sep c c' g h1 h2
  · simp only [List.length_set, List.length_map] at hc
    rw [upd_other _ _ (by omega)]; exact R.past c hc
  · simp only [List.length_set, List.length_map] at ho ⊢
    by_cases e : c = b
    · subst e
      rw [List.getElem?_set_self (by simpa using hlt)] at ho; injection ho with ho; subst ho; trivial
    · rw [List.getElem?_set_ne (fun h => e h.symm), List.getElem?_map] at ho
      cases ho' : h[c]? with
      | none => rw [ho'] at ho; simp at ho
      | some o' =>
        rw [ho'] at ho; simp only [Option.map_some, Option.some.injEq] at ho; subst ho
        exact (R.objs c o' ho').thaw hIJ hr e

theorem AC.of_fn_give {f : FuncId} {args : List AV} {pargs vs : List PV} (b : Nat) (hfn : PFn P f pargs vs) (hb : h[b]? = some (.row E s xs k)) (hp : AV.purL [] (args.map (AV.thaw b xs)) = some pargs) :
    AC P f args h [] (fun v h' => v = packAV (vs.map .p) ∧ h' = (h.map (AObj.thaw b xs)).set b .dead) := by
  refine ⟨hfn.1, fun X I μ ob w cargs R hlen hargs hks => ?_⟩
  obtain ⟨J, hIJ, hJI, hr, R'⟩ := R.freeze hb
  have hl : ((h.map (AObj.thaw b xs)).set b .dead).length = h.length := by simp
  have h1 := (AC.of_fn (h := (h.map (AObj.thaw b xs)).set b .dead) hfn (.inr hp)).2 X J μ (upd ob b none) w cargs R' (by simpa using hlen) (fun i hi => by
    have hi : i < args.length := by simpa using hi
    rw [getD_map_junk hi, hl]
    exact (hargs i hi).thaw hIJ hr) hks
  refine h1.mono ?_
  rintro e w' ⟨cv, v, h', I', μ', ob', rfl, R2, hv, hI, hμ, hle, hinew, hobn, hsame, rfl, rfl⟩
  have up : ∀ c g, upd ob b none c = some g → ob c = some g := fun c g hc => by
    by_cases e : c = b
    · subst e; rw [upd_same] at hc; cases hc
    · rwa [upd_other _ _ e] at hc
  refine ⟨cv, _, _, I', μ', ob', rfl, R2, hv, fun g hg => hI g (hIJ g hg), fun c hc hn => hμ c (by rw [hl]; exact hc) hn, by rw [hl] at hle ⊢; exact Nat.le_refl _, fun g hg => ?_, fun c g hc => ?_, fun g hg hno => hsame g hg (fun c hc => hno c (up c g hc)), rfl, rfl⟩
  · rcases hinew g hg with h1 | ⟨c, h1⟩ | h1
    · rcases hJI g h1 with h2 | h2
      · exact .inl h2
      · exact .inr (.inl ⟨b, h2⟩)
    · exact .inr (.inl ⟨c, up c g h1⟩)
    · exact .inr (.inr h1)
  · rcases hobn c g hc with ⟨d, h1⟩ | h1
    · exact .inl ⟨d, up d g h1⟩
    · exact .inr h1
end

theorem callK_give {E : Env} {tm : List AV} {h : List AObj} {KS : St → Prop} {d : Option Nat} {f : FuncId} {caps args : List AV} {pargs vs : List PV} (b : Nat) {T : TypeId} {s : Nat} {xs : List PV} {k : RK} (hf : PFn E.P f pargs vs) (hb : h[b]? = some (.row T s xs k))
    (hp : AV.purL [] ((args ++ caps).map (AV.thaw b xs)) = some pargs) (hk : KS ⟨putD tm d (packAV (vs.map .p)), (h.map (AObj.thaw b xs)).set b .dead⟩) : callK E ⟨tm, h⟩ d (.fn f caps) args KS := by
  refine callK_ac (AC.of_fn_give b hf hb hp) (by simp) ?_
  rintro v h' ⟨rfl, rfl⟩
  exact hk
end Go.AM
end

