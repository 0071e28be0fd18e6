/-
  Texts of this claim, joined.
-/
import Derived.Test.YtpljmccnfmkmfaaGreatJd16cf1e4a705
import Derived.Shelf.Strings.Builder1
import Derived.Test.YtpljmccnfmkmfaaGreatJfb534ab956df
import Derived.Test.YtpljmccnfmkmfaaGreatJ1f8845d06104
import Derived.Test.YtpljmccnfmkmfaaGreatJea0a703955d9

set_option linter.unusedSimpArgs false
section
namespace Go.AM
open Go.RowKit

section
variable {E : Env} {X : Ctx} {I : Nat → Prop} {μ : Nat → Value} {ob : Nat → Option Nat} {h : List AObj} {tm tm' : List AV} {wb w w' : World} {a : Act} {r : Option Nat} {K : List AV → Prop} {Q : Exit → Act → World → Prop}

theorem Z0m (hb : Below wb.heap.size wb w) : wb.grownBy w none := ⟨hb.os, hb.tape, hb.output, hb.size, fun k hk _ => hb.block k hk⟩
structure Bld (X : Ctx) (I : Nat → Prop) (μ : Nat → Value) (ob : Nat → Option Nat) (h : List AObj) (wb : World) (T e : TypeId) (s : Nat) (tm : List AV) (l : List UInt8) (w : World) (a : Act) : Prop where
  base : Rep X I μ ob ⟨tm, h⟩ wb a
  below : Below wb.heap.size wb w
  bld : Lib.IsBuilder T e wb.heap.size wb.heap.size (Lib.byteCells l) w
  ptr : a.tmps.getD s undef = .pointer (some ⟨wb.heap.size, 0, none⟩)

variable {T e : TypeId} {s : Nat} {l l' : List UInt8}

end
end Go.AM
end

section
namespace Go.AM
open Go.RowKit

def PRowO (P : Program) (f : FuncId) (args : List PV) (E : TypeId) (s : Nat) (xs : List PV) : Prop :=
  AC P f (args.map .p) [] [] (fun v h' => ∃ b, v = .own b xs.length ∧ h'[b]? = some (.row E s xs .own))

theorem PRowO.row {P : Program} {f : FuncId} {args : List PV} {E : TypeId} {s : Nat} {xs : List PV} (h : PRowO P f args E s xs) : PRow P f args E s xs :=
  AC.monoR h fun _ _ ⟨b, h1, h2⟩ => ⟨b, .own, h1, h2, by decide⟩
theorem PFn.of_rowO {P : Program} {f : FuncId} {args xs : List PV} {E : TypeId} {s : Nat} (hf : PRowO P f args E s xs) : PFn P f args [.sl xs] := .of_row hf.row

theorem AC.of_rowO {P : Program} {h : List AObj} {f : FuncId} {args : List AV} {pargs xs : List PV} {E : TypeId} {s : Nat} (hf : PRowO P f pargs E s xs) (hp : AV.pures args = some pargs ∨ AV.purL [] args = some pargs) :
    AC P f args h [] (fun v h' => v = .own h.length xs.length ∧ h' = h ++ [.row E s xs .own]) := by
  refine ⟨hf.1, fun X I μ ob w cargs R hlen hargs _ => ?_⟩; have key : args.length = pargs.length ∧ ∀ i, i < args.length → PR I w (pargs.getD i default) (cargs.getD i undef) := by
    rcases hp with hp | hp
    · obtain ⟨e1, e2⟩ := AV.pures_get hp
      exact ⟨e1, fun i hi => (hargs i hi).pure1 (e2 i hi)⟩
    · obtain ⟨e1, e2⟩ := AV.purL_get hp
      refine ⟨e1, fun i hi => ?_⟩; have := (hargs i hi).pur (h := []) (ob := fun _ => none) (fun b o hb => by simp at hb) (e2 i hi); exact this.mono (fun g hg => hg.elim id (fun ⟨b, hb⟩ => by cases hb)) (fun _ _ => rfl)
  let X0 : Ctx := { B0 := w.heap.size, w0 := w, I0 := I, μ0 := fun _ => undef, n0 := 0, ks := [], fz := fun _ => False, w1 := w }
  have R0 : RepH X0 I (fun _ => undef) (fun _ => none) [] w := {
      below := Below.refl _ _, base := Nat.le_refl _, imm := R.imm, ctx := fun _ h => h, frz := fun _ h => h.elim, inew := fun _ h => .inl h, may := fun _ _ => rfl, names := Nat.zero_le _
      own := fun b g h => (by cases h), sep := fun b b' g h => (by cases h), past := fun _ _ => rfl, objs := fun b o h => (by simp at h) }
  refine (hf.2 X0 I _ _ w cargs R0 (by simp; omega) (fun i hi => by
    rw [List.length_map] at hi; rw [Z0d _ _ hi]; exact .p _ _ (key.2 i (by omega))) (by simp)).mono ?_
  rintro e w' ⟨cv, v, h', I', μ', ob', rfl, R', hv, hI, _, _, hinew, hobn, _, b, rfl, hrow⟩; have hg : w.grownBy w' none := ⟨R'.below.os, R'.below.tape, R'.below.output, R'.below.size, fun k hk _ => R'.below.block k hk⟩; have hI2 : ∀ g, I' g → I g ∨ (w.heap.size ≤ g ∧ g < w'.heap.size) := fun g hg => (hinew g hg).elim .inl (fun h => h.elim (fun ⟨b, hb⟩ => by cases hb) (fun h => .inr ⟨h, R'.imm g hg⟩))
  obtain ⟨a, c, rfl, hbn, hbm⟩ := hv.own_inv; have hobj := R'.objs b _ hrow; have hfr : ∀ k, ob' b = some k → X.mine k ∧ k < w'.heap.size ∧ ¬ I' k ∧ ∀ c, ob c ≠ some k := fun k hk => by
    have h1 := R'.own b k hk; have h2 : w.heap.size ≤ k := (hobn b k hk).elim (fun ⟨c, hc⟩ => by cases hc) id; exact ⟨R.fresh h2, h1.2.2, h1.1, fun c hc => by have := (R.own c k hc).2.2; omega⟩
  have R1 := R.grow hg hI hI2; have R2 : RepH X I' (upd μ h.length (.slice a xs.length c)) (upd ob h.length (ob' b)) (h ++ [.row E s xs .own]) w' := by
    refine R1.nameOld hfr ⟨hobj.1, ?_⟩; rcases hobj.2 with ⟨g, hg, hin⟩ | ⟨h0, _⟩
    · left
      refine ⟨g, by rw [Z9]; exact hg, ?_⟩; rw [Z9, ← hbm]; exact hin
    · cases h0
  refine ⟨_, .own h.length xs.length, _, I', _, _, rfl, R2, .own _ _ _ _ (by simp) (Z9 _ _ _), hI, fun c hc _ => Z6 _ _ (by omega), by simp, fun g hg => (hI2 g hg).imp id (fun h => .inr h.1), fun c g hc => ?_, fun g hlt _ => hg.block g hlt (by simp), rfl, rfl⟩; by_cases e : c = h.length
  · subst e
    rw [Z9] at hc; exact .inr ((hobn b g hc).elim (fun ⟨c, hc⟩ => by cases hc) id)
  · rw [Z6 _ _ e] at hc; exact .inl ⟨c, hc⟩

theorem AWp.seqM {E : Env} {r : Option Nat} {Q : Exit → St → Prop} {st : St} {x y : Code} {α : Type} (fr : α → St) (Inv : α → Prop) (h1 : AWp E r x (fun e st => e = .normal ∧ ∃ a, Weak st (fr a) ∧ Inv a) st)
    (h2 : ∀ a, Inv a → AWp E r y Q (fr a)) : AWp E r (.seq x y) Q st :=
  AWp.seq (h1.mono fun e st ⟨he, a, hw, hi⟩ => by subst he; exact AWp.weak hw (h2 a hi))

def AV.blw (n : Nat) : AV → Bool
  | .own b _ => decide (b < n)
  | .ptr b _ => decide (b < n)
  | .eptr b _ _ _ => decide (b < n)
  | .map b => decide (b < n)
  | .yld b => decide (b < n)
  | .fn _ caps => blwL n caps
  | .agg l => blwL n l
  | .tup l => blwL n l
  | _ => true
where blwL (n : Nat) : List AV → Bool
  | [] => true
  | v :: l => v.blw n && blwL n l
def AObj.blw (n : Nat) : AObj → Bool
  | .box cs => AV.blw.blwL n cs
  | .it m _ _ _ => decide (m < n)
  | .lp tm _ _ _ _ => AV.blw.blwL n tm
  | _ => true
def blwH (n : Nat) : List AObj → Bool
  | [] => true
  | o :: l => o.blw n && blwH n l

theorem Z2l {n : Nat} : ∀ {l : List AV}, AV.blw.blwL n l = true → ∀ i, (l.getD i .junk).blw n = true
  | [], _, i => by simp [AV.blw]
  | v :: l, h, i => by
    simp only [AV.blw.blwL, Bool.and_eq_true] at h
    cases i with
    | zero => exact h.1
    | succ i => rw [List.getD_cons_succ]; exact Z2l h.2 i
theorem Zcu {n : Nat} : ∀ {l : List AObj}, blwH n l = true → ∀ (i : Nat) (o : AObj), l[i]? = some o → o.blw n = true
  | v :: l, h, i, o, ho => by
    simp only [blwH, Bool.and_eq_true] at h
    cases i with
    | zero => injection ho with ho; subst ho; exact h.1
    | succ i => exact Zcu h.2 i o ho

theorem VR.blw {n m : Nat} {μ : Nat → Value} {I : Nat → Prop} {w : World} {x : AV} {v : Value} (hx : VR n μ I w x v) (hu : x.blw m = true) : VR m μ I w x v := by
  induction hx with
  | junk v => exact .junk v
  | cell v h => exact .cell v h
  | p x v h => exact .p x v h
  | full l a h => exact .full l a h
  | own b k a c hb h => exact .own b k a c (of_decide_eq_true hu) h
  | ptr b off g hb h => exact .ptr b off g (of_decide_eq_true hu) h
  | eptr b s i f g off k c hb h => exact .eptr b s i f g off k c (of_decide_eq_true hu) h
  | ipt l g off cur E fz vs hg hb hv hr => exact .ipt l g off cur E fz vs hg hb hv hr
  | map b r hb h => exact .map b r (of_decide_eq_true hu) h
  | yld b l hb h => exact .yld b l (of_decide_eq_true hu) h
  | fn f caps cs hl _ ih => exact .fn f caps cs hl fun i hi => ih i hi (Z2l hu i)
  | agg l cs hl _ ih => exact .agg l cs hl fun i hi => ih i hi (Z2l hu i)
  | tup l cs hl _ ih => exact .tup l cs hl fun i hi => ih i hi (Z2l hu i)
  | nil => exact .nil

theorem Rep.trim {X : Ctx} {I : Nat → Prop} {μ : Nat → Value} {ob : Nat → Option Nat} {w : World} {tm : List AV} {h h2 : List AObj} {a : Act} (R : Rep X I μ ob ⟨tm, h ++ h2⟩ w a) (hn : X.n0 ≤ h.length) (ht : AV.blw.blwL h.length tm = true) (hh : blwH h.length h = true) :
    ∃ ob', Rep X I μ ob' ⟨tm, h⟩ w a := by
  refine ⟨fun b => if b < h.length then ob b else none, {
    below := R.below, base := R.base, imm := R.imm, ctx := R.ctx, frz := R.frz, inew := R.inew, may := R.may, names := hn
    own := fun b g hb => ?_, sep := fun b b' g h1 h2 => ?_, past := fun b hb => ?_, objs := fun b o ho => ?_
    size := R.size, tmps := fun i hi => (R.tmps i hi).blw (Z2l ht i), marks := ?_ }⟩
  · split at hb
    · exact R.own b g hb
    · cases hb
  · split at h1
    · split at h2
      · exact R.sep b b' g h1 h2
      · cases h2
    · cases h1
  · rw [if_neg (by simp only at hb; omega)]
  · have hlt : b < h.length := (List.getElem?_eq_some_iff.1 ho).1
    have hob : (fun b => if b < h.length then ob b else none) b = ob b := by simp only; rw [if_pos hlt]
    have hO := R.objs b o (by simp only; rw [List.getElem?_append_left hlt]; exact ho); have hu := Zcu hh b o ho
    cases o with
    | dead => trivial
    | box cs =>
      obtain ⟨g, T, cur, h1, h2, h3, h4, h5⟩ := hO; exact ⟨g, T, cur, hob.trans h1, h2, h3, h4, fun i hi => (h5 i hi).blw (Z2l hu i)⟩
    | row E s xs k =>
      obtain ⟨h0, hO⟩ := hO; refine ⟨h0, ?_⟩; rcases hO with ⟨g, h1, h2⟩ | ⟨h1, h2, a, h3, h4⟩
      · exact .inl ⟨g, hob.trans h1, h2⟩
      · exact .inr ⟨h1, hob.trans h2, a, h3, h4⟩
    | mp es =>
      obtain ⟨r, ents, h1, h2, h3, h4, h5, h6⟩ := hO; exact ⟨r, ents, hob.trans h1, h2, h3, h4, h5, h6⟩
    | it m since seen last =>
      obtain ⟨r, g, h0, h1, h2, h3, h4, h5⟩ := hO; exact ⟨r, g, of_decide_eq_true hu, hob.trans h1, h2, h3, h4, h5⟩
    | lp tm ps assign body s =>
      obtain ⟨l, rec, h1, h2, h3, h4, h5, h6⟩ := hO; exact ⟨l, rec, hob.trans h1, h2, h3, h4, fun i hi => (h5 i hi).blw (Z2l hu i), h6⟩
  · obtain ⟨rs, m1, m2, m3⟩ := R.marks
    refine ⟨rs, m1, m2, fun q hq => ?_⟩; obtain ⟨e1, e2, e3, e4⟩ := m3 q hq; refine ⟨e1, e2, e3, fun b hb => ?_⟩; simp only at hb
    split at hb
    · exact e4 b hb
    · cases hb

theorem AWp.trim {E : Env} {r : Option Nat} {c : Code} {Q : Exit → St → Prop} {tm : List AV} {h h2 : List AObj} (hn : E.n0 ≤ h.length) (ht : AV.blw.blwL h.length tm = true) (hh : blwH h.length h = true)
    (hw : AWp E r c Q ⟨tm, h⟩) : AWp E r c Q ⟨tm, h ++ h2⟩ := fun X I w a hE ⟨I', μ', ob', hI, R⟩ => by
  obtain ⟨ob2, R'⟩ := R.trim (by rw [hE.1]; exact hn) ht hh; exact hw X I w a hE ⟨I', _, _, hI, R'⟩
def swN (b c x : Nat) : Nat := if x = b then c else if x = c then b else x
theorem Z4t (b c x : Nat) : swN b c (swN b c x) = x := by
  unfold swN; by_cases h1 : x = b
  · subst h1; rw [if_pos rfl]; by_cases h2 : c = x
    · subst h2; simp
    · rw [if_neg h2, if_pos rfl]
  · rw [if_neg h1]
    by_cases h2 : x = c
    · subst h2; rw [if_pos rfl, if_pos rfl]
    · rw [if_neg h2, if_neg h1, if_neg h2]
theorem Z7h {b c x n : Nat} (hb : b < n) (hc : c < n) (hx : x < n) : swN b c x < n := by
  unfold swN
  split
  · exact hc
  · split
    · exact hb
    · exact hx
def AV.sw (b c : Nat) : AV → AV
  | .own x n => .own (swN b c x) n
  | .ptr x o => .ptr (swN b c x) o
  | .eptr x s i f => .eptr (swN b c x) s i f
  | .map x => .map (swN b c x)
  | .yld x => .yld (swN b c x)
  | .fn f caps => .fn f (swL b c caps)
  | .agg l => .agg (swL b c l)
  | .tup l => .tup (swL b c l)
  | v => v
where swL (b c : Nat) : List AV → List AV
  | [] => []
  | v :: l => v.sw b c :: swL b c l
theorem Zdy (b c : Nat) (l : List AV) : AV.sw.swL b c l = l.map (AV.sw b c) := by
  induction l with
  | nil => rfl
  | cons v l ih => simp [AV.sw.swL, ih]
def AObj.sw (b c : Nat) : AObj → AObj
  | .box cs => .box (cs.map (AV.sw b c))
  | .it m since seen last => .it (swN b c m) since seen last
  | .lp tm ps assign body s => .lp (tm.map (AV.sw b c)) ps assign body s
  | o => o

theorem VR.sw {n : Nat} {μ : Nat → Value} {I : Nat → Prop} {w : World} {x : AV} {v : Value} {b c : Nat} (hb : b < n) (hc : c < n) (h : VR n μ I w x v) : VR n (fun y => μ (swN b c y)) I w (x.sw b c) v := by
  have e : ∀ y, (fun y => μ (swN b c y)) (swN b c y) = μ y := fun y => by simp only [Z4t]
  induction h with
  | junk v => exact .junk v
  | cell v h => exact .cell v h
  | p x v h => exact .p x v h
  | full l a h => exact .full l a h
  | own y k a cc hy h => exact .own _ _ _ _ (Z7h hb hc hy) ((e y).trans h)
  | ptr y off g hy h => exact .ptr _ _ _ (Z7h hb hc hy) ((e y).trans h)
  | eptr y s i f g off k cc hy h => exact .eptr _ _ _ _ _ _ _ _ (Z7h hb hc hy) ((e y).trans h)
  | ipt l g off cur E fz vs hg hw hv hr => exact .ipt l g off cur E fz vs hg hw hv hr
  | map y r hy h => exact .map _ _ (Z7h hb hc hy) ((e y).trans h)
  | yld y l hy h => exact .yld _ _ (Z7h hb hc hy) ((e y).trans h)
  | fn f caps cs hl _ ih =>
    unfold AV.sw; rw [Zdy]; exact .fn f _ cs (by simpa using hl) fun i hi => by rw [Zn (by simpa using hi)]; exact ih i (by simpa using hi)
  | agg l cs hl _ ih =>
    unfold AV.sw; rw [Zdy]; exact .agg _ cs (by simpa using hl) fun i hi => by rw [Zn (by simpa using hi)]; exact ih i (by simpa using hi)
  | tup l cs hl _ ih =>
    unfold AV.sw; rw [Zdy]; exact .tup _ cs (by simpa using hl) fun i hi => by rw [Zn (by simpa using hi)]; exact ih i (by simpa using hi)
  | nil => exact .nil

theorem ObjOK.sw {n : Nat} {μ : Nat → Value} {I : Nat → Prop} {ob : Nat → Option Nat} {w : World} {x b c : Nat} {o : AObj} (hb : b < n) (hc : c < n) (h : ObjOK n μ I ob w x o) :
    ObjOK n (fun y => μ (swN b c y)) I (fun y => ob (swN b c y)) w (swN b c x) (o.sw b c) := by
  have e : ∀ y, (fun y => μ (swN b c y)) (swN b c y) = μ y := fun y => by simp only [Z4t]
  have e2 : ∀ y, (fun y => ob (swN b c y)) (swN b c y) = ob y := fun y => by simp only [Z4t]
  cases o with
  | dead => trivial
  | box cs =>
    obtain ⟨g, T, cur, h1, h2, h3, h4, h5⟩ := h; refine ⟨g, T, cur, (e2 x).trans h1, (e x).trans h2, h3, by simpa using h4, fun i hi => ?_⟩; simp only [List.length_map] at hi; rw [Zn hi]; exact (h5 i hi).sw hb hc
  | row E s xs k =>
    obtain ⟨h0, h⟩ := h; refine ⟨h0, ?_⟩; have e3 := e x; rcases h with ⟨g, h1, h2⟩ | ⟨h1, h2, a, h3, h4⟩
    · exact .inl ⟨g, (e2 x).trans h1, by rw [e3]; exact h2⟩
    · exact .inr ⟨h1, (e2 x).trans h2, a, e3.trans h3, by rw [e3]; exact h4⟩
  | mp es =>
    obtain ⟨r, ents, h1, h2, h3, h4, h5, h6⟩ := h; exact ⟨r, ents, (e2 x).trans h1, (e x).trans h2, h3, h4, h5, h6⟩
  | it m since seen last =>
    obtain ⟨r, g, h0, h1, h2, h3, h4, h5⟩ := h; exact ⟨r, g, Z7h hb hc h0, (e2 x).trans h1, (e x).trans h2, (e m).trans h3, h4, h5⟩
  | lp tm ps assign body s =>
    obtain ⟨l, rec, h1, h2, h3, h4, h5, h6⟩ := h; refine ⟨l, rec, (e2 x).trans h1, (e x).trans h2, h3, by simpa using h4, fun i hi => ?_, h6⟩; simp only [List.length_map] at hi; rw [Zn hi]; exact (h5 i hi).sw hb hc

theorem Rep.sw {X : Ctx} {I : Nat → Prop} {μ : Nat → Value} {ob : Nat → Option Nat} {w : World} {tm : List AV} {h : List AObj} {a : Act} {b c : Nat} {p q : AObj} (R : Rep X I μ ob ⟨tm, h⟩ w a) (hb : h[b]? = some p) (hc : h[c]? = some q) (hnb : X.n0 ≤ b) (hnc : X.n0 ≤ c) :
    Rep X I (fun y => μ (swN b c y)) (fun y => ob (swN b c y)) ⟨tm.map (AV.sw b c), ((h.map (AObj.sw b c)).set b (q.sw b c)).set c (p.sw b c)⟩ w a := by
  have hbl : b < h.length := (List.getElem?_eq_some_iff.1 hb).1; have hcl : c < h.length := (List.getElem?_eq_some_iff.1 hc).1; have hget : ∀ (x : Nat) (o : AObj), (((h.map (AObj.sw b c)).set b (q.sw b c)).set c (p.sw b c))[x]? = some o → ∃ o', h[swN b c x]? = some o' ∧ o = o'.sw b c := fun x o ho => by
    unfold swN; by_cases e1 : c = x
    · subst e1
      rw [List.getElem?_set_self (by simpa using hcl)] at ho
      injection ho with ho
      by_cases e2 : c = b
      · subst e2; rw [if_pos rfl]; rw [hb] at hc; injection hc with hc; subst hc; exact ⟨_, hb, ho.symm⟩
      · rw [if_neg e2, if_pos rfl]; exact ⟨_, hb, ho.symm⟩
    · rw [List.getElem?_set_ne e1] at ho
      by_cases e2 : b = x
      · subst e2
        rw [List.getElem?_set_self (by simpa using hbl)] at ho
        injection ho with ho
        rw [if_pos rfl]; exact ⟨_, hc, ho.symm⟩
      · rw [List.getElem?_set_ne e2, List.getElem?_map] at ho
        rw [if_neg (fun e => e2 e.symm), if_neg (fun e => e1 e.symm)]
        cases hx : h[x]? with
        | none => rw [hx] at ho; cases ho
        | some o' => rw [hx] at ho; simp only [Option.map_some, Option.some.injEq] at ho; exact ⟨o', rfl, ho.symm⟩
  exact {
    below := R.below, base := R.base, imm := R.imm, ctx := R.ctx, frz := R.frz, inew := R.inew
    may := fun y hy => by
      have h1 : y ≠ b := fun e => hy (.inl (by rw [e]; exact hnb))
      have h2 : y ≠ c := fun e => hy (.inl (by rw [e]; exact hnc))
      show μ (swN b c y) = _; unfold swN; rw [if_neg h1, if_neg h2]; exact R.may y hy
    names := by simpa using R.names
    own := fun y g hy => R.own _ g hy
    sep := fun y y' g h1 h2 => by
      have := R.sep _ _ g h1 h2; have h3 := congrArg (swN b c) this
      rwa [Z4t, Z4t] at h3
    past := fun y hy => by
      simp only [List.length_set, List.length_map] at hy; show ob (swN b c y) = none; unfold swN; rw [if_neg (by omega), if_neg (by omega)]; exact R.past y hy
    objs := fun x o ho => by
      obtain ⟨o', h1, rfl⟩ := hget x o ho; have := (R.objs _ o' h1).sw (b := b) (c := c) hbl hcl; rw [Z4t] at this
      simpa using this
    size := by simpa using R.size
    tmps := fun i hi => by
      simp only [List.length_map] at hi; simp only [List.length_set, List.length_map]; rw [Zn hi]; exact (R.tmps i hi).sw hbl hcl
    marks := by
      obtain ⟨rs, m1, m2, m3⟩ := R.marks; exact ⟨rs, m1, m2, fun q hq => by
        obtain ⟨e1, e2, e3, e4⟩ := m3 q hq; exact ⟨e1, e2, e3, fun b' => e4 _⟩⟩ }

theorem AWp.swap {E : Env} {r : Option Nat} {k : Code} {Q : Exit → St → Prop} {tm : List AV} {h : List AObj} (b c : Nat) {p q : AObj} (hb : h[b]? = some p) (hc : h[c]? = some q) (hnb : E.n0 ≤ b) (hnc : E.n0 ≤ c)
    (hw : AWp E r k Q ⟨tm.map (AV.sw b c), ((h.map (AObj.sw b c)).set b (q.sw b c)).set c (p.sw b c)⟩) : AWp E r k Q ⟨tm, h⟩ := fun X I w a hE ⟨I', μ', ob', hI, R⟩ =>
  hw X I w a hE ⟨I', _, _, hI, R.sw hb hc (by rw [hE.1]; exact hnb) (by rw [hE.1]; exact hnc)⟩


def weakD : List AObj → List AObj → Prop
  | _, [] => True
  | x :: l, y :: l' => (y = .dead ∨ y = x ∨ Zff x y) ∧ weakD l l'
  | [], _ :: _ => False
def Zh9 (st st' : St) : Prop := Zan st.tmps st'.tmps ∧ weakD st.h st'.h
theorem Zbo : ∀ {h h' : List AObj}, weakD h h' → ∃ h1 h2, h = h1 ++ h2 ∧ Z89 h1 h' ∧ h1.length = h'.length
  | h, [], _ => ⟨[], h, rfl, trivial, rfl⟩
  | x :: l, y :: l', h => by
    obtain ⟨h1, h2, e, hw, hl⟩ := Zbo h.2; exact ⟨x :: h1, h2, by rw [e]; rfl, ⟨h.1, hw⟩, by simp [hl]⟩
theorem Zds (m : List AObj) : weakD m [] = True := by cases m <;> rfl
theorem Z9c : ∀ {h1 h' : List AObj} (h2 : List AObj), Z89 h1 h' → Z89 (h1 ++ h2) (h' ++ h2)
  | [], [], _, _ => Z38 _
  | _ :: _, _ :: _, h2, h => ⟨h.1, Z9c h2 h.2⟩

def Z15 (n0 : Nat) (st : St) : Prop := n0 ≤ st.h.length ∧ AV.blw.blwL st.h.length st.tmps = true ∧ blwH st.h.length st.h = true

theorem Now.weakD {X : Ctx} {I : Nat → Prop} {w : World} {a : Act} {st st' : St} (h : Zh9 st st') (hb : Z15 X.n0 st') (hN : Now X I st w a) : Now X I st' w a := by
  obtain ⟨h1, h2, e, hw, _⟩ := Zbo h.2; have hN2 : Now X I ⟨st'.tmps, st'.h ++ h2⟩ w a := Now.weak (st := st) ⟨h.1, by rw [e]; exact Z9c h2 hw⟩ hN; obtain ⟨I', μ', ob', hI, R⟩ := hN2; obtain ⟨ob2, R'⟩ := R.trim hb.1 hb.2.1 hb.2.2; exact ⟨I', μ', ob2, hI, R'⟩

theorem AWp.weakD {E : Env} {r : Option Nat} {c : Code} {Q : Exit → St → Prop} {st st' : St} (h : Zh9 st st') (hb : Z15 E.n0 st') (hw : AWp E r c Q st') : AWp E r c Q st :=
  fun X I w a hE hN => hw X I w a hE (hN.weakD h (by rw [hE.1]; exact hb))

theorem AWp.loopJ {E : Env} {r : Option Nat} {Q : Exit → St → Prop} {st : St} {c : Code} {α : Type} (fr : α → St) (Inv : α → Prop) (m : α → Nat) (x0 : α) (hb : ∀ x, Z15 E.n0 (fr x)) (hw : Zh9 st (fr x0)) (h0 : Inv x0)
    (h : ∀ x, Inv x → AWp E r c (Z5h (fun st' => ∃ y, Zh9 st' (fr y) ∧ Inv y ∧ m y < m x) Q) (fr x)) : AWp E r (.loop c) Q st := by
  refine AWp.weakD hw (hb x0) (AWp.loopI fr Inv m x0 (Weak.refl _) h0 fun x hx => ?_); intro X I w a hE hN; refine wpIn_mono (h x hx X I w a hE hN) ?_; rintro e a' w' ⟨st', hN', hq⟩
  cases e with
  | normal =>
    obtain ⟨y, h1, h2, h3⟩ := hq; exact ⟨fr y, hN'.weakD h1 (by rw [hE.1]; exact hb y), y, Weak.refl _, h2, h3⟩
  | _ => exact ⟨st', hN', hq⟩

attribute [go_sem] Zds weakD Zh9

theorem AWp.fullP {E : Env} {r : Option Nat} {Q : Exit → St → Prop} {c : Code} {tm : List AV} {h : List AObj} {l : List PV} (i : Nat) (hi : tm.getD i .junk = .full l) (hw : AWp E r c Q ⟨tm.set i (.p (.sl l)), h⟩) : AWp E r c Q ⟨tm, h⟩ := by
  intro X I w a hE hN; obtain ⟨I', μ', ob', hI, R⟩ := hN; refine hw X I w a hE ⟨I', μ', ob', hI, { toRepH := R.toRepH, marks := R.marks, size := (by simpa using R.size), tmps := ?_ }⟩; intro j hj; have hj' : j < tm.length := by simpa using hj
  have h1 := R.tmps j hj'; show VR _ _ _ _ ((tm.set i (.p (.sl l))).getD j .junk) _; by_cases e : i = j
  · subst e
    have e2 : (tm.set i (.p (.sl l))).getD i .junk = .p (.sl l) := by simp [List.getD_eq_getElem?_getD, hj']
    rw [e2]; simp only at h1; rw [hi] at h1; generalize a.tmps.getD i undef = v at h1 ⊢
    cases h1 with
    | full _ _ h => exact .p _ _ h
  · have e2 : (tm.set i (.p (.sl l))).getD j .junk = tm.getD j .junk := by simp [List.getD_eq_getElem?_getD, e]
    rw [e2]; exact h1

theorem Znh (m : Nat) (hm : m < 9223372036854775808) : Z1n .and .i64 (m : Int) 1 = ((m % 2 : Nat) : Int) := by
  have h1 : (BitVec.ofInt 64 (m : Int) &&& BitVec.ofInt 64 1).toNat = m % 2 := by
    rw [BitVec.toNat_and, BitVec.ofInt_natCast, BitVec.toNat_ofNat, Nat.mod_eq_of_lt (by omega)]; have : (BitVec.ofInt 64 1).toNat = 1 := by decide
    rw [this, Nat.and_one_is_mod]
  show IntKind.wrap .i64 ((BitVec.ofInt 64 (m : Int) &&& BitVec.ofInt 64 1).toNat : Nat) = _; rw [h1]; exact InR.wrap (k := .i64) (by simp only [InR]; omega)

def lsq {α : Type} (f : α → α → Bool) : List α → List α → Bool
  | [], [] => true
  | a :: l, b :: m => f a b && lsq f l m
  | _, _ => false
theorem Z9y {α : Type} {f : α → α → Bool} (hf : ∀ a b, f a b = true → a = b) : ∀ {l m : List α}, lsq f l m = true → l = m
  | [], [], _ => rfl
  | a :: l, b :: m, h => by
    unfold lsq at h; rw [Bool.and_eq_true] at h; rw [hf _ _ h.1, Z9y hf h.2]
  | [], _ :: _, h => by cases h
  | _ :: _, [], h => by cases h
def b8q (a b : UInt8) : Bool := Nat.beq a.toNat b.toNat
theorem Zry (a b : UInt8) (h : b8q a b = true) : a = b := UInt8.toNat_inj.1 (Nat.eq_of_beq_eq_true h)
def scq (x y : PV) : Bool := match x, y with
  | .int k a, .int k' b => (match decEq k k' with
    | isTrue _ => iEq a b
    | isFalse _ => false)
  | .bool a, .bool b => (match a, b with
    | true, true => true
    | false, false => true
    | _, _ => false)
  | .str a, .str b => lsq b8q a b
  | _, _ => false
theorem Zjv (x y : PV) (h : scq x y = true) : x = y := by
  unfold scq at h
  split at h
  · split at h
    · rename_i e _
      rw [Za6, decide_eq_true_eq] at h; subst e; rw [h]
    · cases h
  · split at h
    · rfl
    · rfl
    · cases h
  · rw [Z9y Zry h]
  · cases h
def sdq (x y : PV) : Bool := match x, y with
  | .sl a, .sl b => lsq scq a b
  | x, y => scq x y
theorem Ze7 (x y : PV) (h : sdq x y = true) : x = y := by
  unfold sdq at h
  split at h
  · rw [Z9y Zjv h]
  · exact Zjv _ _ h
def scp (x y : AV) : Bool := match x, y with
  | .p a, .p b => sdq a b
  | _, _ => false
theorem Zpn (x y : AV) (h : scp x y = true) : x = y := by
  unfold scp at h
  split at h
  · rw [Ze7 _ _ h]
  · cases h
def avq (x y : AV) : Bool := match x, y with
  | .p (.agg l), .p (.agg m) => lsq sdq l m
  | .p a, .p b => sdq a b
  | .agg l, .agg m => lsq scp l m
  | .own b n, .own c m => Nat.beq b c && Nat.beq n m
  | .ptr b n, .ptr c m => Nat.beq b c && Nat.beq n m
  | _, _ => false
theorem Zs8 {x y : AV} (h : avq x y = true) : x = y := by
  unfold avq at h
  split at h
  · rw [Z9y Ze7 h]
  · rw [Ze7 _ _ h]
  · rw [Z9y Zpn h]
  · rw [Bool.and_eq_true] at h
    rw [Nat.eq_of_beq_eq_true h.1, Nat.eq_of_beq_eq_true h.2]
  · rw [Bool.and_eq_true] at h
    rw [Nat.eq_of_beq_eq_true h.1, Nat.eq_of_beq_eq_true h.2]
  · cases h

def grdE (sl : List (Option Nat)) (g : Option (Nat × Bool)) (tm : List AV) : Option Bool := match g with
  | none => some true
  | some (j, w) => (match Zd3 (gE none sl j) tm with
    | .p (.bool b) => some (b == w)
    | .tup _ => some false
    | _ => none)
def gdK (sl : List (Option Nat)) (g : Option (Nat × Bool)) (tm : List AV) (P1 P2 : Prop) : Prop := match g with
  | none => P1
  | some (j, w) => gK (Z2w (sl.getD j none) tm) w P1 P2
theorem Z7t {sl : List (Option Nat)} {g : Option (Nat × Bool)} {tm : List AV} {b : Bool} {P1 P2 : Prop} (h : grdE sl g tm = some b) (h1 : b = true → P1) (h2 : b = false → P2) : gdK sl g tm P1 P2 := by
  cases g with
  | none => injection h with h; subst h; exact h1 rfl
  | some p =>
    obtain ⟨j, w⟩ := p
    have h : (match Zd3 (gE none sl j) tm with
      | .p (.bool b) => some (b == w)
      | .tup _ => some false
      | _ => none) = some b := h
    show gK _ _ _ _; rw [Z3y, Z8e] at h
    split at h
    · rename_i c hs
      injection h with h
      rw [hs]; refine ⟨fun e => h1 ?_, fun e => h2 ?_⟩
      · rw [← h, e]; cases w <;> rfl
      · rw [← h, e]; cases w <;> rfl
    · rename_i u hs
      injection h with h; subst h
      rw [hs]; exact h2 rfl
    · cases h

def opIE (C : EC) (rec : Rk) (n0 : Nat) (ks : List Nat) (sl : List (Option Nat)) (o : Oper) (st : St) : Option (List St) := match grdE sl o.guard st.tmps with
  | some true => Zd2 C rec n0 ks o st
  | some false => some [⟨putE st.tmps o.dst (.tup []), st.h⟩]
  | none => none
def opQE (C : EC) (rec : Rk) (sl : List (Option Nat)) (o : Oper) (st : St) : Option AV := match grdE sl o.guard st.tmps with
  | some true => Z7m C rec st.h st.tmps o.op
  | some false => some (.tup [])
  | none => none

def Z8l (C : EC) (rec : Rk) (n0 : Nat) (ks : List Nat) (ops : List Oper) (sl : List (Option Nat)) : PT → St → Option (List St)
  | .fin, st => some [st]
  | .nil, _ => some []
  | .q i l, st => (match gO ops i with
    | some o => (match opQE C rec sl o st with
      | some v => Z8l C rec n0 ks ops sl l ⟨putE st.tmps o.dst v, st.h⟩
      | none => none)
    | none => none)
  | .e i l r, st => (match gO ops i with
    | some o => (match Z4o (opIE C rec n0 ks sl o st) (Z8l C rec n0 ks ops sl l), Z8l C rec n0 ks ops sl r st with
      | some a, some b => some (apE a b)
      | _, _ => none)
    | none => none)
  | .s i l, st => (match gO ops i with
    | some o => (match opQE C rec sl o st, o.dst with
      | some v, some d => (match avq (gE .junk st.tmps d) v with
        | true => Z8l C rec n0 ks ops sl l st
        | false => none)
      | _, _ => none)
    | none => none)

section
variable {C : EC} {rec : Rk} {n0 : Nat} {ks : List Nat} {ops : List Oper} {sl : List (Option Nat)}
theorem Zk1 {E : Env} {K : St → Prop} {st : St} : ∀ (l : List Oper) (i : Nat), opQ E sl l i st K ↔ (match l[i]? with
    | some o => gdK sl o.guard st.tmps (Ze E o.op st.h (ev st.tmps) fun v => K ⟨putD st.tmps o.dst v, st.h⟩) (K ⟨putD st.tmps o.dst (.tup []), st.h⟩)
    | none => False)
  | [], _ => Iff.rfl
  | _ :: _, 0 => Iff.rfl
  | _ :: l, i + 1 => by rw [List.getElem?_cons_succ]; exact Zk1 l i
theorem Zk4 {E : Env} {K : St → Prop} {st : St} : ∀ (l : List Oper) (i : Nat), opF E sl l i st K ↔ (match l[i]? with
    | some o => gdK sl o.guard st.tmps (opK E o st K) (K ⟨putD st.tmps o.dst (.tup []), st.h⟩)
    | none => False)
  | [], _ => Iff.rfl
  | _ :: _, 0 => Iff.rfl
  | _ :: l, i + 1 => by rw [List.getElem?_cons_succ]; exact Zk4 l i
theorem Zk0 {E : Env} {st : St} : ∀ (l : List Oper) (i : Nat), opS E sl l i st ↔ (match l[i]? with
    | some o => gdK sl o.guard st.tmps (Ze E o.op st.h (ev st.tmps) (okV st.tmps o.dst)) (okV st.tmps o.dst (.tup []))
    | none => False)
  | [], _ => Iff.rfl
  | _ :: _, 0 => Iff.rfl
  | _ :: l, i + 1 => by rw [List.getElem?_cons_succ]; exact Zk0 l i

theorem Z4f (hC : ECOK C) (hrec : Z41 C rec) : ∀ {codes : PT} {st : St} {outs : List St} {K : St → Prop}, Z8l C rec n0 ks ops sl codes st = some outs → (∀ s ∈ outs, K s) → planL ⟨C.P, C.Γ, n0, ks⟩ ops sl codes st K
  | .fin, st, outs, K, hv, hk => by injection hv with hv; subst hv; exact hk _ (List.mem_singleton.2 rfl)
  | .nil, _, _, _, _, _ => trivial
  | .q i l, st, outs, K, hv, hk => by
    unfold Z8l at hv; unfold planL; rw [Zk1]
    split at hv
    · rename_i o ho
      rw [Z0f] at ho; simp only [ho]
      split at hv
      · rename_i v h1
        rw [Zi] at hv; have ih := Z4f hC hrec hv hk; unfold opQE at h1
        split at h1
        · rename_i hg
          exact Z7t hg (fun _ => Z6j (K := fun v => planL ⟨C.P, C.Γ, n0, ks⟩ ops sl l ⟨putD st.tmps o.dst v, st.h⟩ K) hC hrec h1 ih) (fun h => by cases h)
        · rename_i hg
          injection h1 with h1; subst h1
          exact Z7t hg (fun h => by cases h) (fun _ => ih)
        · cases h1
      · cases hv
    · cases hv
  | .e i l r, st, outs, K, hv, hk => by
    unfold Z8l at hv; unfold planL; rw [Zk4]
    split at hv
    · rename_i o ho
      rw [Z0f] at ho; simp only [ho]
      split at hv
      · rename_i a b h1 h2
        injection hv with hv; subst hv
        rw [Z0n] at hk; refine ⟨?_, Z4f hC hrec h2 (fun s hs => hk s (List.mem_append_right _ hs))⟩; obtain ⟨l', h3, h4⟩ := Z0g h1; have ih : ∀ s ∈ l', planL ⟨C.P, C.Γ, n0, ks⟩ ops sl l s K := fun s hs => by
          obtain ⟨o', h5, h6⟩ := h4 s hs; exact Z4f hC hrec h5 (fun x hx => hk x (List.mem_append_left _ (h6 x hx)))
        unfold opIE at h3
        split at h3
        · rename_i hg
          exact Z7t hg (fun _ => Zbv hC hrec h3 ih) (fun h => by cases h)
        · rename_i hg
          injection h3 with h3; subst h3
          have := ih _ (List.mem_singleton.2 rfl); rw [Zi] at this; exact Z7t hg (fun h => by cases h) (fun _ => this)
        · cases h3
      · cases hv
    · cases hv
  | .s i l, st, outs, K, hv, hk => by
    unfold Z8l at hv; unfold planL; rw [Zk0]
    split at hv
    · rename_i o ho
      rw [Z0f] at ho; simp only [ho]
      split at hv
      · rename_i v d h1 hd
        split at hv
        · rename_i hq
          rw [Z3y] at hq; have hq := Zs8 hq; refine ⟨?_, Z4f hC hrec hv hk⟩; have okv : okV st.tmps o.dst v := by rw [hd]; exact hq
          unfold opQE at h1
          split at h1
          · rename_i hg
            exact Z7t hg (fun _ => Z6j hC hrec h1 okv) (fun h => by cases h)
          · rename_i hg
            injection h1 with h1; subst h1
            exact Z7t hg (fun h => by cases h) (fun _ => okv)
          · cases h1
        · cases hv
      · cases hv
    · cases hv
end

/-! ### The reckoner once more, with plans -/
def Zbj : Type := Nat → Nat → Option PT
def Zbb (C : EC) (pt : Zbj) (rec : Rk) : Rk := fun top n0 ks c st => match c with
  | .region id ops true => (match pt id (lE ops.toList) with
    | some codes => (match Zc6 ops.toList codes with
      | true => (match Z8l C rec n0 ks ops.toList (mE (·.dst) ops.toList) codes st with
        | some outs => some (mE norm outs)
        | none => none)
      | false => Zab C rec top n0 ks c st)
    | none => Zab C rec top n0 ks c st)
  | _ => Zab C rec top n0 ks c st
theorem Zdf {C : EC} {pt : Zbj} {rec : Rk} (hC : ECOK C) (hrec : Z41 C rec) {top : Bool} {n0 : Nat} {ks : List Nat} {c : Code} {st : St} {outs : List (Exit × St)} (hl : ∀ c', c ≠ .loop c') (hv : Zbb C pt rec top n0 ks c st = some outs) {r : Option Nat} (hr : top = true → r = none) :
    AWp ⟨C.P, C.Γ, n0, ks⟩ r c (fun e s => (e, s) ∈ outs) st := by
  unfold Zbb at hv
  split at hv
  · rename_i id ops
    split at hv
    · rename_i codes hp
      split at hv
      · rename_i hok
        split at hv
        · rename_i o ho
          injection hv with hv; subst hv
          obtain ⟨ops⟩ := ops; obtain ⟨tm, h⟩ := st; rw [Z1m (fun x : Oper => x.dst)] at ho; refine AWp.planL codes hC.Γ hC.mix hok (Z4f hC hrec ho fun s hs => ?_); rw [Z1m]; exact List.mem_map.2 ⟨s, hs, rfl⟩
        · cases hv
      · exact Z6w hC hrec hl hv hr
    · exact Z6w hC hrec hl hv hr
  · exact Z6w hC hrec hl hv hr

def evNP (C : EC) (pt : Zbj) (fuel : Nat) : Rk := Nat.rec (motive := fun _ => Rk) (fun _ _ _ _ _ => none) (fun _ rec => Zbb C pt rec) fuel
theorem Zms {C : EC} {pt : Zbj} (hC : ECOK C) (fuel : Nat) : Z41 C (evNP C pt fuel) := by
  induction fuel using Nat.strongRecOn with
  | _ fuel ih =>
    intro top n0 ks c st outs hv r hr
    cases fuel with
    | zero => cases hv
    | succ fuel =>
      by_cases hl : ∃ c', c = .loop c'
      · obtain ⟨c', rfl⟩ := hl
        refine AWp.loopI (fun x : Nat × St => x.2) (fun x => x.1 ≤ fuel + 1 ∧ ∃ outs', evNP C pt x.1 top n0 ks (.loop c') x.2 = some outs' ∧ ∀ o ∈ outs', o ∈ outs) (fun x => x.1) (fuel + 1, st) (Weak.refl st) ⟨Nat.le_refl _, outs, hv, fun _ h => h⟩ ?_; rintro ⟨f, s⟩ ⟨hf, outs', ho, hsub⟩
        cases f with
        | zero => cases ho
        | succ f =>
          have ho : Z4o (evNP C pt f top n0 ks c' s) (fun es => (match es.1 with
            | .normal => evNP C pt f top n0 ks (.loop c') es.2
            | e => some [(e, es.2)])) = some outs' := ho
          obtain ⟨l', h1, h2⟩ := Z0g ho; refine (ih f (Nat.lt_of_succ_le hf) _ _ _ _ _ _ h1 r hr).mono ?_; intro e s' hm; obtain ⟨o, h3, h4⟩ := h2 (e, s') hm
          cases e with
          | normal => exact ⟨(f, s'), Weak.refl s', ⟨Nat.le_of_succ_le hf, o, h3, fun q hq => hsub q (h4 q hq)⟩, Nat.lt_succ_self f⟩
          | _ => injection h3 with h3; subst h3; exact hsub _ (h4 _ (List.mem_singleton.2 rfl))
      · exact Zdf hC (ih fuel (Nat.lt_succ_self _)) (fun c' h => hl ⟨c', h⟩) hv hr

def Zav (C : EC) (pt : Zbj) (fuel : Nat) (f : FuncId) (args : List AV) : Option AV := match gO C.P.funcs.toList f with
  | some fn => (match fn.body with
    | some c => Zc3 C (evNP C pt fuel) fn c args [] true
    | none => none)
  | none => none
theorem Z4c {C : EC} {pt : Zbj} (hC : ECOK C) {fuel : Nat} {f : FuncId} {args : List AV} {v : AV} (hv : Zav C pt fuel f args = some v) : AC C.P f args [] [] (fun v' h' => v' = v ∧ h' = []) := by
  unfold Zav at hv
  split at hv
  · rename_i fn hfn
    rw [Z0f, Array.getElem?_toList] at hfn
    split at hv
    · rename_i c hc
      exact Z9r hC (Zms hC fuel) hfn hc hv
    · cases hv
  · cases hv
end Go.AM
end

section
namespace Go.AM
open Go.RowKit

end Go.AM
end

