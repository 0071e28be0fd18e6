/-
  Texts of this claim, joined.
-/
import Derived.Test.YtpljmccnfmkmfaaGreatJ5eec9807ac87
import Derived.Shelf.Strings.Builder1
import Derived.Test.YtpljmccnfmkmfaaGreatJa7f33dd5fec4
import Derived.Test.YtpljmccnfmkmfaaGreatJ3c65ed3673ee
import Derived.Test.YtpljmccnfmkmfaaGreatJ66a54fb3627c

set_option linter.unusedSimpArgs false
section
namespace Go.AM
open Go.RowKit

section
variable {E : Env} {X : Ctx} {I : Nat → Prop} {μ : Nat → Value} {ob : Nat → Option Nat} {h : List AObj} {tm tm' : List AV} {wb w w' : World} {a : Act} {r : Option Nat} {K : List AV → Prop} {Q : Exit → Act → World → Prop}

theorem Z0v (hb : Below wb.heap.size wb w) : wb.grownBy w none := ⟨hb.os, hb.tape, hb.output, hb.size, fun k hk _ => hb.block k hk⟩
structure Bld (X : Ctx) (I : Nat → Prop) (μ : Nat → Value) (ob : Nat → Option Nat) (h : List AObj) (wb : World) (T e : TypeId) (s : Nat) (tm : List AV) (l : List UInt8) (w : World) (a : Act) : Prop where
  base : Rep X I μ ob ⟨tm, h⟩ wb a
  below : Below wb.heap.size wb w
  bld : Lib.IsBuilder T e wb.heap.size wb.heap.size (Lib.byteCells l) w
  ptr : a.tmps.getD s undef = .pointer (some ⟨wb.heap.size, 0, none⟩)

variable {T e : TypeId} {s : Nat} {l l' : List UInt8}

end
end Go.AM
end

section
namespace Go.AM
open Go.RowKit

def PRowO (P : Program) (f : FuncId) (args : List PV) (E : TypeId) (s : Nat) (xs : List PV) : Prop :=
  AC P f (args.map .p) [] [] (fun v h' => ∃ b, v = .own b xs.length ∧ h'[b]? = some (.row E s xs .own))

theorem PRowO.row {P : Program} {f : FuncId} {args : List PV} {E : TypeId} {s : Nat} {xs : List PV} (h : PRowO P f args E s xs) : PRow P f args E s xs :=
  AC.monoR h fun _ _ ⟨b, h1, h2⟩ => ⟨b, .own, h1, h2, by decide⟩
theorem PFn.of_rowO {P : Program} {f : FuncId} {args xs : List PV} {E : TypeId} {s : Nat} (hf : PRowO P f args E s xs) : PFn P f args [.sl xs] := .of_row hf.row

theorem AC.of_rowO {P : Program} {h : List AObj} {f : FuncId} {args : List AV} {pargs xs : List PV} {E : TypeId} {s : Nat} (hf : PRowO P f pargs E s xs) (hp : AV.pures args = some pargs ∨ AV.purL [] args = some pargs) :
    AC P f args h [] (fun v h' => v = .own h.length xs.length ∧ h' = h ++ [.row E s xs .own]) := by
  refine ⟨hf.1, fun X I μ ob w cargs R hlen hargs _ => ?_⟩; have key : args.length = pargs.length ∧ ∀ i, i < args.length → PR I w (pargs.getD i default) (cargs.getD i undef) := by
    rcases hp with hp | hp
    · obtain ⟨e1, e2⟩ := AV.pures_get hp
      exact ⟨e1, fun i hi => (hargs i hi).pure1 (e2 i hi)⟩
    · obtain ⟨e1, e2⟩ := AV.purL_get hp
      refine ⟨e1, fun i hi => ?_⟩; have := (hargs i hi).pur (h := []) (ob := fun _ => none) (fun b o hb => by simp at hb) (e2 i hi); exact this.mono (fun g hg => hg.elim id (fun ⟨b, hb⟩ => by cases hb)) (fun _ _ => rfl)
  let X0 : Ctx := { B0 := w.heap.size, w0 := w, I0 := I, μ0 := fun _ => undef, n0 := 0, ks := [], fz := fun _ => False, w1 := w }
  have R0 : RepH X0 I (fun _ => undef) (fun _ => none) [] w := {
      below := Below.refl _ _, base := Nat.le_refl _, imm := R.imm, ctx := fun _ h => h, frz := fun _ h => h.elim, inew := fun _ h => .inl h, may := fun _ _ => rfl, names := Nat.zero_le _
      own := fun b g h => (by cases h), sep := fun b b' g h => (by cases h), past := fun _ _ => rfl, objs := fun b o h => (by simp at h) }
  refine (hf.2 X0 I _ _ w cargs R0 (by simp; omega) (fun i hi => by
    rw [List.length_map] at hi; rw [Z0h _ _ hi]; exact .p _ _ (key.2 i (by omega))) (by simp)).mono ?_
  rintro e w' ⟨cv, v, h', I', μ', ob', rfl, R', hv, hI, _, _, hinew, hobn, _, b, rfl, hrow⟩; have hg : w.grownBy w' none := ⟨R'.below.os, R'.below.tape, R'.below.output, R'.below.size, fun k hk _ => R'.below.block k hk⟩; have hI2 : ∀ g, I' g → I g ∨ (w.heap.size ≤ g ∧ g < w'.heap.size) := fun g hg => (hinew g hg).elim .inl (fun h => h.elim (fun ⟨b, hb⟩ => by cases hb) (fun h => .inr ⟨h, R'.imm g hg⟩))
  obtain ⟨a, c, rfl, hbn, hbm⟩ := hv.own_inv; have hobj := R'.objs b _ hrow; have hfr : ∀ k, ob' b = some k → X.mine k ∧ k < w'.heap.size ∧ ¬ I' k ∧ ∀ c, ob c ≠ some k := fun k hk => by
    have h1 := R'.own b k hk; have h2 : w.heap.size ≤ k := (hobn b k hk).elim (fun ⟨c, hc⟩ => by cases hc) id; exact ⟨R.fresh h2, h1.2.2, h1.1, fun c hc => by have := (R.own c k hc).2.2; omega⟩
  have R1 := R.grow hg hI hI2; have R2 : RepH X I' (upd μ h.length (.slice a xs.length c)) (upd ob h.length (ob' b)) (h ++ [.row E s xs .own]) w' := by
    refine R1.nameOld hfr ⟨hobj.1, ?_⟩; rcases hobj.2 with ⟨g, hg, hin⟩ | ⟨h0, _⟩
    · left
      refine ⟨g, by rw [Zb]; exact hg, ?_⟩; rw [Zb, ← hbm]; exact hin
    · cases h0
  refine ⟨_, .own h.length xs.length, _, I', _, _, rfl, R2, .own _ _ _ _ (by simp) (Zb _ _ _), hI, fun c hc _ => Z5 _ _ (by omega), by simp, fun g hg => (hI2 g hg).imp id (fun h => .inr h.1), fun c g hc => ?_, fun g hlt _ => hg.block g hlt (by simp), rfl, rfl⟩; by_cases e : c = h.length
  · subst e
    rw [Zb] at hc; exact .inr ((hobn b g hc).elim (fun ⟨c, hc⟩ => by cases hc) id)
  · rw [Z5 _ _ e] at hc; exact .inl ⟨c, hc⟩

theorem AWp.seqM {E : Env} {r : Option Nat} {Q : Exit → St → Prop} {st : St} {x y : Code} {α : Type} (fr : α → St) (Inv : α → Prop) (h1 : AWp E r x (fun e st => e = .normal ∧ ∃ a, Weak st (fr a) ∧ Inv a) st)
    (h2 : ∀ a, Inv a → AWp E r y Q (fr a)) : AWp E r (.seq x y) Q st :=
  AWp.seq (h1.mono fun e st ⟨he, a, hw, hi⟩ => by subst he; exact AWp.weak hw (h2 a hi))

theorem AWp.fullP {E : Env} {r : Option Nat} {Q : Exit → St → Prop} {c : Code} {tm : List AV} {h : List AObj} {l : List PV} (i : Nat) (hi : tm.getD i .junk = .full l) (hw : AWp E r c Q ⟨tm.set i (.p (.sl l)), h⟩) : AWp E r c Q ⟨tm, h⟩ := by
  intro X I w a hE hN; obtain ⟨I', μ', ob', hI, R⟩ := hN; refine hw X I w a hE ⟨I', μ', ob', hI, { toRepH := R.toRepH, marks := R.marks, size := (by simpa using R.size), tmps := ?_ }⟩; intro j hj; have hj' : j < tm.length := by simpa using hj
  have h1 := R.tmps j hj'; show VR _ _ _ _ ((tm.set i (.p (.sl l))).getD j .junk) _; by_cases e : i = j
  · subst e
    have e2 : (tm.set i (.p (.sl l))).getD i .junk = .p (.sl l) := by simp [List.getD_eq_getElem?_getD, hj']
    rw [e2]; simp only at h1; rw [hi] at h1; generalize a.tmps.getD i undef = v at h1 ⊢
    cases h1 with
    | full _ _ h => exact .p _ _ h
  · have e2 : (tm.set i (.p (.sl l))).getD j .junk = tm.getD j .junk := by simp [List.getD_eq_getElem?_getD, e]
    rw [e2]; exact h1

theorem Zqq (m : Nat) (hm : m < 9223372036854775808) : Z28 .and .i64 (m : Int) 1 = ((m % 2 : Nat) : Int) := by
  have h1 : (BitVec.ofInt 64 (m : Int) &&& BitVec.ofInt 64 1).toNat = m % 2 := by
    rw [BitVec.toNat_and, BitVec.ofInt_natCast, BitVec.toNat_ofNat, Nat.mod_eq_of_lt (by omega)]; have : (BitVec.ofInt 64 1).toNat = 1 := by decide
    rw [this, Nat.and_one_is_mod]
  show IntKind.wrap .i64 ((BitVec.ofInt 64 (m : Int) &&& BitVec.ofInt 64 1).toNat : Nat) = _; rw [h1]; exact InR.wrap (k := .i64) (by simp only [InR]; omega)

def lsq {α : Type} (f : α → α → Bool) : List α → List α → Bool
  | [], [] => true
  | a :: l, b :: m => f a b && lsq f l m
  | _, _ => false
theorem Zbv {α : Type} {f : α → α → Bool} (hf : ∀ a b, f a b = true → a = b) : ∀ {l m : List α}, lsq f l m = true → l = m
  | [], [], _ => rfl
  | a :: l, b :: m, h => by
    unfold lsq at h; rw [Bool.and_eq_true] at h; rw [hf _ _ h.1, Zbv hf h.2]
  | [], _ :: _, h => by cases h
  | _ :: _, [], h => by cases h
def b8q (a b : UInt8) : Bool := Nat.beq a.toNat b.toNat
theorem Zvc (a b : UInt8) (h : b8q a b = true) : a = b := UInt8.toNat_inj.1 (Nat.eq_of_beq_eq_true h)
def scq (x y : PV) : Bool := match x, y with
  | .int k a, .int k' b => (match decEq k k' with
    | isTrue _ => iEq a b
    | isFalse _ => false)
  | .bool a, .bool b => (match a, b with
    | true, true => true
    | false, false => true
    | _, _ => false)
  | .str a, .str b => lsq b8q a b
  | _, _ => false
theorem Zn0 (x y : PV) (h : scq x y = true) : x = y := by
  unfold scq at h
  split at h
  · split at h
    · rename_i e _
      rw [Zc4, decide_eq_true_eq] at h; subst e; rw [h]
    · cases h
  · split at h
    · rfl
    · rfl
    · cases h
  · rw [Zbv Zvc h]
  · cases h
def sdq (x y : PV) : Bool := match x, y with
  | .sl a, .sl b => lsq scq a b
  | x, y => scq x y
theorem Zgv (x y : PV) (h : sdq x y = true) : x = y := by
  unfold sdq at h
  split at h
  · rw [Zbv Zn0 h]
  · exact Zn0 _ _ h
def scp (x y : AV) : Bool := match x, y with
  | .p a, .p b => sdq a b
  | _, _ => false
theorem Zsy (x y : AV) (h : scp x y = true) : x = y := by
  unfold scp at h
  split at h
  · rw [Zgv _ _ h]
  · cases h
def avq (x y : AV) : Bool := match x, y with
  | .p (.agg l), .p (.agg m) => lsq sdq l m
  | .p a, .p b => sdq a b
  | .agg l, .agg m => lsq scp l m
  | .own b n, .own c m => Nat.beq b c && Nat.beq n m
  | .ptr b n, .ptr c m => Nat.beq b c && Nat.beq n m
  | _, _ => false
theorem Zvm {x y : AV} (h : avq x y = true) : x = y := by
  unfold avq at h
  split at h
  · rw [Zbv Zgv h]
  · rw [Zgv _ _ h]
  · rw [Zbv Zsy h]
  · rw [Bool.and_eq_true] at h
    rw [Nat.eq_of_beq_eq_true h.1, Nat.eq_of_beq_eq_true h.2]
  · rw [Bool.and_eq_true] at h
    rw [Nat.eq_of_beq_eq_true h.1, Nat.eq_of_beq_eq_true h.2]
  · cases h

def grdE (sl : List (Option Nat)) (g : Option (Nat × Bool)) (tm : List AV) : Option Bool := match g with
  | none => some true
  | some (j, w) => (match Zff (gE none sl j) tm with
    | .p (.bool b) => some (b == w)
    | .tup _ => some false
    | _ => none)
def gdK (sl : List (Option Nat)) (g : Option (Nat × Bool)) (tm : List AV) (P1 P2 : Prop) : Prop := match g with
  | none => P1
  | some (j, w) => gK (Z3q (sl.getD j none) tm) w P1 P2
theorem Z9p {sl : List (Option Nat)} {g : Option (Nat × Bool)} {tm : List AV} {b : Bool} {P1 P2 : Prop} (h : grdE sl g tm = some b) (h1 : b = true → P1) (h2 : b = false → P2) : gdK sl g tm P1 P2 := by
  cases g with
  | none => injection h with h; subst h; exact h1 rfl
  | some p =>
    obtain ⟨j, w⟩ := p
    have h : (match Zff (gE none sl j) tm with
      | .p (.bool b) => some (b == w)
      | .tup _ => some false
      | _ => none) = some b := h
    show gK _ _ _ _; rw [Z4z, Za7] at h
    split at h
    · rename_i c hs
      injection h with h
      rw [hs]; refine ⟨fun e => h1 ?_, fun e => h2 ?_⟩
      · rw [← h, e]; cases w <;> rfl
      · rw [← h, e]; cases w <;> rfl
    · rename_i u hs
      injection h with h; subst h
      rw [hs]; exact h2 rfl
    · cases h

def opIE (C : EC) (rec : Rk) (n0 : Nat) (ks : List Nat) (sl : List (Option Nat)) (o : Oper) (st : St) : Option (List St) := match grdE sl o.guard st.tmps with
  | some true => Zfd C rec n0 ks o st
  | some false => some [⟨putE st.tmps o.dst (.tup []), st.h⟩]
  | none => none
def opQE (C : EC) (rec : Rk) (sl : List (Option Nat)) (o : Oper) (st : St) : Option AV := match grdE sl o.guard st.tmps with
  | some true => Z9f C rec st.h st.tmps o.op
  | some false => some (.tup [])
  | none => none

def Zah (C : EC) (rec : Rk) (n0 : Nat) (ks : List Nat) (ops : List Oper) (sl : List (Option Nat)) : PT → St → Option (List St)
  | .fin, st => some [st]
  | .nil, _ => some []
  | .q i l, st => (match gO ops i with
    | some o => (match opQE C rec sl o st with
      | some v => Zah C rec n0 ks ops sl l ⟨putE st.tmps o.dst v, st.h⟩
      | none => none)
    | none => none)
  | .e i l r, st => (match gO ops i with
    | some o => (match Z5y (opIE C rec n0 ks sl o st) (Zah C rec n0 ks ops sl l), Zah C rec n0 ks ops sl r st with
      | some a, some b => some (apE a b)
      | _, _ => none)
    | none => none)
  | .s i l, st => (match gO ops i with
    | some o => (match opQE C rec sl o st, o.dst with
      | some v, some d => (match avq (gE .junk st.tmps d) v with
        | true => Zah C rec n0 ks ops sl l st
        | false => none)
      | _, _ => none)
    | none => none)

section
variable {C : EC} {rec : Rk} {n0 : Nat} {ks : List Nat} {ops : List Oper} {sl : List (Option Nat)}
theorem Zn7 {E : Env} {K : St → Prop} {st : St} : ∀ (l : List Oper) (i : Nat), opQ E sl l i st K ↔ (match l[i]? with
    | some o => gdK sl o.guard st.tmps (Zh E o.op st.h (ev st.tmps) fun v => K ⟨putD st.tmps o.dst v, st.h⟩) (K ⟨putD st.tmps o.dst (.tup []), st.h⟩)
    | none => False)
  | [], _ => Iff.rfl
  | _ :: _, 0 => Iff.rfl
  | _ :: l, i + 1 => by rw [List.getElem?_cons_succ]; exact Zn7 l i
theorem Zna {E : Env} {K : St → Prop} {st : St} : ∀ (l : List Oper) (i : Nat), opF E sl l i st K ↔ (match l[i]? with
    | some o => gdK sl o.guard st.tmps (opK E o st K) (K ⟨putD st.tmps o.dst (.tup []), st.h⟩)
    | none => False)
  | [], _ => Iff.rfl
  | _ :: _, 0 => Iff.rfl
  | _ :: l, i + 1 => by rw [List.getElem?_cons_succ]; exact Zna l i
theorem Zn6 {E : Env} {st : St} : ∀ (l : List Oper) (i : Nat), opS E sl l i st ↔ (match l[i]? with
    | some o => gdK sl o.guard st.tmps (Zh E o.op st.h (ev st.tmps) (okV st.tmps o.dst)) (okV st.tmps o.dst (.tup []))
    | none => False)
  | [], _ => Iff.rfl
  | _ :: _, 0 => Iff.rfl
  | _ :: l, i + 1 => by rw [List.getElem?_cons_succ]; exact Zn6 l i

theorem Z5k (hC : ECOK C) (hrec : Z55 C rec) : ∀ {codes : PT} {st : St} {outs : List St} {K : St → Prop}, Zah C rec n0 ks ops sl codes st = some outs → (∀ s ∈ outs, K s) → planL ⟨C.P, C.Γ, n0, ks⟩ ops sl codes st K
  | .fin, st, outs, K, hv, hk => by injection hv with hv; subst hv; exact hk _ (List.mem_singleton.2 rfl)
  | .nil, _, _, _, _, _ => trivial
  | .q i l, st, outs, K, hv, hk => by
    unfold Zah at hv; unfold planL; rw [Zn7]
    split at hv
    · rename_i o ho
      rw [Z0n] at ho; simp only [ho]
      split at hv
      · rename_i v h1
        rw [Zm] at hv; have ih := Z5k hC hrec hv hk; unfold opQE at h1
        split at h1
        · rename_i hg
          exact Z9p hg (fun _ => Z80 (K := fun v => planL ⟨C.P, C.Γ, n0, ks⟩ ops sl l ⟨putD st.tmps o.dst v, st.h⟩ K) hC hrec h1 ih) (fun h => by cases h)
        · rename_i hg
          injection h1 with h1; subst h1
          exact Z9p hg (fun h => by cases h) (fun _ => ih)
        · cases h1
      · cases hv
    · cases hv
  | .e i l r, st, outs, K, hv, hk => by
    unfold Zah at hv; unfold planL; rw [Zna]
    split at hv
    · rename_i o ho
      rw [Z0n] at ho; simp only [ho]
      split at hv
      · rename_i a b h1 h2
        injection hv with hv; subst hv
        rw [Z0y] at hk; refine ⟨?_, Z5k hC hrec h2 (fun s hs => hk s (List.mem_append_right _ hs))⟩; obtain ⟨l', h3, h4⟩ := Z0o h1; have ih : ∀ s ∈ l', planL ⟨C.P, C.Γ, n0, ks⟩ ops sl l s K := fun s hs => by
          obtain ⟨o', h5, h6⟩ := h4 s hs; exact Z5k hC hrec h5 (fun x hx => hk x (List.mem_append_left _ (h6 x hx)))
        unfold opIE at h3
        split at h3
        · rename_i hg
          exact Z9p hg (fun _ => Ze5 hC hrec h3 ih) (fun h => by cases h)
        · rename_i hg
          injection h3 with h3; subst h3
          have := ih _ (List.mem_singleton.2 rfl); rw [Zm] at this; exact Z9p hg (fun h => by cases h) (fun _ => this)
        · cases h3
      · cases hv
    · cases hv
  | .s i l, st, outs, K, hv, hk => by
    unfold Zah at hv; unfold planL; rw [Zn6]
    split at hv
    · rename_i o ho
      rw [Z0n] at ho; simp only [ho]
      split at hv
      · rename_i v d h1 hd
        split at hv
        · rename_i hq
          rw [Z4z] at hq; have hq := Zvm hq; refine ⟨?_, Z5k hC hrec hv hk⟩; have okv : okV st.tmps o.dst v := by rw [hd]; exact hq
          unfold opQE at h1
          split at h1
          · rename_i hg
            exact Z9p hg (fun _ => Z80 hC hrec h1 okv) (fun h => by cases h)
          · rename_i hg
            injection h1 with h1; subst h1
            exact Z9p hg (fun h => by cases h) (fun _ => okv)
          · cases h1
        · cases hv
      · cases hv
    · cases hv
end

/-! ### The reckoner once more, with plans -/
def Zdu : Type := Nat → Nat → Option PT
def Zdj (C : EC) (pt : Zdu) (rec : Rk) : Rk := fun top n0 ks c st => match c with
  | .region id ops true => (match pt id (lE ops.toList) with
    | some codes => (match Zeg ops.toList codes with
      | true => (match Zah C rec n0 ks ops.toList (mE (·.dst) ops.toList) codes st with
        | some outs => some (mE norm outs)
        | none => none)
      | false => Zc9 C rec top n0 ks c st)
    | none => Zc9 C rec top n0 ks c st)
  | _ => Zc9 C rec top n0 ks c st
theorem Zfx {C : EC} {pt : Zdu} {rec : Rk} (hC : ECOK C) (hrec : Z55 C rec) {top : Bool} {n0 : Nat} {ks : List Nat} {c : Code} {st : St} {outs : List (Exit × St)} (hl : ∀ c', c ≠ .loop c') (hv : Zdj C pt rec top n0 ks c st = some outs) {r : Option Nat} (hr : top = true → r = none) :
    AWp ⟨C.P, C.Γ, n0, ks⟩ r c (fun e s => (e, s) ∈ outs) st := by
  unfold Zdj at hv
  split at hv
  · rename_i id ops
    split at hv
    · rename_i codes hp
      split at hv
      · rename_i hok
        split at hv
        · rename_i o ho
          injection hv with hv; subst hv
          obtain ⟨ops⟩ := ops; obtain ⟨tm, h⟩ := st; rw [Z27 (fun x : Oper => x.dst)] at ho; refine AWp.planL codes hC.Γ hC.mix hok (Z5k hC hrec ho fun s hs => ?_); rw [Z27]; exact List.mem_map.2 ⟨s, hs, rfl⟩
        · cases hv
      · exact Z8h hC hrec hl hv hr
    · exact Z8h hC hrec hl hv hr
  · exact Z8h hC hrec hl hv hr

def evNP (C : EC) (pt : Zdu) (fuel : Nat) : Rk := Nat.rec (motive := fun _ => Rk) (fun _ _ _ _ _ => none) (fun _ rec => Zdj C pt rec) fuel
theorem Zq0 {C : EC} {pt : Zdu} (hC : ECOK C) (fuel : Nat) : Z55 C (evNP C pt fuel) := by
  induction fuel using Nat.strongRecOn with
  | _ fuel ih =>
    intro top n0 ks c st outs hv r hr
    cases fuel with
    | zero => cases hv
    | succ fuel =>
      by_cases hl : ∃ c', c = .loop c'
      · obtain ⟨c', rfl⟩ := hl
        refine AWp.loopI (fun x : Nat × St => x.2) (fun x => x.1 ≤ fuel + 1 ∧ ∃ outs', evNP C pt x.1 top n0 ks (.loop c') x.2 = some outs' ∧ ∀ o ∈ outs', o ∈ outs) (fun x => x.1) (fuel + 1, st) (Weak.refl st) ⟨Nat.le_refl _, outs, hv, fun _ h => h⟩ ?_; rintro ⟨f, s⟩ ⟨hf, outs', ho, hsub⟩
        cases f with
        | zero => cases ho
        | succ f =>
          have ho : Z5y (evNP C pt f top n0 ks c' s) (fun es => (match es.1 with
            | .normal => evNP C pt f top n0 ks (.loop c') es.2
            | e => some [(e, es.2)])) = some outs' := ho
          obtain ⟨l', h1, h2⟩ := Z0o ho; refine (ih f (Nat.lt_of_succ_le hf) _ _ _ _ _ _ h1 r hr).mono ?_; intro e s' hm; obtain ⟨o, h3, h4⟩ := h2 (e, s') hm
          cases e with
          | normal => exact ⟨(f, s'), Weak.refl s', ⟨Nat.le_of_succ_le hf, o, h3, fun q hq => hsub q (h4 q hq)⟩, Nat.lt_succ_self f⟩
          | _ => injection h3 with h3; subst h3; exact hsub _ (h4 _ (List.mem_singleton.2 rfl))
      · exact Zfx hC (ih fuel (Nat.lt_succ_self _)) (fun c' h => hl ⟨c', h⟩) hv hr

def Zcy (C : EC) (pt : Zdu) (fuel : Nat) (f : FuncId) (args : List AV) : Option AV := match gO C.P.funcs.toList f with
  | some fn => (match fn.body with
    | some c => Zee C (evNP C pt fuel) fn c args [] true
    | none => none)
  | none => none
theorem Z5h {C : EC} {pt : Zdu} (hC : ECOK C) {fuel : Nat} {f : FuncId} {args : List AV} {v : AV} (hv : Zcy C pt fuel f args = some v) : AC C.P f args [] [] (fun v' h' => v' = v ∧ h' = []) := by
  unfold Zcy at hv
  split at hv
  · rename_i fn hfn
    rw [Z0n, Array.getElem?_toList] at hfn
    split at hv
    · rename_i c hc
      exact Zbo hC (Zq0 hC fuel) hfn hc hv
    · cases hv
  · cases hv
end Go.AM
end

section
namespace Go.AM
open Go.RowKit
section
variable {P : Program} {X : Ctx} {I : Nat → Prop} {μ : Nat → Value} {ob : Nat → Option Nat} {w : World} {h : List AObj} {b : Nat} {E : TypeId} {s : Nat} {xs : List PV} {k : RK}

end

end Go.AM
end

