/-
  AM 19: the walk with its draws; truth values.
-/
import Derived.Test.YtpancbdaigaheaaAm18
namespace Go.AM
open Go.RowKit

/-- How many of a statement's operations, from its first on, write nothing. -/
def dmOf : List (Nat × Nat) → Nat → Nat
  | [], _ => 0
  | (i, m) :: l, id => if i = id then m else dmOf l id

/-- The statements whose order Go leaves open are as 'drawOK' asks (loops apart: they have walks of their own). -/
def drawsOK (dm : List (Nat × Nat)) : Code → Bool
  | .region id ops draw => !draw || drawOK (dmOf dm id) ops.toList
  | .seq x y => drawsOK dm x && drawsOK dm y
  | .cond _ x y => drawsOK dm x && drawsOK dm y
  | .block _ c => drawsOK dm c
  | _ => true

def lexD (E : Env) (sl : List (Option Nat)) (h : List AObj) (m : Nat) (ops : List Oper) (tm : List AV) (K : St → Prop) : Prop :=
  lexL E sl h (ops.take m) tm fun tm' => stepsL E sl (ops.drop m) ⟨tm', h⟩ K

def awpD (E : Env) (r : Option Nat) (dm : List (Nat × Nat)) : Code → (Exit → St → Prop) → St → Prop
  | .skip, Q, st => Q .normal st
  | .label _, Q, st => Q .normal st
  | .ret, Q, st => Q .ret st
  | .exit id, Q, st => Q (.exit id) st
  | .region id ops draw, Q, st => if draw then lexD E (ops.toList.map (·.dst)) st.h (dmOf dm id) ops.toList st.tmps (Q .normal) else stepsL E (ops.toList.map (·.dst)) ops.toList st (Q .normal)
  | .seq x y, Q, st => awpD E r dm x (thenQ (awpD E r dm y Q) Q) st
  | .cond c x y, Q, st => boolK (ev st.tmps c) (awpD E r dm x Q st) (awpD E r dm y Q st)
  | .block id c, Q, st => awpD E r dm c (blockQ id Q) st
  | c, Q, st => AWp E r c Q st

theorem AWp.of_awpD {E : Env} {r : Option Nat} (dm : List (Nat × Nat)) (hΓ : GamOK E.P E.Γ) (hmix : E.P.follows .mixedOrders = true) : ∀ {c : Code} {Q : Exit → St → Prop} {st : St}, drawsOK dm c = true → awpD E r dm c Q st → AWp E r c Q st := by
  intro c
  induction c with
  | skip => intro Q st _ h; exact .skip h
  | label l => intro Q st _ h; exact .label h
  | ret => intro Q st _ h; exact .ret h
  | exit id => intro Q st _ h; exact .exit h
  | region id ops draw =>
    intro Q st hd h
    obtain ⟨ops⟩ := ops
    obtain ⟨tm, hh⟩ := st
    cases draw with
    | true => exact AWp.drawL hΓ hmix (dmOf dm id) (by simpa [drawsOK] using hd) h
    | false =>
      refine .region hΓ ?_
      rw [stepsL_eq]; exact h
  | seq x y ihx ihy =>
    intro Q st hd h
    simp only [drawsOK, Bool.and_eq_true] at hd
    refine AWp.seq ((ihx hd.1 h).mono ?_)
    intro e st' hq
    cases e with
    | normal => exact ihy hd.2 hq
    | _ => exact hq
  | cond c x y ihx ihy =>
    intro Q st hd h
    simp only [drawsOK, Bool.and_eq_true] at hd
    refine AWp.cond ?_
    simp only [awpD] at h
    unfold boolK at h ⊢
    split at h
    · exact ⟨fun hb => ihx hd.1 (h.1 hb), fun hb => ihy hd.2 (h.2 hb)⟩
    · exact h
  | block id c ih => intro Q st hd h; exact .block (ih hd h)
  | loop c _ => intro Q st _ h; exact h
  | rangeFunc f ps a b _ _ => intro Q st _ h; exact h
  | scope c _ => intro Q st _ h; exact h
  | goto l => intro Q st _ h; exact h
  | refuse w => intro Q st _ h; exact h

section
variable {E : Env} {r : Option Nat} {Q : Exit → St → Prop} {tm tm' : List AV} {h : List AObj} {K : St → Prop} {dm : List (Nat × Nat)} {sl sl' : List (Option Nat)}
@[go_sem] theorem awpD_skip : awpD E r dm .skip Q ⟨tm, h⟩ = Q .normal ⟨tm, h⟩ := rfl
@[go_sem] theorem awpD_label (l : Nat) : awpD E r dm (.label l) Q ⟨tm, h⟩ = Q .normal ⟨tm, h⟩ := rfl
@[go_sem] theorem awpD_ret : awpD E r dm .ret Q ⟨tm, h⟩ = Q .ret ⟨tm, h⟩ := rfl
@[go_sem] theorem awpD_exit (id : Nat) : awpD E r dm (.exit id) Q ⟨tm, h⟩ = Q (.exit id) ⟨tm, h⟩ := rfl
@[go_sem] theorem awpD_region (id : Nat) (ops : List Oper) : awpD E r dm (.region id ops.toArray false) Q ⟨tm, h⟩ = stepsL E (ops.map (·.dst)) ops ⟨tm, h⟩ (Q .normal) := rfl
@[go_sem] theorem awpD_draw (id : Nat) (ops : List Oper) : awpD E r dm (.region id ops.toArray true) Q ⟨tm, h⟩ = lexD E (ops.map (·.dst)) h (dmOf dm id) ops tm (Q .normal) := rfl
@[go_sem] theorem awpD_seq (x y : Code) : awpD E r dm (.seq x y) Q ⟨tm, h⟩ = awpD E r dm x (thenQ (awpD E r dm y Q) Q) ⟨tm, h⟩ := rfl
@[go_sem] theorem awpD_cond (c : Operand) (x y : Code) : awpD E r dm (.cond c x y) Q ⟨tm, h⟩ = boolK (ev tm c) (awpD E r dm x Q ⟨tm, h⟩) (awpD E r dm y Q ⟨tm, h⟩) := rfl
@[go_sem] theorem awpD_block (id : Nat) (c : Code) : awpD E r dm (.block id c) Q ⟨tm, h⟩ = awpD E r dm c (blockQ id Q) ⟨tm, h⟩ := rfl
@[go_sem] theorem awpD_loop (c : Code) : awpD E r dm (.loop c) Q ⟨tm, h⟩ = AWp E r (.loop c) Q ⟨tm, h⟩ := rfl
@[go_sem] theorem awpD_rangeFunc (f : Operand) (ps : Array Tmp) (a b : Code) : awpD E r dm (.rangeFunc f ps a b) Q ⟨tm, h⟩ = AWp E r (.rangeFunc f ps a b) Q ⟨tm, h⟩ := rfl
@[go_sem] theorem lexD_nil (m : Nat) : lexD E sl h m [] tm K = K ⟨tm, h⟩ := by simp only [lexD, List.take_nil, List.drop_nil]; rfl
@[go_sem] theorem lexD_zero (ops : List Oper) : lexD E sl h 0 ops tm K = stepsL E sl ops ⟨tm, h⟩ K := rfl
@[go_sem] theorem lexD_plain (m : Nat) (l : List Oper) (dst : Option Tmp) (op : Op) (ty : TypeId) (pos : String) (after : Array Edge) :
    lexD E sl h (m + 1) (⟨dst, op, ty, pos, after, none⟩ :: l) tm K = pureK E op h (ev tm) fun v => lexD E sl h m l (putD tm dst v) K := rfl
@[go_sem] theorem lexD_guard (m : Nat) (l : List Oper) (dst : Option Tmp) (op : Op) (ty : TypeId) (pos : String) (after : Array Edge) (j : Nat) (want : Bool) :
    lexD E sl h (m + 1) (⟨dst, op, ty, pos, after, some (j, want)⟩ :: l) tm K = gK (slotG (sl.getD j none) tm) want (pureK E op h (ev tm) fun v => lexD E sl h m l (putD tm dst v) K) (lexD E sl h m l (putD tm dst (.tup [])) K) := rfl
@[congr] theorem awpD_congr {c : Code} {st st' : St} (h : hd st = st') : awpD E r dm c Q st = awpD E r dm c Q st' := by rw [hd_eq] at h; rw [h]
@[congr] theorem lexD_congr {m m' : Nat} {l : List Oper} (h1 : hd sl = sl') (h2 : m = m') (ht : tm = tm') : lexD E sl h m l tm K = lexD E sl' h m' l tm' K := by rw [hd_eq] at h1; rw [h1, h2, ht]

@[go_sem] theorem boolK_not (b : Bool) (x y : Prop) : boolK (.p (.bool (!b))) x y = boolK (.p (.bool b)) y x := by
  cases b <;> simp [boolK]
theorem boolK_gen (b : Bool) (x y : Prop) : boolK (.p (.bool b)) x y = ((b = true → x) ∧ (b = false → y)) := rfl
theorem boolK_and (b c : Bool) (x y : Prop) : boolK (.p (.bool (b && c))) x y = boolK (.p (.bool b)) (boolK (.p (.bool c)) x y) y := by
  cases b <;> cases c <;> simp [boolK]
end
attribute [go_sem] boolK_prop
attribute [go_sem] dmOf Int.ofNat_inj Nat.reduceEqDiff
end Go.AM
