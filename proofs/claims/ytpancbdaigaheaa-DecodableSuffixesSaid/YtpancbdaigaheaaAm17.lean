/-
  AM 17: what simp may use at draws; calls of pure functions; an owned row given to everybody to read.
-/
import Derived.Test.YtpancbdaigaheaaAm16
namespace Go.AM
open Go.RowKit

section
variable {E : Env} {h : List AObj} {tm : List AV} {K : AV → Prop} {KT : List AV → Prop}
@[go_sem] theorem pureK_move (x : Operand) : pureK E (.move x) h (ev tm) K = K (ev tm x) := rfl
@[go_sem] theorem pureK_assign (x : Operand) : pureK E (.assign x) h (ev tm) K = K (ev tm x) := rfl
@[go_sem] theorem pureK_pick (c x y : Operand) : pureK E (.pick c x y) h (ev tm) K = pickK (ev tm c) (ev tm x) (ev tm y) K := rfl
@[go_sem] theorem pureK_binOp (op : BinOp) (t u : TypeId) (x y : Operand) : pureK E (.binOp op t x y u) h (ev tm) K = binK E.Γ op t (ev tm x) (ev tm y) K := rfl
@[go_sem] theorem pureK_unOp (op : UnOp) (t : TypeId) (x : Operand) : pureK E (.unOp op t x) h (ev tm) K = unK op (ev tm x) K := rfl
@[go_sem] theorem pureK_convert (s t : TypeId) (x : Operand) : pureK E (.convert s t x) h (ev tm) K = convK E.Γ s t (ev tm x) K := rfl
@[go_sem] theorem pureK_fieldAddr (t : TypeId) (x : Operand) (f : Nat) : pureK E (.fieldAddr t x f) h (ev tm) K = faK E.Γ t (ev tm x) f K := rfl
@[go_sem] theorem pureK_field (t : TypeId) (x : Operand) (f : Nat) : pureK E (.field t x f) h (ev tm) K = fieldK E.Γ t (ev tm x) f K := rfl
@[go_sem] theorem pureK_indexAddr (t : TypeId) (x i : Operand) : pureK E (.indexAddr t x i) h (ev tm) K = iaK E.Γ h t (ev tm x) (ev tm i) K := rfl
@[go_sem] theorem pureK_index (t : TypeId) (x i : Operand) : pureK E (.index t x i) h (ev tm) K = idxK E.Γ t (ev tm x) (ev tm i) K := rfl
@[go_sem] theorem pureK_load (t : TypeId) (x : Operand) : pureK E (.load t x) h (ev tm) K = loadK E.Γ h t (ev tm x) K := rfl
@[go_sem] theorem pureK_slice (t : TypeId) (x : Operand) (lo hi mx : Option Operand) : pureK E (.slice t x lo hi mx) h (ev tm) K = sliceK E.Γ t (ev tm x) (lo.map (ev tm)) (hi.map (ev tm)) (mx.map (ev tm)) K := rfl
@[go_sem] theorem pureK_extract (x : Operand) (i : Nat) : pureK E (.extract x i) h (ev tm) K = extK (ev tm x) i K := rfl
@[go_sem] theorem pureK_makeFunc (f : FuncId) (caps : List Operand) : pureK E (.makeFunc (.func f) #[] caps.toArray) h (ev tm) K = K (.fn f (caps.map (ev tm))) := rfl
@[go_sem] theorem pureK_len (x : Operand) (t : TypeId) : pureK E (.call { callee := .builtin .len, args := #[x], argTypes := #[t] }) h (ev tm) K = lenK E.Γ t (ev tm x) h K := rfl
@[go_sem] theorem pureK_buildSlice (t : TypeId) (len : Nat) (parts : List (Nat × Operand)) : pureK E (.buildSlice t len parts.toArray) h (ev tm) K = bsPK E.Γ t len (parts.map fun p => (p.1, ev tm p.2)) K := rfl
@[go_sem] theorem pureK_call (f : Operand) (args : List Operand) (ts : Array TypeId) : pureK E (.call { callee := .value f, args := args.toArray, argTypes := ts }) h (ev tm) K = callVPK E h (ev tm f) (args.map (ev tm)) K := rfl
@[go_sem] theorem pureK_nilCheck (x : Operand) : pureK E (.nilCheck x) h (ev tm) K = nilK (ev tm x) K := rfl
@[go_sem] theorem pureK_build (t : TypeId) (parts : List (Nat × Operand)) : pureK E (.build t parts.toArray) h (ev tm) K = bldK E.Γ t (parts.map fun p => (p.1, ev tm p.2)) K := rfl
@[go_sem] theorem pureK_lookup (t : TypeId) (x y : Operand) (ok : Bool) : pureK E (.lookup t x y ok) h (ev tm) K = lookK E.Γ h t (ev tm x) (ev tm y) ok K := rfl
theorem lexK_nil (ops : List Oper) : lexK E ops h [] tm KT = KT tm := rfl
theorem lexK_plain (ops l : List Oper) (dst : Option Tmp) (op : Op) (ty : TypeId) (pos : String) (after : Array Edge) :
    lexK E ops h (⟨dst, op, ty, pos, after, none⟩ :: l) tm KT = pureK E op h (ev tm) fun v => lexK E ops h l (putD tm dst v) KT := rfl
theorem lexK_guard (ops l : List Oper) (dst : Option Tmp) (op : Op) (ty : TypeId) (pos : String) (after : Array Edge) (j : Nat) (want : Bool) :
    lexK E ops h (⟨dst, op, ty, pos, after, some (j, want)⟩ :: l) tm KT = guardK ops (some (j, want)) tm (pureK E op h (ev tm) fun v => lexK E ops h l (putD tm dst v) KT) (lexK E ops h l (putD tm dst (.tup [])) KT) := rfl

theorem callVPK_ac {f : FuncId} {caps args : List AV} {v : AV} (hf : AC E.P f (args ++ caps) h [] (fun v' h' => v' = v ∧ h' = h)) (hk : K v) : callVPK E h (.fn f caps) args K := .inr (.inr ⟨v, hf, hk⟩)

theorem callVPK_ax {f : FuncId} {caps args : List AV} {v : AV} (hf : AX E.P f (args ++ caps) v) (hk : K v) : callVPK E h (.fn f caps) args K := .inr (.inl ⟨v, hf, hk⟩)

theorem callVPK_fn {f : FuncId} {caps args : List AV} {pargs vs : List PV} (hf : PFn E.P f pargs vs) (ha : ArgsOK h (args ++ caps) pargs vs) (hk : K (packAV (vs.map .p))) : callVPK E h (.fn f caps) args K := .inl ⟨_, _, hf, ha, hk⟩

theorem callK_ac {KS : St → Prop} {d : Option Nat} {f : FuncId} {caps args : List AV} {ks : List Nat} {R : AV → List AObj → Prop} (hf : AC E.P f (args ++ caps) h ks R) (hks : ∀ k ∈ ks, E.n0 ≤ k ∨ k ∈ E.ks) (hk : ∀ v h', R v h' → KS ⟨putD (killAll ks tm) d v, h'⟩) : callK E ⟨tm, h⟩ d (.fn f caps) args KS :=
  .inl ⟨ks, R, hf, hks, hk⟩

theorem callK_fn {KS : St → Prop} {d : Option Nat} {f : FuncId} {caps args : List AV} {pargs vs : List PV} (hf : PFn E.P f pargs vs) (ha : ArgsOK h (args ++ caps) pargs vs) (hk : KS ⟨putD tm d (packAV (vs.map .p)), h⟩) : callK E ⟨tm, h⟩ d (.fn f caps) args KS := by
  refine callK_ac (ks := []) (R := fun v h' => v = packAV (vs.map .p) ∧ h' = h) ?_ (by simp) (by rintro v h' ⟨rfl, rfl⟩; exact hk)
  rcases ha with ha | ha | ⟨ha, h2⟩
  · exact AC.of_fn hf (.inl ha)
  · exact AC.of_fn hf (.inr ha)
  · exact AC.of_fn_own hf ha h2

theorem callK_ax {KS : St → Prop} {d : Option Nat} {f : FuncId} {caps args : List AV} {v : AV} (hf : AX E.P f (args ++ caps) v) (hk : KS ⟨putD tm d v, h⟩) : callK E ⟨tm, h⟩ d (.fn f caps) args KS := .inr ⟨v, hf, hk⟩

theorem ArgsOK.pures {args : List AV} {pargs vs : List PV} (h1 : AV.pures args = some pargs) : ArgsOK h args pargs vs := .inl h1
theorem ArgsOK.still {args : List AV} {pargs vs : List PV} (h1 : AV.purL [] args = some pargs) : ArgsOK h args pargs vs := .inr (.inl h1)
theorem ArgsOK.owned {args : List AV} {pargs vs : List PV} (h1 : AV.purL h args = some pargs) (h2 : vs.all PV.scal = true) : ArgsOK h args pargs vs := .inr (.inr ⟨h1, h2⟩)
end

section
variable {st : St} {b : Nat} {E : TypeId} {s : Nat} {xs : List PV} {k : RK}
theorem AWp.freeze {E' : Env} {r : Option Nat} {c : Code} {Q : Exit → St → Prop} (b : Nat) (hb : st.h[b]? = some (.row E s xs k)) (hw : AWp E' r c Q (Frozen st b xs)) : AWp E' r c Q st := fun X I w a hE ⟨I', μ', ob', hI, R⟩ => by
  obtain ⟨J, hJ, R'⟩ := R.freeze hb
  exact hw X I w a hE ⟨J, μ', _, fun g hg => hJ g (hI g hg), R'⟩
end

attribute [go_sem] bsPK List.cons_append List.nil_append
end Go.AM
