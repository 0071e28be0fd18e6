/-
  AM 8e: conversions between strings and rows of bytes.
  AM 9: one operation, a list of operations, the forms of control; contracts of functions.
  AM 10: the forms of control; a function's contract out of its body.
-/
import Derived.Test.YtpancbdaigaheaaJ36cd30137d3c
import Derived.Lib.ConvBytes
import Derived.Laws.BytesArg

section
namespace Go.AM
open Go.RowKit
set_option linter.unusedSimpArgs false

def u8V (b : UInt8) : PV := .int .u8 b.toNat

def cvZ1 (Γ : Gam) (st : St) (d : Option Nat) (s t : TypeId) (td : TD) (v : AV) (K : St → Prop) : Prop :=
  match td, v with
  | .slice e, .p (.str a) => tdAt Γ s .str ∧ tdAt Γ e (.int .u8) ∧ a.length ≤ 140737488355327 ∧ K ⟨putD st.tmps d (.own st.h.length a.length), st.h ++ [.row e 1 (a.map u8V) .raw]⟩
  | .str, .own b _ => (∃ e, tdAt Γ s (.slice e) ∧ tdAt Γ e (.int .u8)) ∧ (match st.h[b]? with
    | some (.row _ _ xs _) => ∃ l, xs = l.map u8V ∧ K ⟨putD st.tmps d (.p (.str l)), st.h⟩
    | _ => False)
  | .str, .p (.sl xs) => (∃ e, tdAt Γ s (.slice e) ∧ tdAt Γ e (.int .u8)) ∧ ∃ l, xs = l.map u8V ∧ K ⟨putD st.tmps d (.p (.str l)), st.h⟩
  | _, v => convK Γ s t v fun v => K ⟨putD st.tmps d v, st.h⟩
def cvZ (Γ : Gam) (st : St) (d : Option Nat) (s t : TypeId) (v : AV) (K : St → Prop) : Prop := tyAt Γ t fun te => cvZ1 Γ st d s t te.td v K

theorem cvZ_of_convK {Γ : Gam} {st : St} {d : Option Nat} {s t : TypeId} {v : AV} {K : St → Prop} (hk : convK Γ s t v fun v => K ⟨putD st.tmps d v, st.h⟩) : cvZ Γ st d s t v K := by
  have hk' := hk
  unfold convK at hk
  unfold cvZ tyAt
  split at hk
  · obtain ⟨_, hk⟩ := hk
    split at hk
    · rename_i te hte
      simp only [hte]
      split at hk
      · rename_i k hk2
        simp only [cvZ1, hk2]; exact hk'
      · exact hk.elim
    · exact hk.elim
  · obtain ⟨_, h2, _⟩ := hk
    unfold tdAt at h2
    split at h2
    · rename_i te hte
      simp only [hte, h2, cvZ1]; exact hk'
    · exact h2.elim
  · exact hk.elim

section
variable {P : Program} {X : Ctx} {I : Nat → Prop} {μ : Nat → Value} {ob : Nat → Option Nat} {w : World} {a : Act} {tm : List AV} {h : List AObj}

theorem flats_u8 (l : List UInt8) : flats (l.map u8V) = l.map u8V := by
  induction l with
  | nil => rfl
  | cons b l ih =>
    have : flats ((b :: l).map u8V) = u8V b :: flats (l.map u8V) := rfl
    rw [this, ih]; rfl
theorem size_u8 (l : List UInt8) : ∀ y ∈ l.map u8V, y.cells.length = 1 := fun y hy => by
  obtain ⟨b, _, rfl⟩ := List.mem_map.1 hy
  rfl
theorem grown_bytes (w : World) (e : TypeId) (s : ByteArray) : w.grownBy (Lib.bytesWorld w e s) none :=
  ⟨rfl, rfl, rfl, by rw [Lib.bytesWorld_size]; omega, fun k hk _ => Lib.bytesWorld_at_old w e s k hk⟩

theorem cv_ok {Γ : Gam} (hΓ : GamOK P Γ) {s t : TypeId} {x : AV} {v : Value} {d : Option Nat} {K : St → Prop} (R : Rep X I μ ob ⟨tm, h⟩ w a) (hx : VR h.length μ I w x v) (hk : cvZ Γ ⟨tm, h⟩ d s t x K) :
    StepOK P X I μ h.length (convert s t v) w a d K := by
  obtain ⟨te, ht, hk⟩ := hk.get
  obtain ⟨dd, hu, hd, _⟩ := (hΓ _ _ ht).desc
  have rd : ∀ (xs : List PV) (l : List UInt8), x.listH h = some xs → xs = l.map u8V → te.td = .str → (∃ e, tdAt Γ s (.slice e) ∧ tdAt Γ e (.int .u8)) → K ⟨putD tm d (.p (.str l)), h⟩ → StepOK P X I μ h.length (convert s t v) w a d K := by
    intro xs l hl hxs htd hse hK
    subst hxs
    obtain ⟨e, h1, h2⟩ := hse
    obtain ⟨ds, hus, hs⟩ := h1.und hΓ
    obtain ⟨de, hue, he⟩ := h2.und hΓ
    simp only [descOK] at hs he; subst hs he
    rw [htd] at hd; simp only [descOK] at hd; subst hd
    have hone : sizeOK (l.map u8V) 1 := fun y hy => by obtain ⟨b, _, rfl⟩ := List.mem_map.1 hy; rfl
    obtain ⟨⟨ad, c, rfl, hc⟩, hne⟩ := hx.listH R.objs hl hone
    by_cases h0 : l = []
    · subst h0
      refine StepOK.pure R (v := .p (.str [])) (cv := .string ⟨#[]⟩) ?_ (.mkStr rfl) hK
      cases ad with
      | none => exact run_convert_bytes_nil (P := P) w s e hus hue 0 c t hu
      | some ad =>
        rw [run_convert_bytes_string w s t e _ _ c hus hue hu]
        have h5 := run_bytesToString (P := P) w ad 0 c [] (by simpa using run_loadCells_list (P := P) w ad [] (fun j v hj => by simp at hj))
        exact h5
    · obtain ⟨ad', c', news, e1, hcell⟩ := hne (by simpa using h0)
      injection e1 with e1 _ e2; subst e1 e2
      obtain ⟨n1, n2, n3⟩ := hcell
      have hl1 : (l.map u8V).length = l.length := by simp
      have hfl := flats_u8 l
      have hld : (loadCells ad' (l.map u8V).length).run P w = .ok ((l.map fun b => (b.toNat : Int)).map (Value.int .u8)).toArray w := by
        have h5 := run_loadCells_list (P := P) w ad' ((l.map fun b => (b.toNat : Int)).map (Value.int .u8)) (fun j u hj => by
          have hjl : j < l.length := by have := (List.getElem?_eq_some_iff.1 hj).1; simpa using this
          have h6 := n3 j (by simpa using hjl)
          rw [hfl] at h6
          have h7 : news[j]? = some (news.getD j undef) := by
            have : j < news.length := by rw [n1]; simpa using hjl
            rw [List.getD_eq_getElem?_getD, List.getElem?_eq_getElem this, Option.getD_some]
          have h8 := n2 j _ h7
          rw [h8]
          have h9 : (l.map u8V).getD j default = u8V l[j] := by
            rw [List.getD_eq_getElem?_getD, List.getElem?_map, List.getElem?_eq_getElem hjl]; rfl
          rw [h9] at h6
          generalize news.getD j undef = q at h6
          have hq : q = .int .u8 (l[j].toNat : Int) := by
            unfold u8V at h6
            cases h6 with | int k n => rfl
          rw [hq]
          have : u = .int .u8 (l[j].toNat : Int) := by
            simp [List.getElem?_eq_getElem hjl] at hj; exact hj.symm
          rw [this])
        simpa using h5
      refine StepOK.pure R (v := .p (.str l)) (cv := .string (strOfNums (l.map fun b => (b.toNat : Int)))) ?_ (.mkStr ?_) hK
      · rw [run_convert_bytes_string w s t e _ _ c hus hue hu, run_bytesToString (P := P) w ad' _ c _ hld, foldl_push_bytes]
        simp [strOfNums, ByteArray.empty, ByteArray.emptyWithCapacity]
        rfl
      · rw [strOfNums_data]; simp [List.map_map, Function.comp_def]
  unfold cvZ1 at hk
  split at hk
  · rename_i e s' htd hk0
    obtain ⟨h1, h2, hlen, hK⟩ := hk
    obtain ⟨ds, hus, hs⟩ := h1.und hΓ
    obtain ⟨de, hue, he⟩ := h2.und hΓ
    simp only [descOK] at hs he; subst hs he
    rw [htd] at hd; simp only [descOK] at hd; subst hd
    obtain ⟨b, rfl, rfl⟩ := hx.str_inv
    have hbs : b.data.toList.length = b.size := by simp
    have hrun := Lib.run_convert_string_bytes (P := P) w s t e b hus hu hue
    have hg := grown_bytes w e b
    have hsz := Lib.bytesWorld_size w e b
    have hcg : b.size ≤ grownCap w b.size 0 e := grownCap_ge w _ _ _
    have hcm : grownCap w b.size 0 e ≤ maxLen := grownCap_le_maxLen w _ _ _ (by simp only [maxLen]; omega)
    have hcs : (Lib.bytesCells w e b).size = grownCap w b.size 0 e := by simp [Lib.bytesCells]; omega
    have hsl : (b.data.toList.map u8V).length = b.size := by simp
    have R1 := R.name (v := .slice (some ⟨w.heap.size, 0, none⟩) b.size (grownCap w b.size 0 e)) (g := some w.heap.size) (o := .row e 1 (b.data.toList.map u8V) .raw) hg (fun k e => by injection e with e; subst e; exact ⟨Nat.le_refl _, by rw [hsz]; omega⟩) (by
      refine ⟨size_u8 _, .inl ⟨w.heap.size, by simp, grownCap w b.size 0 e, Lib.bytesCells w e b, _, (Lib.bytesCells w e b).toList.take b.size, by simp, Lib.bytesWorld_at_new w e b, fun h => (by cases h),
        fun j hj => (by have := hj; simp only [not_and, Nat.not_lt]; omega), by rw [hsl]; exact hcg, hcm, by rw [hcs]; simp, by rw [hsl]; simp, by rw [hsl, List.length_take, Array.length_toList, hcs]; omega, fun j hj => ?_⟩⟩
      rw [hsl, Nat.mul_one] at hj
      have hfl := flats_u8
      rw [hfl]
      have e1 : (b.data.toList.map u8V).getD j default = .int .u8 (b.data.toList.getD j 0).toNat := by
        rw [List.getD_eq_getElem?_getD, List.getElem?_map, List.getD_eq_getElem?_getD, List.getElem?_eq_getElem (by omega)]; rfl
      have e2 : ((Lib.bytesCells w e b).toList.take b.size).getD j undef = .int .u8 (b.data.toList.getD j 0).toNat := by
          simp [List.getD_eq_getElem?_getD, hj, Lib.bytesCells]
      rw [e1, e2]; exact .int _ _)
    have R2 := R1.put (v := .own h.length b.size) (cv := .slice (some ⟨w.heap.size, 0, none⟩) b.size (grownCap w b.size 0 e)) (.own _ _ _ _ (by simp) (by simp)) d
    exact ⟨_, _, _, hrun, ⟨_, _, _, fun _ h => h, R2, fun b hb _ => not_may_len hb _⟩, by simpa using hK⟩
  · rename_i b n htd hk0
    obtain ⟨hse, hk⟩ := hk
    split at hk
    · rename_i E s2 xs rk hb
      obtain ⟨l, hxs, hK⟩ := hk
      exact rd xs l (by simp only [AV.listH]; simp only at hb; rw [hb]) hxs htd hse hK
    · exact hk.elim
  · rename_i xs htd hk0
    obtain ⟨hse, l, hxs, hK⟩ := hk
    exact rd xs l rfl hxs htd hse hK
  · obtain ⟨v, cv, hr, hv, hK⟩ := conv_ok (P := P) (w := w) hΓ hx hk
    exact StepOK.pure R hr hv hK
end
end Go.AM
end

section
namespace Go.AM
open Go.RowKit

/-- What a walk may use: the types, how many names lay before the activation, and which of those may move. -/
structure Env where
  P : Program
  Γ : Gam
  n0 : Nat
  ks : List Nat

def Env.fits (E : Env) (X : Ctx) : Prop := X.n0 = E.n0 ∧ X.ks = E.ks

def Fw (r : Option Nat) : Fence := { Fence.wide with round := r }

/-- Related still, and nothing is taken back. -/
def Now (X : Ctx) (I : Nat → Prop) (st : St) (w : World) (a : Act) : Prop := ∃ I' μ' ob', (∀ g, I g → I' g) ∧ Rep X I' μ' ob' st w a

theorem Leaves.now {X : Ctx} {I : Nat → Prop} {μ : Nat → Value} {n : Nat} {st : St} {w : World} {a : Act} (h : Leaves X I μ n st w a) : Now X I st w a := by
  obtain ⟨I', μ', ob', h1, h2, _⟩ := h; exact ⟨I', μ', ob', h1, h2⟩

theorem Now.trans {X : Ctx} {I I' : Nat → Prop} {st : St} {w : World} {a : Act} (hI : ∀ g, I g → I' g) (h : Now X I' st w a) : Now X I st w a := by
  obtain ⟨I'', μ', ob', h1, h2⟩ := h; exact ⟨I'', μ', ob', fun g h => h1 g (hI g h), h2⟩

/-- A function with a body of its own. -/
def EntersF (P : Program) (f : FuncId) : Prop := ∀ (args : Array Value) (w : World), (callFunc f args).run P w = .ok (.enter f args) w

theorem entersF_of {P : Program} {f : FuncId} {fn : Func} {c : Code} (hf : P.funcs[f]? = some fn) (hname : (fn.name == "runtime.NumGoroutine") = false) (hb : fn.body = some c) : EntersF P f := by
  intro args w
  have hn : ¬ fn.name = "runtime.NumGoroutine" := fun h => by rw [h] at hname; simp at hname
  simp [callFunc, hf, hn, hb]

/-- A function of the model's own, that reads nothing. -/
def AX (P : Program) (f : FuncId) (args : List AV) (v : AV) : Prop :=
  ∀ (n : Nat) (μ : Nat → Value) (I : Nat → Prop) (w : World) (cargs : List Value), args.length = cargs.length → (∀ i, i < args.length → VR n μ I w (args.getD i .junk) (cargs.getD i undef)) →
    ∃ cv, (callFunc f cargs.toArray).run P w = .ok (.value cv) w ∧ VR n μ I w v cv

/-- A function's contract with the heap in sight. -/
def AC (P : Program) (f : FuncId) (args : List AV) (h : List AObj) (ks : List Nat) (R : AV → List AObj → Prop) : Prop :=
  EntersF P f ∧ ∀ (X : Ctx) (I : Nat → Prop) (μ : Nat → Value) (ob : Nat → Option Nat) (w : World) (cargs : List Value), RepH X I μ ob h w → args.length = cargs.length →
    (∀ i, i < args.length → VR h.length μ I w (args.getD i .junk) (cargs.getD i undef)) → (∀ k ∈ ks, X.may k) →
    Calls P f cargs.toArray w fun e w' => ∃ cv v h' I' μ' ob', e = .returned cv ∧ RepH X I' μ' ob' h' w' ∧ VR h'.length μ' I' w' v cv ∧ (∀ g, I g → I' g) ∧
      (∀ b, b < h.length → b ∉ ks → μ' b = μ b) ∧ h.length ≤ h'.length ∧ (∀ g, I' g → I g ∨ (∃ b, ob b = some g) ∨ w.heap.size ≤ g) ∧ (∀ b g, ob' b = some g → (∃ c, ob c = some g) ∨ w.heap.size ≤ g) ∧
      (∀ g, g < w.heap.size → (∀ b, ob b ≠ some g) → w'.heap[g]? = w.heap[g]?) ∧ R v h'

/-- A contract of a round of the loop over a function whose record has the name b. -/
def YC (P : Program) (b : Nat) (args : List AV) (h : List AObj) (ks : List Nat) (R : AV → List AObj → Prop) : Prop :=
  ∀ (X : Ctx) (I : Nat → Prop) (μ : Nat → Value) (ob : Nat → Option Nat) (w : World) (cargs : List Value), RepH X I μ ob h w → args.length = cargs.length →
    (∀ i, i < args.length → VR h.length μ I w (args.getD i .junk) (cargs.getD i undef)) → (∀ k ∈ ks, X.may k) →
    ∃ l fn tmps assign body, μ b = .func (.yield l) #[] #[] ∧ (Instr.yield l cargs.toArray).run P w = .ok (.round l fn tmps assign body) w ∧
    RoundIn (Fw none) 0 P l fn tmps assign body w fun e w' => ∃ cv v h' I' μ' ob', e = .returned cv ∧ RepH X I' μ' ob' h' w' ∧ VR h'.length μ' I' w' v cv ∧ (∀ g, I g → I' g) ∧
      (∀ b, b < h.length → b ∉ ks → μ' b = μ b) ∧ h.length ≤ h'.length ∧ (∀ g, I' g → I g ∨ (∃ b, ob b = some g) ∨ w.heap.size ≤ g) ∧ (∀ b g, ob' b = some g → (∃ c, ob c = some g) ∨ w.heap.size ≤ g) ∧
      (∀ g, g < w.heap.size → (∀ b, ob b ≠ some g) → w'.heap[g]? = w.heap[g]?) ∧ R v h'

def killAll (ks : List Nat) (tm : List AV) : List AV := ks.foldl (fun tm k => tm.map (AV.kill k)) tm

def callK (E : Env) (st : St) (d : Option Nat) (f : AV) (args : List AV) (K : St → Prop) : Prop :=
  match f with
  | .fn g caps => (∃ ks R, AC E.P g (args ++ caps) st.h ks R ∧ (∀ k ∈ ks, E.n0 ≤ k ∨ k ∈ E.ks) ∧ ∀ v h', R v h' → K ⟨putD (killAll ks st.tmps) d v, h'⟩) ∨
    (∃ v, AX E.P g (args ++ caps) v ∧ K ⟨putD st.tmps d v, st.h⟩)
  | .yld b => ∃ ks R, YC E.P b args st.h ks R ∧ (∀ k ∈ ks, E.n0 ≤ k ∨ k ∈ E.ks) ∧ ∀ v h', R v h' → K ⟨putD (killAll ks st.tmps) d v, h'⟩
  | _ => False

def mkFnK (fn : Fn) (first : List Operand) (caps : List AV) (K : AV → Prop) : Prop :=
  match fn, first with
  | .func f, [] => K (.fn f caps)
  | _, _ => False

def minK (x y : AV) (K : AV → Prop) : Prop :=
  match x, y with
  | .p (.int k a), .p (.int _ b) => K (.p (.int k (if b < a then b else a)))
  | _, _ => False

def binOpK (Γ : Gam) (op : BinOp) (t : TypeId) (x : AV) (y : Operand) (ey : AV) (h : List AObj) (K : AV → Prop) : Prop :=
  match y, op with
  | .const (.slice none 0 0), .eql => nilSlK Γ t false x h K
  | .const (.slice none 0 0), .neq => nilSlK Γ t true x h K
  | _, _ => binK Γ op t x ey K

def builtinK (E : Env) (st : St) (d : Option Nat) (b : Builtin) (args : List AV) (ts : List TypeId) (K : St → Prop) : Prop :=
  match b, args, ts with
  | .len, [x], [t] => lenK E.Γ t x st.h fun v => K ⟨putD st.tmps d v, st.h⟩
  | .append, [x, y], [t, t'] => t = t' ∧ appK E.Γ E.n0 E.ks st.tmps st.h d t x y K
  | .min, [x, y], _ => minK x y fun v => K ⟨putD st.tmps d v, st.h⟩
  | _, _, _ => False

def callOpK (E : Env) (st : St) (d : Option Nat) (c : Call) (K : St → Prop) : Prop :=
  match c.callee with
  | .value f => callK E st d (ev st.tmps f) (c.args.toList.map (ev st.tmps)) K
  | .builtin b => builtinK E st d b (c.args.toList.map (ev st.tmps)) c.argTypes.toList K
  | .invoke _ _ => False

/-- A slice of a slice: the beginning of an owned row is the row made shorter; else the row is given away. -/
def slZ (Γ : Gam) (n0 : Nat) (ks : List Nat) (st : St) (d : Option Nat) (t : TypeId) (x : Operand) (lo hi mx : Option Operand) (v : AV) (K : St → Prop) : Prop :=
  match v, lo, mx with
  | .own b m, none, none => slOwnK Γ n0 ks st.tmps st.h d t b m (hi.map (ev st.tmps)) K
  | v, _, _ => sliceK Γ t (ev (fz1 v st).tmps x) (lo.map (ev (fz1 v st).tmps)) (hi.map (ev (fz1 v st).tmps)) (mx.map (ev (fz1 v st).tmps)) fun u => K ⟨putD (fz1 v st).tmps d u, (fz1 v st).h⟩
def storeZ (Γ : Gam) (s : St) (t : TypeId) (x y : Operand) (K : St → Prop) : Prop := storeK Γ s.tmps s.h t (ev s.tmps x) (ev s.tmps y) K
def bsZ (Γ : Gam) (s : St) (d : Option Nat) (t : TypeId) (len : Nat) (parts : List (Nat × Operand)) (K : St → Prop) : Prop := bsK Γ s.tmps s.h d t len (parts.map fun p => (p.1, ev s.tmps p.2)) K
def updZ (Γ : Gam) (s : St) (t : TypeId) (x i y : Operand) (K : St → Prop) : Prop := updK Γ s.tmps s.h t (ev s.tmps x) (ev s.tmps i) (ev s.tmps y) K

def opK (E : Env) (o : Oper) (st : St) (K : St → Prop) : Prop :=
  let put (v : AV) : Prop := K ⟨putD st.tmps o.dst v, st.h⟩
  let e := ev st.tmps
  match o.op with
  | .move x => put (e x)
  | .assign x => put (e x)
  | .pick c x y => pickK (e c) (e x) (e y) put
  | .binOp op t x y _ => binOpK E.Γ op t (e x) y (e y) st.h put
  | .unOp op _ x => unK op (e x) put
  | .convert src dst x => cvZ E.Γ st o.dst src dst (e x) K
  | .fieldAddr t x f => faK E.Γ t (e x) f put
  | .field t x f => fieldK E.Γ t (e x) f put
  | .indexAddr t x i => iaK E.Γ st.h t (e x) (e i) put
  | .index t x i => idxK E.Γ t (e x) (e i) put
  | .load t x => loadK E.Γ st.h t (e x) put
  | .slice t x lo hi mx => slZ E.Γ E.n0 E.ks st o.dst t x lo hi mx (e x) K
  | .extract x i => extK (e x) i put
  | .makeFunc fn first caps => mkFnK fn first.toList (caps.toList.map e) put
  | .box _ x => boxK st.tmps st.h o.dst (e x) K
  | .alloc t => allocK E.Γ st.tmps st.h o.dst t K
  | .store t x y => (match e x with
    | .eptr _ _ _ _ => storeZ E.Γ (fzL [e y] st) t x y fun st' => K ⟨putD st'.tmps o.dst (.tup []), st'.h⟩
    | _ => storeZ E.Γ st t x y fun st' => K ⟨putD st'.tmps o.dst (.tup []), st'.h⟩)
  | .buildSlice t len parts => bsZ E.Γ (fzL (parts.toList.map fun p => e p.2) st) o.dst t len parts.toList K
  | .call c => callOpK E st o.dst c K
  | .nilCheck x => nilK (e x) put
  | .build t parts => bldK E.Γ t (parts.toList.map fun p => (p.1, e p.2)) put
  | .makeSlice t l c => mkSK E.Γ st.tmps st.h o.dst t (e l) (e c) K
  | .makeMap _ none => mkMK st.tmps st.h o.dst K
  | .lookup t x i ok => lookK E.Γ st.h t (e x) (e i) ok put
  | .mapUpdate t x i y => updZ E.Γ (fzL [e y] st) t x i y fun st' => K ⟨putD st'.tmps o.dst (.tup []), st'.h⟩
  | .range t x => rngK E.Γ st.tmps st.h o.dst t (e x) K
  | .next x false => nxtK st.tmps st.h o.dst (e x) K
  | .entry x => entK st.h (e x) put
  | _ => False

section
variable {E : Env} {X : Ctx} {I : Nat → Prop} {μ : Nat → Value} {ob : Nat → Option Nat} {w w' : World} {a : Act} {st : St} {o : Oper} {K : St → Prop} {Q : Exit → Act → World → Prop} {r : Option Nat}

/-- The continuation: whatever is related and meets K. -/
def After (X : Ctx) (I : Nat → Prop) (ds : List Deferred) (K : St → Prop) (a : Act) (w : World) : Prop := ∃ st, Now X I st w a ∧ a.defers = ds ∧ K st

theorem Oper.wpIn_of {n : Nat} {next : Act → World → Prop} (h1 : ∀ c, o.op ≠ .defer c) (h : o.uponIn (Fw r) n E.P a next Q ((execOp a.eval o).run E.P w)) : o.wpIn (Fw r) n E.P a w next Q :=
  ⟨fun _ _ => trivial, by rw [Oper.semAt_eq _ _ _ h1]; exact h⟩

theorem put_defers (a : Act) (d : Option Nat) (v : Value) : (a.put d v).defers = a.defers := by cases d <;> rfl

theorem wp_pure (R : Rep X I μ ob st w a) (h1 : ∀ c, o.op ≠ .defer c) (h : ∃ v cv, (execOp a.eval o).run E.P w = .ok (.value cv) w ∧ VR st.h.length μ I w v cv ∧ K ⟨putD st.tmps o.dst v, st.h⟩) :
    o.wpIn (Fw r) 0 E.P a w (After X I a.defers K) Q := by
  obtain ⟨v, cv, hr, hv, hK⟩ := h
  refine Oper.wpIn_of h1 ?_
  rw [hr]
  exact ⟨_, ⟨I, μ, ob, fun _ h => h, R.put hv o.dst⟩, put_defers _ _ _, hK⟩

theorem wp_step (h1 : ∀ c, o.op ≠ .defer c) {s : Sem Value} (he : (execOp a.eval o).run E.P w = (s.run E.P w).andThen fun v w => .ok (.value v) w) {n : Nat} (h : StepOK E.P X I μ n s w a o.dst K) :
    o.wpIn (Fw r) 0 E.P a w (After X I a.defers K) Q := by
  obtain ⟨cv, w', st', hr, hl, hK⟩ := h
  refine Oper.wpIn_of h1 ?_
  rw [he, hr]
  exact ⟨st', hl.now, put_defers _ _ _, hK⟩

theorem kills_ok {n n' : Nat} {μ μ' : Nat → Value} {I I' : Nat → Prop} (ks : List Nat) (hn : n ≤ n') (hμ : ∀ b, b < n → b ∉ ks → μ' b = μ b) (hI : ∀ g, I g → I' g) (hw : ∀ g, I g → w'.heap[g]? = w.heap[g]?)
    {tm : List AV} {cs : Array Value} (h : ∀ i, i < tm.length → VR n μ I w (tm.getD i .junk) (cs.getD i undef)) :
    (killAll ks tm).length = tm.length ∧ ∀ i, i < tm.length → VR n' μ' I' w' ((killAll ks tm).getD i .junk) (cs.getD i undef) := by
  induction ks generalizing tm μ with
  | nil => exact ⟨rfl, fun i hi => (h i hi).mono hn (fun b hb => hμ b hb (by simp)) hI hw⟩
  | cons k ks ih =>
    have h2 : ∀ i, i < (tm.map (AV.kill k)).length → VR n (upd μ k (μ' k)) I w ((tm.map (AV.kill k)).getD i .junk) (cs.getD i undef) := by
      intro i hi
      simp only [List.length_map] at hi
      have := (h i hi).kill (n' := n) (μ' := upd μ k (μ' k)) (I' := I) (w' := w) k (Nat.le_refl _) (fun b _ hb => upd_other _ _ hb) (fun _ h => h) (fun _ _ => rfl)
      simpa [List.getD_eq_getElem?_getD, List.getElem?_map, List.getElem?_eq_getElem hi] using this
    have := ih (μ := upd μ k (μ' k)) (fun b hb hbk => by
      by_cases e : b = k
      · subst e; rw [upd_same]
      · rw [upd_other _ _ e]; exact hμ b hb (by simp [e, hbk])) h2
    simpa [killAll] using this

theorem rep_call {I' : Nat → Prop} {μ' : Nat → Value} {ob' : Nat → Option Nat} {h' : List AObj} {ks : List Nat} (R : Rep X I μ ob st w a) (R' : RepH X I' μ' ob' h' w') (hI : ∀ g, I g → I' g)
    (hμ : ∀ b, b < st.h.length → b ∉ ks → μ' b = μ b) (hlen : st.h.length ≤ h'.length) (hI2 : ∀ g, I' g → I g ∨ (∃ b, ob b = some g) ∨ w.heap.size ≤ g) (hob : ∀ b g, ob' b = some g → (∃ c, ob c = some g) ∨ w.heap.size ≤ g)
    (hold : ∀ g, g < w.heap.size → (∀ b, ob b ≠ some g) → w'.heap[g]? = w.heap[g]?) : Rep X I' μ' ob' ⟨killAll ks st.tmps, h'⟩ w' a := by
  have hIw : ∀ g, I g → w'.heap[g]? = w.heap[g]? := fun g hg => hold g (R.imm g hg) (fun b hb => (R.own b g hb).1 hg)
  obtain ⟨k1, k2⟩ := kills_ok (w' := w') (n' := h'.length) (μ' := μ') (I' := I') ks hlen hμ hI hIw R.tmps
  exact {
    toRepH := R'
    size := k1.trans R.size
    tmps := fun i hi => k2 i (by rw [← k1]; exact hi)
    marks := by
      obtain ⟨rs, m1, m2, m3⟩ := R.marks
      refine ⟨rs, m1, m2, fun q hq => ?_⟩
      obtain ⟨e1, e2, e3, e4⟩ := m3 q hq
      have hlt : q < w.heap.size := (Array.getElem?_eq_some_iff.1 e1).1
      refine ⟨(hold q hlt e4).trans e1, e2, fun hi => (hI2 q hi).elim e3 (fun h => h.elim (fun ⟨b, hb⟩ => e4 b hb) (fun h => by omega)), fun b hb => ?_⟩
      rcases hob b q hb with ⟨c, hc⟩ | h
      · exact e4 c hc
      · omega }

theorem yld_ok {d : Option Nat} {b : Nat} {args : List AV} {cf : Value} {cargs : List Value} (hE : E.fits X) (R : Rep X I μ ob st w a) (hf : VR st.h.length μ I w (.yld b) cf) (hl : args.length = cargs.length)
    (ha : ∀ i, i < args.length → VR st.h.length μ I w (args.getD i .junk) (cargs.getD i undef)) (hk : callK E st d (.yld b) args K) :
    ∃ l fn tmps assign body, cf = .func (.yield l) #[] #[] ∧ (Instr.yield l cargs.toArray).run E.P w = .ok (.round l fn tmps assign body) w ∧
      RoundIn (Fw r) 0 E.P l fn tmps assign body w fun e w' => ∃ cv, e = .returned cv ∧ After X I a.defers K (a.put d cv) w' := by
  obtain ⟨ks, Rr, hyc, hks, hK⟩ := hk
  obtain ⟨l, fn, tmps, assign, body, h1, h2, h3⟩ := hyc X I μ ob w cargs R.toRepH hl ha (fun k hk => by
    rcases hks k hk with h | h
    · exact .inl (by rw [hE.1]; exact h)
    · exact .inr (by rw [hE.2]; exact h))
  have hcf : cf = .func (.yield l) #[] #[] := by
    cases hf with | yld _ l' _ h => rw [h] at h1; injection h1 with h1; injection h1 with h1; subst h1; rfl
  refine ⟨l, fn, tmps, assign, body, hcf, h2, ?_⟩
  refine RoundIn.mono (F := Fw none) h3 ?_
  rintro e w' ⟨cv, v, h', I', μ', ob', rfl, R', hv, hI, hμ, hlen, hI2, hob, hold, hR⟩
  exact ⟨cv, rfl, _, ⟨I', μ', ob', hI, (rep_call R R' hI hμ hlen hI2 hob hold).put hv d⟩, put_defers _ _ _, hK v h' hR⟩

theorem call_ok {d : Option Nat} {f : AV} {args : List AV} {cf : Value} {cargs : List Value} (hE : E.fits X) (R : Rep X I μ ob st w a) (hf : VR st.h.length μ I w f cf) (hl : args.length = cargs.length)
    (ha : ∀ i, i < args.length → VR st.h.length μ I w (args.getD i .junk) (cargs.getD i undef)) (hny : ∀ b, f ≠ .yld b) (hk : callK E st d f args K) :
    ∃ g cs, cf = .func (.func g) #[] cs ∧ ((EntersF E.P g ∧ Calls E.P g (cargs.toArray ++ cs) w fun e w' => ∃ cv, e = .returned cv ∧ After X I a.defers K (a.put d cv) w') ∨
      (∃ cv, (callFunc g (cargs.toArray ++ cs)).run E.P w = .ok (.value cv) w ∧ After X I a.defers K (a.put d cv) w)) := by
  unfold callK at hk
  split at hk
  · rename_i g caps
    obtain ⟨cs, rfl, hcl, hcr⟩ := hf.fn_inv
    have hlen : (args ++ caps).length = (cargs ++ cs).length := by simp [hl, hcl]
    have hall : ∀ i, i < (args ++ caps).length → VR st.h.length μ I w ((args ++ caps).getD i .junk) ((cargs ++ cs).getD i undef) := fun i hi => by
      by_cases h1 : i < args.length
      · have e1 : (args ++ caps).getD i .junk = args.getD i .junk := by simp only [List.getD_eq_getElem?_getD, List.getElem?_append_left h1]
        have e2 : (cargs ++ cs).getD i undef = cargs.getD i undef := by simp only [List.getD_eq_getElem?_getD, List.getElem?_append_left (show i < cargs.length by omega)]
        rw [e1, e2]; exact ha i h1
      · have e1 : (args ++ caps).getD i .junk = caps.getD (i - args.length) .junk := by simp only [List.getD_eq_getElem?_getD, List.getElem?_append_right (show args.length ≤ i by omega)]
        have e2 : (cargs ++ cs).getD i undef = cs.getD (i - args.length) undef := by simp only [List.getD_eq_getElem?_getD, List.getElem?_append_right (show cargs.length ≤ i by omega), hl]
        rw [e1, e2]; exact hcr _ (by simp only [List.length_append] at hi; omega)
    refine ⟨g, cs.toArray, rfl, ?_⟩
    rw [show cargs.toArray ++ cs.toArray = (cargs ++ cs).toArray by simp]
    rcases hk with ⟨ks, Rr, ⟨hent, hac⟩, hks, hK⟩ | ⟨v, hax, hK⟩
    · refine .inl ⟨hent, ?_⟩
      have hcall := hac X I μ ob w (cargs ++ cs) R.toRepH hlen hall (fun k hk => by
        rcases hks k hk with h | h
        · exact .inl (by rw [hE.1]; exact h)
        · exact .inr (by rw [hE.2]; exact h))
      intro fs
      obtain ⟨e, w', fr, ⟨cv, v, h', I', μ', ob', rfl, R', hv, hI, hμ, hlen, hI2, hob, hold, hR⟩, hcom⟩ := hcall fs
      refine ⟨_, w', fr, ⟨cv, rfl, ⟨putD (killAll ks st.tmps) d v, h'⟩, ⟨I', μ', ob', hI, ?_⟩, put_defers _ _ _, hK v h' hR⟩, hcom⟩
      have R1 := rep_call R R' hI hμ hlen hI2 hob hold
      exact R1.put hv d
    · obtain ⟨cv, hr, hv⟩ := hax st.h.length μ I w (cargs ++ cs) hlen hall
      exact .inr ⟨cv, hr, _, ⟨I, μ, ob, fun _ h => h, R.put hv d⟩, put_defers _ _ _, hK⟩
  · exact absurd rfl (hny _)
  · exact hk.elim

theorem amap {α β : Type} (f : α → β) (A : Array α) : A.map f = (A.toList.map f).toArray := Array.ext' (by simp)

theorem uponIn_mono {n : Nat} {next next' : Act → World → Prop} (h : ∀ a w, next a w → next' a w) {x : Result Next} (hx : o.uponIn (Fw r) n E.P a next Q x) : o.uponIn (Fw r) n E.P a next' Q x := by
  unfold Oper.uponIn at hx ⊢
  split <;> simp only at hx
  · exact h _ _ hx
  · exact h _ _ hx
  · exact h _ _ hx
  · refine ⟨hx.1, hx.2.mono ?_⟩
    intro e w he
    cases e with
    | returned v => exact h _ _ he
    | panicked c => exact he
    | outgrown => exact he
  · exact ⟨hx.1, hx.2.mono fun v w hv => h _ _ hv⟩
  · refine ⟨hx.1, hx.2.mono ?_⟩
    intro e w he
    cases e with
    | returned v => exact h _ _ he
    | panicked c => exact he
    | outgrown => exact he
  · exact hx

theorem wpIn_next_mono {n : Nat} {next next' : Act → World → Prop} (h : ∀ a w, next a w → next' a w) (hx : o.wpIn (Fw r) n E.P a w next Q) : o.wpIn (Fw r) n E.P a w next' Q :=
  ⟨hx.1, uponIn_mono h hx.2⟩

theorem op_ok (hΓ : GamOK E.P E.Γ) (hE : E.fits X) (R : Rep X I μ ob st w a) (hk : opK E o st K) : o.wpIn (Fw r) 0 E.P a w (After X I a.defers K) Q := by
  have hev := R.evs
  unfold opK at hk
  obtain ⟨dst, op, ty, pos, after, guard⟩ := o
  simp only at hk
  split at hk
  · exact wp_pure R (by simp) ⟨_, _, by simp [execOp], hev _, hk⟩
  · exact wp_pure R (by simp) ⟨_, _, by simp [execOp], hev _, hk⟩
  · obtain ⟨v, cv, hr, hv, hK⟩ := pick_ok (P := E.P) (w := w) (hev _) (hev _) (hev _) hk
    exact wp_pure R (by simp) ⟨v, cv, by simpa [execOp] using hr, hv, hK⟩
  · unfold binOpK at hk
    have hnil : ∀ x' : AV, ∀ vx : Value, VR st.h.length μ I w x' vx → ∀ xs, x'.listH st.h = some xs → ∃ a c, vx = .slice a xs.length c ∧ (a = none → c = 0) ∧ xs.length ≤ c := by
      intro x' vx hx xs hl
      unfold AV.listH at hl
      split at hl
      · rename_i b k
        split at hl
        · rename_i E' s' xs' rk hb
          injection hl with hl; subst hl
          obtain ⟨a, c, rfl, hbn, hbm⟩ := hx.own_inv
          rcases (R.objs _ _ hb).2 with ⟨g, _, cap, _, _, _, e3, _, _, _, hle, _⟩ | ⟨_, _, a', h1, h2⟩
          · rw [hbm] at e3; injection e3 with e4 e5 e6; subst e4 e5 e6; exact ⟨_, _, rfl, by simp, hle⟩
          · rw [hbm] at h1; injection h1 with e4 e5 e6; subst e4 e5 e6
            rw [hbm] at h2
            obtain ⟨a2, c2, e7, _, e8⟩ := h2.sl_len
            injection e7 with e9 _ e10; subst e9
            exact ⟨_, _, rfl, fun h => by rw [e10]; exact e8 h, Nat.le_refl _⟩
        · cases hl
      · obtain ⟨a, c, e1, e2, e3⟩ := (hx.list_inv hl).sl_len
        exact ⟨a, c, e1, e3, e2⟩
    have eqg : ∀ (op : BinOp) (t : TypeId) (ox oy : Operand) (vx : Value), (∀ cs, vx ≠ .agg cs) → vx ≠ .nilIface → eqGuard op t ox oy vx (.slice none 0 0) = pure () := fun op t ox oy vx h1 h2 => eqGuard_pv ⟨h1, h2⟩
    have nilcase : ∀ (op : BinOp) (t : TypeId) (x : Operand) (neg : Bool), nilSlK E.Γ t neg (ev st.tmps x) st.h (fun v => K ⟨putD st.tmps dst v, st.h⟩) → (op = .eql ∧ neg = false ∨ op = .neq ∧ neg = true) →
        ∃ v cv, (do eqGuard op t x (.const (.slice none 0 0)) (a.eval x) (.slice none 0 0); binOp op t (a.eval x) (.slice none 0 0) : Sem Value).run E.P w = .ok cv w ∧ VR st.h.length μ I w v cv ∧ K ⟨putD st.tmps dst v, st.h⟩ := by
      intro op t x neg hk hop
      obtain ⟨n1, n2⟩ := nilSl_ok (P := E.P) hΓ (t := t) (K := fun v => K ⟨putD st.tmps dst v, st.h⟩) (hev x) (fun xs hl => hnil _ _ (hev x) xs hl)
      have hsl : ∃ p l c, a.eval x = .slice p l c := by
        have hk2 := hk.2
        split at hk2
        · rename_i y ys hl; obtain ⟨p, c, e, _⟩ := hnil _ _ (hev x) _ hl; exact ⟨p, _, c, e⟩
        · rename_i hl; obtain ⟨p, c, e, _⟩ := hnil _ _ (hev x) _ hl; exact ⟨p, _, c, e⟩
        · exact hk2.elim
      obtain ⟨p, l, c, he⟩ := hsl
      rcases hop with ⟨rfl, rfl⟩ | ⟨rfl, rfl⟩
      · obtain ⟨v, cv, hr, hv, hK⟩ := n1 hk
        refine ⟨v, cv, ?_, hv, hK⟩
        rw [eqg _ _ _ _ _ (by rw [he]; simp) (by rw [he]; simp)]
        simpa using hr
      · obtain ⟨v, cv, hr, hv, hK⟩ := n2 hk
        refine ⟨v, cv, ?_, hv, hK⟩
        rw [eqg _ _ _ _ _ (by rw [he]; simp) (by rw [he]; simp)]
        simpa using hr
    split at hk
    · obtain ⟨v, cv, hr, hv, hK⟩ := nilcase _ _ _ _ hk (.inl ⟨rfl, rfl⟩)
      exact wp_pure R (by simp) ⟨v, cv, by
        simp only [execOp, Sem.run_bind] at hr ⊢
        simp only [Act.eval] at hr ⊢
        rw [hr]; rfl, hv, hK⟩
    · obtain ⟨v, cv, hr, hv, hK⟩ := nilcase _ _ _ _ hk (.inr ⟨rfl, rfl⟩)
      exact wp_pure R (by simp) ⟨v, cv, by
        simp only [execOp, Sem.run_bind] at hr ⊢
        simp only [Act.eval] at hr ⊢
        rw [hr]; rfl, hv, hK⟩
    · obtain ⟨v, cv, hr, hv, hK⟩ := binK_ok (P := E.P) (w := w) hΓ _ _ (hev _) (hev _) hk
      exact wp_pure R (by simp) ⟨v, cv, by
        simp only [execOp, Sem.run_bind] at hr ⊢; rw [hr]; rfl, hv, hK⟩
  · obtain ⟨v, cv, hr, hv, hK⟩ := un_ok (P := E.P) (w := w) (hev _) hk
    exact wp_pure R (by simp) ⟨v, cv, by simp [execOp, hr], hv, hK⟩
  · exact wp_step (by simp) (by simp [execOp]) (cv_ok (P := E.P) hΓ R (hev _) hk)
  · obtain ⟨v, cv, hr, hv, hK⟩ := fa_ok (P := E.P) (w := w) hΓ (hev _) hk
    exact wp_pure R (by simp) ⟨v, cv, by simp [execOp, hr], hv, hK⟩
  · obtain ⟨v, cv, hr, hv, hK⟩ := field_ok (P := E.P) (w := w) hΓ (hev _) hk
    exact wp_pure R (by simp) ⟨v, cv, by simp [execOp, hr], hv, hK⟩
  · obtain ⟨v, cv, hr, hv, hK⟩ := ia_ok (P := E.P) (w := w) hΓ (hev _) (hev _) R.objs hk
    exact wp_pure R (by simp) ⟨v, cv, by simp [execOp, hr], hv, hK⟩
  · obtain ⟨v, cv, hr, hv, hK⟩ := idx_ok (P := E.P) (w := w) hΓ (hev _) (hev _) hk
    exact wp_pure R (by simp) ⟨v, cv, by simp [execOp, hr], hv, hK⟩
  · obtain ⟨v, cv, hr, hv, hK⟩ := load_ok (P := E.P) (w := w) hΓ (hev _) R.objs hk
    exact wp_pure R (by simp) ⟨v, cv, by simp [execOp, hr], hv, hK⟩
  · rename_i t x lo hi mx
    unfold slZ at hk
    split at hk
    · rename_i b m hx
      have h1 := hev x
      rw [hx] at h1
      have hh : (match hi.map (ev st.tmps), hi.map a.eval with | none, none => True | some x, some v => VR st.h.length μ I w x v | _, _ => False) := by cases hi <;> simp [hev]
      exact wp_step (r := r) (by simp) (by simp [execOp]) (slOwn_ok (P := E.P) (t := t) (vh := hi.map a.eval) hΓ R h1 hh (by rw [hE.1, hE.2]; exact hk))
    · rename_i lo mx v' lo' mx' hne
      obtain ⟨J, obz, hJ, Rz⟩ := R.fz1 (ev st.tmps x)
      have hez : ∀ y, VR (fz1 (ev st.tmps x) st).h.length μ J w (ev (fz1 (ev st.tmps x) st).tmps y) (a.eval y) := Rep.evs Rz
      obtain ⟨v, cv, hr, hv, hK⟩ := slice_ok (P := E.P) (w := w) (vl := lo.map a.eval) (vh := hi.map a.eval) (vm := mx.map a.eval) hΓ (hez x) (by cases lo <;> simp [hez]) (by cases hi <;> simp [hez]) (by cases mx <;> simp [hez]) hk
      exact wpIn_next_mono (fun a' w' ⟨st', hn, h2, h3⟩ => ⟨st', hn.trans hJ, h2, h3⟩) (wp_pure (r := r) (K := K) Rz (by simp) ⟨v, cv, by simp [execOp, hr], hv, hK⟩)
  · obtain ⟨v, cv, hr, hv, hK⟩ := ext_ok (P := E.P) (w := w) (hev _) hk
    exact wp_pure R (by simp) ⟨v, cv, by simp [execOp, hr], hv, hK⟩
  · rename_i fn first caps
    unfold mkFnK at hk
    split at hk
    · rename_i f hfirst
      have hfirst : first = #[] := by simpa using hfirst
      subst hfirst
      refine wp_pure R (by simp) ⟨_, .func (.func f) #[] (caps.map a.eval), by simp [execOp, Instr.makeFunc], ?_, hk⟩
      have := VR.fn (n := st.h.length) (μ := μ) (I := I) (w := w) f (caps.toList.map (ev st.tmps)) (caps.toList.map a.eval) (by simp) (fun i hi => by
        simp only [List.length_map] at hi
        simp only [List.getD_eq_getElem?_getD, List.getElem?_map, List.getElem?_eq_getElem hi, Option.map_some, Option.getD_some]
        exact hev _)
      rw [amap]; exact this
    · exact hk.elim
  · rename_i t x
    exact wp_step (by simp) (by simp only [execOp, Instr.box, Sem.run_bind]; cases (newVar t (a.eval x)).run E.P w <;> rfl) (box_ok (P := E.P) (t := t) R (hev _) hk)
  · exact wp_step (by simp) (by simp [execOp]) (alloc_ok (P := E.P) hΓ R hk)
  · rename_i t x y
    have hk' : ∃ l, storeZ E.Γ (fzL l st) t x y fun st' => K ⟨putD st'.tmps dst (.tup []), st'.h⟩ := by
      split at hk
      · exact ⟨_, hk⟩
      · exact ⟨[], hk⟩
    obtain ⟨lz, hk⟩ := hk'
    obtain ⟨J, obz, hJ, Rz⟩ := R.fzL lz
    obtain ⟨w', st', hr, hl, hK⟩ := store_ok (P := E.P) hΓ Rz (Rz.evs _) (Rz.evs _) hk
    refine Oper.wpIn_of (by simp) ?_
    have : (execOp a.eval { dst := dst, op := .store t x y, type := ty, pos := pos, after := after, guard := guard }).run E.P w = .ok .skip w' := by simp [execOp, hr]
    rw [this]
    obtain ⟨I', μ', ob', h1, h2, _⟩ := hl
    exact ⟨_, ⟨I', μ', ob', fun g hg => h1 g (hJ g hg), h2.put (.tup [] [] rfl (fun i hi => by simp at hi)) dst⟩, put_defers _ _ _, hK⟩
  · rename_i t len parts
    obtain ⟨J, obz, hJ, Rz⟩ := R.fzL (parts.toList.map fun p => ev st.tmps p.2)
    have hb := bs_ok (P := E.P) (cparts := parts.toList.map fun p => (p.1, a.eval p.2)) hΓ Rz (by simp) (fun i hi => by
      simp only [List.length_map] at hi
      simp only [List.map_map, List.getD_eq_getElem?_getD, List.getElem?_map, List.getElem?_eq_getElem hi, Option.map_some, Option.getD_some, Function.comp]
      exact Rz.evs _) hk
    refine wpIn_next_mono (fun a' w' ⟨st', hn, h2, h3⟩ => ⟨st', hn.trans hJ, h2, h3⟩) (wp_step (r := r) (by simp) ?_ hb)
    rw [← amap]; simp [execOp]
  · rename_i c
    obtain ⟨callee, args, ats⟩ := c
    unfold callOpK at hk
    simp only at hk
    split at hk
    · rename_i f
      have hargs : ∀ i, i < (args.toList.map (ev st.tmps)).length → VR st.h.length μ I w ((args.toList.map (ev st.tmps)).getD i .junk) ((args.toList.map a.eval).getD i undef) := fun i hi => by
        simp only [List.length_map] at hi
        simp only [List.getD_eq_getElem?_getD, List.getElem?_map, List.getElem?_eq_getElem hi, Option.map_some, Option.getD_some]
        exact hev _
      by_cases hy : ∃ b, ev st.tmps f = .yld b
      · obtain ⟨b, hb⟩ := hy
        rw [hb] at hk
        obtain ⟨l, fn, tmps, assign, body, hcf, hrun0, hround⟩ := yld_ok (r := r) (cargs := args.toList.map a.eval) hE R (by rw [← hb]; exact hev f) (by simp) hargs hk
        refine Oper.wpIn_of (by simp) ?_
        have hrun : (execOp a.eval { dst := dst, op := .call { callee := .value f, args := args, argTypes := ats }, type := ty, pos := pos, after := after, guard := guard }).run E.P w = .ok (.round l fn tmps assign body) w := by
          rw [← amap] at hrun0; simpa [execOp, resolve, hcf, Deferred.ofValue, invoke] using hrun0
        rw [hrun, Oper.uponIn_round]
        refine ⟨fun h => by simp [Fw, Fence.wide] at h, ?_⟩
        refine RoundIn.mono hround ?_
        rintro e w' ⟨cv, rfl, hA⟩
        exact hA
      obtain ⟨g, cs, hcf, hcall⟩ := call_ok (cargs := args.toList.map a.eval) hE R (hev f) (by simp) hargs (fun b hb => hy ⟨b, hb⟩) hk
      refine Oper.wpIn_of (by simp) ?_
      have hrun : (execOp a.eval { dst := dst, op := .call { callee := .value f, args := args, argTypes := ats }, type := ty, pos := pos, after := after, guard := guard }).run E.P w = (callFunc g ((args.toList.map a.eval).toArray ++ cs)).run E.P w := by
        rw [← amap]; simp [execOp, resolve, hcf, Deferred.ofValue, invoke]
      rw [hrun]
      rcases hcall with ⟨hent, hcall⟩ | ⟨cv, hr, hA⟩
      · rw [hent]
        refine ⟨fun h => by simp [Fw, Fence.wide] at h, ?_⟩
        have hc2 := (callsIn_wide (n := 0)).2 hcall
        refine ⟨trivial, fun fs hroom => ?_⟩
        obtain ⟨e, w', fr, ⟨cv, rfl, hA⟩, hcom⟩ := hc2.2 fs (room_wide _)
        exact ⟨_, w', fr, hA, hcom⟩
      · rw [hr]; exact hA
    · rename_i b
      unfold builtinK at hk
      split at hk
      · rename_i x t ha ht
        obtain ⟨y, rfl, rfl⟩ : ∃ y, args = #[y] ∧ ev st.tmps y = x := by
          obtain ⟨l⟩ := args
          cases l with
          | nil => simp at ha
          | cons y l => cases l with
            | nil => exact ⟨y, rfl, by simpa using ha⟩
            | cons z l => simp at ha
        have ht : ats = #[t] := by simpa using congrArg List.toArray ht
        subst ht
        obtain ⟨v, cv, hr, hv, hK⟩ := len_ok (P := E.P) (w := w) (ty := ty) hΓ (hev y) R.objs hk
        exact wp_pure R (by simp) ⟨v, cv, by simp [execOp, resolve, invoke, builtin, hr], hv, hK⟩
      · rename_i x y t t' ha ht
        obtain ⟨x', y', rfl, rfl, rfl⟩ : ∃ x' y', args = #[x', y'] ∧ ev st.tmps x' = x ∧ ev st.tmps y' = y := by
          obtain ⟨l⟩ := args
          match l, ha with
          | [x', y'], ha => exact ⟨x', y', rfl, by simpa using ha⟩
          | [], ha => simp at ha
          | [_], ha => simp at ha
          | _ :: _ :: _ :: _, ha => simp at ha
        have ht : ats = #[t, t'] := by simpa using congrArg List.toArray ht
        subst ht
        obtain ⟨rfl, hk⟩ := hk
        refine wp_step (by simp) ?_ (append_ok (P := E.P) (ty := ty) hΓ R (hev x') (hev y') (by rw [hE.1, hE.2]; exact hk))
        simp [execOp, resolve, invoke, builtin]
      · rename_i x y ha
        obtain ⟨x', y', rfl, rfl, rfl⟩ : ∃ x' y', args = #[x', y'] ∧ ev st.tmps x' = x ∧ ev st.tmps y' = y := by
          obtain ⟨l⟩ := args
          match l, ha with
          | [x', y'], ha => exact ⟨x', y', rfl, by simpa using ha⟩
          | [], ha => simp at ha
          | [_], ha => simp at ha
          | _ :: _ :: _ :: _, ha => simp at ha
        unfold minK at hk
        split at hk
        · rename_i k x k' y hx hy
          have e1 := hev x'
          have e2 := hev y'
          rw [hx] at e1; rw [hy] at e2
          exact wp_pure R (by simp) ⟨_, .int k (if y < x then y else x), by simp [execOp, resolve, invoke, builtin, Builtin.min_, Builtin.min2, e1.int_inv, e2.int_inv], .mkInt _ _, hk⟩
        · exact hk.elim
      · exact hk.elim
    · exact hk.elim
  · rename_i x
    have hK := nil_holds hk
    refine wp_pure R (by simp) ⟨_, a.eval x, ?_, hev x, hK⟩
    rcases nil_ok (hev x) hk with ⟨ad, he⟩ | ⟨g, cs, he⟩ | ⟨l, he⟩
    · simp only [execOp, he]; rfl
    · simp only [execOp, he]; rfl
    · simp only [execOp, he]; rfl
  · rename_i t parts
    obtain ⟨v, cv, hr, hv, hK⟩ := bld_ok (P := E.P) (w := w) (n := st.h.length) (μ := μ) (I := I) (cps := parts.toList.map fun p => (p.1, a.eval p.2)) hΓ (by simp) (fun i hi => by
      simp only [List.length_map] at hi
      simp only [List.getD_eq_getElem?_getD, List.getElem?_map, List.getElem?_eq_getElem hi, Option.map_some, Option.getD_some]
      exact ⟨by simp, hev _⟩) hk
    exact wp_pure R (by simp) ⟨v, cv, by
      rw [← amap] at hr
      simp only [execOp, Sem.run_bind]
      rw [hr]; rfl, hv, hK⟩
  · exact wp_step (by simp) (by simp [execOp]) (mkS_ok (P := E.P) hΓ R (hev _) (hev _) hk)
  · rename_i t
    exact wp_step (by simp) (by simp [execOp]) (mkM_ok (P := E.P) (t := t) R hk)
  · obtain ⟨v, cv, hr, hv, hK⟩ := look_ok (P := E.P) (w := w) hΓ (hev _) (hev _) R.objs hk
    exact wp_pure R (by simp) ⟨v, cv, by simp [execOp, hr], hv, hK⟩
  · rename_i t x i y
    obtain ⟨J, obz, hJ, Rz⟩ := R.fzL [ev st.tmps y]
    obtain ⟨w', st', hr, hl, hK⟩ := upd_ok (P := E.P) hΓ Rz (Rz.evs _) (Rz.evs _) (Rz.evs _) hk
    refine Oper.wpIn_of (by simp) ?_
    have : (execOp a.eval { dst := dst, op := .mapUpdate t x i y, type := ty, pos := pos, after := after, guard := guard }).run E.P w = .ok .skip w' := by simp [execOp, hr]
    rw [this]
    obtain ⟨I', μ', ob', h1, h2, _⟩ := hl
    exact ⟨_, ⟨I', μ', ob', fun g hg => h1 g (hJ g hg), h2.put (.tup [] [] rfl (fun i hi => by simp at hi)) dst⟩, put_defers _ _ _, hK⟩
  · exact wp_step (by simp) (by simp [execOp]) (rng_ok (P := E.P) hΓ R (hev _) hk)
  · exact wp_step (by simp) (by simp [execOp]) (nxt_ok (P := E.P) (ty := ty) R (hev _) hk)
  · obtain ⟨v, cv, hr, hv, hK⟩ := ent_ok (P := E.P) (w := w) (hev _) R.objs hk
    exact wp_pure R (by simp) ⟨v, cv, by simp [execOp, hr], hv, hK⟩
  · exact hk.elim

/-! ### A list of operations -/
def slotOf (ops : List Oper) (j : Nat) : Option Nat := (ops[j]?).bind (·.dst)

def guardK (ops : List Oper) (g : Option (Nat × Bool)) (tm : List AV) (run skip : Prop) : Prop :=
  match g with
  | none => run
  | some (j, want) => (match slotOf ops j with
    | some d => (match tm.getD d .junk with
      | .p (.bool b) => (b = want → run) ∧ (b = (!want) → skip)
      | .tup _ => skip
      | _ => False)
    | none => False)

def stepsK (E : Env) (ops : List Oper) : List Oper → St → (St → Prop) → Prop
  | [], st, K => K st
  | o :: rest, st, K => guardK ops o.guard st.tmps (opK E o st fun st' => stepsK E ops rest st' K) (stepsK E ops rest ⟨putD st.tmps o.dst (.tup []), st.h⟩ K)

theorem yielded_of {ops : Array Oper} {j : Nat} {d : Nat} (hd : slotOf ops.toList j = some d) (R : Rep X I μ ob st w a) : 
    (∀ b, st.tmps.getD d .junk = .p (.bool b) → yielded ops a.tmps j = some b) ∧ (∀ l, st.tmps.getD d .junk = .tup l → yielded ops a.tmps j = none) := by
  have hd' : (ops[j]?).bind (·.dst) = some d := by simpa [slotOf] using hd
  have hlt : ∀ x, st.tmps.getD d .junk = x → x ≠ .junk → d < st.tmps.length := fun x hx hn => by
    by_cases h : d < st.tmps.length
    · exact h
    · rw [List.getD_eq_getElem?_getD, List.getElem?_eq_none (Nat.le_of_not_lt h)] at hx; exact absurd hx.symm hn
  refine ⟨fun b hb => ?_, fun l hl => ?_⟩
  · have h := hlt _ hb (by simp)
    have hv := R.tmps d h
    rw [hb] at hv
    have := hv.bool_inv
    have hs := R.size
    simp only [yielded, hd', Option.bind_some]
    have hg : a.tmps[d]? = some (a.tmps.getD d undef) := by
      rw [Array.getD, dif_pos (show d < a.tmps.size by omega), Array.getElem?_eq_getElem (show d < a.tmps.size by omega)]; rfl
    rw [hg, this]
  · have h := hlt _ hl (by simp)
    have hv := R.tmps d h
    rw [hl] at hv
    obtain ⟨cs, this, _⟩ := hv.tup_inv
    have hs := R.size
    simp only [yielded, hd', Option.bind_some]
    have hg : a.tmps[d]? = some (a.tmps.getD d undef) := by
      rw [Array.getD, dif_pos (show d < a.tmps.size by omega), Array.getElem?_eq_getElem (show d < a.tmps.size by omega)]; rfl
    rw [hg, this]

theorem steps_ok (hΓ : GamOK E.P E.Γ) (hE : E.fits X) {ops : Array Oper} {Q : Exit → Act → World → Prop} {ds : List Deferred} : ∀ (l : List Oper) (k : Nat), (∀ j, l[j]? = ops[k + j]?) → ∀ {st : St} {a : Act} {w : World} {I : Nat → Prop},
    Now X I st w a → a.defers = ds → stepsK E ops.toList l st K → (∀ a w, After X I ds K a w → Q .normal a w) → wpOpsIn (Fw r) 0 E.P ops Q (List.range' k l.length) a w
  | [], k, _, st, a, w, I, hN, hd, hk, hQ => hQ a w ⟨st, hN, hd, hk⟩
  | o :: l, k, hl, st, a, w, I, hN, hd, hk, hQ => by
    have h0 : ops[k]? = some o := by simpa using (hl 0).symm
    have hl' : ∀ j, l[j]? = ops[k + 1 + j]? := fun j => by have := hl (j + 1); simpa [Nat.add_assoc, Nat.add_comm 1 j] using this
    obtain ⟨I', μ', ob', hI, R⟩ := hN
    have hQ' : ∀ a w, After X I' ds K a w → Q .normal a w := fun a w ⟨st', hn, h2, h3⟩ => hQ a w ⟨st', hn.trans hI, h2, h3⟩
    have hrun : opK E o st (fun st' => stepsK E ops.toList l st' K) → o.wpIn (Fw r) 0 E.P a w (wpOpsIn (Fw r) 0 E.P ops Q (List.range' (k + 1) l.length)) Q := fun hk =>
      wpIn_next_mono (fun a' w' ⟨st', hn, hd', hk'⟩ => steps_ok hΓ hE l (k + 1) hl' hn (hd'.trans hd) hk' (fun a w hA => hQ' a w hA)) (op_ok hΓ hE R hk)
    have hskip : stepsK E ops.toList l ⟨putD st.tmps o.dst (.tup []), st.h⟩ K → wpOpsIn (Fw r) 0 E.P ops Q (List.range' (k + 1) l.length) (a.put o.dst undef) w := fun hk =>
      steps_ok hΓ hE l (k + 1) hl' ⟨I', μ', ob', fun _ h => h, R.put (.tup [] [] rfl (fun i hi => by simp at hi)) o.dst⟩ ((put_defers _ _ _).trans hd) hk (fun a w hA => hQ' a w hA)
    simp only [List.length_cons, List.range'_succ, wpOpsIn, h0]
    unfold stepsK guardK at hk
    split at hk
    · rename_i hg
      rw [if_pos (by simp [Region.wanted, hg])]; exact hrun hk
    · rename_i j want hg
      split at hk
      · rename_i d hd2
        obtain ⟨y1, y2⟩ := yielded_of hd2 R
        split at hk
        · rename_i b hb
          have hy := y1 b hb
          by_cases hbw : b = want
          · rw [if_pos (by simp [Region.wanted, hg, hy, hbw])]; exact hrun (hk.1 hbw)
          · rw [if_neg (by simp [Region.wanted, hg, hy, hbw])]
            exact ⟨fun _ _ => trivial, hskip (hk.2 (by cases b <;> cases want <;> simp_all))⟩
        · rename_i l' hl2
          have hy := y2 l' hl2
          rw [if_neg (by simp [Region.wanted, hg, hy])]
          exact ⟨fun _ _ => trivial, hskip hk⟩
        · exact hk.elim
      · exact hk.elim
end
end Go.AM
end

section
namespace Go.AM
open Go.RowKit

/-- From this abstract state the code does what Q says. -/
def AWp (E : Env) (r : Option Nat) (c : Code) (Q : Exit → St → Prop) (st : St) : Prop :=
  ∀ (X : Ctx) (I : Nat → Prop) (w : World) (a : Act), E.fits X → Now X I st w a → c.wpIn (Fw r) 0 E.P (fun e a' w' => ∃ st', Now X I st' w' a' ∧ Q e st') a w

/-- Less is known in st' than in st. -/
def weakT : List AV → List AV → Prop
  | [], [] => True
  | x :: l, y :: l' => (y = .junk ∨ y = x) ∧ weakT l l'
  | _, _ => False
/-- An owned row is appendable. -/
def laxer : AObj → AObj → Prop
  | .row E s xs .own, y => y = .row E s xs .lax
  | _, _ => False
def weakH : List AObj → List AObj → Prop
  | [], [] => True
  | x :: l, y :: l' => (y = .dead ∨ y = x ∨ laxer x y) ∧ weakH l l'
  | _, _ => False
def Weak (st st' : St) : Prop := weakT st.tmps st'.tmps ∧ weakH st.h st'.h

theorem weakT_ok : ∀ {l l' : List AV}, weakT l l' → l'.length = l.length ∧ ∀ i, i < l.length → l'.getD i .junk = .junk ∨ l'.getD i .junk = l.getD i .junk
  | [], [], _ => ⟨rfl, by simp⟩
  | x :: l, y :: l', h => by
    obtain ⟨h1, h2⟩ := h
    obtain ⟨e1, e2⟩ := weakT_ok h2
    refine ⟨by simp [e1], fun i hi => ?_⟩
    cases i with
    | zero => simpa using h1
    | succ i => simpa using e2 i (by simpa using hi)
theorem weakH_ok : ∀ {l l' : List AObj}, weakH l l' → l'.length = l.length ∧ ∀ (i : Nat) (o : AObj), l'[i]? = some o → o = AObj.dead ∨ l[i]? = some o ∨ ∃ x, l[i]? = some x ∧ laxer x o
  | [], [], _ => ⟨rfl, by simp⟩
  | x :: l, y :: l', h => by
    obtain ⟨h1, h2⟩ := h
    obtain ⟨e1, e2⟩ := weakH_ok h2
    refine ⟨by simp [e1], fun i o ho => ?_⟩
    cases i with
    | zero =>
      simp only [List.getElem?_cons_zero, Option.some.injEq] at ho ⊢
      subst ho
      rcases h1 with h | h | h
      · exact .inl h
      · exact .inr (.inl h.symm)
      · exact .inr (.inr ⟨_, rfl, h⟩)
    | succ i => simpa using e2 i o (by simpa using ho)

theorem weakT_refl (l : List AV) : weakT l l := by
  induction l with
  | nil => trivial
  | cons x l ih => exact ⟨.inr rfl, ih⟩
theorem weakH_refl (l : List AObj) : weakH l l := by
  induction l with
  | nil => trivial
  | cons x l ih => exact ⟨.inr (.inl rfl), ih⟩
theorem Weak.refl (st : St) : Weak st st := ⟨weakT_refl _, weakH_refl _⟩

section
variable {E : Env} {X : Ctx} {I : Nat → Prop} {w : World} {a : Act} {st st' : St} {Q Q' : Exit → St → Prop} {r : Option Nat} {c : Code}

theorem Now.weak (h : Weak st st') (hN : Now X I st w a) : Now X I st' w a := by
  obtain ⟨I', μ', ob', hI, R⟩ := hN
  obtain ⟨t1, t2⟩ := weakT_ok h.1
  obtain ⟨h1, h2⟩ := weakH_ok h.2
  refine ⟨I', μ', ob', hI, {
    below := R.below, base := R.base, imm := R.imm, ctx := R.ctx, frz := R.frz, inew := R.inew, may := R.may, names := by rw [h1]; exact R.names, own := R.own, sep := R.sep, past := fun b hb => R.past b (by rw [← h1]; exact hb)
    objs := fun b o ho => ?_, size := t1.trans R.size, tmps := fun i hi => ?_, marks := R.marks }⟩
  · rcases h2 b o ho with h | h | ⟨x, h, hx⟩
    · subst h; trivial
    · rw [h1]; exact R.objs b o h
    · rw [h1]
      have hO := R.objs b x h
      unfold laxer at hx
      split at hx
      · subst hx
        obtain ⟨q1, q2⟩ := hO
        refine ⟨q1, ?_⟩
        rcases q2 with q2 | ⟨q2, _⟩
        · exact .inl q2
        · cases q2
      · exact hx.elim
  · rw [h1]
    rcases t2 i (by omega) with h | h
    · rw [h]; exact .junk _
    · rw [h]; exact R.tmps i (by omega)

theorem AWp.weak (h : Weak st st') (hw : AWp E r c Q st') : AWp E r c Q st := fun X I w a hE hN => hw X I w a hE (hN.weak h)

theorem AWp.mono (hw : AWp E r c Q st) (hQ : ∀ e st, Q e st → Q' e st) : AWp E r c Q' st := fun X I w a hE hN =>
  wpIn_mono (hw X I w a hE hN) fun e _ _ ⟨st', h1, h2⟩ => ⟨st', h1, hQ e st' h2⟩

theorem AWp.region (hΓ : GamOK E.P E.Γ) {id : Nat} {ops : Array Oper} (h : stepsK E ops.toList ops.toList st (Q .normal)) : AWp E r (.region id ops false) Q st := fun X I w a hE hN => by
  refine wpIn_region ?_
  rw [List.range_eq_range', ← Array.length_toList]
  exact steps_ok (K := Q .normal) hΓ hE ops.toList 0 (by simp) hN rfl h (fun _ _ ⟨st', h1, _, h3⟩ => ⟨st', h1, h3⟩)

/-- What follows where the first part ends normally. -/
def thenQ (next : St → Prop) (Q : Exit → St → Prop) : Exit → St → Prop
  | .normal, st => next st
  | e, st => Q e st

theorem AWp.seq {x y : Code} (h : AWp E r x (thenQ (AWp E r y Q) Q) st) : AWp E r (.seq x y) Q st := fun X I w a hE hN => by
  refine wpIn_seq (wpIn_mono (h X I w a hE hN) ?_)
  rintro e a' w' ⟨st', hN', hq⟩
  cases e with
  | normal => exact hq X I w' a' hE hN'
  | exit id => exact ⟨st', hN', hq⟩
  | goto l => exact ⟨st', hN', hq⟩
  | ret => exact ⟨st', hN', hq⟩
  | panic ch => exact ⟨st', hN', hq⟩
  | outgrown => exact ⟨st', hN', hq⟩

theorem AWp.skip (h : Q .normal st) : AWp E r .skip Q st := fun _ _ _ _ _ hN => wpIn_skip ⟨st, hN, h⟩
theorem AWp.ret (h : Q .ret st) : AWp E r .ret Q st := fun _ _ _ _ _ hN => wpIn_ret ⟨st, hN, h⟩
theorem AWp.exit {id : Nat} (h : Q (.exit id) st) : AWp E r (.exit id) Q st := fun _ _ _ _ _ hN => wpIn_exit ⟨st, hN, h⟩
theorem AWp.label {l : Nat} (h : Q .normal st) : AWp E r (.label l) Q st := fun _ _ _ _ _ hN => wpIn_label ⟨st, hN, h⟩

def boolK (x : AV) (t f : Prop) : Prop :=
  match x with
  | .p (.bool b) => (b = true → t) ∧ (b = false → f)
  | _ => False

theorem AWp.cond {x : Operand} {c d : Code} (h : boolK (ev st.tmps x) (AWp E r c Q st) (AWp E r d Q st)) : AWp E r (.cond x c d) Q st := fun X I w a hE hN => by
  have hN' := hN
  obtain ⟨I', μ', ob', hI, R⟩ := hN
  unfold boolK at h
  split at h
  · rename_i b hb
    have hv := R.evs x
    rw [hb] at hv
    exact wpIn_cond_split hv.bool_inv (fun ht => h.1 ht X I w a hE hN') (fun hf => h.2 hf X I w a hE hN')
  · exact h.elim

def blockQ (id : Nat) (Q : Exit → St → Prop) : Exit → St → Prop
  | .exit i, st => if i = id then Q .normal st else Q (.exit i) st
  | e, st => Q e st

theorem AWp.block {id : Nat} {c : Code} (h : AWp E r c (blockQ id Q) st) : AWp E r (.block id c) Q st := fun X I w a hE hN => by
  refine wpIn_block (wpIn_mono (h X I w a hE hN) ?_)
  rintro e a' w' ⟨st', hN', hq⟩
  cases e with
  | exit i =>
    simp only [blockQ] at hq
    simp only [Exit.inBlock]
    split
    · rename_i he; rw [if_pos he] at hq; exact ⟨st', hN', hq⟩
    · rename_i he; rw [if_neg he] at hq; exact ⟨st', hN', hq⟩
  | normal => exact ⟨st', hN', hq⟩
  | goto l => exact ⟨st', hN', hq⟩
  | ret => exact ⟨st', hN', hq⟩
  | panic ch => exact ⟨st', hN', hq⟩
  | outgrown => exact ⟨st', hN', hq⟩

/-- At a round's end: less is known, what holds at every head holds again, and the measure has gone down. -/
def Again (Inv : St → Prop) (m : St → Nat) (n : Nat) (st : St) : Prop := ∃ st', Weak st st' ∧ Inv st' ∧ m st' < n

theorem AWp.loop {c : Code} (Inv : St → Prop) (m : St → Nat) {st' : St} (hw : Weak st st') (h0 : Inv st') (h : ∀ st, Inv st → AWp E r c (thenQ (Again Inv m (m st)) Q) st) : AWp E r (.loop c) Q st := by
  refine AWp.weak hw ?_
  intro X I w a hE hN
  let J : Act → World → Nat → Prop := fun a w n => ∃ st, Now X I st w a ∧ Inv st ∧ m st = n
  have hmin : ∀ a w n, J a w n → ∃ k, J a w k ∧ k ≤ n ∧ ∀ j, J a w j → k ≤ j := by
    intro a w n
    induction n using Nat.strongRecOn with
    | _ n ih =>
      intro hn
      by_cases hx : ∃ j, j < n ∧ J a w j
      · obtain ⟨j, hj, hJ⟩ := hx
        obtain ⟨k, h1, h2, h3⟩ := ih j hj hJ
        exact ⟨k, h1, by omega, h3⟩
      · exact ⟨n, hn, Nat.le_refl _, fun j hj => Nat.le_of_not_lt fun hlt => hx ⟨j, hlt, hj⟩⟩
  let μ : Act → World → Nat := fun a w => @dite Nat (∃ n, J a w n) (Classical.propDecidable _) (fun h => (hmin a w h.choose h.choose_spec).choose) (fun _ => 0)
  have hμ : ∀ a w, (∃ n, J a w n) → J a w (μ a w) ∧ ∀ j, J a w j → μ a w ≤ j := by
    intro a w hx
    have : μ a w = (hmin a w hx.choose hx.choose_spec).choose := dif_pos hx
    rw [this]
    have := (hmin a w hx.choose hx.choose_spec).choose_spec
    exact ⟨this.1, this.2.2⟩
  refine wpIn_loop (fun a w => ∃ n, J a w n) μ ⟨_, st', hN, h0, rfl⟩ ?_
  intro a w hx
  obtain ⟨⟨s, hNs, hIs, hms⟩, _⟩ := hμ a w hx
  refine wpIn_mono (h s hIs X I w a hE hNs) ?_
  rintro e a' w' ⟨s', hN', hq⟩
  cases e with
  | normal =>
    obtain ⟨s'', hw'', hI'', hlt⟩ := hq
    have hJ : J a' w' (m s'') := ⟨s'', hN'.weak hw'', hI'', rfl⟩
    refine ⟨⟨_, hJ⟩, ?_⟩
    have := (hμ a' w' ⟨_, hJ⟩).2 _ hJ
    rw [hms] at hlt
    omega
  | exit id => exact ⟨s', hN', hq⟩
  | goto l => exact ⟨s', hN', hq⟩
  | ret => exact ⟨s', hN', hq⟩
  | panic ch => exact ⟨s', hN', hq⟩
  | outgrown => exact ⟨s', hN', hq⟩

/-! ### Results -/
def resK (Γ : Gam) (st : St) : List ResultVar → (List AV → Prop) → Prop
  | [], K => K []
  | .tmp t :: rs, K => resK Γ st rs fun l => K (st.tmps.getD t .junk :: l)
  | .cell x t :: rs, K => loadK Γ st.h t (st.tmps.getD x .junk) fun v => resK Γ st rs fun l => K (v :: l)

def packAV : List AV → AV
  | [v] => v
  | l => .tup l

theorem loadVar_of {P : Program} {t : TypeId} {v cv : Value} {ad : Addr} (hv : v = .pointer (some ad)) (h : (Instr.loadAt t v).run P w = .ok cv w) : (do loadVar t (← asAddr v) : Sem Value).run P w = .ok cv w := by
  subst hv
  simpa [Instr.loadAt, Instr.sureAddr, asAddr] using h

def readRes (tmps : Array Value) : ResultVar → Sem Value
  | .tmp t => pure (tmps.getD t undef)
  | .cell a t => do loadVar t (← asAddr (tmps.getD a undef))

theorem results_eq (fn : Func) (tmps : Array Value) : results fn tmps = (fn.results.mapM (readRes tmps) >>= fun vs => pure (if h : vs.size = 1 then vs[0] else .tuple vs)) := rfl

theorem resK_ok {μ : Nat → Value} {ob : Nat → Option Nat} (hΓ : GamOK E.P E.Γ) (R : RepH X I μ ob st.h w) (ht : ∀ i, i < st.tmps.length → VR st.h.length μ I w (st.tmps.getD i .junk) (a.tmps.getD i undef)) :
    ∀ (rs : List ResultVar) {K : List AV → Prop}, resK E.Γ st rs K → ∃ l cs, (rs.mapM (readRes a.tmps)).run E.P w = .ok cs w ∧ l.length = cs.length ∧ (∀ i, i < l.length → VR st.h.length μ I w (l.getD i .junk) (cs.getD i undef)) ∧ K l
  | [], K, hk => ⟨[], [], by simp, rfl, by simp, hk⟩
  | .tmp t :: rs, K, hk => by
    obtain ⟨l, cs, h1, h2, h3, h4⟩ := resK_ok hΓ R ht rs hk
    refine ⟨_, a.tmps.getD t undef :: cs, by
      have h0 : (readRes a.tmps (.tmp t)).run E.P w = .ok (a.tmps.getD t undef) w := rfl
      simp only [List.mapM_cons, Sem.run_bind, h0, h1, Result.andThen]; rfl, by simp [h2], fun i hi => ?_, h4⟩
    cases i with
    | zero => exact VR.ev (a := a) ht (.tmp t)
    | succ i => simpa using h3 i (by simpa using hi)
  | .cell x t :: rs, K, hk => by
    have hx := VR.ev (a := a) ht (.tmp x)
    obtain ⟨v, cv, hr, hv, hK⟩ := load_ok (P := E.P) hΓ hx R.objs hk
    obtain ⟨l, cs, h1, h2, h3, h4⟩ := resK_ok hΓ R ht rs hK
    have hp : ∃ ad, a.tmps.getD x undef = .pointer (some ad) := by
      simp only [Act.eval] at hr
      cases hh : a.tmps.getD x undef with
      | pointer p =>
        cases p with
        | some ad => exact ⟨ad, rfl⟩
        | none => rw [hh] at hr; simp [Instr.loadAt, Instr.sureAddr] at hr
      | _ => rw [hh] at hr; simp [Instr.loadAt, Instr.sureAddr] at hr
    obtain ⟨ad, had⟩ := hp
    have hr2 : (readRes a.tmps (.cell x t)).run E.P w = .ok cv w := loadVar_of had hr
    refine ⟨_, cv :: cs, by simp only [List.mapM_cons, Sem.run_bind, hr2, h1, Result.andThen]; rfl, by simp [h2], fun i hi => ?_, h4⟩
    cases i with
    | zero => exact hv
    | succ i => simpa using h3 i (by simpa using hi)

theorem results_ok {μ : Nat → Value} {ob : Nat → Option Nat} (hΓ : GamOK E.P E.Γ) (R : RepH X I μ ob st.h w) (ht : ∀ i, i < st.tmps.length → VR st.h.length μ I w (st.tmps.getD i .junk) (a.tmps.getD i undef))
    {fn : Func} {K : AV → Prop} (hk : resK E.Γ st fn.results.toList fun l => K (packAV l)) : ∃ v cv, (results fn a.tmps).run E.P w = .ok cv w ∧ VR st.h.length μ I w v cv ∧ K v := by
  obtain ⟨l, cs, h1, h2, h3, h4⟩ := resK_ok (a := a) hΓ R ht _ hk
  have hm : (fn.results.mapM (readRes a.tmps)).run E.P w = .ok cs.toArray w := by
    have h5 : fn.results.mapM (readRes a.tmps) = Functor.map List.toArray (fn.results.toList.mapM (readRes a.tmps)) := by
      conv => lhs; rw [← Array.toArray_toList (xs := fn.results)]
      exact List.mapM_toArray
    rw [h5]; simp [h1]
  refine ⟨_, if h : cs.toArray.size = 1 then cs.toArray[0] else .tuple cs.toArray, ?_, ?_, h4⟩
  · rw [results_eq]; simp only [Sem.run_bind]
    rw [hm]; rfl
  · match l, cs, h2, h3 with
    | [x], [c], _, h3 => exact h3 0 (by simp)
    | [], [], _, h3 => exact .tup [] [] rfl (by simp)
    | x :: y :: l, c :: d :: cs, h2, h3 => exact .tup _ (c :: d :: cs) h2 h3
end
end Go.AM
end

