/-
  AM 1: pure values, abstract values, and how they lie in the model's memory.
-/
import Derived.WalkKit
import Derived.RangeFuncLeaves
import Derived.Carry
namespace Go.AM
open Go.RowKit

/-- Pure values: what a Go value reads as, without any address. -/
inductive PV where
  | bool (b : Bool)
  | int (k : IntKind) (n : Int)
  | str (s : List UInt8)
  | sl (l : List PV)
  | agg (l : List PV)
  deriving Inhabited

def PV.cells : PV → List PV
  | .agg l => l
  | v => [v]

/-- 'v reads as x in w, all of it in the blocks I'. -/
inductive PR (I : Nat → Prop) (w : World) : PV → Value → Prop
  | bool (b : Bool) : PR I w (.bool b) (.bool b)
  | int (k : IntKind) (n : Int) : PR I w (.int k n) (.int k n)
  | str (s : ByteArray) : PR I w (.str s.data.toList) (.string s)
  | sl0 (a : Option Addr) (cap : Nat) (h : a = none → cap = 0) : PR I w (.sl []) (.slice a 0 cap)
  | sl (l : List PV) (s g off cap : Nat) (cur : Array Value) (E : TypeId) (fz : Nat × Nat) (vs : Nat → Value) (hl : l ≠ [])
      (hI : I g) (hw : w.heap[g]? = some (.cells cur E fz)) (hc : l.length ≤ cap) (hs : ∀ x ∈ l, x.cells.length = s)
      (hv : ∀ j, j < l.length * s → cur[off + j]? = some (vs j))
      (hr : ∀ i j, i < l.length → j < s → PR I w (((l.getD i default).cells).getD j default) (vs (i * s + j))) :
      PR I w (.sl l) (.slice (some ⟨g, off, none⟩) l.length cap)
  | agg (l : List PV) (cs : List Value) (hl : l.length = cs.length)
      (hr : ∀ i, i < l.length → PR I w (l.getD i default) (cs.getD i undef)) : PR I w (.agg l) (.agg cs.toArray)

theorem PR.mono {I I' : Nat → Prop} {w w' : World} (hI : ∀ g, I g → I' g) (hw : ∀ g, I g → w'.heap[g]? = w.heap[g]?) {x : PV} {v : Value} (h : PR I w x v) : PR I' w' x v := by
  induction h with
  | bool b => exact .bool b
  | int k n => exact .int k n
  | str s => exact .str s
  | sl0 a cap h => exact .sl0 a cap h
  | sl l s g off cap cur E fz vs hl hg hb hc hs hv _ ih => exact .sl l s g off cap cur E fz vs hl (hI g hg) ((hw g hg).trans hb) hc hs hv ih
  | agg l cs hl _ ih => exact .agg l cs hl ih

/-- Abstract values: pure ones, and handles of what the activation owns (by name). -/
inductive AV where
  | junk
  | cell
  | p (v : PV)
  | full (l : List PV)
  | own (b n : Nat)
  | ptr (b off : Nat)
  | eptr (b s i f : Nat)
  | ipt (l : List PV)
  | map (b : Nat)
  | yld (b : Nat)
  | fn (f : FuncId) (caps : List AV)
  | agg (l : List AV)
  | tup (l : List AV)
  deriving Inhabited

inductive VR (n : Nat) (μ : Nat → Value) (I : Nat → Prop) (w : World) : AV → Value → Prop
  | junk (v : Value) : VR n μ I w .junk v
  | cell (v : Value) (h : v.oneCell' = true) : VR n μ I w .cell v
  | p (x : PV) (v : Value) (h : PR I w x v) : VR n μ I w (.p x) v
  | full (l : List PV) (a : Option Addr) (h : PR I w (.sl l) (.slice a l.length l.length)) : VR n μ I w (.full l) (.slice a l.length l.length)
  | own (b k : Nat) (a : Option Addr) (c : Nat) (hb : b < n) (h : μ b = .slice a k c) : VR n μ I w (.own b k) (.slice a k c)
  | ptr (b off g : Nat) (hb : b < n) (h : μ b = .pointer (some ⟨g, 0, none⟩)) : VR n μ I w (.ptr b off) (.pointer (some ⟨g, off, none⟩))
  | eptr (b s i f g k c : Nat) (hb : b < n) (h : μ b = .slice (some ⟨g, 0, none⟩) k c) : VR n μ I w (.eptr b s i f) (.pointer (some ⟨g, i * s + f, none⟩))
  | ipt (l : List PV) (g off : Nat) (cur : Array Value) (E : TypeId) (fz : Nat × Nat) (vs : Nat → Value) (hI : I g) (hw : w.heap[g]? = some (.cells cur E fz))
      (hv : ∀ j, j < l.length → cur[off + j]? = some (vs j)) (hr : ∀ j, j < l.length → PR I w (l.getD j default) (vs j)) : VR n μ I w (.ipt l) (.pointer (some ⟨g, off, none⟩))
  | map (b r : Nat) (hb : b < n) (h : μ b = .map (some r)) : VR n μ I w (.map b) (.map (some r))
  | yld (b l : Nat) (hb : b < n) (h : μ b = .func (.yield l) #[] #[]) : VR n μ I w (.yld b) (.func (.yield l) #[] #[])
  | fn (f : FuncId) (caps : List AV) (cs : List Value) (hl : caps.length = cs.length) (hr : ∀ i, i < caps.length → VR n μ I w (caps.getD i .junk) (cs.getD i undef)) :
      VR n μ I w (.fn f caps) (.func (.func f) #[] cs.toArray)
  | agg (l : List AV) (cs : List Value) (hl : l.length = cs.length) (hr : ∀ i, i < l.length → VR n μ I w (l.getD i .junk) (cs.getD i undef)) : VR n μ I w (.agg l) (.agg cs.toArray)
  | tup (l : List AV) (cs : List Value) (hl : l.length = cs.length) (hr : ∀ i, i < l.length → VR n μ I w (l.getD i .junk) (cs.getD i undef)) : VR n μ I w (.tup l) (.tuple cs.toArray)

theorem VR.mono {n n' : Nat} {μ μ' : Nat → Value} {I I' : Nat → Prop} {w w' : World} (hn : n ≤ n') (hμ : ∀ b, b < n → μ' b = μ b)
    (hI : ∀ g, I g → I' g) (hw : ∀ g, I g → w'.heap[g]? = w.heap[g]?) {x : AV} {v : Value} (h : VR n μ I w x v) : VR n' μ' I' w' x v := by
  induction h with
  | junk v => exact .junk v
  | cell v h => exact .cell v h
  | p x v h => exact .p x v (h.mono hI hw)
  | full l a h => exact .full l a (h.mono hI hw)
  | own b k a c hb h => exact .own b k a c (by omega) ((hμ b hb).trans h)
  | ptr b off g hb h => exact .ptr b off g (by omega) ((hμ b hb).trans h)
  | eptr b s i f g k c hb h => exact .eptr b s i f g k c (by omega) ((hμ b hb).trans h)
  | ipt l g off cur E fz vs hg hb hv hr => exact .ipt l g off cur E fz vs (hI g hg) ((hw g hg).trans hb) hv (fun j hj => (hr j hj).mono hI hw)
  | map b r hb h => exact .map b r (by omega) ((hμ b hb).trans h)
  | yld b l hb h => exact .yld b l (by omega) ((hμ b hb).trans h)
  | fn f caps cs hl _ ih => exact .fn f caps cs hl ih
  | agg l cs hl _ ih => exact .agg l cs hl ih
  | tup l cs hl _ ih => exact .tup l cs hl ih

/-- The names of an abstract value are struck: what is known through b goes. -/
def AV.kill (b : Nat) : AV → AV
  | .own c n => if c = b then .junk else .own c n
  | .ptr c o => if c = b then .junk else .ptr c o
  | .eptr c s i f => if c = b then .junk else .eptr c s i f
  | .map c => if c = b then .junk else .map c
  | .yld c => if c = b then .junk else .yld c
  | .fn f caps => .fn f (killL b caps)
  | .agg l => .agg (killL b l)
  | .tup l => .tup (killL b l)
  | v => v
where killL (b : Nat) : List AV → List AV
  | [] => []
  | v :: l => v.kill b :: killL b l

theorem killL_eq (b : Nat) (l : List AV) : AV.kill.killL b l = l.map (AV.kill b) := by
  induction l with
  | nil => rfl
  | cons v l ih => simp [AV.kill.killL, ih]

theorem VR.kill {n n' : Nat} {μ μ' : Nat → Value} {I I' : Nat → Prop} {w w' : World} (b0 : Nat) (hn : n ≤ n') (hμ : ∀ b, b < n → b ≠ b0 → μ' b = μ b)
    (hI : ∀ g, I g → I' g) (hw : ∀ g, I g → w'.heap[g]? = w.heap[g]?) {x : AV} {v : Value} (h : VR n μ I w x v) : VR n' μ' I' w' (x.kill b0) v := by
  induction h with
  | junk v => exact .junk v
  | cell v h => exact .cell v h
  | p x v h => exact .p x v (h.mono hI hw)
  | full l a h => exact .full l a (h.mono hI hw)
  | own b k a c hb h =>
    unfold AV.kill; split
    · exact .junk _
    · exact .own b k a c (by omega) ((hμ b hb ‹_›).trans h)
  | ptr b off g hb h =>
    unfold AV.kill; split
    · exact .junk _
    · exact .ptr b off g (by omega) ((hμ b hb ‹_›).trans h)
  | eptr b s i f g k c hb h =>
    unfold AV.kill; split
    · exact .junk _
    · exact .eptr b s i f g k c (by omega) ((hμ b hb ‹_›).trans h)
  | ipt l g off cur E fz vs hg hb hv hr => exact .ipt l g off cur E fz vs (hI g hg) ((hw g hg).trans hb) hv (fun j hj => (hr j hj).mono hI hw)
  | map b r hb h =>
    unfold AV.kill; split
    · exact .junk _
    · exact .map b r (by omega) ((hμ b hb ‹_›).trans h)
  | yld b l hb h =>
    unfold AV.kill; split
    · exact .junk _
    · exact .yld b l (by omega) ((hμ b hb ‹_›).trans h)
  | fn f caps cs hl _ ih =>
    unfold AV.kill; rw [killL_eq]
    refine .fn f _ cs (by simpa using hl) fun i hi => ?_
    have := ih i (by simpa using hi)
    simp only [List.length_map] at hi
    simpa [List.getD_eq_getElem?_getD, List.getElem?_map, List.getElem?_eq_getElem hi] using this
  | agg l cs hl _ ih =>
    unfold AV.kill; rw [killL_eq]
    refine .agg _ cs (by simpa using hl) fun i hi => ?_
    have := ih i (by simpa using hi)
    simp only [List.length_map] at hi
    simpa [List.getD_eq_getElem?_getD, List.getElem?_map, List.getElem?_eq_getElem hi] using this
  | tup l cs hl _ ih =>
    unfold AV.kill; rw [killL_eq]
    refine .tup _ cs (by simpa using hl) fun i hi => ?_
    have := ih i (by simpa using hi)
    simp only [List.length_map] at hi
    simpa [List.getD_eq_getElem?_getD, List.getElem?_map, List.getElem?_eq_getElem hi] using this

/-- The kinds of an owned row: 'own': storable and appendable; 'lax': appendable (nil, or a full slice that is not to be written, or owned); 'raw': storable alone. -/
inductive RK where
  | own | lax | raw
  deriving DecidableEq, Inhabited

/-- How a loop over a function stands. -/
inductive LS where
  | ready | busy | left (c : Code) | over
  deriving Inhabited

/-- 'it': an iterator over the map of that name: how many entries it had at the start, and those that were met (entries are counted in the order in which they came in). 'lp': a loop over a function. -/
inductive AObj where
  | dead
  | box (cs : List AV)
  | row (E : TypeId) (s : Nat) (xs : List PV) (k : RK)
  | mp (es : List (List UInt8 × PV))
  | it (m since : Nat) (seen : List Nat) (last : Nat)
  | lp (tm : List AV) (ps : List Nat) (assign body : Code) (s : LS)
  deriving Inhabited

def flats (l : List PV) : List PV := l.flatMap PV.cells

/-- The row xs lies in block g: its first cells, behind v. -/
def RowIn (I : Nat → Prop) (w : World) (E : TypeId) (s : Nat) (xs : List PV) (v : Value) (g : Nat) (fz : Bool) : Prop :=
  ∃ (cap : Nat) (cur : Array Value) (fr : Nat × Nat) (vs : List Value), v = .slice (some ⟨g, 0, none⟩) xs.length cap ∧ w.heap[g]? = some (.cells cur E fr) ∧
    (fz = true → fr = (0, 0)) ∧ (∀ j, j < cur.size → ¬ (fr.1 ≤ j ∧ j < fr.2)) ∧
    xs.length ≤ cap ∧ cap ≤ maxLen ∧ cur.size = cap * s ∧ cur.toList.take (xs.length * s) = vs ∧ vs.length = xs.length * s ∧
    ∀ j, j < xs.length * s → PR I w ((flats xs).getD j default) (vs.getD j undef)

def ObjOK (n : Nat) (μ : Nat → Value) (I : Nat → Prop) (ob : Nat → Option Nat) (w : World) (b : Nat) : AObj → Prop
  | .dead => True
  | .box cs => ∃ g T cur, ob b = some g ∧ μ b = .pointer (some ⟨g, 0, none⟩) ∧ w.heap[g]? = some (.cells cur T (0, 0)) ∧ cs.length = cur.size ∧
      ∀ i, i < cs.length → VR n μ I w (cs.getD i .junk) (cur.getD i undef)
  | .row E s xs k => (∀ x ∈ xs, x.cells.length = s) ∧
      ((∃ g, ob b = some g ∧ RowIn I w E s xs (μ b) g (k != .raw)) ∨
       (k = .lax ∧ ob b = none ∧ ∃ a, μ b = .slice a xs.length xs.length ∧ PR I w (.sl xs) (μ b)))
  | .mp es => ∃ r ents, ob b = some r ∧ μ b = .map (some r) ∧ w.heap[r]? = some (.map ents es.length) ∧ es.length = ents.size ∧
      (∀ i, i < es.length → (∃ k : ByteArray, (ents.getD i default).key = .string k ∧ k.data.toList = (es.getD i default).1) ∧ PR I w (es.getD i default).2 (ents.getD i default).val) ∧
      (∀ i, i < ents.size → (ents.getD i default).born = i)
  | .it m since seen last => ∃ r g, m < n ∧ ob b = some r ∧ μ b = .pointer (some ⟨r, 0, none⟩) ∧ μ m = .map (some g) ∧ w.heap[r]? = some (.mapIter (some g) since seen.toArray last) ∧ (seen ≠ [] → 0 < last)
  | .lp tm ps assign body s => ∃ l rec, ob b = some l ∧ μ b = .func (.yield l) #[] #[] ∧ w.heap[l]? = some (.loop rec) ∧ tm.length = rec.tmps.size ∧
      (∀ i, i < tm.length → VR n μ I w (tm.getD i .junk) (rec.tmps.getD i undef)) ∧ rec.params = ps.toArray ∧ rec.assign = assign ∧ rec.body = body ∧
      (match s with
       | .ready => rec.state = .ready ∧ rec.pending = none
       | .busy => rec.state = .busy
       | .left c => rec.state = .done ∧ rec.pending = some c
       | .over => True)

structure St where
  tmps : List AV
  h : List AObj

/-- What an activation was given: its first own block, the world it began in, what it must keep; the names that lay before it, and which of them may move. -/
structure Ctx where
  B0 : Nat
  w0 : World
  I0 : Nat → Prop
  μ0 : Nat → Value
  n0 : Nat
  ks : List Nat
  fz : Nat → Prop
  w1 : World

/-- Blocks that the activation may own. -/
def Ctx.mine (X : Ctx) (g : Nat) : Prop := X.B0 ≤ g ∧ ¬ X.fz g

def Ctx.may (X : Ctx) (b : Nat) : Prop := X.n0 ≤ b ∨ b ∈ X.ks

/-- Memory as the abstract heap has it. -/
structure RepH (X : Ctx) (I : Nat → Prop) (μ : Nat → Value) (ob : Nat → Option Nat) (h : List AObj) (w : World) : Prop where
  below : Below X.B0 X.w0 w
  base : X.B0 ≤ w.heap.size
  imm : ∀ g, I g → g < w.heap.size
  ctx : ∀ g, X.I0 g → I g
  frz : ∀ g, X.fz g → g < w.heap.size ∧ w.heap[g]? = X.w1.heap[g]?
  inew : ∀ g, I g → X.I0 g ∨ X.mine g
  may : ∀ b, ¬ X.may b → μ b = X.μ0 b
  names : X.n0 ≤ h.length
  own : ∀ b g, ob b = some g → ¬ I g ∧ X.mine g ∧ g < w.heap.size
  sep : ∀ b b' g, ob b = some g → ob b' = some g → b = b'
  past : ∀ b, h.length ≤ b → ob b = none
  objs : ∀ b o, h[b]? = some o → ObjOK h.length μ I ob w b o

/-- The marks that loops over functions have laid onto the activation's deferred calls: each is of a block of its own, and no call waits there. -/
def MarksOK (X : Ctx) (I : Nat → Prop) (ob : Nat → Option Nat) (w : World) (ds : List Deferred) : Prop :=
  ∃ rs : List Nat, ds.map (·.target) = rs.map Target.collected ∧ rs.Nodup ∧ ∀ r ∈ rs, w.heap[r]? = some (.deferred (some [])) ∧ X.mine r ∧ ¬ I r ∧ ∀ b, ob b ≠ some r

theorem MarksOK.keep {X : Ctx} {I I' : Nat → Prop} {ob ob' : Nat → Option Nat} {w w' : World} {ds : List Deferred} (h : MarksOK X I ob w ds) {row : Option Nat} (hg : w.grownBy w' row) (hrow : ∀ r, row = some r → ∃ b, ob b = some r)
    (hI : ∀ g, I' g → I g ∨ w.heap.size ≤ g) (hob : ∀ b g, ob' b = some g → (∃ c, ob c = some g) ∨ w.heap.size ≤ g) : MarksOK X I' ob' w' ds := by
  obtain ⟨rs, h1, h2, h3⟩ := h
  refine ⟨rs, h1, h2, fun r hr => ?_⟩
  obtain ⟨e1, e2, e3, e4⟩ := h3 r hr
  have hlt : r < w.heap.size := (Array.getElem?_eq_some_iff.1 e1).1
  refine ⟨(hg.block r hlt (fun e => by obtain ⟨b, hb⟩ := hrow r e.symm; exact e4 b hb)).trans e1, e2, fun hi => (hI r hi).elim e3 (fun h => by omega), fun b hb => ?_⟩
  rcases hob b r hb with ⟨c, hc⟩ | h
  · exact e4 c hc
  · omega

structure Rep (X : Ctx) (I : Nat → Prop) (μ : Nat → Value) (ob : Nat → Option Nat) (st : St) (w : World) (a : Act) : Prop extends RepH X I μ ob st.h w where
  size : st.tmps.length = a.tmps.size
  tmps : ∀ i, i < st.tmps.length → VR st.h.length μ I w (st.tmps.getD i .junk) (a.tmps.getD i undef)
  marks : MarksOK X I ob w a.defers

def AObj.kill (b : Nat) : AObj → AObj
  | .box cs => .box (cs.map (AV.kill b))
  | .it m since seen last => if m = b then .dead else .it m since seen last
  | .lp tm ps assign body s => .lp (tm.map (AV.kill b)) ps assign body s
  | o => o

def upd {α : Type} (f : Nat → α) (b : Nat) (v : α) : Nat → α := fun c => if c = b then v else f c
@[simp] theorem upd_same {α : Type} (f : Nat → α) (b : Nat) (v : α) : upd f b v b = v := by simp [upd]
theorem upd_other {α : Type} (f : Nat → α) {b c : Nat} (v : α) (h : c ≠ b) : upd f b v c = f c := by simp [upd, h]

/-! ### What a change of the world leaves -/
section
variable {X : Ctx} {n n' : Nat} {μ μ' : Nat → Value} {I I' : Nat → Prop} {ob ob' : Nat → Option Nat} {w w' : World} {b : Nat} {o : AObj}

theorem RowIn.keep {E : TypeId} {s : Nat} {xs : List PV} {v : Value} {g : Nat} {fz : Bool} (hI : ∀ g, I g → I' g) (hw : ∀ g, I g → w'.heap[g]? = w.heap[g]?) (hg : w'.heap[g]? = w.heap[g]?)
    (h : RowIn I w E s xs v g fz) : RowIn I' w' E s xs v g fz := by
  obtain ⟨cap, cur, fr, vs, h1, h2, h3, h4, h5, h6, h7, h8, h9, h10⟩ := h
  exact ⟨cap, cur, fr, vs, h1, hg.trans h2, h3, h4, h5, h6, h7, h8, h9, fun j hj => (h10 j hj).mono hI hw⟩

theorem ObjOK.keep (hn : n ≤ n') (hμ : ∀ c, c < n → μ' c = μ c) (hμb : μ' b = μ b) (hob : ob' b = ob b) (hI : ∀ g, I g → I' g) (hw : ∀ g, I g → w'.heap[g]? = w.heap[g]?)
    (hg : ∀ g, ob b = some g → w'.heap[g]? = w.heap[g]?) (h : ObjOK n μ I ob w b o) : ObjOK n' μ' I' ob' w' b o := by
  cases o with
  | dead => trivial
  | box cs =>
    obtain ⟨g, T, cur, h1, h2, h3, h4, h5⟩ := h
    exact ⟨g, T, cur, hob.trans h1, hμb.trans h2, (hg g h1).trans h3, h4, fun i hi => (h5 i hi).mono hn hμ hI hw⟩
  | row E s xs k =>
    obtain ⟨h0, h⟩ := h
    refine ⟨h0, ?_⟩
    rcases h with ⟨g, h1, h2⟩ | ⟨h1, h2, a, h3, h4⟩
    · exact .inl ⟨g, hob.trans h1, by rw [hμb]; exact h2.keep hI hw (hg g h1)⟩
    · exact .inr ⟨h1, hob.trans h2, a, hμb.trans h3, by rw [hμb]; exact h4.mono hI hw⟩
  | mp es =>
    obtain ⟨r, ents, h1, h2, h3, h4, h5, h6⟩ := h
    exact ⟨r, ents, hob.trans h1, hμb.trans h2, (hg r h1).trans h3, h4, fun i hi => ⟨(h5 i hi).1, ((h5 i hi).2).mono hI hw⟩, h6⟩
  | it m since seen last =>
    obtain ⟨r, g, h0, h1, h2, h3, h4, h5⟩ := h
    exact ⟨r, g, by omega, hob.trans h1, hμb.trans h2, (hμ m h0).trans h3, (hg r h1).trans h4, h5⟩
  | lp tm ps assign body s =>
    obtain ⟨l, rec, h1, h2, h3, h4, h5, h6⟩ := h
    exact ⟨l, rec, hob.trans h1, hμb.trans h2, (hg l h1).trans h3, h4, fun i hi => (h5 i hi).mono hn hμ hI hw, h6⟩

theorem ObjOK.killed (b0 : Nat) (hn : n ≤ n') (hμ : ∀ c, c < n → c ≠ b0 → μ' c = μ c) (hμb : μ' b = μ b) (hob : ob' b = ob b) (hI : ∀ g, I g → I' g) (hw : ∀ g, I g → w'.heap[g]? = w.heap[g]?)
    (hg : ∀ g, ob b = some g → w'.heap[g]? = w.heap[g]?) (h : ObjOK n μ I ob w b o) : ObjOK n' μ' I' ob' w' b (o.kill b0) := by
  cases o with
  | dead => trivial
  | box cs =>
    obtain ⟨g, T, cur, h1, h2, h3, h4, h5⟩ := h
    refine ⟨g, T, cur, hob.trans h1, hμb.trans h2, (hg g h1).trans h3, by simpa using h4, fun i hi => ?_⟩
    simp only [List.length_map] at hi
    have := (h5 i hi).kill (n' := n') (μ' := μ') (I' := I') (w' := w') b0 hn hμ hI hw
    simpa [List.getD_eq_getElem?_getD, List.getElem?_map, List.getElem?_eq_getElem hi] using this
  | row E s xs k =>
    obtain ⟨h0, h⟩ := h
    refine ⟨h0, ?_⟩
    rcases h with ⟨g, h1, h2⟩ | ⟨h1, h2, a, h3, h4⟩
    · exact .inl ⟨g, hob.trans h1, by rw [hμb]; exact h2.keep hI hw (hg g h1)⟩
    · exact .inr ⟨h1, hob.trans h2, a, hμb.trans h3, by rw [hμb]; exact h4.mono hI hw⟩
  | mp es =>
    obtain ⟨r, ents, h1, h2, h3, h4, h5, h6⟩ := h
    exact ⟨r, ents, hob.trans h1, hμb.trans h2, (hg r h1).trans h3, h4, fun i hi => ⟨(h5 i hi).1, ((h5 i hi).2).mono hI hw⟩, h6⟩
  | it m since seen last =>
    obtain ⟨r, g, h0, h1, h2, h3, h4, h5⟩ := h
    unfold AObj.kill
    simp only
    split
    · trivial
    · exact ⟨r, g, by omega, hob.trans h1, hμb.trans h2, (hμ m h0 ‹_›).trans h3, (hg r h1).trans h4, h5⟩
  | lp tm ps assign body s =>
    obtain ⟨l, rec, h1, h2, h3, h4, h5, h6⟩ := h
    refine ⟨l, rec, hob.trans h1, hμb.trans h2, (hg l h1).trans h3, by simpa using h4, fun i hi => ?_, h6⟩
    simp only [List.length_map] at hi
    have := (h5 i hi).kill (n' := n') (μ' := μ') (I' := I') (w' := w') b0 hn hμ hI hw
    simpa [List.getD_eq_getElem?_getD, List.getElem?_map, List.getElem?_eq_getElem hi] using this

theorem Below.of_grown {B : Nat} {a w w' : World} (h : Below B a w) (hB : B ≤ w.heap.size) {row : Option Nat} (hg : w.grownBy w' row) (hr : ∀ k, row = some k → B ≤ k) : Below B a w' := h.grown hg hB hr

theorem RepH.fresh {h : List AObj} (R : RepH X I μ ob h w) {g : Nat} (hg : w.heap.size ≤ g) : X.mine g :=
  ⟨Nat.le_trans R.base hg, fun hf => by have := (R.frz g hf).1; omega⟩

theorem RepH.still {h : List AObj} (R : RepH X I μ ob h w) {row : Option Nat} (hg : w.grownBy w' row) (hr : ∀ k, row = some k → X.mine k) : ∀ g, X.fz g → g < w'.heap.size ∧ w'.heap[g]? = X.w1.heap[g]? := fun g hf =>
  ⟨Nat.lt_of_lt_of_le (R.frz g hf).1 hg.size, (hg.block g (R.frz g hf).1 (fun e => (hr g e.symm).2 hf)).trans (R.frz g hf).2⟩

/-- The world grows (new blocks, draws), and perhaps new blocks are to be read by everybody: nothing known is lost. -/
theorem RepH.grow {h : List AObj} (R : RepH X I μ ob h w) (hg : w.grownBy w' none) (hI : ∀ g, I g → I' g) (hn : ∀ g, I' g → I g ∨ (w.heap.size ≤ g ∧ g < w'.heap.size)) : RepH X I' μ ob h w' := by
  have hw : ∀ g, I g → w'.heap[g]? = w.heap[g]? := fun g h => hg.block g (R.imm g h) (by simp)
  exact {
    below := R.below.grown hg R.base (by simp)
    base := Nat.le_trans R.base hg.size
    imm := fun g h => (hn g h).elim (fun h => Nat.lt_of_lt_of_le (R.imm g h) hg.size) (fun h => h.2)
    ctx := fun g h => hI g (R.ctx g h)
    frz := R.still hg (by simp)
    inew := fun g h => (hn g h).elim (R.inew g) (fun h => .inr (R.fresh h.1))
    may := R.may
    names := R.names
    own := fun b g h => ⟨fun hi => (hn g hi).elim (R.own b g h).1 (fun h' => by have := (R.own b g h).2.2; omega), (R.own b g h).2.1, Nat.lt_of_lt_of_le (R.own b g h).2.2 hg.size⟩
    sep := R.sep
    past := R.past
    objs := fun b o h => (R.objs b o h).keep (Nat.le_refl _) (fun _ _ => rfl) rfl rfl hI hw (fun g h' => hg.block g (R.own b g h').2.2 (by simp)) }

/-- A new name, for a new object. -/
theorem RepH.name {h : List AObj} (R : RepH X I μ ob h w) (hg : w.grownBy w' none) {v : Value} {g : Option Nat} (hgn : ∀ k, g = some k → w.heap.size ≤ k ∧ k < w'.heap.size)
    (ho : ObjOK (h.length + 1) (upd μ h.length v) I (upd ob h.length g) w' h.length o) : RepH X I (upd μ h.length v) (upd ob h.length g) (h ++ [o]) w' := by
  have hw : ∀ g, I g → w'.heap[g]? = w.heap[g]? := fun g h => hg.block g (R.imm g h) (by simp)
  have hlt : ∀ c, c < h.length → c ≠ h.length := fun c hc => by omega
  exact {
    below := R.below.grown hg R.base (by simp)
    base := Nat.le_trans R.base hg.size
    imm := fun g h => Nat.lt_of_lt_of_le (R.imm g h) hg.size
    ctx := R.ctx
    frz := R.still hg (by simp)
    inew := R.inew
    may := fun b hb => by
      have : b ≠ h.length := fun e => hb (.inl (by rw [e]; exact R.names))
      rw [upd_other _ _ this]; exact R.may b hb
    names := by simpa using Nat.le_succ_of_le R.names
    own := fun b k hb => by
      by_cases e : b = h.length
      · subst e; rw [upd_same] at hb
        have := hgn k hb
        exact ⟨fun hi => by have := R.imm k hi; omega, R.fresh this.1, this.2⟩
      · rw [upd_other _ _ e] at hb
        exact ⟨(R.own b k hb).1, (R.own b k hb).2.1, Nat.lt_of_lt_of_le (R.own b k hb).2.2 hg.size⟩
    sep := fun b b' k hb hb' => by
      by_cases e : b = h.length <;> by_cases e' : b' = h.length
      · omega
      · subst e; rw [upd_same] at hb; rw [upd_other _ _ e'] at hb'
        have := (hgn k hb).1; have := (R.own b' k hb').2.2; omega
      · subst e'; rw [upd_same] at hb'; rw [upd_other _ _ e] at hb
        have := (hgn k hb').1; have := (R.own b k hb).2.2; omega
      · rw [upd_other _ _ e] at hb; rw [upd_other _ _ e'] at hb'; exact R.sep b b' k hb hb'
    past := fun b hb => by
      simp only [List.length_append, List.length_singleton] at hb
      rw [upd_other _ _ (by omega)]; exact R.past b (by omega)
    objs := fun b o' hb => by
      simp only [List.length_append, List.length_singleton]
      by_cases e : b < h.length
      · rw [List.getElem?_append_left e] at hb
        exact (R.objs b o' hb).keep (Nat.le_succ _) (fun c hc => upd_other _ _ (hlt c hc)) (upd_other _ _ (hlt b e)) (upd_other _ _ (hlt b e)) (fun _ h => h) hw
          (fun g h' => hg.block g (R.own b g h').2.2 (by simp))
      · have hb2 : b = h.length := by
          have := (List.getElem?_eq_some_iff.1 hb).1; simp only [List.length_append, List.length_singleton] at this; omega
        subst hb2
        simp only [List.getElem?_append_right (Nat.le_refl _), Nat.sub_self, List.getElem?_cons_zero, Option.some.injEq] at hb
        subst hb; exact ho }

/-- An object is written in place: its handle stays. -/
theorem RepH.write {h : List AObj} (R : RepH X I μ ob h w) {b0 g0 : Nat} (hb0 : b0 < h.length) (hob : ob b0 = some g0) (hg : w.grownBy w' (some g0))
    (ho : ObjOK h.length μ I ob w' b0 o) : RepH X I μ ob (h.set b0 o) w' := by
  have hg0 := R.own b0 g0 hob
  have hw : ∀ g, I g → w'.heap[g]? = w.heap[g]? := fun g h => hg.block g (R.imm g h) (fun e => by injection e with e; subst e; exact hg0.1 h)
  exact {
    below := R.below.grown hg R.base (fun k e => by injection e with e; subst e; exact hg0.2.1.1)
    base := Nat.le_trans R.base hg.size
    imm := fun g h => Nat.lt_of_lt_of_le (R.imm g h) hg.size
    ctx := R.ctx
    frz := R.still hg (fun k e => by injection e with e; subst e; exact hg0.2.1)
    inew := R.inew
    may := R.may
    names := by simpa using R.names
    own := fun b g h => ⟨(R.own b g h).1, (R.own b g h).2.1, Nat.lt_of_lt_of_le (R.own b g h).2.2 hg.size⟩
    sep := R.sep
    past := fun b hb => R.past b (by simpa using hb)
    objs := fun b o' hb => by
      simp only [List.length_set]
      by_cases e : b = b0
      · subst e
        rw [List.getElem?_set_self hb0] at hb; injection hb with hb; subst hb; exact ho
      · rw [List.getElem?_set_ne (fun h => e h.symm)] at hb
        exact (R.objs b o' hb).keep (Nat.le_refl _) (fun _ _ => rfl) rfl rfl (fun _ h => h) hw
          (fun g h' => hg.block g (R.own b g h').2.2 (fun e' => by injection e' with e'; subst e'; exact e (R.sep b b0 g h' hob))) }

/-- An object moves: its handle is a new one, whatever was known through the old one is struck. -/
theorem RepH.move {h : List AObj} (R : RepH X I μ ob h w) {b0 : Nat} (hb0 : b0 < h.length) (hmay : X.may b0) (hg : w.grownBy w' (ob b0)) {v : Value} {g : Option Nat}
    (hgn : ∀ k, g = some k → (ob b0 = some k ∨ w.heap.size ≤ k) ∧ k < w'.heap.size)
    (ho : ObjOK h.length (upd μ b0 v) I (upd ob b0 g) w' b0 o) : RepH X I (upd μ b0 v) (upd ob b0 g) ((h.map (AObj.kill b0)).set b0 o) w' := by
  have hw : ∀ g, I g → w'.heap[g]? = w.heap[g]? := fun g h => hg.block g (R.imm g h) (fun e => (R.own b0 g e.symm).1 h)
  exact {
    below := R.below.grown hg R.base (fun k e => (R.own b0 k e).2.1.1)
    base := Nat.le_trans R.base hg.size
    imm := fun g h => Nat.lt_of_lt_of_le (R.imm g h) hg.size
    ctx := R.ctx
    frz := R.still hg (fun k e => (R.own b0 k e).2.1)
    inew := R.inew
    may := fun b hb => by
      have : b ≠ b0 := fun e => hb (e ▸ hmay)
      rw [upd_other _ _ this]; exact R.may b hb
    names := by simpa using R.names
    own := fun b k hb => by
      by_cases e : b = b0
      · subst e; rw [upd_same] at hb
        have := hgn k hb
        rcases this.1 with h1 | h1
        · exact ⟨(R.own b k h1).1, (R.own b k h1).2.1, this.2⟩
        · exact ⟨fun hi => by have := R.imm k hi; omega, R.fresh h1, this.2⟩
      · rw [upd_other _ _ e] at hb
        exact ⟨(R.own b k hb).1, (R.own b k hb).2.1, Nat.lt_of_lt_of_le (R.own b k hb).2.2 hg.size⟩
    sep := fun b b' k hb hb' => by
      have key : ∀ c, c ≠ b0 → ob c = some k → g = some k → False := fun c hc h1 h2 => by
        rcases (hgn k h2).1 with h3 | h3
        · exact hc (R.sep c b0 k h1 h3)
        · have := (R.own c k h1).2.2; omega
      by_cases e : b = b0 <;> by_cases e' : b' = b0
      · omega
      · subst e; rw [upd_same] at hb; rw [upd_other _ _ e'] at hb'; exact (key b' e' hb' hb).elim
      · subst e'; rw [upd_same] at hb'; rw [upd_other _ _ e] at hb; exact (key b e hb hb').elim
      · rw [upd_other _ _ e] at hb; rw [upd_other _ _ e'] at hb'; exact R.sep b b' k hb hb'
    past := fun b hb => by
      simp only [List.length_set, List.length_map] at hb
      rw [upd_other _ _ (by omega)]; exact R.past b hb
    objs := fun b o' hb => by
      simp only [List.length_set, List.length_map]
      by_cases e : b = b0
      · subst e
        rw [List.getElem?_set_self (by simpa using hb0)] at hb; injection hb with hb; subst hb; exact ho
      · rw [List.getElem?_set_ne (fun h => e h.symm), List.getElem?_map] at hb
        cases hb' : h[b]? with
        | none => rw [hb'] at hb; simp at hb
        | some o'' =>
          rw [hb'] at hb; simp only [Option.map_some, Option.some.injEq] at hb; subst hb
          exact (R.objs b o'' hb').killed b0 (Nat.le_refl _) (fun c _ hc => upd_other _ _ hc) (upd_other _ _ e) (upd_other _ _ e) (fun _ h => h) hw
            (fun g h' => hg.block g (R.own b g h').2.2 (fun e' => e (R.sep b b0 g h' e'.symm))) }
end
end Go.AM
