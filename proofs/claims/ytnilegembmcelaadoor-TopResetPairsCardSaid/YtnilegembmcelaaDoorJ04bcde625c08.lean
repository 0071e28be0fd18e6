/-
  Texts of this claim, joined.
-/
import Derived.Test.YtnilegembmcelaaDoorJe6ecda76b862
import Derived.RangeFuncLeaves
import Derived.Carry

section
namespace Go.AM
open Go.RowKit

inductive PV where
  | bool (b : Bool)
  | int (k : IntKind) (n : Int)
  | str (s : List UInt8)
  | sl (l : List PV)
  | agg (l : List PV)
  deriving Inhabited

def PV.cells : PV → List PV
  | .agg l => l
  | v => [v]

inductive PR (I : Nat → Prop) (w : World) : PV → Value → Prop
  | bool (b : Bool) : PR I w (.bool b) (.bool b)
  | int (k : IntKind) (n : Int) : PR I w (.int k n) (.int k n)
  | str (s : ByteArray) : PR I w (.str s.data.toList) (.string s)
  | sl0 (a : Option Addr) (cap : Nat) (h : a = none → cap = 0) : PR I w (.sl []) (.slice a 0 cap)
  | sl (l : List PV) (s g off cap : Nat) (cur : Array Value) (E : TypeId) (fz : Nat × Nat) (vs : Nat → Value) (hl : l ≠ [])
      (hI : I g) (hw : w.heap[g]? = some (.cells cur E fz)) (hc : l.length ≤ cap) (hs : ∀ x ∈ l, x.cells.length = s)
      (hv : ∀ j, j < l.length * s → cur[off + j]? = some (vs j))
      (hr : ∀ i j, i < l.length → j < s → PR I w (((l.getD i default).cells).getD j default) (vs (i * s + j))) :
      PR I w (.sl l) (.slice (some ⟨g, off, none⟩) l.length cap)
  | agg (l : List PV) (cs : List Value) (hl : l.length = cs.length)
      (hr : ∀ i, i < l.length → PR I w (l.getD i default) (cs.getD i undef)) : PR I w (.agg l) (.agg cs.toArray)

theorem PR.mono {I I' : Nat → Prop} {w w' : World} (hI : ∀ g, I g → I' g) (hw : ∀ g, I g → w'.heap[g]? = w.heap[g]?) {x : PV} {v : Value} (h : PR I w x v) : PR I' w' x v := by
  induction h with
  | bool b => exact .bool b
  | int k n => exact .int k n
  | str s => exact .str s
  | sl0 a cap h => exact .sl0 a cap h
  | sl l s g off cap cur E fz vs hl hg hb hc hs hv _ ih => exact .sl l s g off cap cur E fz vs hl (hI g hg) ((hw g hg).trans hb) hc hs hv ih
  | agg l cs hl _ ih => exact .agg l cs hl ih

def Laid (I : Nat → Prop) (w : World) : Prop := ∀ x ∈ tabs, I x.1 ∧ ∃ (cur : Array Value) (E : TypeId) (fz : Nat × Nat), w.heap[x.1]? = some (.cells cur E fz) ∧
  ∀ j, j < x.2.2.length → cur[j]? = some (.int x.2.1 (x.2.2.getD j 0))
theorem Laid.mono {I I' : Nat → Prop} {w w' : World} (h : Laid I w) (hI : ∀ g, I g → I' g) (hw : ∀ g, I g → w'.heap[g]? = w.heap[g]?) : Laid I' w' := fun x hx => by
  obtain ⟨h1, cur, E, fz, h2, h3⟩ := h x hx; exact ⟨hI _ h1, cur, E, fz, (hw _ h1).trans h2, h3⟩

inductive AV where
  | junk
  | cell
  | p (v : PV)
  | full (l : List PV)
  | own (b n : Nat)
  | ptr (b off : Nat)
  | eptr (b s i f : Nat)
  | ipt (l : List PV)
  | map (b : Nat)
  | yld (b : Nat)
  | fn (f : FuncId) (caps : List AV)
  | agg (l : List AV)
  | tup (l : List AV)
  | nil
  deriving Inhabited

inductive VR (n : Nat) (μ : Nat → Value) (I : Nat → Prop) (w : World) : AV → Value → Prop
  | junk (v : Value) : VR n μ I w .junk v
  | cell (v : Value) (h : v.oneCell' = true) : VR n μ I w .cell v
  | p (x : PV) (v : Value) (h : PR I w x v) : VR n μ I w (.p x) v
  | full (l : List PV) (a : Option Addr) (h : PR I w (.sl l) (.slice a l.length l.length)) : VR n μ I w (.full l) (.slice a l.length l.length)
  | own (b k : Nat) (a : Option Addr) (c : Nat) (hb : b < n) (h : μ b = .slice a k c) : VR n μ I w (.own b k) (.slice a k c)
  | ptr (b off g : Nat) (hb : b < n) (h : μ b = .pointer (some ⟨g, 0, none⟩)) : VR n μ I w (.ptr b off) (.pointer (some ⟨g, off, none⟩))
  | eptr (b s i f g off k c : Nat) (hb : b < n) (h : μ b = .slice (some ⟨g, off, none⟩) k c) : VR n μ I w (.eptr b s i f) (.pointer (some ⟨g, off + (i * s + f), none⟩))
  | ipt (l : List PV) (g off : Nat) (cur : Array Value) (E : TypeId) (fz : Nat × Nat) (vs : Nat → Value) (hI : I g) (hw : w.heap[g]? = some (.cells cur E fz))
      (hv : ∀ j, j < l.length → cur[off + j]? = some (vs j)) (hr : ∀ j, j < l.length → PR I w (l.getD j default) (vs j)) : VR n μ I w (.ipt l) (.pointer (some ⟨g, off, none⟩))
  | map (b r : Nat) (hb : b < n) (h : μ b = .map (some r)) : VR n μ I w (.map b) (.map (some r))
  | yld (b l : Nat) (hb : b < n) (h : μ b = .func (.yield l) #[] #[]) : VR n μ I w (.yld b) (.func (.yield l) #[] #[])
  | fn (f : FuncId) (caps : List AV) (cs : List Value) (hl : caps.length = cs.length) (hr : ∀ i, i < caps.length → VR n μ I w (caps.getD i .junk) (cs.getD i undef)) :
      VR n μ I w (.fn f caps) (.func (.func f) #[] cs.toArray)
  | agg (l : List AV) (cs : List Value) (hl : l.length = cs.length) (hr : ∀ i, i < l.length → VR n μ I w (l.getD i .junk) (cs.getD i undef)) : VR n μ I w (.agg l) (.agg cs.toArray)
  | tup (l : List AV) (cs : List Value) (hl : l.length = cs.length) (hr : ∀ i, i < l.length → VR n μ I w (l.getD i .junk) (cs.getD i undef)) : VR n μ I w (.tup l) (.tuple cs.toArray)
  | nil : VR n μ I w .nil (.slice none 0 0)

theorem VR.mono {n n' : Nat} {μ μ' : Nat → Value} {I I' : Nat → Prop} {w w' : World} (hn : n ≤ n') (hμ : ∀ b, b < n → μ' b = μ b)
    (hI : ∀ g, I g → I' g) (hw : ∀ g, I g → w'.heap[g]? = w.heap[g]?) {x : AV} {v : Value} (h : VR n μ I w x v) : VR n' μ' I' w' x v := by
  induction h with
  | junk v => exact .junk v
  | cell v h => exact .cell v h
  | p x v h => exact .p x v (h.mono hI hw)
  | full l a h => exact .full l a (h.mono hI hw)
  | own b k a c hb h => exact .own b k a c (by omega) ((hμ b hb).trans h)
  | ptr b off g hb h => exact .ptr b off g (by omega) ((hμ b hb).trans h)
  | eptr b s i f g off k c hb h => exact .eptr b s i f g off k c (by omega) ((hμ b hb).trans h)
  | ipt l g off cur E fz vs hg hb hv hr => exact .ipt l g off cur E fz vs (hI g hg) ((hw g hg).trans hb) hv (fun j hj => (hr j hj).mono hI hw)
  | map b r hb h => exact .map b r (by omega) ((hμ b hb).trans h)
  | yld b l hb h => exact .yld b l (by omega) ((hμ b hb).trans h)
  | fn f caps cs hl _ ih => exact .fn f caps cs hl ih
  | agg l cs hl _ ih => exact .agg l cs hl ih
  | tup l cs hl _ ih => exact .tup l cs hl ih
  | nil => exact .nil

def gAV (g : Nat) : AV := match tabs.find? (fun x => x.1 == g) with
  | some x => .ipt (x.2.2.map (.int x.2.1))
  | none => .junk
theorem VR.gAV {n : Nat} {μ : Nat → Value} {I : Nat → Prop} {w : World} (h : Laid I w) (g : Nat) : VR n μ I w (gAV g) (.pointer (some ⟨g, 0, none⟩)) := by
  unfold AM.gAV
  split
  · rename_i x hx
    have hg : x.1 = g := by have := List.find?_some hx; simpa using this
    obtain ⟨h1, cur, E, fz, h2, h3⟩ := h x (List.mem_of_find?_eq_some hx); subst hg; refine .ipt _ _ 0 cur E fz (fun j => .int x.2.1 (x.2.2.getD j 0)) h1 h2 (fun j hj => ?_) (fun j hj => ?_)
    · rw [Nat.zero_add]; exact h3 j (by simpa using hj)
    · rw [List.length_map] at hj
      rw [List.getD_eq_getElem?_getD, List.getElem?_map, List.getD_eq_getElem?_getD, List.getElem?_eq_getElem hj, Option.map_some, Option.getD_some, Option.getD_some]; exact .int _ _
  · exact .junk _

def AV.kill (b : Nat) : AV → AV
  | .own c n => if c = b then .junk else .own c n
  | .ptr c o => if c = b then .junk else .ptr c o
  | .eptr c s i f => if c = b then .junk else .eptr c s i f
  | .map c => if c = b then .junk else .map c
  | .yld c => if c = b then .junk else .yld c
  | .fn f caps => .fn f (killL b caps)
  | .agg l => .agg (killL b l)
  | .tup l => .tup (killL b l)
  | v => v
where killL (b : Nat) : List AV → List AV
  | [] => []
  | v :: l => v.kill b :: killL b l

theorem Z5a (b : Nat) (l : List AV) : AV.kill.killL b l = l.map (AV.kill b) := by
  induction l with
  | nil => rfl
  | cons v l ih => simp [AV.kill.killL, ih]

theorem VR.kill {n n' : Nat} {μ μ' : Nat → Value} {I I' : Nat → Prop} {w w' : World} (b0 : Nat) (hn : n ≤ n') (hμ : ∀ b, b < n → b ≠ b0 → μ' b = μ b)
    (hI : ∀ g, I g → I' g) (hw : ∀ g, I g → w'.heap[g]? = w.heap[g]?) {x : AV} {v : Value} (h : VR n μ I w x v) : VR n' μ' I' w' (x.kill b0) v := by
  induction h with
  | junk v => exact .junk v
  | cell v h => exact .cell v h
  | p x v h => exact .p x v (h.mono hI hw)
  | full l a h => exact .full l a (h.mono hI hw)
  | own b k a c hb h =>
    unfold AV.kill; split
    · exact .junk _
    · exact .own b k a c (by omega) ((hμ b hb ‹_›).trans h)
  | ptr b off g hb h =>
    unfold AV.kill; split
    · exact .junk _
    · exact .ptr b off g (by omega) ((hμ b hb ‹_›).trans h)
  | eptr b s i f g off k c hb h =>
    unfold AV.kill; split
    · exact .junk _
    · exact .eptr b s i f g off k c (by omega) ((hμ b hb ‹_›).trans h)
  | ipt l g off cur E fz vs hg hb hv hr => exact .ipt l g off cur E fz vs (hI g hg) ((hw g hg).trans hb) hv (fun j hj => (hr j hj).mono hI hw)
  | map b r hb h =>
    unfold AV.kill; split
    · exact .junk _
    · exact .map b r (by omega) ((hμ b hb ‹_›).trans h)
  | yld b l hb h =>
    unfold AV.kill; split
    · exact .junk _
    · exact .yld b l (by omega) ((hμ b hb ‹_›).trans h)
  | fn f caps cs hl _ ih =>
    unfold AV.kill; rw [Z5a]; refine .fn f _ cs (by simpa using hl) fun i hi => ?_
    have := ih i (by simpa using hi); simp only [List.length_map] at hi
    simpa [List.getD_eq_getElem?_getD, List.getElem?_map, List.getElem?_eq_getElem hi] using this
  | agg l cs hl _ ih =>
    unfold AV.kill; rw [Z5a]; refine .agg _ cs (by simpa using hl) fun i hi => ?_
    have := ih i (by simpa using hi); simp only [List.length_map] at hi
    simpa [List.getD_eq_getElem?_getD, List.getElem?_map, List.getElem?_eq_getElem hi] using this
  | tup l cs hl _ ih =>
    unfold AV.kill; rw [Z5a]; refine .tup _ cs (by simpa using hl) fun i hi => ?_
    have := ih i (by simpa using hi); simp only [List.length_map] at hi
    simpa [List.getD_eq_getElem?_getD, List.getElem?_map, List.getElem?_eq_getElem hi] using this
  | nil => exact .nil

inductive RK where
  | own | lax | raw | que | laq
  deriving DecidableEq, Inhabited
def RK.hard : RK → Bool
  | .lax => false
  | .laq => false
  | _ => true

inductive LS where
  | ready | busy | left (c : Code) | over
  deriving Inhabited

inductive AObj where
  | dead
  | box (cs : List AV)
  | row (E : TypeId) (s : Nat) (xs : List PV) (k : RK)
  | mp (es : List (List UInt8 × PV))
  | mpi (es : List (Int × PV))
  | sit (s : List UInt8) (pos : Nat)
  | it (m since : Nat) (seen : List Nat) (last : Nat)
  | lp (tm : List AV) (ps : List Nat) (assign body : Code) (s : LS)
  deriving Inhabited

def Zk (l : List PV) : List PV := l.flatMap PV.cells

def RowIn (I : Nat → Prop) (w : World) (E : TypeId) (s : Nat) (xs : List PV) (v : Value) (g : Nat) (fz : Bool) : Prop :=
  ∃ (off cap : Nat) (cur : Array Value) (fr : Nat × Nat) (vs : List Value), v = .slice (some ⟨g, off, none⟩) xs.length cap ∧ w.heap[g]? = some (.cells cur E fr) ∧
    (fz = true → fr = (0, 0)) ∧ (∀ j, j < cur.size → ¬ (fr.1 ≤ j ∧ j < fr.2)) ∧
    xs.length ≤ cap ∧ cap ≤ maxLen ∧ off + cap * s ≤ cur.size ∧ (cur.toList.drop off).take (xs.length * s) = vs ∧ vs.length = xs.length * s ∧
    ∀ j, j < xs.length * s → PR I w ((Zk xs).getD j default) (vs.getD j undef)

def ObjOK (n : Nat) (μ : Nat → Value) (I : Nat → Prop) (ob : Nat → Option Nat) (w : World) (b : Nat) : AObj → Prop
  | .dead => True
  | .box cs => ∃ g T cur, ob b = some g ∧ μ b = .pointer (some ⟨g, 0, none⟩) ∧ w.heap[g]? = some (.cells cur T (0, 0)) ∧ cs.length = cur.size ∧
      ∀ i, i < cs.length → VR n μ I w (cs.getD i .junk) (cur.getD i undef)
  | .row E s xs k => (∀ x ∈ xs, x.cells.length = s) ∧
      ((∃ g, ob b = some g ∧ RowIn I w E s xs (μ b) g (k != .raw)) ∨
       (k.hard = false ∧ ob b = none ∧ ∃ a, μ b = .slice a xs.length xs.length ∧ PR I w (.sl xs) (μ b)))
  | .mp es => ∃ r ents, ob b = some r ∧ μ b = .map (some r) ∧ w.heap[r]? = some (.map ents es.length) ∧ es.length = ents.size ∧
      (∀ i, i < es.length → (∃ k : ByteArray, (ents.getD i default).key = .string k ∧ k.data.toList = (es.getD i default).1) ∧ PR I w (es.getD i default).2 (ents.getD i default).val) ∧
      (∀ i, i < ents.size → (ents.getD i default).born = i)
  | .mpi es => ∃ r ents, ob b = some r ∧ μ b = .map (some r) ∧ w.heap[r]? = some (.map ents es.length) ∧ es.length = ents.size ∧
      (∀ i, i < es.length → (ents.getD i default).key = .int .i64 (es.getD i default).1 ∧ PR I w (es.getD i default).2 (ents.getD i default).val) ∧
      (∀ i, i < ents.size → (ents.getD i default).born = i)
  | .sit s pos => ∃ (r : Nat) (bs : ByteArray), ob b = some r ∧ μ b = .pointer (some ⟨r, 0, none⟩) ∧ bs.data.toList = s ∧ w.heap[r]? = some (.stringIter bs pos)
  | .it m since seen last => ∃ r g, m < n ∧ ob b = some r ∧ μ b = .pointer (some ⟨r, 0, none⟩) ∧ μ m = .map (some g) ∧ w.heap[r]? = some (.mapIter (some g) since seen.toArray last) ∧ (seen ≠ [] → 0 < last)
  | .lp tm ps assign body s => ∃ l rec, ob b = some l ∧ μ b = .func (.yield l) #[] #[] ∧ w.heap[l]? = some (.loop rec) ∧ tm.length = rec.tmps.size ∧
      (∀ i, i < tm.length → VR n μ I w (tm.getD i .junk) (rec.tmps.getD i undef)) ∧ rec.params = ps.toArray ∧ rec.assign = assign ∧ rec.body = body ∧
      (match s with
       | .ready => rec.state = .ready ∧ rec.pending = none
       | .busy => rec.state = .busy
       | .left c => rec.state = .done ∧ rec.pending = some c
       | .over => True)

structure St where
  tmps : List AV
  h : List AObj

structure Ctx where
  B0 : Nat
  w0 : World
  I0 : Nat → Prop
  μ0 : Nat → Value
  n0 : Nat
  ks : List Nat
  fz : Nat → Prop
  w1 : World

def Ctx.mine (X : Ctx) (g : Nat) : Prop := X.B0 ≤ g ∧ ¬ X.fz g

def Ctx.may (X : Ctx) (b : Nat) : Prop := X.n0 ≤ b ∨ b ∈ X.ks

structure RepH (X : Ctx) (I : Nat → Prop) (μ : Nat → Value) (ob : Nat → Option Nat) (h : List AObj) (w : World) : Prop where
  below : Below X.B0 X.w0 w
  base : X.B0 ≤ w.heap.size
  imm : ∀ g, I g → g < w.heap.size
  ctx : ∀ g, X.I0 g → I g
  laid : Laid I w
  frz : ∀ g, X.fz g → g < w.heap.size ∧ w.heap[g]? = X.w1.heap[g]?
  inew : ∀ g, I g → X.I0 g ∨ X.mine g
  may : ∀ b, ¬ X.may b → μ b = X.μ0 b
  names : X.n0 ≤ h.length
  own : ∀ b g, ob b = some g → ¬ I g ∧ X.mine g ∧ g < w.heap.size
  sep : ∀ b b' g, ob b = some g → ob b' = some g → b = b'
  past : ∀ b, h.length ≤ b → ob b = none
  objs : ∀ b o, h[b]? = some o → ObjOK h.length μ I ob w b o

def MarksOK (X : Ctx) (I : Nat → Prop) (ob : Nat → Option Nat) (w : World) (ds : List Deferred) : Prop :=
  ∃ rs : List Nat, ds.map (·.target) = rs.map Target.collected ∧ rs.Nodup ∧ ∀ r ∈ rs, w.heap[r]? = some (.deferred (some [])) ∧ X.mine r ∧ ¬ I r ∧ ∀ b, ob b ≠ some r

theorem MarksOK.keep {X : Ctx} {I I' : Nat → Prop} {ob ob' : Nat → Option Nat} {w w' : World} {ds : List Deferred} (h : MarksOK X I ob w ds) {row : Option Nat} (hg : w.grownBy w' row) (hrow : ∀ r, row = some r → ∃ b, ob b = some r)
    (hI : ∀ g, I' g → I g ∨ w.heap.size ≤ g) (hob : ∀ b g, ob' b = some g → (∃ c, ob c = some g) ∨ w.heap.size ≤ g) : MarksOK X I' ob' w' ds := by
  obtain ⟨rs, h1, h2, h3⟩ := h; refine ⟨rs, h1, h2, fun r hr => ?_⟩; obtain ⟨e1, e2, e3, e4⟩ := h3 r hr; have hlt : r < w.heap.size := (Array.getElem?_eq_some_iff.1 e1).1; refine ⟨(hg.block r hlt (fun e => by obtain ⟨b, hb⟩ := hrow r e.symm; exact e4 b hb)).trans e1, e2, fun hi => (hI r hi).elim e3 (fun h => by omega), fun b hb => ?_⟩; rcases hob b r hb with ⟨c, hc⟩ | h
  · exact e4 c hc
  · omega

structure Rep (X : Ctx) (I : Nat → Prop) (μ : Nat → Value) (ob : Nat → Option Nat) (st : St) (w : World) (a : Act) : Prop extends RepH X I μ ob st.h w where
  size : st.tmps.length = a.tmps.size
  tmps : ∀ i, i < st.tmps.length → VR st.h.length μ I w (st.tmps.getD i .junk) (a.tmps.getD i undef)
  marks : MarksOK X I ob w a.defers

def AObj.kill (b : Nat) : AObj → AObj
  | .box cs => .box (cs.map (AV.kill b))
  | .it m since seen last => if m = b then .dead else .it m since seen last
  | .lp tm ps assign body s => .lp (tm.map (AV.kill b)) ps assign body s
  | o => o

def upd {α : Type} (f : Nat → α) (b : Nat) (v : α) : Nat → α := fun c => if c = b then v else f c
@[simp] theorem Z5 {α : Type} (f : Nat → α) (b : Nat) (v : α) : upd f b v b = v := by simp [upd]
theorem Z2 {α : Type} (f : Nat → α) {b c : Nat} (v : α) (h : c ≠ b) : upd f b v c = f c := by simp [upd, h]

/-! ### What a change of the world leaves -/
section
variable {X : Ctx} {n n' : Nat} {μ μ' : Nat → Value} {I I' : Nat → Prop} {ob ob' : Nat → Option Nat} {w w' : World} {b : Nat} {o : AObj}

theorem RowIn.keep {E : TypeId} {s : Nat} {xs : List PV} {v : Value} {g : Nat} {fz : Bool} (hI : ∀ g, I g → I' g) (hw : ∀ g, I g → w'.heap[g]? = w.heap[g]?) (hg : w'.heap[g]? = w.heap[g]?)
    (h : RowIn I w E s xs v g fz) : RowIn I' w' E s xs v g fz := by
  obtain ⟨off, cap, cur, fr, vs, h1, h2, h3, h4, h5, h6, h7, h8, h9, h10⟩ := h; exact ⟨off, cap, cur, fr, vs, h1, hg.trans h2, h3, h4, h5, h6, h7, h8, h9, fun j hj => (h10 j hj).mono hI hw⟩

theorem ObjOK.keep (hn : n ≤ n') (hμ : ∀ c, c < n → μ' c = μ c) (hμb : μ' b = μ b) (hob : ob' b = ob b) (hI : ∀ g, I g → I' g) (hw : ∀ g, I g → w'.heap[g]? = w.heap[g]?)
    (hg : ∀ g, ob b = some g → w'.heap[g]? = w.heap[g]?) (h : ObjOK n μ I ob w b o) : ObjOK n' μ' I' ob' w' b o := by
  cases o with
  | dead => trivial
  | box cs =>
    obtain ⟨g, T, cur, h1, h2, h3, h4, h5⟩ := h; exact ⟨g, T, cur, hob.trans h1, hμb.trans h2, (hg g h1).trans h3, h4, fun i hi => (h5 i hi).mono hn hμ hI hw⟩
  | row E s xs k =>
    obtain ⟨h0, h⟩ := h; refine ⟨h0, ?_⟩; rcases h with ⟨g, h1, h2⟩ | ⟨h1, h2, a, h3, h4⟩
    · exact .inl ⟨g, hob.trans h1, by rw [hμb]; exact h2.keep hI hw (hg g h1)⟩
    · exact .inr ⟨h1, hob.trans h2, a, hμb.trans h3, by rw [hμb]; exact h4.mono hI hw⟩
  | mp es =>
    obtain ⟨r, ents, h1, h2, h3, h4, h5, h6⟩ := h; exact ⟨r, ents, hob.trans h1, hμb.trans h2, (hg r h1).trans h3, h4, fun i hi => ⟨(h5 i hi).1, ((h5 i hi).2).mono hI hw⟩, h6⟩
  | mpi es =>
    obtain ⟨r, ents, h1, h2, h3, h4, h5, h6⟩ := h; exact ⟨r, ents, hob.trans h1, hμb.trans h2, (hg r h1).trans h3, h4, fun i hi => ⟨(h5 i hi).1, ((h5 i hi).2).mono hI hw⟩, h6⟩
  | sit s pos =>
    obtain ⟨r, bs, h1, h2, h3, h4⟩ := h; exact ⟨r, bs, hob.trans h1, hμb.trans h2, h3, (hg r h1).trans h4⟩
  | it m since seen last =>
    obtain ⟨r, g, h0, h1, h2, h3, h4, h5⟩ := h; exact ⟨r, g, by omega, hob.trans h1, hμb.trans h2, (hμ m h0).trans h3, (hg r h1).trans h4, h5⟩
  | lp tm ps assign body s =>
    obtain ⟨l, rec, h1, h2, h3, h4, h5, h6⟩ := h; exact ⟨l, rec, hob.trans h1, hμb.trans h2, (hg l h1).trans h3, h4, fun i hi => (h5 i hi).mono hn hμ hI hw, h6⟩

theorem ObjOK.killed (b0 : Nat) (hn : n ≤ n') (hμ : ∀ c, c < n → c ≠ b0 → μ' c = μ c) (hμb : μ' b = μ b) (hob : ob' b = ob b) (hI : ∀ g, I g → I' g) (hw : ∀ g, I g → w'.heap[g]? = w.heap[g]?)
    (hg : ∀ g, ob b = some g → w'.heap[g]? = w.heap[g]?) (h : ObjOK n μ I ob w b o) : ObjOK n' μ' I' ob' w' b (o.kill b0) := by
  cases o with
  | dead => trivial
  | box cs =>
    obtain ⟨g, T, cur, h1, h2, h3, h4, h5⟩ := h; refine ⟨g, T, cur, hob.trans h1, hμb.trans h2, (hg g h1).trans h3, by simpa using h4, fun i hi => ?_⟩; simp only [List.length_map] at hi; have := (h5 i hi).kill (n' := n') (μ' := μ') (I' := I') (w' := w') b0 hn hμ hI hw
    simpa [List.getD_eq_getElem?_getD, List.getElem?_map, List.getElem?_eq_getElem hi] using this
  | row E s xs k =>
    obtain ⟨h0, h⟩ := h; refine ⟨h0, ?_⟩; rcases h with ⟨g, h1, h2⟩ | ⟨h1, h2, a, h3, h4⟩
    · exact .inl ⟨g, hob.trans h1, by rw [hμb]; exact h2.keep hI hw (hg g h1)⟩
    · exact .inr ⟨h1, hob.trans h2, a, hμb.trans h3, by rw [hμb]; exact h4.mono hI hw⟩
  | mp es =>
    obtain ⟨r, ents, h1, h2, h3, h4, h5, h6⟩ := h; exact ⟨r, ents, hob.trans h1, hμb.trans h2, (hg r h1).trans h3, h4, fun i hi => ⟨(h5 i hi).1, ((h5 i hi).2).mono hI hw⟩, h6⟩
  | mpi es =>
    obtain ⟨r, ents, h1, h2, h3, h4, h5, h6⟩ := h; exact ⟨r, ents, hob.trans h1, hμb.trans h2, (hg r h1).trans h3, h4, fun i hi => ⟨(h5 i hi).1, ((h5 i hi).2).mono hI hw⟩, h6⟩
  | sit s pos =>
    obtain ⟨r, bs, h1, h2, h3, h4⟩ := h; exact ⟨r, bs, hob.trans h1, hμb.trans h2, h3, (hg r h1).trans h4⟩
  | it m since seen last =>
    obtain ⟨r, g, h0, h1, h2, h3, h4, h5⟩ := h; unfold AObj.kill; simp only
    split
    · trivial
    · exact ⟨r, g, by omega, hob.trans h1, hμb.trans h2, (hμ m h0 ‹_›).trans h3, (hg r h1).trans h4, h5⟩
  | lp tm ps assign body s =>
    obtain ⟨l, rec, h1, h2, h3, h4, h5, h6⟩ := h; refine ⟨l, rec, hob.trans h1, hμb.trans h2, (hg l h1).trans h3, by simpa using h4, fun i hi => ?_, h6⟩; simp only [List.length_map] at hi; have := (h5 i hi).kill (n' := n') (μ' := μ') (I' := I') (w' := w') b0 hn hμ hI hw
    simpa [List.getD_eq_getElem?_getD, List.getElem?_map, List.getElem?_eq_getElem hi] using this

theorem RepH.fresh {h : List AObj} (R : RepH X I μ ob h w) {g : Nat} (hg : w.heap.size ≤ g) : X.mine g :=
  ⟨Nat.le_trans R.base hg, fun hf => by have := (R.frz g hf).1; omega⟩

theorem RepH.still {h : List AObj} (R : RepH X I μ ob h w) {row : Option Nat} (hg : w.grownBy w' row) (hr : ∀ k, row = some k → X.mine k) : ∀ g, X.fz g → g < w'.heap.size ∧ w'.heap[g]? = X.w1.heap[g]? := fun g hf =>
  ⟨Nat.lt_of_lt_of_le (R.frz g hf).1 hg.size, (hg.block g (R.frz g hf).1 (fun e => (hr g e.symm).2 hf)).trans (R.frz g hf).2⟩

theorem RepH.grow {h : List AObj} (R : RepH X I μ ob h w) (hg : w.grownBy w' none) (hI : ∀ g, I g → I' g) (hn : ∀ g, I' g → I g ∨ (w.heap.size ≤ g ∧ g < w'.heap.size)) : RepH X I' μ ob h w' := by
  have hw : ∀ g, I g → w'.heap[g]? = w.heap[g]? := fun g h => hg.block g (R.imm g h) (by simp)
  exact {
    below := R.below.grown hg R.base (by simp)
    laid := R.laid.mono hI hw
    base := Nat.le_trans R.base hg.size
    imm := fun g h => (hn g h).elim (fun h => Nat.lt_of_lt_of_le (R.imm g h) hg.size) (fun h => h.2)
    ctx := fun g h => hI g (R.ctx g h)
    frz := R.still hg (by simp)
    inew := fun g h => (hn g h).elim (R.inew g) (fun h => .inr (R.fresh h.1))
    may := R.may
    names := R.names
    own := fun b g h => ⟨fun hi => (hn g hi).elim (R.own b g h).1 (fun h' => by have := (R.own b g h).2.2; omega), (R.own b g h).2.1, Nat.lt_of_lt_of_le (R.own b g h).2.2 hg.size⟩
    sep := R.sep
    past := R.past
    objs := fun b o h => (R.objs b o h).keep (Nat.le_refl _) (fun _ _ => rfl) rfl rfl hI hw (fun g h' => hg.block g (R.own b g h').2.2 (by simp)) }

theorem RepH.name {h : List AObj} (R : RepH X I μ ob h w) (hg : w.grownBy w' none) {v : Value} {g : Option Nat} (hgn : ∀ k, g = some k → w.heap.size ≤ k ∧ k < w'.heap.size)
    (ho : ObjOK (h.length + 1) (upd μ h.length v) I (upd ob h.length g) w' h.length o) : RepH X I (upd μ h.length v) (upd ob h.length g) (h ++ [o]) w' := by
  have hw : ∀ g, I g → w'.heap[g]? = w.heap[g]? := fun g h => hg.block g (R.imm g h) (by simp)
  have hlt : ∀ c, c < h.length → c ≠ h.length := fun c hc => by omega
  exact {
    below := R.below.grown hg R.base (by simp)
    laid := R.laid.mono (fun _ h => h) hw
    base := Nat.le_trans R.base hg.size
    imm := fun g h => Nat.lt_of_lt_of_le (R.imm g h) hg.size
    ctx := R.ctx
    frz := R.still hg (by simp)
    inew := R.inew
    may := fun b hb => by
      have : b ≠ h.length := fun e => hb (.inl (by rw [e]; exact R.names))
      rw [Z2 _ _ this]; exact R.may b hb
    names := by simpa using Nat.le_succ_of_le R.names
    own := fun b k hb => by
      by_cases e : b = h.length
      · subst e; rw [Z5] at hb
        have := hgn k hb; exact ⟨fun hi => by have := R.imm k hi; omega, R.fresh this.1, this.2⟩
      · rw [Z2 _ _ e] at hb
        exact ⟨(R.own b k hb).1, (R.own b k hb).2.1, Nat.lt_of_lt_of_le (R.own b k hb).2.2 hg.size⟩
    sep := fun b b' k hb hb' => by
      by_cases e : b = h.length <;> by_cases e' : b' = h.length
      · omega
      · subst e; rw [Z5] at hb; rw [Z2 _ _ e'] at hb'
        have := (hgn k hb).1; have := (R.own b' k hb').2.2; omega
      · subst e'; rw [Z5] at hb'; rw [Z2 _ _ e] at hb
        have := (hgn k hb').1; have := (R.own b k hb).2.2; omega
      · rw [Z2 _ _ e] at hb; rw [Z2 _ _ e'] at hb'; exact R.sep b b' k hb hb'
    past := fun b hb => by
      simp only [List.length_append, List.length_singleton] at hb; rw [Z2 _ _ (by omega)]; exact R.past b (by omega)
    objs := fun b o' hb => by
      simp only [List.length_append, List.length_singleton]; by_cases e : b < h.length
      · rw [List.getElem?_append_left e] at hb
        exact (R.objs b o' hb).keep (Nat.le_succ _) (fun c hc => Z2 _ _ (hlt c hc)) (Z2 _ _ (hlt b e)) (Z2 _ _ (hlt b e)) (fun _ h => h) hw
          (fun g h' => hg.block g (R.own b g h').2.2 (by simp))
      · have hb2 : b = h.length := by
          have := (List.getElem?_eq_some_iff.1 hb).1; simp only [List.length_append, List.length_singleton] at this; omega
        subst hb2; simp only [List.getElem?_append_right (Nat.le_refl _), Nat.sub_self, List.getElem?_cons_zero, Option.some.injEq] at hb; subst hb; exact ho }

theorem RepH.write {h : List AObj} (R : RepH X I μ ob h w) {b0 g0 : Nat} (hb0 : b0 < h.length) (hob : ob b0 = some g0) (hg : w.grownBy w' (some g0))
    (ho : ObjOK h.length μ I ob w' b0 o) : RepH X I μ ob (h.set b0 o) w' := by
  have hg0 := R.own b0 g0 hob; have hw : ∀ g, I g → w'.heap[g]? = w.heap[g]? := fun g h => hg.block g (R.imm g h) (fun e => by injection e with e; subst e; exact hg0.1 h)
  exact {
    below := R.below.grown hg R.base (fun k e => by injection e with e; subst e; exact hg0.2.1.1)
    laid := R.laid.mono (fun _ h => h) hw
    base := Nat.le_trans R.base hg.size
    imm := fun g h => Nat.lt_of_lt_of_le (R.imm g h) hg.size
    ctx := R.ctx
    frz := R.still hg (fun k e => by injection e with e; subst e; exact hg0.2.1)
    inew := R.inew
    may := R.may
    names := by simpa using R.names
    own := fun b g h => ⟨(R.own b g h).1, (R.own b g h).2.1, Nat.lt_of_lt_of_le (R.own b g h).2.2 hg.size⟩
    sep := R.sep
    past := fun b hb => R.past b (by simpa using hb)
    objs := fun b o' hb => by
      simp only [List.length_set]; by_cases e : b = b0
      · subst e
        rw [List.getElem?_set_self hb0] at hb; injection hb with hb; subst hb; exact ho
      · rw [List.getElem?_set_ne (fun h => e h.symm)] at hb
        exact (R.objs b o' hb).keep (Nat.le_refl _) (fun _ _ => rfl) rfl rfl (fun _ h => h) hw
          (fun g h' => hg.block g (R.own b g h').2.2 (fun e' => by injection e' with e'; subst e'; exact e (R.sep b b0 g h' hob))) }

theorem RepH.move {h : List AObj} (R : RepH X I μ ob h w) {b0 : Nat} (hb0 : b0 < h.length) (hmay : X.may b0) (hg : w.grownBy w' (ob b0)) {v : Value} {g : Option Nat}
    (hgn : ∀ k, g = some k → (ob b0 = some k ∨ w.heap.size ≤ k) ∧ k < w'.heap.size)
    (ho : ObjOK h.length (upd μ b0 v) I (upd ob b0 g) w' b0 o) : RepH X I (upd μ b0 v) (upd ob b0 g) ((h.map (AObj.kill b0)).set b0 o) w' := by
  have hw : ∀ g, I g → w'.heap[g]? = w.heap[g]? := fun g h => hg.block g (R.imm g h) (fun e => (R.own b0 g e.symm).1 h)
  exact {
    below := R.below.grown hg R.base (fun k e => (R.own b0 k e).2.1.1)
    laid := R.laid.mono (fun _ h => h) hw
    base := Nat.le_trans R.base hg.size
    imm := fun g h => Nat.lt_of_lt_of_le (R.imm g h) hg.size
    ctx := R.ctx
    frz := R.still hg (fun k e => (R.own b0 k e).2.1)
    inew := R.inew
    may := fun b hb => by
      have : b ≠ b0 := fun e => hb (e ▸ hmay)
      rw [Z2 _ _ this]; exact R.may b hb
    names := by simpa using R.names
    own := fun b k hb => by
      by_cases e : b = b0
      · subst e; rw [Z5] at hb
        have := hgn k hb; rcases this.1 with h1 | h1
        · exact ⟨(R.own b k h1).1, (R.own b k h1).2.1, this.2⟩
        · exact ⟨fun hi => by have := R.imm k hi; omega, R.fresh h1, this.2⟩
      · rw [Z2 _ _ e] at hb
        exact ⟨(R.own b k hb).1, (R.own b k hb).2.1, Nat.lt_of_lt_of_le (R.own b k hb).2.2 hg.size⟩
    sep := fun b b' k hb hb' => by
      have key : ∀ c, c ≠ b0 → ob c = some k → g = some k → False := fun c hc h1 h2 => by
        rcases (hgn k h2).1 with h3 | h3
        · exact hc (R.sep c b0 k h1 h3)
        · have := (R.own c k h1).2.2; omega
      by_cases e : b = b0 <;> by_cases e' : b' = b0
      · omega
      · subst e; rw [Z5] at hb; rw [Z2 _ _ e'] at hb'; exact (key b' e' hb' hb).elim
      · subst e'; rw [Z5] at hb'; rw [Z2 _ _ e] at hb; exact (key b e hb hb').elim
      · rw [Z2 _ _ e] at hb; rw [Z2 _ _ e'] at hb'; exact R.sep b b' k hb hb'
    past := fun b hb => by
      simp only [List.length_set, List.length_map] at hb; rw [Z2 _ _ (by omega)]; exact R.past b hb
    objs := fun b o' hb => by
      simp only [List.length_set, List.length_map]; by_cases e : b = b0
      · subst e
        rw [List.getElem?_set_self (by simpa using hb0)] at hb; injection hb with hb; subst hb; exact ho
      · rw [List.getElem?_set_ne (fun h => e h.symm), List.getElem?_map] at hb
        cases hb' : h[b]? with
        | none => rw [hb'] at hb; simp at hb
        | some o'' =>
          rw [hb'] at hb; simp only [Option.map_some, Option.some.injEq] at hb; subst hb
          exact (R.objs b o'' hb').killed b0 (Nat.le_refl _) (fun c _ hc => Z2 _ _ hc) (Z2 _ _ e) (Z2 _ _ e) (fun _ h => h) hw
            (fun g h' => hg.block g (R.own b g h').2.2 (fun e' => e (R.sep b b0 g h' e'.symm))) }
end
end Go.AM
end

section
namespace Go.AM
open Go.RowKit

inductive TD where
  | bool | int (k : IntKind) | str | slice (e : TypeId) | map (k e : TypeId) | struct (fs : List (Nat × TypeId)) | array (n : Nat) (e : TypeId) | other
  deriving DecidableEq, Inhabited

structure TE where
  td : TD := .other
  cells : Nat := 0
  bytes : Nat := 0
  zero : Option AV := none
  isAgg : Bool := false
  eqs : Bool := false
  deriving Inhabited

def Z7 : TD → TypeDesc → Prop
  | .bool, d => d = .bool
  | .int k, d => d = .int k
  | .str, d => d = .string
  | .slice e, d => d = .slice e
  | .map k e, d => d = .map k e
  | .struct fs, d => ∃ a : Array Field, d = .struct a ∧ a.toList.map (fun f => (f.offset, f.type)) = fs
  | .array n e, d => d = .array n e
  | .other, _ => True

def Plain (z : AV) (zv : Value) : Prop := ∀ n μ I w, VR n μ I w z zv

def Z01 : TypeDesc → Bool
  | .struct _ => true
  | .array _ _ => true
  | _ => false

structure TyOK (P : Program) (t : TypeId) (te : TE) : Prop where
  desc : ∃ d, P.underlying t = some d ∧ Z7 te.td d ∧ te.isAgg = Z01 d
  info : ∃ i, P.info? t = some i ∧ i.size = te.cells ∧ i.bytes = te.bytes ∧ ∀ z, te.zero = some z → ∃ zv, i.zero = some zv ∧ Plain z zv ∧ zv.cells.size = te.cells
  eqs : te.eqs = true → P.stoodInHeld t = false ∧ P.eqGuardType P.depth t = false ∧ (P.fieldsOf t).toList.all (fun f => f.name != "_") = true

abbrev Gam := TypeId → Option TE
def Zg (P : Program) (Γ : Gam) : Prop := ∀ t te, Γ t = some te → TyOK P t te

/-! ### Inversions -/
section
variable {n : Nat} {μ : Nat → Value} {I : Nat → Prop} {w : World} {v : Value}
theorem VR.bool_inv {b : Bool} (h : VR n μ I w (.p (.bool b)) v) : v = .bool b := by cases h with | p _ _ h => cases h; rfl
theorem VR.int_inv {k : IntKind} {x : Int} (h : VR n μ I w (.p (.int k x)) v) : v = .int k x := by cases h with | p _ _ h => cases h; rfl
theorem PR.str_inv {s : List UInt8} (h : PR I w (.str s) v) : ∃ b : ByteArray, v = .string b ∧ b.data.toList = s := by cases h with | str b => exact ⟨b, rfl, rfl⟩
theorem VR.str_inv {s : List UInt8} (h : VR n μ I w (.p (.str s)) v) : ∃ b : ByteArray, v = .string b ∧ b.data.toList = s := by cases h with | p _ _ h => exact h.str_inv
theorem VR.own_inv {b k : Nat} (h : VR n μ I w (.own b k) v) : ∃ a c, v = .slice a k c ∧ b < n ∧ μ b = .slice a k c := by cases h with | own _ _ a c hb h => exact ⟨a, c, rfl, hb, h⟩
theorem VR.ptr_inv {b off : Nat} (h : VR n μ I w (.ptr b off) v) : ∃ g, v = .pointer (some ⟨g, off, none⟩) ∧ b < n ∧ μ b = .pointer (some ⟨g, 0, none⟩) := by cases h with | ptr _ _ g hb h => exact ⟨g, rfl, hb, h⟩
theorem VR.eptr_inv {b s i f : Nat} (h : VR n μ I w (.eptr b s i f) v) : ∃ g off k c, v = .pointer (some ⟨g, off + (i * s + f), none⟩) ∧ b < n ∧ μ b = .slice (some ⟨g, off, none⟩) k c := by cases h with | eptr _ _ _ _ g off k c hb h => exact ⟨g, off, k, c, rfl, hb, h⟩
theorem VR.map_inv {b : Nat} (h : VR n μ I w (.map b) v) : ∃ r, v = .map (some r) ∧ b < n ∧ μ b = .map (some r) := by cases h with | map _ r hb h => exact ⟨r, rfl, hb, h⟩
theorem VR.ipt_inv {l : List PV} (h : VR n μ I w (.ipt l) v) : ∃ g off cur E fz vs, v = .pointer (some ⟨g, off, none⟩) ∧ I g ∧ w.heap[g]? = some (.cells cur E fz) ∧
    (∀ j, j < l.length → cur[off + j]? = some ((vs : Nat → Value) j)) ∧ (∀ j, j < l.length → PR I w (l.getD j default) (vs j)) := by
  cases h with | ipt _ g off cur E fz vs hI hw hv hr => exact ⟨g, off, cur, E, fz, vs, rfl, hI, hw, hv, hr⟩
theorem VR.tup_inv {l : List AV} (h : VR n μ I w (.tup l) v) : ∃ cs : List Value, v = .tuple cs.toArray ∧ l.length = cs.length ∧ ∀ i, i < l.length → VR n μ I w (l.getD i .junk) (cs.getD i undef) := by
  cases h with | tup _ cs hl hr => exact ⟨cs, rfl, hl, hr⟩
theorem VR.agg_inv {l : List AV} (h : VR n μ I w (.agg l) v) : ∃ cs : List Value, v = .agg cs.toArray ∧ l.length = cs.length ∧ ∀ i, i < l.length → VR n μ I w (l.getD i .junk) (cs.getD i undef) := by
  cases h with | agg _ cs hl hr => exact ⟨cs, rfl, hl, hr⟩
theorem VR.fn_inv {f : FuncId} {l : List AV} (h : VR n μ I w (.fn f l) v) : ∃ cs : List Value, v = .func (.func f) #[] cs.toArray ∧ l.length = cs.length ∧ ∀ i, i < l.length → VR n μ I w (l.getD i .junk) (cs.getD i undef) := by
  cases h with | fn _ _ cs hl hr => exact ⟨cs, rfl, hl, hr⟩
theorem VR.mkInt (k : IntKind) (x : Int) : VR n μ I w (.p (.int k x)) (.int k x) := .p _ _ (.int k x)
theorem VR.mkBool (b : Bool) : VR n μ I w (.p (.bool b)) (.bool b) := .p _ _ (.bool b)
theorem PR.mkStr {b : ByteArray} {s : List UInt8} (h : b.data.toList = s) : PR I w (.str s) (.string b) := by subst h; exact .str b
theorem VR.mkStr {b : ByteArray} {s : List UInt8} (h : b.data.toList = s) : VR n μ I w (.p (.str s)) (.string b) := .p _ _ (.mkStr h)
end

/-! ### Integers in range -/
def InR : IntKind → Int → Prop
  | .i8, x => -128 ≤ x ∧ x ≤ 127
  | .i16, x => -32768 ≤ x ∧ x ≤ 32767
  | .i32, x => -2147483648 ≤ x ∧ x ≤ 2147483647
  | .i64, x => -9223372036854775808 ≤ x ∧ x ≤ 9223372036854775807
  | .u8, x => 0 ≤ x ∧ x ≤ 255
  | .u16, x => 0 ≤ x ∧ x ≤ 65535
  | .u32, x => 0 ≤ x ∧ x ≤ 4294967295
  | .u64, x => 0 ≤ x ∧ x ≤ 18446744073709551615

theorem InR.wrap {k : IntKind} {x : Int} (h : InR k x) : k.wrap x = x := by
  cases k with
  | i8 => exact IntWalk.i8_in _ h
  | i16 => exact IntWalk.i16_in _ h
  | i32 => exact IntWalk.i32_in _ h
  | i64 => exact IntWalk.i64_in _ h
  | u8 => exact IntWalk.u8_in _ h
  | u16 => exact IntWalk.u16_in _ h
  | u32 => exact IntWalk.u32_in _ h
  | u64 => exact IntWalk.u64_in _ h

/-! ### The operations, each as what is asked and what it gives -/
def Z0s (op : BinOp) (k : IntKind) (a b : Int) : Int :=
  match op with
  | .and => k.wrap ((BitVec.ofInt k.bits a &&& BitVec.ofInt k.bits b).toNat : Nat)
  | .or => k.wrap ((BitVec.ofInt k.bits a ||| BitVec.ofInt k.bits b).toNat : Nat)
  | .xor => k.wrap ((BitVec.ofInt k.bits a ^^^ BitVec.ofInt k.bits b).toNat : Nat)
  | _ => k.wrap ((BitVec.ofInt k.bits a &&& ~~~BitVec.ofInt k.bits b).toNat : Nat)
def AddR : IntKind → Int → Prop
  | .u32, _ => True
  | .i8, x => InR .i8 x
  | .i16, x => InR .i16 x
  | .i32, x => InR .i32 x
  | .i64, x => InR .i64 x
  | .u8, x => InR .u8 x
  | .u16, x => InR .u16 x
  | .u64, x => InR .u64 x
def addW : IntKind → Int → Int
  | .u32, x => IntKind.u32.wrap x
  | .i8, x => x
  | .i16, x => x
  | .i32, x => x
  | .i64, x => x
  | .u8, x => x
  | .u16, x => x
  | .u64, x => x
theorem AddR.wrap {k : IntKind} {x : Int} (h : AddR k x) : k.wrap x = addW k x := by
  cases k with
  | u32 => rfl
  | i8 => exact InR.wrap (k := .i8) h
  | i16 => exact InR.wrap (k := .i16) h
  | i32 => exact InR.wrap (k := .i32) h
  | i64 => exact InR.wrap (k := .i64) h
  | u8 => exact InR.wrap (k := .u8) h
  | u16 => exact InR.wrap (k := .u16) h
  | u64 => exact InR.wrap (k := .u64) h
def intK (op : BinOp) (k : IntKind) (a b : Int) (K : AV → Prop) : Prop :=
  match op with
  | .add => AddR k (a + b) ∧ K (.p (.int k (addW k (a + b))))
  | .sub => InR k (a - b) ∧ K (.p (.int k (a - b)))
  | .mul => InR k (a * b) ∧ K (.p (.int k (a * b)))
  | .quo => (0 ≤ a ∧ 0 < b ∧ InR k a) ∧ K (.p (.int k (a / b)))
  | .rem => (0 ≤ a ∧ 0 < b) ∧ K (.p (.int k (a % b)))
  | .and => K (.p (.int k (Z0s .and k a b)))
  | .or => K (.p (.int k (Z0s .or k a b)))
  | .xor => K (.p (.int k (Z0s .xor k a b)))
  | .andNot => K (.p (.int k (Z0s .andNot k a b)))
  | .shl => (0 ≤ b ∧ b < k.bits ∧ AddR k (a * 2 ^ b.toNat)) ∧ K (.p (.int k (addW k (a * 2 ^ b.toNat))))
  | .shr => (0 ≤ b ∧ b < k.bits ∧ 0 ≤ a) ∧ K (.p (.int k (a / 2 ^ b.toNat)))
  | .eql => K (.p (.bool (decide (a = b))))
  | .neq => K (.p (.bool (!decide (a = b))))
  | .lss => K (.p (.bool (decide (a < b))))
  | .leq => K (.p (.bool (decide (a ≤ b))))
  | .gtr => K (.p (.bool (decide (b < a))))
  | .geq => K (.p (.bool (decide (b ≤ a))))

def strK (op : BinOp) (a b : List UInt8) (K : AV → Prop) : Prop :=
  match op with
  | .add => a.length + b.length ≤ 9223372036854775807 ∧ K (.p (.str (a ++ b)))
  | .eql => K (.p (.bool (decide (a = b))))
  | .neq => K (.p (.bool (!decide (a = b))))
  | .lss => K (.p (.bool (Op.bytesLess a b)))
  | .leq => K (.p (.bool (Op.bytesLess a b || decide (a = b))))
  | .gtr => K (.p (.bool (!(Op.bytesLess a b || decide (a = b)))))
  | .geq => K (.p (.bool (!Op.bytesLess a b)))
  | _ => False

def tdAt (Γ : Gam) (t : TypeId) (d : TD) : Prop := match Γ t with | some te => te.td = d | none => False

def binK (Γ : Gam) (op : BinOp) (t : TypeId) (x y : AV) (K : AV → Prop) : Prop :=
  match x, y with
  | .p (.int k a), .p (.int k' b) => (match op with
    | .shl => intK .shl k a b K
    | .shr => intK .shr k a b K
    | op => k = k' ∧ intK op k a b K)
  | .p (.str a), .p (.str b) => strK op a b K
  | .p (.bool a), .p (.bool b) => tdAt Γ t .bool ∧ (match op with
    | .eql => K (.p (.bool (a == b)))
    | .neq => K (.p (.bool (a != b)))
    | _ => False)
  | _, _ => False

theorem Z5j (a b : Int) : (a == b) = decide (a = b) := by
  by_cases h : a = b <;> simp [h]
theorem lbeq (a b : List UInt8) : (a == b) = decide (a = b) := by
  rw [Bool.eq_iff_iff]; simp

section
variable {P : Program} {n : Nat} {μ : Nat → Value} {I : Nat → Prop} {w : World}

theorem Z7b {op : BinOp} {k : IntKind} {a b : Int} {K : AV → Prop} (t : TypeId) (h : intK op k a b K) :
    ∃ v cv, (binOp op t (.int k a) (.int k b)).run P w = .ok cv w ∧ VR n μ I w v cv ∧ K v := by
  cases op with
  | add => exact ⟨_, _, by simp [binOp, Op.intArith, h.1.wrap], .mkInt _ _, h.2⟩
  | sub => exact ⟨_, _, by simp [binOp, Op.intArith, h.1.wrap], .mkInt _ _, h.2⟩
  | mul => exact ⟨_, _, by simp [binOp, Op.intArith, h.1.wrap], .mkInt _ _, h.2⟩
  | quo =>
    obtain ⟨⟨h0, h1, hr⟩, hK⟩ := h; have hq : a.tdiv b = a / b := Int.tdiv_eq_ediv_of_nonneg h0; have hle : InR k (a / b) := by
      have h2 : 0 ≤ a / b := Int.ediv_nonneg h0 (by omega); have h3 : a / b ≤ a := Int.ediv_le_self b h0
      cases k <;> simp only [InR] at hr ⊢ <;> omega
    exact ⟨_, _, by simp [binOp, Op.intDiv, show ¬ b = 0 by omega, hq, hle.wrap], .mkInt _ _, hK⟩
  | rem =>
    obtain ⟨⟨h0, h1⟩, hK⟩ := h; have hq : a.tmod b = a % b := Int.tmod_eq_emod_of_nonneg h0; exact ⟨_, _, by simp [binOp, Op.intDiv, show ¬ b = 0 by omega, hq], .mkInt _ _, hK⟩
  | and => exact ⟨_, .int k (Z0s .and k a b), by simp only [binOp, ne_eq, not_true_eq_false, if_false]; rfl, .mkInt _ _, h⟩
  | or => exact ⟨_, .int k (Z0s .or k a b), by simp only [binOp, ne_eq, not_true_eq_false, if_false]; rfl, .mkInt _ _, h⟩
  | xor => exact ⟨_, .int k (Z0s .xor k a b), by simp only [binOp, ne_eq, not_true_eq_false, if_false]; rfl, .mkInt _ _, h⟩
  | andNot => exact ⟨_, .int k (Z0s .andNot k a b), by simp only [binOp, ne_eq, not_true_eq_false, if_false]; rfl, .mkInt _ _, h⟩
  | shl =>
    obtain ⟨⟨h0, h1, h2⟩, hK⟩ := h; have h2 : k.wrap (a * 2 ^ b.toNat) = addW k (a * 2 ^ b.toNat) := h2.wrap; have hn : min b.toNat k.bits = b.toNat := by omega
    exact ⟨_, _, by simp [binOp, Op.shift, show ¬ b < 0 by omega, hn, h2], .mkInt _ _, hK⟩
  | shr =>
    obtain ⟨⟨h0, h1, h2⟩, hK⟩ := h; have hn : min b.toNat k.bits = b.toNat := by omega
    have hd : a.fdiv (2 ^ b.toNat) = a / (2 ^ b.toNat) := Int.fdiv_eq_ediv_of_nonneg _ (by exact Int.le_of_lt (Int.pow_pos (by omega))); exact ⟨_, _, by simp [binOp, Op.shift, show ¬ b < 0 by omega, hn, hd], .mkInt _ _, hK⟩
  | eql => exact ⟨_, .bool (decide (a = b)), by rw [binOp_eql, Z5j]; rfl, .mkBool _, h⟩
  | neq => exact ⟨_, .bool (!decide (a = b)), by rw [binOp_neq, bne, Z5j]; rfl, .mkBool _, h⟩
  | lss => exact ⟨_, .bool (decide (a < b)), by rw [binOp_lss]; rfl, .mkBool _, h⟩
  | leq => exact ⟨_, .bool (decide (a ≤ b)), by rw [binOp_leq]; rfl, .mkBool _, h⟩
  | gtr => exact ⟨_, .bool (decide (b < a)), by rw [binOp_gtr]; rfl, .mkBool _, h⟩
  | geq => exact ⟨_, .bool (decide (b ≤ a)), by rw [binOp_geq]; rfl, .mkBool _, h⟩

theorem Zd4 {op : BinOp} {a b : ByteArray} {K : AV → Prop} (t : TypeId) (h : strK op a.data.toList b.data.toList K) :
    ∃ v cv, (binOp op t (.string a) (.string b)).run P w = .ok cv w ∧ VR n μ I w v cv ∧ K v := by
  have ha := ByteArray.toList_eq a; have hb := ByteArray.toList_eq b; have he : ∀ o, binOp o t (.string a) (.string b) = Op.stringOp o a b := fun o => by cases o <;> rfl
  rw [he]
  cases op with
  | add =>
    have hs : ¬ (((a.size + b.size : Nat) : Int) > IntKind.i64.max) := by
      have h1 : a.size = a.data.toList.length := Array.length_toList.symm; have h2 : b.size = b.data.toList.length := Array.length_toList.symm; rw [IntKind.max_i64]; have := h.1; omega
    exact ⟨_, .string (a ++ b), by simp only [Op.stringOp]; rw [if_neg hs]; rfl, .mkStr (by simp), h.2⟩
  | eql => exact ⟨_, .bool (decide (a.data.toList = b.data.toList)), by simp only [Op.stringOp, ha, hb, lbeq]; rfl, .mkBool _, h⟩
  | neq => exact ⟨_, .bool (!decide (a.data.toList = b.data.toList)), by simp only [Op.stringOp, ha, hb, lbeq]; rfl, .mkBool _, h⟩
  | lss => exact ⟨_, .bool (Op.bytesLess a.data.toList b.data.toList), by simp only [Op.stringOp, ha, hb]; rfl, .mkBool _, h⟩
  | leq => exact ⟨_, .bool (Op.bytesLess a.data.toList b.data.toList || decide (a.data.toList = b.data.toList)), by simp only [Op.stringOp, ha, hb, lbeq]; rfl, .mkBool _, h⟩
  | gtr => exact ⟨_, .bool (!(Op.bytesLess a.data.toList b.data.toList || decide (a.data.toList = b.data.toList))), by simp only [Op.stringOp, ha, hb, lbeq]; rfl, .mkBool _, h⟩
  | geq => exact ⟨_, .bool (!Op.bytesLess a.data.toList b.data.toList), by simp only [Op.stringOp, ha, hb]; rfl, .mkBool _, h⟩
  | _ => exact h.elim

theorem Z1y {op : BinOp} {t : TypeId} {ox oy : Operand} {a b : Value} (h : (∀ cs, a ≠ .agg cs) ∧ a ≠ .nilIface) : eqGuard op t ox oy a b = pure () := by
  cases a <;> first | exact absurd rfl (h.1 _) | exact absurd rfl h.2 | (cases op <;> rfl)

theorem tdAt.und {Γ : Gam} {t : TypeId} {d : TD} (hΓ : Zg P Γ) (h : tdAt Γ t d) : ∃ td, P.underlying t = some td ∧ Z7 d td := by
  unfold tdAt at h
  split at h
  · rename_i te hte
    subst h; obtain ⟨d, h1, h2, _⟩ := (hΓ t te hte).desc; exact ⟨d, h1, h2⟩
  · exact h.elim

theorem Zan {Γ : Gam} (hΓ : Zg P Γ) {op : BinOp} {x y : AV} {a b : Value} {K : AV → Prop} {t : TypeId} (ox oy : Operand) (hx : VR n μ I w x a) (hy : VR n μ I w y b) (h : binK Γ op t x y K) :
    ∃ v cv, (do eqGuard op t ox oy a b; binOp op t a b : Sem Value).run P w = .ok cv w ∧ VR n μ I w v cv ∧ K v := by
  unfold binK at h
  split at h
  · rename_i k a' k' b'
    rw [hx.int_inv, hy.int_inv, Z1y ⟨by simp, by simp⟩]; have go : k = k' ∧ intK op k a' b' K → ∃ v cv, (do pure (); binOp op t (.int k a') (.int k' b') : Sem Value).run P w = .ok cv w ∧ VR n μ I w v cv ∧ K v := by
      rintro ⟨rfl, h2⟩; obtain ⟨v, cv, hr, hv, hK⟩ := Z7b (P := P) (n := n) (μ := μ) (I := I) (w := w) t h2; exact ⟨v, cv, by simpa using hr, hv, hK⟩
    cases op with
    | shl =>
      obtain ⟨v, cv, hr, hv, hK⟩ := Z7b (P := P) (n := n) (μ := μ) (I := I) (w := w) t (show intK .shl k a' b' K from h); have e : binOp .shl t (.int k a') (.int k' b') = binOp .shl t (.int k a') (.int k b') := rfl; exact ⟨v, cv, by rw [e]; simpa using hr, hv, hK⟩
    | shr =>
      obtain ⟨v, cv, hr, hv, hK⟩ := Z7b (P := P) (n := n) (μ := μ) (I := I) (w := w) t (show intK .shr k a' b' K from h); have e : binOp .shr t (.int k a') (.int k' b') = binOp .shr t (.int k a') (.int k b') := rfl; exact ⟨v, cv, by rw [e]; simpa using hr, hv, hK⟩
    | _ => exact go h
  · obtain ⟨sa, rfl, rfl⟩ := hx.str_inv
    obtain ⟨sb, rfl, rfl⟩ := hy.str_inv; rw [Z1y ⟨by simp, by simp⟩]; obtain ⟨v, cv, hr, hv, hK⟩ := Zd4 (P := P) (n := n) (μ := μ) (I := I) (w := w) t h; exact ⟨v, cv, by simpa using hr, hv, hK⟩
  · obtain ⟨ht, h⟩ := h
    obtain ⟨td, hu, hd⟩ := ht.und hΓ; simp only [Z7] at hd; subst hd; rw [hx.bool_inv, hy.bool_inv, Z1y ⟨by simp, by simp⟩]
    cases op with
    | eql => exact ⟨_, _, by simpa using run_eql_bool (P := P) (w := w) t _ _ hu, .mkBool _, h⟩
    | neq => exact ⟨_, _, by rw [Sem.run_bind]; exact run_neq_bool (P := P) (w := w) t _ _ hu, .mkBool _, h⟩
    | _ => exact h.elim
  · exact h.elim
end
end Go.AM
end

section
namespace Go.AM
open Go.RowKit

def AV.ofCell : Value → AV
  | .bool b => .p (.bool b)
  | .int k n => .p (.int k n)
  | .string s => .p (.str s.data.toList)
  | .slice none 0 0 => .full []
  | .agg _ => .junk
  | .tuple _ => .junk
  | _ => .cell
def AV.ofValue : Value → AV
  | .agg cs => .agg (cs.toList.map AV.ofCell)
  | v => AV.ofCell v
def ev (tm : List AV) : Operand → AV
  | .tmp t => tm.getD t .junk
  | .const v => AV.ofValue v
  | .global g => gAV g
  | .func f => .fn f []

section
variable {P : Program} {n : Nat} {μ : Nat → Value} {I : Nat → Prop} {w : World}

theorem VR.ofCell (v : Value) : VR n μ I w (AV.ofCell v) v := by
  unfold AV.ofCell
  split
  · exact .mkBool _
  · exact .mkInt _ _
  · exact .mkStr rfl
  · exact .full [] none (.sl0 none 0 (fun _ => rfl))
  · exact .junk _
  · exact .junk _
  · rename_i h1 h2 h3
    refine .cell _ ?_
    cases v <;> first | rfl | exact absurd rfl (h1 _) | exact absurd rfl (h2 _) | exact absurd rfl (h3 _)

theorem VR.ofValue (v : Value) : VR n μ I w (AV.ofValue v) v := by
  unfold AV.ofValue
  split
  · rename_i cs
    have := VR.agg (n := n) (μ := μ) (I := I) (w := w) (cs.toList.map AV.ofCell) cs.toList (by simp) (fun i hi => by
      simp only [List.length_map] at hi; simp only [List.getD_eq_getElem?_getD, List.getElem?_map, List.getElem?_eq_getElem hi, Option.map_some, Option.getD_some]; exact .ofCell _)
    simpa using this
  · exact .ofCell v

theorem VR.ev {tm : List AV} {a : Act} (hL : Laid I w) (h : ∀ i, i < tm.length → VR n μ I w (tm.getD i .junk) (a.tmps.getD i undef)) (x : Operand) : VR n μ I w (ev tm x) (a.eval x) := by
  cases x with
  | tmp t =>
    by_cases ht : t < tm.length
    · exact h t ht
    · simp only [AM.ev, Act.eval, List.getD_eq_getElem?_getD, List.getElem?_eq_none (Nat.le_of_not_lt ht), Option.getD_none]
      exact .junk _
  | const v => exact .ofValue v
  | global g => exact .gAV hL g
  | func f => exact .fn f [] [] rfl (fun i hi => by simp at hi)

/-! slices: as handles -/
def AV.list : AV → Option (List PV)
  | .p (.sl l) => some l
  | .full l => some l
  | .nil => some []
  | _ => none

theorem VR.list_inv {x : AV} {v : Value} {l : List PV} (hx : VR n μ I w x v) (h : x.list = some l) : PR I w (.sl l) v := by
  cases hx with
  | p x v h' => cases x with
    | sl l' => simp only [AV.list] at h; injection h with h; subst h; exact h'
    | _ => simp [AV.list] at h
  | full l' a h' => simp only [AV.list] at h; injection h with h; subst h; exact h'
  | nil => simp only [AV.list] at h; injection h with h; subst h; exact .sl0 none 0 (fun _ => rfl)
  | _ => simp [AV.list] at h

theorem PR.sl_len {v : Value} {l : List PV} (h : PR I w (.sl l) v) : ∃ a c, v = .slice a l.length c ∧ l.length ≤ c ∧ (a = none → c = 0) := by
  cases h with
  | sl0 a cap ha => exact ⟨a, cap, rfl, Nat.zero_le _, ha⟩
  | sl l s g off cap cur E fz vs hl hI hw hc hs hv hr => exact ⟨_, cap, rfl, hc, by simp⟩

theorem PR.sl_at {v : Value} {l : List PV} (h : PR I w (.sl l) v) {i : Nat} (hi : i < l.length) :
    ∃ g off c s, v = .slice (some ⟨g, off, none⟩) l.length c ∧ (∀ x ∈ l, x.cells.length = s) ∧
      VR n μ I w (.ipt (l.getD i default).cells) (.pointer (some ⟨g, off + i * s, none⟩)) := by
  cases h with
  | sl0 a cap ha => simp at hi
  | sl l s g off cap cur E fz vs hl hI hw hc hs hv hr =>
    refine ⟨g, off, cap, s, rfl, hs, ?_⟩
    have hlen : (l.getD i default).cells.length = s := hs _ (by
      rw [List.getD_eq_getElem?_getD, List.getElem?_eq_getElem hi, Option.getD_some]; exact List.getElem_mem hi)
    have hb : ∀ j, j < s → i * s + j < l.length * s := fun j hj => by
      have h1 : (i + 1) * s ≤ l.length * s := Nat.mul_le_mul_right _ hi; rw [Nat.add_mul, Nat.one_mul] at h1; omega
    refine .ipt _ g _ cur E fz (fun j => vs (i * s + j)) hI hw (fun j hj => ?_) (fun j hj => hr i j hi (by omega)); rw [hlen] at hj; rw [Nat.add_assoc]; exact hv _ (hb j hj)

/-! len -/
def lenK (Γ : Gam) (t : TypeId) (x : AV) (h : List AObj) (K : AV → Prop) : Prop :=
  match x with
  | .p (.str s) => tdAt Γ t .str ∧ K (.p (.int .i64 s.length))
  | .p (.sl l) => (∃ e, tdAt Γ t (.slice e)) ∧ K (.p (.int .i64 l.length))
  | .full l => (∃ e, tdAt Γ t (.slice e)) ∧ K (.p (.int .i64 l.length))
  | .own _ n => (∃ e, tdAt Γ t (.slice e)) ∧ K (.p (.int .i64 n))
  | .map b => (∃ k e, tdAt Γ t (.map k e)) ∧ (match h[b]? with | some (.mp es) => K (.p (.int .i64 es.length)) | _ => False)
  | _ => False

theorem Zif {Γ : Gam} (hΓ : Zg P Γ) {t ty : TypeId} {x : AV} {v : Value} {h : List AObj} {ob : Nat → Option Nat} {K : AV → Prop} (hx : VR n μ I w x v)
    (hobj : ∀ b o, h[b]? = some o → ObjOK n μ I ob w b o) (hk : lenK Γ t x h K) :
    ∃ a cv, (Builtin.len_ #[t] ty #[v]).run P w = .ok cv w ∧ VR n μ I w a cv ∧ K a := by
  unfold lenK at hk
  split at hk
  · obtain ⟨ht, hk⟩ := hk
    obtain ⟨td, hu, hd⟩ := ht.und hΓ; simp only [Z7] at hd; subst hd; obtain ⟨b, rfl, rfl⟩ := hx.str_inv; exact ⟨_, _, run_len_string (P := P) (w := w) t ty b hu, by
      have : (b.size : Int) = (b.data.toList.length : Int) := by rw [Array.length_toList]; rfl
      rw [goInt, this]; exact .mkInt _ _, hk⟩
  · obtain ⟨⟨e, ht⟩, hk⟩ := hk
    obtain ⟨td, hu, hd⟩ := ht.und hΓ; simp only [Z7] at hd; subst hd; obtain ⟨a, c, rfl, _, _⟩ := (hx.list_inv (l := _) rfl).sl_len; exact ⟨_, _, by simp [Builtin.len_, run_underlying hu]; rfl, .mkInt _ _, hk⟩
  · obtain ⟨⟨e, ht⟩, hk⟩ := hk
    obtain ⟨td, hu, hd⟩ := ht.und hΓ; simp only [Z7] at hd; subst hd; obtain ⟨a, c, rfl, _, _⟩ := (hx.list_inv (l := _) rfl).sl_len; exact ⟨_, _, by simp [Builtin.len_, run_underlying hu]; rfl, .mkInt _ _, hk⟩
  · obtain ⟨⟨e, ht⟩, hk⟩ := hk
    obtain ⟨td, hu, hd⟩ := ht.und hΓ; simp only [Z7] at hd; subst hd
    cases hx with
    | own b k a c hb h => exact ⟨_, _, by simp [Builtin.len_, run_underlying hu]; rfl, .mkInt _ _, hk⟩
  · obtain ⟨⟨k, e, ht⟩, hk⟩ := hk
    obtain ⟨td, hu, hd⟩ := ht.und hΓ; simp only [Z7] at hd; subst hd
    split at hk
    · rename_i es hes
      cases hx with
      | map b r hb hm =>
        obtain ⟨r', ents, _, hm', hw, hl, _⟩ := hobj _ _ hes; rw [hm] at hm'; injection hm' with hm'; injection hm' with hm'; subst hm'
        exact ⟨_, .int .i64 ents.size, by simp [Builtin.len_, run_underlying hu, getObj, Sem.run, hw, goInt], by rw [← hl]; exact .mkInt _ _, hk⟩
    · exact hk.elim
  · exact hk.elim

/-! extract, pick, unary -/
def extK (x : AV) (i : Nat) (K : AV → Prop) : Prop :=
  match x with
  | .tup l => i < l.length ∧ K (l.getD i .junk)
  | _ => False
theorem Ziq {x : AV} {i : Nat} {v : Value} {K : AV → Prop} (hx : VR n μ I w x v) (hk : extK x i K) :
    ∃ a cv, (Instr.extract v i).run P w = .ok cv w ∧ VR n μ I w a cv ∧ K a := by
  unfold extK at hk
  split at hk
  · cases hx with
    | tup l cs hl hr =>
      refine ⟨_, cs.getD i undef, ?_, hr i hk.1, hk.2⟩; have hi : i < cs.length := by have := hk.1; omega
      simp [Instr.extract, List.getElem?_eq_getElem hi, List.getD_eq_getElem?_getD]
  · exact hk.elim

def Z28 (c x y : AV) (K : AV → Prop) : Prop :=
  match c with
  | .p (.bool b) => (match x, y with
    | .p (.bool p), .p (.bool q) => K (.p (.bool (bif b then p else q)))
    | x, y => (b = true → K x) ∧ (b = false → K y))
  | _ => False
theorem Zdn {c x y : AV} {vc vx vy : Value} {K : AV → Prop} (hc : VR n μ I w c vc) (hx : VR n μ I w x vx) (hy : VR n μ I w y vy) (hk : Z28 c x y K) :
    ∃ a cv, (do pure (.value (if ← asBool vc then vx else vy)) : Sem Next).run P w = .ok (.value cv) w ∧ VR n μ I w a cv ∧ K a := by
  unfold Z28 at hk
  split at hk
  · rw [hc.bool_inv]
    rename_i b
    split at hk
    · rw [hx.bool_inv, hy.bool_inv]
      exact ⟨_, _, by simp [asBool]; rfl, by cases b <;> exact .mkBool _, hk⟩
    · cases b with
      | true => exact ⟨_, _, by simp [asBool], hx, hk.1 rfl⟩
      | false => exact ⟨_, _, by simp [asBool], hy, hk.2 rfl⟩
  · exact hk.elim

def unK (op : UnOp) (x : AV) (K : AV → Prop) : Prop :=
  match op, x with
  | .not, .p (.bool b) => K (.p (.bool (!b)))
  | .neg, .p (.int k a) => InR k (-a) ∧ K (.p (.int k (-a)))
  | _, _ => False
theorem un_ok {op : UnOp} {x : AV} {v : Value} {K : AV → Prop} (hx : VR n μ I w x v) (hk : unK op x K) :
    ∃ a cv, (Op.unary op v).run P w = .ok cv w ∧ VR n μ I w a cv ∧ K a := by
  unfold unK at hk
  split at hk
  · rw [hx.bool_inv]; exact ⟨_, _, by simp [Op.unary], .mkBool _, hk⟩
  · rw [hx.int_inv]
    have h := hk.1.wrap; exact ⟨_, _, by simp [Op.unary, Op.intArith, h], .mkInt _ _, hk.2⟩
  · exact hk.elim

/-! conversions between integers, and between names of strings -/
def Z1q (Γ : Gam) (src dst : TypeId) (x : AV) (K : AV → Prop) : Prop :=
  match x with
  | .p (.int _ a) => (Γ src).isSome = true ∧ (match Γ dst with | some te => (match te.td with | .int k' => K (.p (.int k' (k'.wrap a))) | _ => False) | none => False)
  | .p (.str s) => tdAt Γ src .str ∧ tdAt Γ dst .str ∧ K (.p (.str s))
  | _ => False
theorem Zei {Γ : Gam} (hΓ : Zg P Γ) {src dst : TypeId} {x : AV} {v : Value} {K : AV → Prop} (hx : VR n μ I w x v) (hk : Z1q Γ src dst x K) :
    ∃ a cv, (convert src dst v).run P w = .ok cv w ∧ VR n μ I w a cv ∧ K a := by
  unfold Z1q at hk
  split at hk
  · obtain ⟨hs, hk⟩ := hk
    obtain ⟨te, hs⟩ := Option.isSome_iff_exists.1 hs; obtain ⟨d, hu, _, _⟩ := (hΓ _ _ hs).desc
    split at hk
    · rename_i te' hd
      obtain ⟨d', hu', hd', _⟩ := (hΓ _ _ hd).desc
      split at hk
      · rename_i k' hk'
        rw [hk'] at hd'; simp only [Z7] at hd'; subst hd'; rw [hx.int_inv]; exact ⟨_, _, by simp [convert, run_underlying hu, run_underlying hu', Conv.intToInt], .mkInt _ _, hk⟩
      · exact hk.elim
    · exact hk.elim
  · obtain ⟨hs, hd, hk⟩ := hk
    obtain ⟨d, hu, hs⟩ := hs.und hΓ; obtain ⟨d', hu', hd⟩ := hd.und hΓ; simp only [Z7] at hs hd; subst hs hd; obtain ⟨b, rfl, rfl⟩ := hx.str_inv; exact ⟨_, _, by simp [convert, run_underlying hu, run_underlying hu'], .mkStr rfl, hk⟩
  · exact hk.elim
end
end Go.AM
end

section
namespace Go.AM
open Go.RowKit
section
variable {P : Program} {n : Nat} {μ : Nat → Value} {I : Nat → Prop} {w : World}

def tyAt (Γ : Gam) (t : TypeId) (f : TE → Prop) : Prop := match Γ t with | some te => f te | none => False
theorem tyAt.get {Γ : Gam} {t : TypeId} {f : TE → Prop} (h : tyAt Γ t f) : ∃ te, Γ t = some te ∧ f te := by
  unfold tyAt at h; split at h
  · exact ⟨_, ‹_›, h⟩
  · exact h.elim

/-! string index -/
def idxK (Γ : Gam) (t : TypeId) (x i : AV) (K : AV → Prop) : Prop :=
  match x, i with
  | .p (.str s), .p (.int _ j) => tdAt Γ t .str ∧ (0 ≤ j ∧ j < s.length) ∧ K (.p (.int .u8 (s.getD j.toNat 0).toNat))
  | .agg l, .p (.int _ j) => tyAt Γ t fun te => (match te.td with
    | .array m e => tyAt Γ e fun ee => (0 ≤ j ∧ j < m) ∧ (if ee.isAgg then j.toNat * ee.cells + ee.cells ≤ l.length ∧ K (.agg ((l.drop (j.toNat * ee.cells)).take ee.cells)) else j.toNat * ee.cells < l.length ∧ K (l.getD (j.toNat * ee.cells) .junk))
    | _ => False)
  | _, _ => False
theorem Zij {Γ : Gam} (hΓ : Zg P Γ) {t : TypeId} {x i : AV} {v vi : Value} {K : AV → Prop} (hx : VR n μ I w x v) (hi : VR n μ I w i vi) (hk : idxK Γ t x i K) :
    ∃ a cv, (Instr.index t v vi).run P w = .ok cv w ∧ VR n μ I w a cv ∧ K a := by
  unfold idxK at hk
  split at hk
  · rename_i s k j
    obtain ⟨ht, hj, hk⟩ := hk; obtain ⟨td, hu, hd⟩ := ht.und hΓ; simp only [Z7] at hd; subst hd; obtain ⟨b, rfl, rfl⟩ := hx.str_inv; rw [hi.int_inv]; have hl : b.data.toList.length = b.size := Array.length_toList; have hj' : 0 ≤ j ∧ j < b.size := by omega
    refine ⟨_, _, by rw [run_index_string (P := P) (w := w) t b k j hu, dif_pos hj'], ?_, hk⟩; have h2 : j.toNat < b.data.toList.length := by omega
    rw [List.getD_eq_getElem?_getD, List.getElem?_eq_getElem h2, Option.getD_some]; exact .mkInt _ _
  · rename_i l k j
    obtain ⟨te, ht, hk⟩ := hk.get
    split at hk
    · rename_i m e he
      obtain ⟨ee, hee, hj, hk⟩ := hk.get; obtain ⟨d, hu, hd, _⟩ := (hΓ _ _ ht).desc; rw [he] at hd; simp only [Z7] at hd; subst hd; obtain ⟨de, hue, _, hage⟩ := (hΓ _ _ hee).desc; obtain ⟨inf, hinf, hsz, _⟩ := (hΓ _ _ hee).info; obtain ⟨cs, rfl, hl, hr⟩ := hx.agg_inv; rw [hi.int_inv]
      split at hk
      · rename_i hA
        have hagd : (isAgg e).run P w = .ok true w := by
          simp only [isAgg, Sem.run_bind, run_underlying hue, Result.andThen]; rw [hage] at hA
          cases de <;> simp_all [Z01]
        refine ⟨_, .agg ((cs.drop (j.toNat * ee.cells)).take ee.cells).toArray, ?_, .agg _ _ (by simp [hl]) (fun i hi => ?_), hk.2⟩
        · simp [Instr.index, run_underlying hu, asIntOf, hj, part, hagd, sizeOf, typeInfo, hinf, hsz]
        · have hi' : i < ee.cells := by simp only [List.length_take] at hi; omega
          have := hr (j.toNat * ee.cells + i) (by have := hk.1; omega)
          simpa [List.getD_eq_getElem?_getD, List.getElem?_take, hi', List.getElem?_drop] using this
      · rename_i hA
        have hagd : (isAgg e).run P w = .ok false w := by
          simp only [isAgg, Sem.run_bind, run_underlying hue, Result.andThen]; rw [hage] at hA
          cases de <;> simp_all [Z01]
        have hlt : j.toNat * ee.cells < cs.length := by have := hk.1; omega
        refine ⟨_, cs.getD (j.toNat * ee.cells) undef, ?_, hr _ hk.1, hk.2⟩; simp [Instr.index, run_underlying hu, asIntOf, hj, part, hagd, sizeOf, typeInfo, hinf, hsz, List.getElem?_eq_getElem hlt, List.getD_eq_getElem?_getD]
    · exact hk.elim
  · exact hk.elim

/-! the address of an element -/
def iaA (Γ : Gam) (t : TypeId) (b off : Nat) (j : Int) (K : AV → Prop) : Prop := tyAt Γ t fun te => (match te.td with
  | .array m e => tyAt Γ e fun ee => (0 ≤ j ∧ j < m) ∧ K (.ptr b (off + j.toNat * ee.cells))
  | _ => False)
def iaT (Γ : Gam) (t : TypeId) (l : List PV) (j : Int) (K : AV → Prop) : Prop :=
  tyAt Γ t fun te => (match te.td with
    | .array m e => tyAt Γ e fun ee => (0 ≤ j ∧ j < m) ∧ K (.ipt (l.drop (j.toNat * ee.cells)))
    | _ => False)
def iaK (Γ : Gam) (h : List AObj) (t : TypeId) (x i : AV) (K : AV → Prop) : Prop :=
  match i with
  | .p (.int _ j) => (match x with
    | .ptr b off => iaA Γ t b off j K
    | .ipt l => iaT Γ t l j K
    | x => tyAt Γ t fun te => (match te.td with
      | .slice e => tyAt Γ e fun ee => (match x with
        | .p (.sl l) => (0 ≤ j ∧ j < l.length) ∧ (l.getD j.toNat default).cells.length = ee.cells ∧ K (.ipt (l.getD j.toNat default).cells)
        | .full l => (0 ≤ j ∧ j < l.length) ∧ (l.getD j.toNat default).cells.length = ee.cells ∧ K (.ipt (l.getD j.toNat default).cells)
        | .own b m => (0 ≤ j ∧ j < m) ∧ (match h[b]? with | some (.row _ s _ _) => s = ee.cells ∧ K (.eptr b s j.toNat 0) | _ => False)
        | _ => False)
      | _ => False))
  | _ => False

theorem PR.ia {v : Value} {l : List PV} {Γ : Gam} {te : TE} {t e : TypeId} (hΓ : Zg P Γ) (hu : P.underlying t = some (.slice e)) (he : Γ e = some te) {k : IntKind} {j : Int} (h : PR I w (.sl l) v)
    (hj : 0 ≤ j ∧ j < l.length) (hs : (l.getD j.toNat default).cells.length = te.cells) :
    ∃ cv, (Instr.indexAt t v (.int k j)).run P w = .ok cv w ∧ VR n μ I w (.ipt (l.getD j.toNat default).cells) cv := by
  obtain ⟨g, off, c, s, rfl, hall, hv⟩ := h.sl_at (n := n) (μ := μ) (i := j.toNat) (by omega); obtain ⟨i, hi, hsz, _⟩ := (hΓ _ _ he).info; have hs' : s = te.cells := by
    rw [← hs]; refine (hall _ ?_).symm; rw [List.getD_eq_getElem?_getD, List.getElem?_eq_getElem (by omega), Option.getD_some]; exact List.getElem_mem _
  have hel : P.elem t = e := by simp [Program.elem, hu]
  refine ⟨_, ?_, hv⟩; rw [run_indexAt_slice (P := P) w t _ _ _ _ _ (by rw [hel]; exact hu), if_pos hj]; simp [sizeOf, typeInfo, hel, hi, hsz, hs', Addr.add_lit]

theorem ia_ok {Γ : Gam} (hΓ : Zg P Γ) {t : TypeId} {x i : AV} {v vi : Value} {h : List AObj} {ob : Nat → Option Nat} {K : AV → Prop} (hx : VR n μ I w x v) (hi : VR n μ I w i vi)
    (hobj : ∀ b o, h[b]? = some o → ObjOK n μ I ob w b o) (hk : iaK Γ h t x i K) :
    ∃ a cv, (Instr.indexAt t v vi).run P w = .ok cv w ∧ VR n μ I w a cv ∧ K a := by
  unfold iaK at hk
  split at hk
  · rename_i k j
    split at hk
    · rename_i b off
      unfold iaA at hk; obtain ⟨te, ht, hk⟩ := hk.get
      split at hk
      · rename_i m e he
        obtain ⟨ee, hee, hj, hk⟩ := hk.get; obtain ⟨d, hu, hd, _⟩ := (hΓ _ _ ht).desc; rw [he] at hd; simp only [Z7] at hd; subst hd; obtain ⟨inf, hinf, hsz, _⟩ := (hΓ _ _ hee).info; rw [hi.int_inv]; obtain ⟨g, rfl, hb, hg⟩ := hx.ptr_inv; refine ⟨_, .pointer (some ⟨g, off + j.toNat * ee.cells, none⟩), ?_, .ptr _ _ g hb hg, hk⟩; simp [Instr.indexAt, run_underlying hu, asIntOf, hj, Instr.sureAddr, sizeOf, typeInfo, hinf, hsz, Addr.add_lit]
      · exact hk.elim
    · rename_i l
      unfold iaT at hk; obtain ⟨te, ht, hk⟩ := hk.get
      split at hk
      · rename_i m e he
        obtain ⟨ee, hee, hj, hk⟩ := hk.get; obtain ⟨d, hu, hd, _⟩ := (hΓ _ _ ht).desc; rw [he] at hd; simp only [Z7] at hd; subst hd; obtain ⟨inf, hinf, hsz, _⟩ := (hΓ _ _ hee).info; rw [hi.int_inv]; obtain ⟨g, off, cur, E, fz, vs, rfl, hI, hw, hv, hr⟩ := hx.ipt_inv; refine ⟨_, .pointer (some ⟨g, off + j.toNat * ee.cells, none⟩), ?_, .ipt _ g _ cur E fz (fun q => vs (j.toNat * ee.cells + q)) hI hw (fun q hq => ?_) (fun q hq => ?_), hk⟩
        · simp [Instr.indexAt, run_underlying hu, asIntOf, hj, Instr.sureAddr, sizeOf, typeInfo, hinf, hsz, Addr.add_lit]
        · rw [List.length_drop] at hq
          rw [Nat.add_assoc]; exact hv _ (by omega)
        · rw [List.length_drop] at hq
          have := hr (j.toNat * ee.cells + q) (by omega); rw [List.getD_eq_getElem?_getD] at this ⊢
          rwa [List.getElem?_drop]
      · exact hk.elim
    obtain ⟨te, ht, hk⟩ := hk.get
    split at hk
    · rename_i e he
      obtain ⟨ee, hee, hk⟩ := hk.get; obtain ⟨d, hu, hd, _⟩ := (hΓ _ _ ht).desc; rw [he] at hd; simp only [Z7] at hd; subst hd; rw [hi.int_inv]
      split at hk
      · obtain ⟨hj, hs, hk⟩ := hk
        obtain ⟨cv, hr, hv⟩ := (hx.list_inv (l := _) rfl).ia (n := n) (μ := μ) (k := k) hΓ hu hee hj hs; exact ⟨_, cv, hr, hv, hk⟩
      · obtain ⟨hj, hs, hk⟩ := hk
        obtain ⟨cv, hr, hv⟩ := (hx.list_inv (l := _) rfl).ia (n := n) (μ := μ) (k := k) hΓ hu hee hj hs; exact ⟨_, cv, hr, hv, hk⟩
      · obtain ⟨hj, hk⟩ := hk
        split at hk
        · rename_i b m _ E s xs rk hb
          obtain ⟨hs, hk⟩ := hk; obtain ⟨_, hrow⟩ := hobj _ _ hb; rcases hrow with ⟨g, hob, off, cap, cur, fr, vs, hμ, _⟩ | ⟨_, _, a', hμ, hpr⟩
          · obtain ⟨a, c, rfl, hbn, hbm⟩ := hx.own_inv
            rw [hμ] at hbm; injection hbm with h1 h2 h3; subst h1 h2 h3
            obtain ⟨inf, hinf, hsz, _⟩ := (hΓ _ _ hee).info; have hel : P.elem t = e := by simp [Program.elem, hu]
            refine ⟨_, .pointer (some ⟨g, off + (j.toNat * s + 0), none⟩), ?_, .eptr _ s j.toNat 0 g _ _ _ hbn hμ, hk⟩; rw [run_indexAt_slice (P := P) w t _ _ _ _ _ (by rw [hel]; exact hu), if_pos hj]; simp [sizeOf, typeInfo, hel, hinf, hsz, hs, Addr.add_lit]
          · obtain ⟨a, c, rfl, hbn, hbm⟩ := hx.own_inv
            have hbm' := hbm; rw [hμ] at hbm; injection hbm with h1 h2 h3; subst h1 h2 h3
            obtain ⟨g, off, c, s2, e4, _, _⟩ := hpr.sl_at (n := n) (μ := μ) (i := j.toNat) (by omega); rw [hμ] at e4; injection e4 with e4 _ _; subst e4
            obtain ⟨inf, hinf, hsz, _⟩ := (hΓ _ _ hee).info; have hel : P.elem t = e := by simp [Program.elem, hu]
            refine ⟨_, .pointer (some ⟨g, off + (j.toNat * s + 0), none⟩), ?_, .eptr _ s j.toNat 0 g _ _ _ hbn hμ, hk⟩; rw [run_indexAt_slice (P := P) w t _ _ _ _ _ (by rw [hel]; exact hu), if_pos hj]; simp [sizeOf, typeInfo, hel, hinf, hsz, hs, Addr.add_lit]
        · exact hk.elim
      · exact hk.elim
    · exact hk.elim
  · exact hk.elim

/-! the address of a field -/
def fldOff (Γ : Gam) (t : TypeId) (f : Nat) (K : Nat → TE → Prop) : Prop :=
  tyAt Γ t fun te => (match te.td with
    | .struct fs => (match fs[f]? with
      | some (o, ft) => tyAt Γ ft fun fe => K o fe
      | none => False)
    | _ => False)

theorem fldOff.get {Γ : Gam} (hΓ : Zg P Γ) {t : TypeId} {f : Nat} {K : Nat → TE → Prop} (h : fldOff Γ t f K) :
    ∃ (a : Array Field) (fl : Field) (fe : TE) (inf : TypeInfo) (d : TypeDesc), P.underlying t = some (.struct a) ∧ a[f]? = some fl ∧ P.info? fl.type = some inf ∧ inf.size = fe.cells ∧
      P.underlying fl.type = some d ∧ fe.isAgg = Z01 d ∧ K fl.offset fe := by
  unfold fldOff at h; obtain ⟨te, ht, h⟩ := h.get
  split at h
  · rename_i fs hfs
    obtain ⟨d, hu, hd, _⟩ := (hΓ _ _ ht).desc; rw [hfs] at hd; simp only [Z7] at hd; obtain ⟨a, rfl, ha⟩ := hd
    split at h
    · rename_i o ft hft
      obtain ⟨fe, hfe, hK⟩ := h.get; rw [← ha] at hft; simp only [List.getElem?_map] at hft
      cases hl : a.toList[f]? with
      | none => rw [hl] at hft; simp at hft
      | some fl =>
        rw [hl] at hft; simp only [Option.map_some, Option.some.injEq, Prod.mk.injEq] at hft; obtain ⟨rfl, rfl⟩ := hft; obtain ⟨inf, hinf, hsz, _⟩ := (hΓ _ _ hfe).info; obtain ⟨d', hu', _, hag⟩ := (hΓ _ _ hfe).desc; exact ⟨a, fl, fe, inf, d', hu, by simpa using hl, hinf, hsz, hu', hag, hK⟩
    · exact h.elim
  · exact h.elim

def faK (Γ : Gam) (t : TypeId) (x : AV) (f : Nat) (K : AV → Prop) : Prop :=
  fldOff Γ t f fun o fe => fe.cells ≠ 0 ∧ (match x with
    | .ptr b off => K (.ptr b (off + o))
    | .eptr b s i g => K (.eptr b s i (g + o))
    | .ipt l => o ≤ l.length ∧ K (.ipt (l.drop o))
    | _ => False)

theorem fa_ok {Γ : Gam} (hΓ : Zg P Γ) {t : TypeId} {x : AV} {f : Nat} {v : Value} {K : AV → Prop} (hx : VR n μ I w x v) (hk : faK Γ t x f K) :
    ∃ a cv, (Instr.fieldAt t v f).run P w = .ok cv w ∧ VR n μ I w a cv ∧ K a := by
  unfold faK at hk; obtain ⟨a, fl, fe, inf, d, hu, hf, hinf, hsz, _, _, hne, hk⟩ := fldOff.get hΓ hk; have hrun : ∀ g off, (Instr.fieldAt t (.pointer (some ⟨g, off, none⟩)) f).run P w = .ok (.pointer (some ⟨g, off + fl.offset, none⟩)) w := by
    intro g off; simp [Instr.fieldAt, run_underlying hu, hf, Instr.sureAddr, fieldPlace, sizeOf, typeInfo, hinf, hsz, hne, Addr.add_lit]
  split at hk
  · obtain ⟨g, rfl, hb, h⟩ := hx.ptr_inv
    exact ⟨_, _, hrun g _, .ptr _ _ g hb h, hk⟩
  · obtain ⟨g, off, k, c, rfl, hb, h⟩ := hx.eptr_inv
    exact ⟨_, _, by rw [hrun g _, Nat.add_assoc, Nat.add_assoc], .eptr _ _ _ _ g off k c hb h, hk⟩
  · rename_i l
    obtain ⟨g, off, cur, E, fz, vs, rfl, hI, hw, hv, hr⟩ := hx.ipt_inv; refine ⟨_, _, hrun g off, .ipt _ g _ cur E fz (fun j => vs (fl.offset + j)) hI hw (fun j hj => ?_) (fun j hj => ?_), hk.2⟩
    · simp only [List.length_drop] at hj
      rw [Nat.add_assoc]; exact hv _ (by omega)
    · simp only [List.length_drop] at hj
      have := hr (fl.offset + j) (by omega)
      simpa [List.getD_eq_getElem?_getD, List.getElem?_drop] using this
  · exact hk.elim

/-! load -/
def Z1k (Γ : Gam) (h : List AObj) (t : TypeId) (x : AV) (K : AV → Prop) : Prop :=
  tyAt Γ t fun te =>
    match x with
    | .ipt l => if te.isAgg then te.cells ≤ l.length ∧ K (.p (.agg (l.take te.cells))) else 0 < l.length ∧ K (.p (l.getD 0 default))
    | .ptr b off => (match h[b]? with
      | some (.box cs) => if te.isAgg then off + te.cells ≤ cs.length ∧ K (.agg ((cs.drop off).take te.cells)) else off < cs.length ∧ K (cs.getD off .junk)
      | _ => False)
    | .eptr b s i f => (match h[b]? with
      | some (.row _ s' xs _) => s' = s ∧ i < xs.length ∧
        (if te.isAgg then f + te.cells ≤ s ∧ K (.p (.agg ((((xs.getD i default).cells).drop f).take te.cells))) else f < s ∧ K (.p (((xs.getD i default).cells).getD f default)))
      | _ => False)
    | _ => False

theorem Z0g {t : TypeId} {d : TypeDesc} {a : Addr} {v : Value} (hu : P.underlying t = some d) (hd : Z01 d = false)
    (hc : w.cell? a = some v) : (Instr.loadAt t (.pointer (some a))).run P w = .ok v w := by
  have hag : (isAgg t).run P w = .ok false w := by
    simp only [isAgg, Sem.run_bind, run_underlying hu, Result.andThen]
    cases d <;> simp_all [Z01]
  simp [Instr.loadAt, Instr.sureAddr, loadVar, hag, hc]

theorem Z0h {t : TypeId} {d : TypeDesc} {i : TypeInfo} {a : Addr} {cs : List Value} (hu : P.underlying t = some d) (hd : Z01 d = true)
    (hi : P.info? t = some i) (hl : cs.length = i.size) (hc : ∀ j v, cs[j]? = some v → w.cell? (a.add j) = some v) : (Instr.loadAt t (.pointer (some a))).run P w = .ok (.agg cs.toArray) w := by
  have hag : (isAgg t).run P w = .ok true w := by
    simp only [isAgg, Sem.run_bind, run_underlying hu, Result.andThen]
    cases d <;> simp_all [Z01]
  have hlc := run_loadCells_list (P := P) w a cs hc; rw [hl] at hlc; simp [Instr.loadAt, Instr.sureAddr, loadVar, hag, sizeOf, typeInfo, hi, hlc]

theorem Z1o {l : List PV} {s : Nat} (hs : ∀ x ∈ l, x.cells.length = s) : (Zk l).length = l.length * s := by
  induction l with
  | nil => simp [Zk]
  | cons a l ih =>
    have h1 := hs a (by simp); have h2 := ih (fun x hx => hs x (by simp [hx])); simp only [Zk, List.flatMap_cons, List.length_append, List.length_cons] at h2 ⊢; rw [h1, h2, Nat.add_mul, Nat.one_mul, Nat.add_comm]

theorem Z0o {l : List PV} {s : Nat} (hs : ∀ x ∈ l, x.cells.length = s) {i j : Nat} (hi : i < l.length) (hj : j < s) :
    (Zk l).getD (i * s + j) default = ((l.getD i default).cells).getD j default := by
  induction l generalizing i with
  | nil => simp at hi
  | cons a l ih =>
    have h1 := hs a (by simp)
    cases i with
    | zero =>
      simp only [Zk, List.flatMap_cons, Nat.zero_mul, Nat.zero_add, List.getD_eq_getElem?_getD]; rw [List.getElem?_append_left (by omega)]; rfl
    | succ i =>
      have h2 := ih (fun x hx => hs x (by simp [hx])) (i := i) (by simpa using hi); simp only [Zk, List.flatMap_cons, List.getD_eq_getElem?_getD] at h2 ⊢; rw [List.getElem?_append_right (by rw [h1, Nat.add_mul]; omega), h1, show (i + 1) * s + j - s = i * s + j by rw [Nat.add_mul]; omega]
      simpa using h2

theorem Z7e {α : Type} {l : List α} {i : Nat} {d : α} (h : i < l.length) : l[i]? = some (l.getD i d) := by
  simp [List.getD_eq_getElem?_getD, List.getElem?_eq_getElem h]

theorem Z9x {Γ : Gam} (hΓ : Zg P Γ) {t : TypeId} {x : AV} {v : Value} {h : List AObj} {ob : Nat → Option Nat} {K : AV → Prop} (hx : VR n μ I w x v)
    (hobj : ∀ b o, h[b]? = some o → ObjOK n μ I ob w b o) (hk : Z1k Γ h t x K) :
    ∃ a cv, (Instr.loadAt t v).run P w = .ok cv w ∧ VR n μ I w a cv ∧ K a := by
  unfold Z1k at hk; obtain ⟨te, ht, hk⟩ := hk.get; obtain ⟨d, hu, _, hag⟩ := (hΓ _ _ ht).desc; obtain ⟨inf, hinf, hsz, _⟩ := (hΓ _ _ ht).info; have hagT : te.isAgg = true → Z01 d = true := fun h => hag ▸ h
  have hagF : ¬ te.isAgg = true → Z01 d = false := fun h => by rw [← hag]; simpa using h
  split at hk
  · rename_i l _
    obtain ⟨g, off, cur, E, fz, vs, rfl, hI, hw, hv, hr⟩ := hx.ipt_inv; have hcell : ∀ j, j < l.length → w.cell? ⟨g, off + j, none⟩ = some (vs j) := fun j hj => by rw [cell_of_row w g _ cur E fz hw]; exact hv j hj
    split at hk
    · rename_i hisA
      refine ⟨_, _, Z0h (cs := (List.range te.cells).map vs) hu (hagT hisA) hinf (by simp [hsz]) (fun j v hj => ?_), ?_, hk.2⟩
      · have hjl : j < te.cells := by
          have := (List.getElem?_eq_some_iff.1 hj).1; simpa using this
        simp only [List.getElem?_map, List.getElem?_range hjl, Option.map_some, Option.some.injEq] at hj; rw [Addr.add_lit, ← hj]; exact hcell j (by have := hk.1; omega)
      · refine .p _ _ (.agg _ _ (by simp only [List.length_take, List.length_map, List.length_range]; have := hk.1; omega) (fun i hi => ?_))
        have hi' : i < te.cells := by simp only [List.length_take] at hi; omega
        have := hr i (by have := hk.1; omega)
        simpa [List.getD_eq_getElem?_getD, List.getElem?_take, hi', List.getElem?_range hi'] using this
    · rename_i hisA
      have := hcell 0 hk.1; exact ⟨_, _, Z0g hu (hagF hisA) (by simpa using this), .p _ _ (hr 0 hk.1), hk.2⟩
  · rename_i b off _
    split at hk
    · rename_i cs hb
      obtain ⟨g, T, cur, hob, hμ, hw, hl, hcs⟩ := hobj _ _ hb; obtain ⟨g', rfl, hbn, h'⟩ := hx.ptr_inv; rw [hμ] at h'; injection h' with h'; injection h' with h'; injection h' with h' _; subst h'
      have hcell : ∀ j, j < cs.length → w.cell? ⟨g, j, none⟩ = some (cur.getD j undef) := fun j hj => by
        rw [cell_of_row w g _ cur T (0, 0) hw, Array.getElem?_eq_getElem (by omega)]; simp [Array.getD, show j < cur.size by omega]
      split at hk
      · rename_i hisA
        refine ⟨_, _, Z0h (cs := (List.range te.cells).map fun j => cur.getD (off + j) undef) hu (hagT hisA) hinf (by simp [hsz]) (fun j v hj => ?_), ?_, hk.2⟩
        · have hjl : j < te.cells := by
            have := (List.getElem?_eq_some_iff.1 hj).1; simpa using this
          simp only [List.getElem?_map, List.getElem?_range hjl, Option.map_some, Option.some.injEq] at hj; rw [Addr.add_lit, ← hj]; exact hcell _ (by have := hk.1; omega)
        · refine .agg _ _ (by simp only [List.length_take, List.length_drop, List.length_map, List.length_range]; have := hk.1; omega) (fun i hi => ?_)
          have hi' : i < te.cells := by simp only [List.length_take] at hi; omega
          have := hcs (off + i) (by have := hk.1; omega)
          simpa [List.getD_eq_getElem?_getD, List.getElem?_take, hi', List.getElem?_range hi', List.getElem?_drop] using this
      · rename_i hisA
        exact ⟨_, _, Z0g hu (hagF hisA) (hcell off hk.1), hcs off hk.1, hk.2⟩
    · exact hk.elim
  · rename_i b s i f _
    split at hk
    · rename_i E s' xs rk hb
      obtain ⟨rfl, hi, hk⟩ := hk; obtain ⟨hall, hrow⟩ := hobj _ _ hb; obtain ⟨g, off, k, c, rfl, hbn, hbm⟩ := hx.eptr_inv; rcases hrow with ⟨g', hob, off', cap, cur, fr, vs, hμ, hw, _, _, hle, hmax, hcs, htake, hvl, hpr⟩ | ⟨_, _, a', hμ, hpr⟩
      · rw [hbm] at hμ; injection hμ with h1 h2 h3; injection h1 with h1; injection h1 with h1 h4 _; subst h1 h4
        have hmul : ∀ j, j < s' → i * s' + j < xs.length * s' := fun j hj => by
          have h1 : (i + 1) * s' ≤ xs.length * s' := Nat.mul_le_mul_right _ hi; rw [Nat.add_mul, Nat.one_mul] at h1; omega
        have hcell : ∀ j, j < s' → w.cell? ⟨g, off + (i * s' + j), none⟩ = some (vs.getD (i * s' + j) undef) := fun j hj => by
          have hlt := hmul j hj; rw [cell_of_row w g _ cur E fr hw, ← Z7e (d := undef) (by omega), ← htake, List.getElem?_take, if_pos hlt, List.getElem?_drop]; simp
        have hv : ∀ j, j < s' → PR I w (((xs.getD i default).cells).getD j default) (vs.getD (i * s' + j) undef) := fun j hj => by
          have := hpr (i * s' + j) (hmul j hj)
          rwa [Z0o hall hi hj] at this
        have hlen : (xs.getD i default).cells.length = s' := hall _ (by
          rw [List.getD_eq_getElem?_getD, List.getElem?_eq_getElem hi, Option.getD_some]; exact List.getElem_mem hi)
        split at hk
        · rename_i hisA
          refine ⟨_, _, Z0h (cs := (List.range te.cells).map fun j => vs.getD (i * s' + (f + j)) undef) hu (hagT hisA) hinf (by simp [hsz]) (fun j v hj => ?_), ?_, hk.2⟩
          · have hjl : j < te.cells := by
              have := (List.getElem?_eq_some_iff.1 hj).1; simpa using this
            simp only [List.getElem?_map, List.getElem?_range hjl, Option.map_some, Option.some.injEq] at hj; rw [Addr.add_lit, ← hj, Nat.add_assoc, Nat.add_assoc]; exact hcell _ (by have := hk.1; omega)
          · refine .p _ _ (.agg _ _ (by simp only [List.length_take, List.length_drop, List.length_map, List.length_range, hlen]; have := hk.1; omega) (fun j hj => ?_))
            have hj' : j < te.cells := by simp only [List.length_take] at hj; omega
            have := hv (f + j) (by have := hk.1; omega)
            simpa [List.getD_eq_getElem?_getD, List.getElem?_take, hj', List.getElem?_range hj', List.getElem?_drop] using this
        · rename_i hisA
          exact ⟨_, _, Z0g hu (hagF hisA) (hcell f hk.1), .p _ _ (hv f hk.1), hk.2⟩
      · obtain ⟨g', off', c', s2, e4, hall2, hvr⟩ := hpr.sl_at (n := n) (μ := μ) (i := i) hi
        rw [hbm] at e4; injection e4 with e4 _ _; injection e4 with e4; injection e4 with e5 e6 _; subst e5 e6
        have hlen : (xs.getD i default).cells.length = s' := hall _ (by
          rw [List.getD_eq_getElem?_getD, List.getElem?_eq_getElem hi, Option.getD_some]; exact List.getElem_mem hi)
        have hs2 : s2 = s' := by
          rw [← hlen]; refine (hall2 _ ?_).symm; rw [List.getD_eq_getElem?_getD, List.getElem?_eq_getElem hi, Option.getD_some]; exact List.getElem_mem hi
        subst hs2; obtain ⟨g2, off2, cur, E2, fz, vs, e7, hI, hw, hv, hr⟩ := hvr.ipt_inv
        injection e7 with e7; injection e7 with e7; injection e7 with e8 e9 _; subst e8 e9
        rw [hlen] at hv hr; have hcell : ∀ j, j < s2 → w.cell? ⟨g, off + (i * s2 + j), none⟩ = some (vs j) := fun j hj => by rw [← Nat.add_assoc, cell_of_row w g _ cur E2 fz hw]; exact hv j hj
        split at hk
        · rename_i hisA
          refine ⟨_, _, Z0h (cs := (List.range te.cells).map fun j => vs (f + j)) hu (hagT hisA) hinf (by simp [hsz]) (fun j v hj => ?_), ?_, hk.2⟩
          · have hjl : j < te.cells := by
              have := (List.getElem?_eq_some_iff.1 hj).1; simpa using this
            simp only [List.getElem?_map, List.getElem?_range hjl, Option.map_some, Option.some.injEq] at hj; rw [Addr.add_lit, ← hj, Nat.add_assoc, Nat.add_assoc]; exact hcell _ (by have := hk.1; omega)
          · refine .p _ _ (.agg _ _ (by simp only [List.length_take, List.length_drop, List.length_map, List.length_range, hlen]; have := hk.1; omega) (fun j hj => ?_))
            have hj' : j < te.cells := by simp only [List.length_take] at hj; omega
            have := hr (f + j) (by have := hk.1; omega)
            simpa [List.getD_eq_getElem?_getD, List.getElem?_take, hj', List.getElem?_range hj', List.getElem?_drop] using this
        · rename_i hisA
          exact ⟨_, _, Z0g hu (hagF hisA) (hcell f hk.1), .p _ _ (hr f hk.1), hk.2⟩
    · exact hk.elim
  · exact hk.elim
end
section
variable {P : Program} {n : Nat} {μ : Nat → Value} {I : Nat → Prop} {w : World}

theorem Z0y (b : ByteArray) (l h : Nat) : (b.extract l h).data.toList = (b.data.toList.drop l).take (h - l) := by
  simp [List.take_drop]

def Zp (l : List PV) (c : Nat) : Prop := ∀ x ∈ l, x.cells.length = c

theorem PR.sub {l : List PV} {a : Option Addr} {N c s lo k m : Nat} (h : PR I w (.sl l) (.slice a N c)) (hs : Zp l s) (hlo : lo + k ≤ l.length) (hm : lo + k ≤ m) (hmc : m ≤ c) :
    PR I w (.sl ((l.drop lo).take k)) (sliced a lo (lo + k) m s) := by
  unfold sliced; have hk : lo + k - lo = k := by omega
  rw [hk]; by_cases h0 : k = 0
  · subst h0
    simp only [List.take_zero]; refine .sl0 _ _ (fun hn => ?_)
    split at hn
    · omega
    · simp only [Option.map_eq_none_iff] at hn
      obtain ⟨a', c', e, _, hc⟩ := h.sl_len
      injection e with e1 e2 e3; subst e1 e3
      have := hc hn; omega
  · generalize hL : PV.sl l = L at h
    cases h with
    | sl0 a cap ha => injection hL with hL; subst hL; simp at hlo; omega
    | sl l' s' g off cap cur E fz vs hl hI hw hc hs' hv hr =>
      injection hL with hL; subst hL
      have hne : m ≠ lo := by omega
      rw [if_neg hne]; have hss : s = s' := by
        cases l with
        | nil => exact absurd rfl hl
        | cons x l => exact (hs x (by simp)).symm.trans (hs' x (by simp))
      subst hss; simp only [Option.map_some, Addr.add_lit]; have hlen : ((l.drop lo).take k).length = k := by simp only [List.length_take, List.length_drop]; omega
      have := PR.sl (I := I) (w := w) ((l.drop lo).take k) s g (off + lo * s) (m - lo) cur E fz (fun j => vs (lo * s + j)) (by
          intro e; rw [e] at hlen; simp at hlen; omega) hI hw (by omega) (fun x hx => hs' x (List.mem_of_mem_drop (List.mem_of_mem_take hx)))
        (fun j hj => by
          rw [hlen] at hj; rw [Nat.add_assoc]; refine hv _ ?_; have h1 : (lo + k) * s ≤ l.length * s := Nat.mul_le_mul_right _ hlo; rw [Nat.add_mul] at h1; omega)
        (fun i j hi hj => by
          rw [hlen] at hi; have := hr (lo + i) j (by omega) hj; rw [Nat.add_mul, Nat.add_assoc] at this
          simpa [List.getD_eq_getElem?_getD, List.getElem?_take, hi, List.getElem?_drop] using this)
      rwa [hlen] at this

def bnd : Option AV → Option (Option Int)
  | none => some none
  | some (.p (.int _ i)) => some (some i)
  | _ => none

def Zw (Γ : Gam) (t : TypeId) (x : AV) (lo hi mx : Option AV) (K : AV → Prop) : Prop :=
  match x, bnd lo, bnd hi, bnd mx with
  | .p (.str s), some none, some (some h), some none => tdAt Γ t .str ∧ (0 ≤ h ∧ h ≤ s.length) ∧ K (.p (.str (s.take h.toNat)))
  | .p (.str s), some (some l), some none, some none => tdAt Γ t .str ∧ (0 ≤ l ∧ l ≤ s.length) ∧ K (.p (.str (s.drop l.toNat)))
  | .p (.str s), some (some l), some (some h), some none => tdAt Γ t .str ∧ (0 ≤ l ∧ l ≤ h ∧ h ≤ s.length) ∧ K (.p (.str ((s.drop l.toNat).take (h.toNat - l.toNat))))
  | x, bl, bh, bm => (match x.list with
    | some L => tyAt Γ t fun te => (match te.td with
      | .slice e => tyAt Γ e fun ee => Zp L ee.cells ∧ (match bl, bh, bm with
        | some none, some (some h), some none => (0 ≤ h ∧ h ≤ L.length) ∧ K (.p (.sl (L.take h.toNat)))
        | some (some l), some none, some none => (0 ≤ l ∧ l ≤ L.length) ∧ K (.p (.sl (L.drop l.toNat)))
        | some (some l), some (some h), some none => (0 ≤ l ∧ l ≤ h ∧ h ≤ L.length) ∧ K (.p (.sl ((L.drop l.toNat).take (h.toNat - l.toNat))))
        | some none, some (some h), some (some m) => (0 ≤ h ∧ h = m ∧ h ≤ L.length) ∧ K (.full (L.take h.toNat))
        | _, _, _ => False)
      | _ => False)
    | none => False)

theorem Zq {x : Option AV} {v : Option Value} {b : Option Int} (hx : match x, v with | none, none => True | some x, some v => VR n μ I w x v | _, _ => False) (h : bnd x = some b) :
    match b with | none => v = none | some i => ∃ k, v = some (.int k i) := by
  unfold bnd at h
  split at h
  · injection h with h; subst h; cases v with
    | none => rfl
    | some v => exact hx.elim
  · injection h with h; subst h; cases v with
    | none => exact hx.elim
    | some v => exact ⟨_, by rw [VR.int_inv hx]⟩
  · cases h

theorem Zbb {Γ : Gam} (hΓ : Zg P Γ) {t : TypeId} {x : AV} {v : Value} {lo hi mx : Option AV} {vl vh vm : Option Value} {K : AV → Prop} (hx : VR n μ I w x v)
    (hlo : match lo, vl with | none, none => True | some x, some v => VR n μ I w x v | _, _ => False)
    (hhi : match hi, vh with | none, none => True | some x, some v => VR n μ I w x v | _, _ => False)
    (hmx : match mx, vm with | none, none => True | some x, some v => VR n μ I w x v | _, _ => False) (hk : Zw Γ t x lo hi mx K) :
    ∃ a cv, (Instr.sliceAt t v vl vh vm).run P w = .ok cv w ∧ VR n μ I w a cv ∧ K a := by
  unfold Zw at hk
  split at hk
  · rename_i s h e1 e2 e3
    obtain rfl := Zq hlo e1; obtain ⟨kh, rfl⟩ := Zq hhi e2; obtain rfl := Zq hmx e3; obtain ⟨ht, hb, hk⟩ := hk; obtain ⟨td, hu, hd⟩ := ht.und hΓ; simp only [Z7] at hd; subst hd; obtain ⟨b, rfl, rfl⟩ := hx.str_inv; have hl : b.data.toList.length = b.size := Array.length_toList; refine ⟨_, _, by rw [run_sliceAt_string (P := P) w t _ _ _ _ hu, run_slice_string_h (P := P) w t b hu kh h hb.1 (by omega)], .mkStr ?_, hk⟩; rw [Z0y]; simp
  · rename_i s l e1 e2 e3
    obtain ⟨kl, rfl⟩ := Zq hlo e1; obtain rfl := Zq hhi e2; obtain rfl := Zq hmx e3; obtain ⟨ht, hb, hk⟩ := hk; obtain ⟨td, hu, hd⟩ := ht.und hΓ; simp only [Z7] at hd; subst hd; obtain ⟨b, rfl, rfl⟩ := hx.str_inv; have hl : b.data.toList.length = b.size := Array.length_toList; refine ⟨_, _, by rw [run_sliceAt_string (P := P) w t _ _ _ _ hu, run_slice_string_l (P := P) w t b hu kl l hb.1 (by omega)], .mkStr ?_, hk⟩; rw [Z0y, List.take_of_length_le]; simp only [List.length_drop]; omega
  · rename_i s l h e1 e2 e3
    obtain ⟨kl, rfl⟩ := Zq hlo e1; obtain ⟨kh, rfl⟩ := Zq hhi e2; obtain rfl := Zq hmx e3; obtain ⟨ht, hb, hk⟩ := hk; obtain ⟨td, hu, hd⟩ := ht.und hΓ; simp only [Z7] at hd; subst hd; obtain ⟨b, rfl, rfl⟩ := hx.str_inv; have hl : b.data.toList.length = b.size := Array.length_toList; have eh : (h.toNat : Int) = h := Int.toNat_of_nonneg (by omega); refine ⟨_, .string (b.extract l.toNat h.toNat), ?_, .mkStr ?_, hk⟩
    · rw [run_sliceAt_string (P := P) w t _ _ _ _ hu]
      simp [Instr.slice, run_underlying hu, Instr.sliceBounds, run_sliceBound, show (0 : Int) ≤ l by omega, show (0 : Int) ≤ h by omega, show h ≤ (b.size : Int) by omega]; rw [run_sliceBound (P := P) w kl l h.toNat .sliceB hb.1 (by omega)]; rfl
    · rw [Z0y]
  · rename_i x bl bh bm _ _ _
    split at hk
    · rename_i L hL
      obtain ⟨te, ht, hk⟩ := hk.get
      split at hk
      · rename_i e he
        obtain ⟨ee, hee, hk⟩ := hk.get; obtain ⟨hsz, hk⟩ := hk; obtain ⟨d, hu, hd, _⟩ := (hΓ _ _ ht).desc; rw [he] at hd; simp only [Z7] at hd; subst hd; obtain ⟨inf, hinf, hisz, _⟩ := (hΓ _ _ hee).info; have hel : P.elem t = e := by simp [Program.elem, hu]
        have hu' : P.underlying t = some (.slice (P.elem t)) := by rw [hel]; exact hu
        have hpr := hx.list_inv hL; obtain ⟨a, c, rfl, hc, _⟩ := hpr.sl_len; have hsize : ∀ (w : World), (sizeOf (P.elem t)).run P w = .ok ee.cells w := fun w => by simp [sizeOf, typeInfo, hel, hinf, hisz]
        split at hk
        · rename_i h e1 e2 e3
          obtain rfl := Zq hlo e1; obtain ⟨kh, rfl⟩ := Zq hhi e2; obtain rfl := Zq hmx e3; have := hpr.sub (lo := 0) (k := h.toNat) (m := c) hsz (by omega) (by omega) (Nat.le_refl _); refine ⟨_, _, by rw [run_sliceAt_slice (P := P) w t _ _ _ _ hu', run_slice_h (P := P) w t a _ c hu' kh h hk.1.1 (by omega), hsize]; rfl, .p _ _ ?_, hk.2⟩
          simpa using this
        · rename_i l e1 e2 e3
          obtain ⟨kl, rfl⟩ := Zq hlo e1; obtain rfl := Zq hhi e2; obtain rfl := Zq hmx e3; have := hpr.sub (lo := l.toNat) (k := L.length - l.toNat) (m := c) hsz (by omega) (by omega) (Nat.le_refl _); refine ⟨_, _, by rw [run_sliceAt_slice (P := P) w t _ _ _ _ hu', run_slice_l (P := P) w t a _ c hu' kl l hk.1.1 hk.1.2, hsize]; rfl, .p _ _ ?_, hk.2⟩; rw [show l.toNat + (L.length - l.toNat) = L.length by omega, List.take_of_length_le (by simp)] at this; exact this
        · rename_i l h e1 e2 e3
          obtain ⟨kl, rfl⟩ := Zq hlo e1; obtain ⟨kh, rfl⟩ := Zq hhi e2; obtain rfl := Zq hmx e3; have := hpr.sub (lo := l.toNat) (k := h.toNat - l.toNat) (m := c) hsz (by omega) (by omega) (Nat.le_refl _); refine ⟨_, _, by rw [run_sliceAt_slice (P := P) w t _ _ _ _ hu', run_slice_lh (P := P) w t a _ c hu' kl kh l h hk.1.1 hk.1.2.1 (by omega), hsize]; rfl, .p _ _ ?_, hk.2⟩; rw [show l.toNat + (h.toNat - l.toNat) = h.toNat by omega] at this; exact this
        · rename_i h m e1 e2 e3
          obtain rfl := Zq hlo e1; obtain ⟨kh, rfl⟩ := Zq hhi e2; obtain ⟨km, rfl⟩ := Zq hmx e3; obtain ⟨⟨h0, rfl, h1⟩, hk⟩ := hk; have := hpr.sub (lo := 0) (k := h.toNat) (m := h.toNat) hsz (by omega) (by omega) (by omega); refine ⟨_, _, by rw [run_sliceAt_slice (P := P) w t _ _ _ _ hu', run_slice_hm (P := P) w t a _ c hu' kh km h h h0 (Int.le_refl _) (by omega), hsize]; rfl, ?_, hk⟩; simp only [List.drop_zero, Nat.zero_add] at this; have hl : (L.take h.toNat).length = h.toNat := by simp only [List.length_take]; omega
          have hs : sliced a 0 h.toNat h.toNat ee.cells = .slice (if h.toNat = 0 then a else a.map (·.add (0 * ee.cells))) (L.take h.toNat).length (L.take h.toNat).length := by
            rw [hl]; simp [sliced]
          rw [hs] at this; show VR n μ I w _ (sliced a 0 h.toNat h.toNat ee.cells); rw [hs]; exact .full _ _ this
        · exact hk.elim
      · exact hk.elim
    · exact hk.elim

/-! a field of a struct value -/
def AV.cellL : AV → Option (List AV)
  | .junk => none
  | .agg l => some l
  | .p (.agg l) => some (l.map .p)
  | .tup _ => none
  | v => some [v]

theorem Z0n (l : List PV) (i : Nat) (hi : i < l.length) : (l.map AV.p).getD i .junk = .p (l.getD i default) := by
  simp [List.getD_eq_getElem?_getD, List.getElem?_map, List.getElem?_eq_getElem hi]

theorem VR.cellL {x : AV} {v : Value} {l : List AV} (hx : VR n μ I w x v) (h : x.cellL = some l) :
    v.cells.size = l.length ∧ ∀ i, i < l.length → VR n μ I w (l.getD i .junk) (v.cells.getD i undef) := by
  have one : ∀ y, VR n μ I w y v → v.cells = #[v] → v.cells.size = [y].length ∧ ∀ i, i < [y].length → VR n μ I w ([y].getD i .junk) (v.cells.getD i undef) := by
    intro y hy hc; rw [hc]; refine ⟨rfl, fun i hi => ?_⟩; have : i = 0 := by simpa using hi
    subst this; exact hy
  cases hx with
  | junk v => simp [AV.cellL] at h
  | cell v h' => simp only [AV.cellL, Option.some.injEq] at h; subst h; exact one _ (.cell _ h') (by cases v <;> first | rfl | simp [Value.oneCell'] at h')
  | p x v h' =>
    have h0 := h'
    cases h' with
    | agg l' cs hl hr =>
      simp only [AV.cellL, Option.some.injEq] at h; subst h; refine ⟨by simp [Value.cells, hl], fun i hi => ?_⟩; rw [Z0n _ _ (by simpa using hi)]; simp only [List.length_map] at hi; have hi' : i < cs.length := by omega
      have := hr i hi; have e : cs.toArray.getD i undef = cs.getD i undef := by simp [Array.getD, hi', List.getD_eq_getElem?_getD]
      simp only [Value.cells]; rw [e]; exact .p _ _ this
    | _ => simp only [AV.cellL, Option.some.injEq] at h; subst h; exact one _ (.p _ _ h0) rfl
  | agg l' cs hl hr =>
    simp only [AV.cellL, Option.some.injEq] at h; subst h; refine ⟨by simp [Value.cells, hl], fun i hi => ?_⟩; have hi' : i < cs.length := by omega
    have := hr i hi; have e : cs.toArray.getD i undef = cs.getD i undef := by simp [Array.getD, hi', List.getD_eq_getElem?_getD]
    simp only [Value.cells]; rw [e]; exact this
  | tup l' cs hl hr => simp [AV.cellL] at h
  | nil => simp only [AV.cellL, Option.some.injEq] at h; subst h; exact one _ .nil rfl
  | full l a h' => simp only [AV.cellL, Option.some.injEq] at h; subst h; exact one _ (.full _ _ h') rfl
  | own b k a c hb h' => simp only [AV.cellL, Option.some.injEq] at h; subst h; exact one _ (.own _ _ _ _ hb h') rfl
  | ptr b off g hb h' => simp only [AV.cellL, Option.some.injEq] at h; subst h; exact one _ (.ptr _ _ _ hb h') rfl
  | eptr b s i f g off k c hb h' => simp only [AV.cellL, Option.some.injEq] at h; subst h; exact one _ (.eptr _ _ _ _ _ _ _ _ hb h') rfl
  | ipt l g off cur E fz vs h1 h2 h3 h4 => simp only [AV.cellL, Option.some.injEq] at h; subst h; exact one _ (.ipt _ _ _ _ _ _ _ h1 h2 h3 h4) rfl
  | map b r hb h' => simp only [AV.cellL, Option.some.injEq] at h; subst h; exact one _ (.map _ _ hb h') rfl
  | yld b l hb h' => simp only [AV.cellL, Option.some.injEq] at h; subst h; exact one _ (.yld _ _ hb h') rfl
  | fn f caps cs hl hr => simp only [AV.cellL, Option.some.injEq] at h; subst h; exact one _ (.fn _ _ _ hl hr) rfl

def Z1b (Γ : Gam) (t : TypeId) (x : AV) (f : Nat) (K : AV → Prop) : Prop :=
  match x with
  | .agg l => fldOff Γ t f fun o fe => if fe.isAgg then o + fe.cells ≤ l.length ∧ K (.agg ((l.drop o).take fe.cells)) else o < l.length ∧ K (l.getD o .junk)
  | .p (.agg l) => fldOff Γ t f fun o fe => if fe.isAgg then o + fe.cells ≤ l.length ∧ K (.p (.agg ((l.drop o).take fe.cells))) else o < l.length ∧ K (.p (l.getD o default))
  | _ => False

theorem Zbs {Γ : Gam} (hΓ : Zg P Γ) {t : TypeId} {x : AV} {f : Nat} {v : Value} {K : AV → Prop} (hx : VR n μ I w x v) (hk : Z1b Γ t x f K) :
    ∃ a cv, (Instr.field t v f).run P w = .ok cv w ∧ VR n μ I w a cv ∧ K a := by
  have main : ∀ (a : Array Field) (fl : Field) (fe : TE) (inf : TypeInfo) (d : TypeDesc) (cs : List Value), P.underlying t = some (.struct a) → a[f]? = some fl → P.info? fl.type = some inf → inf.size = fe.cells →
      P.underlying fl.type = some d → fe.isAgg = Z01 d → 
      (fe.isAgg = true → (Instr.field t (.agg cs.toArray) f).run P w = .ok (.agg ((cs.drop fl.offset).take fe.cells).toArray) w) ∧
      (fe.isAgg = false → fl.offset < cs.length → (Instr.field t (.agg cs.toArray) f).run P w = .ok (cs.getD fl.offset undef) w) := by
    intro a fl fe inf d cs hu hf hinf hsz hud hag; refine ⟨fun h => ?_, fun h hl => ?_⟩
    · have hagd : (isAgg fl.type).run P w = .ok true w := by
        simp only [isAgg, Sem.run_bind, run_underlying hud, Result.andThen]; rw [hag] at h
        cases d <;> simp_all [Z01]
      simp [Instr.field, run_underlying hu, hf, asAgg, part, hagd, sizeOf, typeInfo, hinf, hsz]
    · have hagd : (isAgg fl.type).run P w = .ok false w := by
        simp only [isAgg, Sem.run_bind, run_underlying hud, Result.andThen]; rw [hag] at h
        cases d <;> simp_all [Z01]
      simp [Instr.field, run_underlying hu, hf, asAgg, part, hagd, List.getElem?_eq_getElem hl, List.getD_eq_getElem?_getD]
  unfold Z1b at hk
  split at hk
  · rename_i l
    obtain ⟨a, fl, fe, inf, d, hu, hf, hinf, hsz, hud, hag, hk⟩ := fldOff.get hΓ hk; obtain ⟨cs, rfl, hl, hr⟩ := hx.agg_inv; have hm := main a fl fe inf d cs hu hf hinf hsz hud hag
    split at hk
    · rename_i hA
      refine ⟨_, _, hm.1 hA, .agg _ _ (by simp [hl]) (fun i hi => ?_), hk.2⟩; have hi' : i < fe.cells := by simp only [List.length_take] at hi; omega
      have := hr (fl.offset + i) (by have := hk.1; omega)
      simpa [List.getD_eq_getElem?_getD, List.getElem?_take, hi', List.getElem?_drop] using this
    · rename_i hA
      exact ⟨_, _, hm.2 (by simpa using hA) (by have := hk.1; omega), hr _ hk.1, hk.2⟩
  · rename_i l
    obtain ⟨a, fl, fe, inf, d, hu, hf, hinf, hsz, hud, hag, hk⟩ := fldOff.get hΓ hk
    cases hx with
    | p x v h' =>
      cases h' with
      | agg l cs hl hr =>
        have hm := main a fl fe inf d cs hu hf hinf hsz hud hag
        split at hk
        · rename_i hA
          refine ⟨_, _, hm.1 hA, .p _ _ (.agg _ _ (by simp [hl]) (fun i hi => ?_)), hk.2⟩; have hi' : i < fe.cells := by simp only [List.length_take] at hi; omega
          have := hr (fl.offset + i) (by have := hk.1; omega)
          simpa [List.getD_eq_getElem?_getD, List.getElem?_take, hi', List.getElem?_drop] using this
        · rename_i hA
          exact ⟨_, _, hm.2 (by simpa using hA) (by have := hk.1; omega), .p _ _ (hr _ hk.1), hk.2⟩
  · exact hk.elim
end
end Go.AM
end

section
namespace Go.AM
open Go.RowKit

def putD (tm : List AV) (d : Option Nat) (v : AV) : List AV := match d with | some d => tm.set d v | none => tm

section
variable {P : Program} {X : Ctx} {I : Nat → Prop} {μ : Nat → Value} {ob : Nat → Option Nat} {w w' : World} {a : Act} {tm : List AV} {h : List AObj}

theorem Rep.put (R : Rep X I μ ob ⟨tm, h⟩ w a) {v : AV} {cv : Value} (hv : VR h.length μ I w v cv) (d : Option Nat) : Rep X I μ ob ⟨putD tm d v, h⟩ w (a.put d cv) := by
  cases d with
  | none => exact R
  | some d =>
    refine { toRepH := R.toRepH, size := ?_, tmps := ?_, marks := R.marks }
    · simpa [putD, Act.put] using R.size
    · intro i hi
      have hs : tm.length = a.tmps.size := R.size; simp only [putD, List.length_set] at hi; simp only [putD, Act.put]; by_cases e : d = i
      · subst e
        have e1 : (tm.set d v).getD d .junk = v := by simp [List.getD_eq_getElem?_getD, hi]
        have e2 : (a.tmps.setIfInBounds d cv).getD d undef = cv := by simp [Array.getD, show d < a.tmps.size by omega]
        rw [e1, e2]; exact hv
      · have e1 : (tm.set d v).getD i .junk = tm.getD i .junk := by simp [List.getD_eq_getElem?_getD, List.getElem?_set_ne e]
        have e2 : (a.tmps.setIfInBounds d cv).getD i undef = a.tmps.getD i undef := by
          simp [Array.getD, show i < a.tmps.size by omega, e]
        rw [e1, e2]; exact R.tmps i hi

theorem Rep.evs (R : Rep X I μ ob ⟨tm, h⟩ w a) (x : Operand) : VR h.length μ I w (ev tm x) (a.eval x) := VR.ev R.laid R.tmps x

def Leaves (X : Ctx) (I : Nat → Prop) (μ : Nat → Value) (n : Nat) (st : St) (w : World) (a : Act) : Prop :=
  ∃ I' μ' ob', (∀ g, I g → I' g) ∧ Rep X I' μ' ob' st w a ∧ (∀ b, b < n → ¬ X.may b → μ' b = μ b)

theorem Rep.grow {I' : Nat → Prop} (R : Rep X I μ ob ⟨tm, h⟩ w a) (hg : w.grownBy w' none) (hI : ∀ g, I g → I' g) (hn : ∀ g, I' g → I g ∨ (w.heap.size ≤ g ∧ g < w'.heap.size)) : Rep X I' μ ob ⟨tm, h⟩ w' a :=
  { toRepH := R.toRepH.grow hg hI hn, size := R.size, marks := R.marks.keep hg (fun _ e => by cases e) (fun g h => (hn g h).imp id (fun h => h.1)) (fun b g h => .inl ⟨b, h⟩), tmps := fun i hi => (R.tmps i hi).mono (Nat.le_refl _) (fun _ _ => rfl) hI (fun g h => hg.block g (R.imm g h) (by simp)) }

theorem Rep.name (R : Rep X I μ ob ⟨tm, h⟩ w a) (hg : w.grownBy w' none) {v : Value} {g : Option Nat} {o : AObj} (hgn : ∀ k, g = some k → w.heap.size ≤ k ∧ k < w'.heap.size)
    (ho : ObjOK (h.length + 1) (upd μ h.length v) I (upd ob h.length g) w' h.length o) : Rep X I (upd μ h.length v) (upd ob h.length g) ⟨tm, h ++ [o]⟩ w' a :=
  { toRepH := R.toRepH.name hg hgn ho, size := R.size, marks := R.marks.keep hg (fun _ e => by cases e) (fun g h => .inl h) (fun b k hb => by
      by_cases e : b = h.length
      · subst e; rw [Z5] at hb; exact .inr (hgn k hb).1
      · rw [Z2 _ _ e] at hb; exact .inl ⟨b, hb⟩), tmps := fun i hi => by
      have := (R.tmps i hi).mono (n' := h.length + 1) (μ' := upd μ h.length v) (w' := w') (Nat.le_succ _) (fun c hc => Z2 _ _ (by have : c < h.length := hc; omega)) (fun _ h => h) (fun g h => hg.block g (R.imm g h) (by simp))
      simpa using this }

theorem Rep.write (R : Rep X I μ ob ⟨tm, h⟩ w a) {b0 g0 : Nat} {o : AObj} (hb0 : b0 < h.length) (hob : ob b0 = some g0) (hg : w.grownBy w' (some g0)) (ho : ObjOK h.length μ I ob w' b0 o) :
    Rep X I μ ob ⟨tm, h.set b0 o⟩ w' a :=
  { toRepH := R.toRepH.write hb0 hob hg ho, size := R.size, marks := R.marks.keep hg (fun r e => by injection e with e; subst e; exact ⟨b0, hob⟩) (fun g h => .inl h) (fun b g h => .inl ⟨b, h⟩), tmps := fun i hi => by
      have := (R.tmps i hi).mono (n' := h.length) (μ' := μ) (I' := I) (w' := w') (Nat.le_refl _) (fun _ _ => rfl) (fun _ h => h) (fun g h => hg.block g (R.imm g h) (fun e => by injection e with e; subst e; exact (R.own b0 g hob).1 h))
      simpa using this }

theorem Rep.move (R : Rep X I μ ob ⟨tm, h⟩ w a) {b0 : Nat} {o : AObj} (hb0 : b0 < h.length) (hmay : X.may b0) (hg : w.grownBy w' (ob b0)) {v : Value} {g : Option Nat}
    (hgn : ∀ k, g = some k → (ob b0 = some k ∨ w.heap.size ≤ k) ∧ k < w'.heap.size) (ho : ObjOK h.length (upd μ b0 v) I (upd ob b0 g) w' b0 o) :
    Rep X I (upd μ b0 v) (upd ob b0 g) ⟨tm.map (AV.kill b0), (h.map (AObj.kill b0)).set b0 o⟩ w' a :=
  { toRepH := R.toRepH.move hb0 hmay hg hgn ho, size := by simpa using R.size, marks := R.marks.keep hg (fun r e => ⟨b0, e⟩) (fun g h => .inl h) (fun b k hb => by
      by_cases e : b = b0
      · subst e; rw [Z5] at hb; exact ((hgn k hb).1).imp (fun h => ⟨_, h⟩) id
      · rw [Z2 _ _ e] at hb; exact .inl ⟨b, hb⟩), tmps := fun i hi => by
      simp only [List.length_map] at hi; have := (R.tmps i hi).kill (n' := h.length) (μ' := upd μ b0 v) (I' := I) (w' := w') b0 (Nat.le_refl _) (fun c _ hc => Z2 _ _ hc) (fun _ h => h) (fun g h => hg.block g (R.imm g h) (fun e => (R.own b0 g e.symm).1 h))
      simpa [List.getD_eq_getElem?_getD, List.getElem?_map, List.getElem?_eq_getElem hi] using this }

def StepOK (P : Program) (X : Ctx) (I : Nat → Prop) (μ : Nat → Value) (n : Nat) (r : Sem Value) (w : World) (a : Act) (d : Option Nat) (K : St → Prop) : Prop :=
  ∃ cv w' st', r.run P w = .ok cv w' ∧ Leaves X I μ n st' w' (a.put d cv) ∧ K st'

theorem StepOK.pure {r : Sem Value} {d : Option Nat} {K : St → Prop} (R : Rep X I μ ob ⟨tm, h⟩ w a) {v : AV} {cv : Value} (hr : r.run P w = .ok cv w) (hv : VR h.length μ I w v cv)
    (hk : K ⟨putD tm d v, h⟩) : StepOK P X I μ h.length r w a d K :=
  ⟨cv, w, _, hr, ⟨I, μ, ob, fun _ h => h, R.put hv d, fun _ _ _ => rfl⟩, hk⟩

theorem Zy {h : List AObj} {μ : Nat → Value} {b : Nat} (hb : b < h.length) (v : Value) : upd μ h.length v b = μ b := Z2 _ _ (by omega)

/-! a new variable -/
def boxK (tm : List AV) (h : List AObj) (d : Option Nat) (x : AV) (K : St → Prop) : Prop :=
  match x.cellL with
  | some l => K ⟨putD tm d (.ptr h.length 0), h ++ [.box l]⟩
  | none => False

theorem Zcv {t : TypeId} {x : AV} {v : Value} {d : Option Nat} {K : St → Prop} (R : Rep X I μ ob ⟨tm, h⟩ w a) (hx : VR h.length μ I w x v) (hk : boxK tm h d x K) :
    StepOK P X I μ h.length (do pure (.pointer (some (← newVar t v)))) w a d K := by
  unfold boxK at hk
  split at hk
  · rename_i l hl
    obtain ⟨hs, hc⟩ := hx.cellL hl; have hg : w.grownBy (w.alloc (.cells v.cells t)) none := World.grownBy_alloc w _ none; have hnew := heap_alloc_new w (.cells v.cells t)
    have R1 := R.name (v := .pointer (some ⟨w.heap.size, 0, none⟩)) (g := some w.heap.size) (o := .box l) hg (fun k e => by injection e with e; subst e; simp) (by
      refine ⟨w.heap.size, t, v.cells, by simp, by simp, hnew, hs.symm, fun i hi => ?_⟩; exact (hc i hi).mono (Nat.le_succ _) (fun c hc => Z2 _ _ (by omega)) (fun _ h => h) (fun g h => hg.block g (R.imm g h) (by simp)))
    have R2 := R1.put (v := .ptr h.length 0) (cv := .pointer (some ⟨w.heap.size, 0, none⟩)) (.ptr _ _ _ (by simp) (by simp)) d; exact ⟨_, _, _, by simp [newVar, newRow], ⟨_, _, _, fun _ h => h, R2, fun b hb _ => Zy hb _⟩, hk⟩
  · exact hk.elim

def allocK (Γ : Gam) (tm : List AV) (h : List AObj) (d : Option Nat) (t : TypeId) (K : St → Prop) : Prop :=
  tyAt Γ t fun te => (match te.zero with | some z => boxK tm h d z K | none => False)

theorem Zc3 {Γ : Gam} (hΓ : Zg P Γ) {t : TypeId} {d : Option Nat} {K : St → Prop} (R : Rep X I μ ob ⟨tm, h⟩ w a) (hk : allocK Γ tm h d t K) :
    StepOK P X I μ h.length (Instr.alloc t true (.tuple #[])) w a d K := by
  unfold allocK at hk; obtain ⟨te, ht, hk⟩ := hk.get
  split at hk
  · rename_i z hz
    obtain ⟨i, hi, _, _, hzero⟩ := (hΓ _ _ ht).info; obtain ⟨zv, hzv, hplain, _⟩ := hzero z hz; obtain ⟨cv, w', st', hr, hl, hK⟩ := Zcv (P := P) (t := t) R (hplain _ _ _ _) hk; refine ⟨cv, w', st', ?_, hl, hK⟩
    simpa [Instr.alloc, zeroValue, typeInfo, hi, hzv] using hr
  · exact hk.elim

/-! a store into a variable -/
def setL (cs : List AV) (off : Nat) : List AV → List AV
  | [] => cs
  | v :: l => setL (cs.set off v) (off + 1) l

theorem Z14 (cs : List AV) (off : Nat) (l : List AV) : (setL cs off l).length = cs.length := by
  induction l generalizing cs off with
  | nil => rfl
  | cons v l ih => simp [setL, ih]

theorem Z5y (cs l : List AV) (off i : Nat) (hi : i < cs.length) : (setL cs off l).getD i .junk = if off ≤ i ∧ i < off + l.length then l.getD (i - off) .junk else cs.getD i .junk := by
  induction l generalizing cs off with
  | nil => rw [if_neg (by simp only [List.length_nil]; omega)]; rfl
  | cons v l ih =>
    simp only [setL]; rw [ih _ _ (by simpa using hi)]; by_cases h1 : off + 1 ≤ i ∧ i < off + 1 + l.length
    · rw [if_pos h1, if_pos (by simp only [List.length_cons]; omega), show i - off = (i - (off + 1)) + 1 by omega]; simp
    · rw [if_neg h1]
      by_cases h2 : i = off
      · subst h2
        rw [if_pos (by simp only [List.length_cons]; omega)]; simp [List.getD_eq_getElem?_getD, hi]
      · rw [if_neg (by simp only [List.length_cons]; omega)]
        simp [List.getD_eq_getElem?_getD, List.getElem?_set_ne (fun e => h2 e.symm)]

def AV.one : AV → Bool
  | .junk | .agg _ | .tup _ | .p (.agg _) => false
  | _ => true

theorem VR.one' {n : Nat} {x : AV} {v : Value} (hx : VR n μ I w x v) (h : x.one = true) : v.oneCell' = true := by
  cases hx with
  | p x v h' => cases h' <;> first | rfl | simp [AV.one] at h
  | cell v h' => exact h'
  | _ => first | rfl | simp [AV.one] at h

def AV.pvL : List AV → Option (List PV)
  | [] => some []
  | .p v :: l => (AV.pvL l).map (v :: ·)
  | _ => none
def AV.pv : AV → Option PV
  | .p v => some v
  | .agg l => (AV.pvL l).map .agg
  | _ => none
theorem AV.pvL_eq : ∀ {l : List AV} {ps : List PV}, AV.pvL l = some ps → l = ps.map .p
  | [], ps, h => by injection h with h; subst h; rfl
  | v :: l, ps, h => by
    cases v with
    | p v =>
      unfold AV.pvL at h
      cases hl : AV.pvL l with
      | none => rw [hl] at h; cases h
      | some qs => rw [hl] at h; injection h with h; subst h; rw [AV.pvL_eq hl]; rfl
    | _ => cases h
theorem VR.pvp {n : Nat} {μ : Nat → Value} {I : Nat → Prop} {w : World} {x : AV} {v : Value} {p : PV} (hx : VR n μ I w x v) (h : x.pv = some p) : VR n μ I w (.p p) v := by
  cases x with
  | p u => injection h with h; subst h; exact hx
  | agg l =>
    have h : (AV.pvL l).map PV.agg = some p := h
    cases hl : AV.pvL l with
    | none => rw [hl] at h; cases h
    | some ps =>
      rw [hl] at h; injection h with h; subst h
      have := AV.pvL_eq hl; subst this; obtain ⟨cs, rfl, hlen, hr⟩ := hx.agg_inv; rw [List.length_map] at hlen; refine .p _ _ (.agg _ _ hlen (fun i hi => ?_)); have h2 := hr i (by simpa using hi); rw [List.getD_eq_getElem?_getD, List.getElem?_map, List.getElem?_eq_getElem hi, Option.map_some, Option.getD_some] at h2; rw [List.getD_eq_getElem?_getD, List.getElem?_eq_getElem hi, Option.getD_some]
      cases h2 with | p _ _ h3 => exact h3
  | _ => cases h

def Z18 (Γ : Gam) (tm : List AV) (h : List AObj) (t : TypeId) (x y : AV) (K : St → Prop) : Prop :=
  tyAt Γ t fun te =>
  match x with
  | .ptr b off => (match h[b]?, y.cellL with
    | some (.box cs), some l => (l.length = te.cells ∧ off + l.length ≤ cs.length ∧ l.all AV.one = true) ∧ K ⟨tm, h.set b (.box (setL cs off l))⟩
    | _, _ => False)
  | .eptr b s i f => (match h[b]?, y.pv with
    | some (.row E s' xs k), some v => (k.hard = true ∧ s' = s ∧ f = 0 ∧ i < xs.length ∧ v.cells.length = s ∧ te.cells = s ∧ v.cells.all (AV.one ∘ AV.p) = true) ∧ K ⟨tm, h.set b (.row E s (xs.set i v) k)⟩
    | _, _ => False)
  | _ => False

theorem Z0x (w : World) (g : Nat) (cs : Array Value) : w.grownBy (w.setRow g cs) (some g) :=
  ⟨rfl, rfl, rfl, by simp, fun k _ hk => setRow_other w g k _ (fun e => hk (by rw [e]))⟩

theorem Z0v (P : Program) (g o : Nat) (t : TypeId) (fz : Nat × Nat) : ∀ (vs : List Value) (i : Nat) (cur : Array Value) (w : World), w.heap[g]? = some (.cells cur t fz) → (∀ j, j < cur.size → ¬ (fz.1 ≤ j ∧ j < fz.2)) → o + i + vs.length ≤ cur.size → (∀ v ∈ vs, v.oneCell' = true) →
    (storeCells ⟨g, o, none⟩ vs i).run P w = .ok () (w.setRow g (cur.toList.take (o + i) ++ vs ++ cur.toList.drop (o + i + vs.length)).toArray)
  | [], i, cur, w, hg, _, _, _ => by
    simp only [storeCells, List.append_nil, List.length_nil, Nat.add_zero, List.take_append_drop, Array.toArray_toList]; rw [setRow_self w g cur t fz hg]
    rfl
  | v :: rest, i, cur, w, hg, hfz, hl, h1 => by
    have hi : o + i < cur.size := by simp at hl; omega
    have hadd : (⟨g, o, none⟩ : Addr).add i = ⟨g, o + i, none⟩ := by unfold Addr.add; split <;> simp_all
    have hcell : w.cell? ⟨g, o + i, none⟩ = some cur[o + i] := by simp [World.cell?, hg, hi]
    have hfro : w.frozen? ⟨g, o + i, none⟩ = false := by
      have := hfz (o + i) hi; obtain ⟨lo, hi'⟩ := fz; simp only [World.frozen?, hg, Bool.and_eq_false_iff, decide_eq_false_iff_not]; simp only at this; omega
    have hst : (store ((⟨g, o, none⟩ : Addr).add i) v).run P w = .ok () (w.setRow g (cur.setIfInBounds (o + i) v)) := by
      rw [hadd, run_store P w _ v _ (h1 v (by simp)), hcell]; simp [hfro, setCell_eq_setRow w g (o + i) cur t fz v hg]
    have ih := Z0v P g o t fz rest (i + 1) (cur.setIfInBounds (o + i) v) (w.setRow g (cur.setIfInBounds (o + i) v)) (setRow_heap w g cur _ t _ hg) (fun j hj => hfz j (by simpa using hj)) (by simp at hl ⊢; omega) (fun x hx => h1 x (by simp [hx])); simp only [storeCells, Sem.run_bind, hst, Result.andThen_ok, ih, setRow_setRow]
    congr 3
    have e := list_seg_step cur.toList (o + i) v rest (by simp at hl ⊢; omega)
    simpa [Array.toList_setIfInBounds, Nat.add_assoc] using e

theorem Z5z (t : TypeId) (i : TypeInfo) (hi : P.info? t = some i) (g o : Nat) (T : TypeId) (fz : Nat × Nat) (v : Value) (cur : Array Value) (hw : w.heap[g]? = some (.cells cur T fz)) (hfz : ∀ j, j < cur.size → ¬ (fz.1 ≤ j ∧ j < fz.2))
    (hs : v.cells.size = i.size) (ho : o + v.cells.size ≤ cur.size) (h1 : ∀ u ∈ v.cells.toList, u.oneCell' = true) :
    (Instr.storeAt t (.pointer (some ⟨g, o, none⟩)) v).run P w = .ok () (w.setRow g (cur.toList.take o ++ v.cells.toList ++ cur.toList.drop (o + v.cells.size)).toArray) := by
  have hst := Z0v P g o T fz v.cells.toList 0 cur w hw hfz (by simpa using ho) h1; simp only [Nat.add_zero, Array.length_toList] at hst; simp [Instr.storeAt, Instr.sureAddr, storeVar, sizeOf, typeInfo, hi, hs, hst]

theorem Z70 (t : TypeId) (i : TypeInfo) (hi : P.info? t = some i) (g o : Nat) (T : TypeId) (v : Value) (cur : Array Value) (hw : w.heap[g]? = some (.cells cur T (0, 0)))
    (hs : v.cells.size = i.size) (ho : o + v.cells.size ≤ cur.size) (h1 : ∀ u ∈ v.cells.toList, u.oneCell' = true) :
    (Instr.storeAt t (.pointer (some ⟨g, o, none⟩)) v).run P w = .ok () (w.setRow g (cur.toList.take o ++ v.cells.toList ++ cur.toList.drop (o + v.cells.size)).toArray) := by
  have hst := run_storeCells_at P g o T v.cells.toList 0 cur w hw (by simpa using ho) h1; simp only [Nat.add_zero, Array.length_toList] at hst; simp [Instr.storeAt, Instr.sureAddr, storeVar, sizeOf, typeInfo, hi, hs, hst]

theorem Z2c {α : Type} (cur vs : List α) (o : Nat) (i : Nat) (d : α) (ho : o + vs.length ≤ cur.length) :
    (cur.take o ++ vs ++ cur.drop (o + vs.length)).getD i d = if o ≤ i ∧ i < o + vs.length then vs.getD (i - o) d else cur.getD i d := by
  have ht : (cur.take o).length = o := by simp only [List.length_take]; omega
  by_cases h1 : i < o
  · rw [if_neg (by omega)]
    simp only [List.getD_eq_getElem?_getD]; rw [List.append_assoc, List.getElem?_append_left (by omega), List.getElem?_take, if_pos h1]
  · by_cases h2 : i < o + vs.length
    · rw [if_pos (by omega)]
      simp only [List.getD_eq_getElem?_getD]; rw [List.append_assoc, List.getElem?_append_right (by omega), ht, List.getElem?_append_left (by omega)]
    · rw [if_neg (by omega)]
      simp only [List.getD_eq_getElem?_getD]; rw [List.getElem?_append_right (by simp only [List.length_append]; omega), List.getElem?_drop]
      congr 2; simp only [List.length_append]; omega

theorem Z6n {n : Nat} {y : AV} {v : Value} {l : List AV} (hy : VR n μ I w y v) (hl : y.cellL = some l) (h : l.all AV.one = true) : ∀ u ∈ v.cells.toList, u.oneCell' = true := by
  obtain ⟨hs, hc⟩ := hy.cellL hl; intro u hu; obtain ⟨i, hi, rfl⟩ := List.getElem_of_mem hu; have hi' : i < v.cells.size := by simpa using hi
  have h1 := hc i (by omega); have e : v.cells.getD i undef = v.cells.toList[i] := by simp [Array.getD, hi']
  rw [e] at h1; refine h1.one' ?_
  have := List.all_eq_true.1 h (l.getD i .junk) (by
    rw [List.getD_eq_getElem?_getD, List.getElem?_eq_getElem (by omega), Option.getD_some]; exact List.getElem_mem _)
  exact this

theorem Zab {xs : List PV} {s i : Nat} {v : PV} (hs : ∀ x ∈ xs, x.cells.length = s) (hv : v.cells.length = s) (hi : i < xs.length) (j : Nat) (hj : j < xs.length * s) :
    (Zk (xs.set i v)).getD j default = if i * s ≤ j ∧ j < i * s + s then v.cells.getD (j - i * s) default else (Zk xs).getD j default := by
  have hs' : ∀ x ∈ xs.set i v, x.cells.length = s := fun x hx => by
    rcases List.mem_or_eq_of_mem_set hx with h | h
    · exact hs x h
    · rw [h]; exact hv
  have h0 : 0 < s := by
    rcases Nat.eq_zero_or_pos s with h | h
    · subst h; simp at hj
    · exact h
  have hq : j / s < xs.length := Nat.div_lt_of_lt_mul (by rw [Nat.mul_comm]; exact hj); have hr : j % s < s := Nat.mod_lt _ h0; have hjq : j = (j / s) * s + j % s := by rw [Nat.mul_comm]; exact (Nat.div_add_mod j s).symm
  have e1 := Z0o hs' (i := j / s) (j := j % s) (by simpa using hq) hr; have e2 := Z0o hs (i := j / s) (j := j % s) hq hr; rw [← hjq] at e1 e2; rw [e1, e2]; by_cases e : j / s = i
  · have h1 : i * s ≤ j ∧ j < i * s + s := by subst e; omega
    rw [if_pos h1, e]; have : j - i * s = j % s := by subst e; omega
    rw [this]; simp [List.getD_eq_getElem?_getD, hi]
  · have h1 : ¬ (i * s ≤ j ∧ j < i * s + s) := by
      intro hh; have : j / s = i := by
        have h2 : i ≤ j / s := (Nat.le_div_iff_mul_le h0).2 hh.1; have h3 : j / s < i + 1 := (Nat.div_lt_iff_lt_mul h0).2 (by rw [Nat.add_mul]; omega); omega
      exact e this
    rw [if_neg h1]; have : (xs.set i v).getD (j / s) default = xs.getD (j / s) default := by simp [List.getD_eq_getElem?_getD, List.getElem?_set_ne (fun h => e h.symm)]
    rw [this]

theorem Zb9 {Γ : Gam} (hΓ : Zg P Γ) {t : TypeId} {x y : AV} {vx vy : Value} {K : St → Prop} (R : Rep X I μ ob ⟨tm, h⟩ w a) (hx : VR h.length μ I w x vx) (hy : VR h.length μ I w y vy) (hk : Z18 Γ tm h t x y K) :
    ∃ w' st', (Instr.storeAt t vx vy).run P w = .ok () w' ∧ Leaves X I μ h.length st' w' a ∧ K st' := by
  unfold Z18 at hk; obtain ⟨te, ht, hk⟩ := hk.get; obtain ⟨inf, hinf, hsz, _⟩ := (hΓ _ _ ht).info
  split at hk
  · rename_i b off _
    split at hk
    · rename_i cs l hb hl
      obtain ⟨⟨h1, h2, h3⟩, hk⟩ := hk; obtain ⟨g, T, cur, hob, hμ, hw, hlen, hcs⟩ := R.objs _ _ hb; obtain ⟨g', rfl, hbn, h'⟩ := hx.ptr_inv; rw [hμ] at h'; injection h' with h'; injection h' with h'; injection h' with h' _; subst h'
      obtain ⟨hs, hc⟩ := hy.cellL hl; have hone := Z6n hy hl h3; have hrun := Z70 (P := P) t inf hinf g off T vy cur hw (by omega) (by omega) hone; have hg := Z0x w g (cur.toList.take off ++ vy.cells.toList ++ cur.toList.drop (off + vy.cells.size)).toArray; refine ⟨_, _, hrun, ⟨I, μ, ob, fun _ h => h, R.write hbn hob hg ?_, fun _ _ _ => rfl⟩, hk⟩; have hnew := setRow_heap w g cur (cur.toList.take off ++ vy.cells.toList ++ cur.toList.drop (off + vy.cells.size)).toArray T (0, 0) hw
      have hIw : ∀ k, I k → (w.setRow g (cur.toList.take off ++ vy.cells.toList ++ cur.toList.drop (off + vy.cells.size)).toArray).heap[k]? = w.heap[k]? :=
        fun k hk => hg.block k (R.imm k hk) (fun e => by injection e with e; subst e; exact (R.own _ _ hob).1 hk)
      refine ⟨g, T, _, hob, hμ, hnew, ?_, fun i hi => ?_⟩
      · simp only [Z14, List.size_toArray, List.length_append, List.length_take, List.length_drop, Array.length_toList]; omega
      · rw [Z14] at hi
        rw [Z5y _ _ _ _ hi]; have e := Z2c cur.toList vy.cells.toList off i undef (by simp only [Array.length_toList]; omega); simp only [Array.length_toList] at e; have e' : ∀ L : List Value, L.toArray.getD i undef = L.getD i undef := fun L => by simp [Array.getD, List.getD_eq_getElem?_getD]; split <;> simp_all
        have e'' : ∀ (A : Array Value) j, A.toList.getD j undef = A.getD j undef := fun A j => by simp [Array.getD, List.getD_eq_getElem?_getD]; split <;> simp_all
        rw [e', e, e'', e'']; by_cases hin : off ≤ i ∧ i < off + l.length
        · rw [if_pos hin, if_pos (by omega)]
          exact (hc _ (by omega)).mono (Nat.le_refl _) (fun _ _ => rfl) (fun _ h => h) hIw
        · rw [if_neg hin, if_neg (by omega)]
          exact (hcs i hi).mono (Nat.le_refl _) (fun _ _ => rfl) (fun _ h => h) hIw
    · exact hk.elim
  · rename_i b s i f _
    split at hk
    · rename_i E s' xs k v hb hyv
      obtain ⟨⟨hown, rfl, rfl, hi, hvl, hte, hone⟩, hK⟩ := hk
      replace hy := hy.pvp hyv
      obtain ⟨hall, hrow⟩ := R.objs _ _ hb; obtain ⟨g, off, k', c, rfl, hbn, hbm⟩ := hx.eptr_inv; rcases hrow with ⟨g', hob, off', cap, cur, fr, vs, hμ, hw, hfr, hfz, hle, hmax, hcs, htake, hvlen, hpr⟩ | ⟨h1, _⟩
      · rw [hbm] at hμ; injection hμ with h1 h2 h3; injection h1 with h1; injection h1 with h1 h4 _; subst h1 h4
        have hle' : i * s' + s' ≤ xs.length * s' := by
          have h1 : (i + 1) * s' ≤ xs.length * s' := Nat.mul_le_mul_right _ hi; rw [Nat.add_mul, Nat.one_mul] at h1; exact h1
        have hcap : xs.length * s' ≤ cap * s' := Nat.mul_le_mul_right _ hle; have hcl : ∃ L, (AV.p v).cellL = some L ∧ L.length = v.cells.length ∧ L.all AV.one = true ∧ ∀ j, j < v.cells.length → L.getD j .junk = .p (v.cells.getD j default) := by
          cases v with
          | agg l => exact ⟨l.map .p, rfl, by simp [PV.cells], by rw [List.all_map]; exact hone, fun j hj => Z0n l j hj⟩
          | _ => exact ⟨_, rfl, rfl, rfl, fun j hj => by have : j = 0 := by simpa [PV.cells] using hj
                                                         subst this; rfl⟩
        obtain ⟨L, hL, hLl, hLone, hLg⟩ := hcl; obtain ⟨hs, hc⟩ := hy.cellL hL; have honeC := Z6n hy hL hLone; have hrun := Z5z (P := P) t inf hinf g (off + (i * s' + 0)) E fr vy cur hw hfz (by omega) (by omega) honeC; have hg := Z0x w g (cur.toList.take (off + (i * s' + 0)) ++ vy.cells.toList ++ cur.toList.drop (off + (i * s' + 0) + vy.cells.size)).toArray; refine ⟨_, _, hrun, ⟨I, μ, ob, fun _ h => h, R.write hbn hob hg ?_, fun _ _ _ => rfl⟩, hK⟩; have hnew := setRow_heap w g cur (cur.toList.take (off + (i * s' + 0)) ++ vy.cells.toList ++ cur.toList.drop (off + (i * s' + 0) + vy.cells.size)).toArray E fr hw
        have hIw : ∀ k, I k → (w.setRow g (cur.toList.take (off + (i * s' + 0)) ++ vy.cells.toList ++ cur.toList.drop (off + (i * s' + 0) + vy.cells.size)).toArray).heap[k]? = w.heap[k]? :=
          fun k hk => hg.block k (R.imm k hk) (fun e => by injection e with e; subst e; exact (R.own _ _ hob).1 hk)
        refine ⟨fun x hx => ?_, .inl ⟨g, hob, off, cap, _, fr, _, ?_, hnew, hfr, fun j hj => hfz j (by simp only [List.size_toArray, List.length_append, List.length_take, List.length_drop, Array.length_toList] at hj; omega), by simpa using hle, hmax, ?_, rfl, ?_, fun j hj => ?_⟩⟩
        · rcases List.mem_or_eq_of_mem_set hx with h | h
          · exact hall x h
          · rw [h]; exact hvl
        · rw [hbm]; subst h2 h3; simp
        · simp only [List.size_toArray, List.length_append, List.length_take, List.length_drop, Array.length_toList]; omega
        · simp only [List.length_set, List.length_take, List.length_append, List.length_drop, Array.length_toList]; omega
        · simp only [List.length_set] at hj ⊢
          rw [Zab hall hvl hi j hj]; have e := Z2c cur.toList vy.cells.toList (off + (i * s' + 0)) (off + j) undef (by simp only [Array.length_toList]; omega); simp only [Array.length_toList] at e; have e0 : (((cur.toList.take (off + (i * s' + 0)) ++ vy.cells.toList ++ cur.toList.drop (off + (i * s' + 0) + vy.cells.size)).drop off).take (xs.length * s')).getD j undef = (cur.toList.take (off + (i * s' + 0)) ++ vy.cells.toList ++ cur.toList.drop (off + (i * s' + 0) + vy.cells.size)).getD (off + j) undef := by
            simp only [List.getD_eq_getElem?_getD, List.getElem?_take, if_pos hj, List.getElem?_drop]
          rw [e0, e]; have e'' : ∀ (A : Array Value) j, A.toList.getD j undef = A.getD j undef := fun A j => by simp [Array.getD, List.getD_eq_getElem?_getD]; split <;> simp_all
          have ev : cur.toList.getD (off + j) undef = vs.getD j undef := by
            rw [← htake]; simp only [List.getD_eq_getElem?_getD, List.getElem?_take, if_pos hj, List.getElem?_drop]
          by_cases hin : i * s' ≤ j ∧ j < i * s' + s'
          · rw [if_pos hin, if_pos (by omega), e'', show off + j - (off + (i * s' + 0)) = j - i * s' by omega]
            have h1 := (hc (j - i * s') (by omega)).mono (Nat.le_refl _) (fun _ _ => rfl) (fun _ h => h) hIw; rw [hLg _ (by omega)] at h1
            cases h1 with | p _ _ h1 => exact h1
          · rw [if_neg hin, if_neg (by omega), ev]
            exact (hpr j hj).mono (fun _ h => h) hIw
      · rw [h1] at hown; cases hown
    · exact hk.elim
  · exact hk.elim
end
end Go.AM
end

