/-
  Texts of this claim, joined.
-/
import Derived.Test.YtnilegembmcelaaDoorJcbba4368799a
import Derived.RangeFuncRecord
import Derived.MapKept
import Derived.Laws.RangeString

section
namespace Go.AM
open Go.RowKit

def midx (k : List UInt8) : List (List UInt8 × PV) → Option Nat
  | [] => none
  | e :: l => if k = e.1 then some 0 else (midx k l).map (· + 1)
def mget (k : List UInt8) (es : List (List UInt8 × PV)) : Option PV := (midx k es).map fun j => (es.getD j default).2
def mset (k : List UInt8) (v : PV) (es : List (List UInt8 × PV)) : List (List UInt8 × PV) := match midx k es with
  | some j => es.set j (k, v)
  | none => es ++ [(k, v)]

theorem Z78 {k : List UInt8} : ∀ {es : List (List UInt8 × PV)} {j : Nat}, midx k es = some j → j < es.length ∧ (es.getD j default).1 = k
  | e :: l, j, h => by
    unfold midx at h
    split at h
    · rename_i he; injection h with h; subst h; exact ⟨by simp, by simpa using he.symm⟩
    · cases hm : midx k l with
      | none => rw [hm] at h; cases h
      | some i =>
        rw [hm] at h; simp only [Option.map_some, Option.some.injEq] at h; subst h; obtain ⟨h1, h2⟩ := Z78 hm; exact ⟨by simpa using h1, by simpa using h2⟩

def Z1j (k : Int) : List (Int × PV) → Option Nat
  | [] => none
  | e :: l => if k = e.1 then some 0 else (Z1j k l).map (· + 1)
def Z3j (k : Int) (es : List (Int × PV)) : Option PV := (Z1j k es).map fun j => (es.getD j default).2
def Z1c (k : Int) (v : PV) (es : List (Int × PV)) : List (Int × PV) := match Z1j k es with
  | some j => es.set j (k, v)
  | none => es ++ [(k, v)]

theorem Z57 {k : Int} : ∀ {es : List (Int × PV)} {j : Nat}, Z1j k es = some j → j < es.length ∧ (es.getD j default).1 = k
  | e :: l, j, h => by
    unfold Z1j at h
    split at h
    · rename_i he; injection h with h; subst h; exact ⟨by simp, by simpa using he.symm⟩
    · cases hm : Z1j k l with
      | none => rw [hm] at h; cases h
      | some i =>
        rw [hm] at h; simp only [Option.map_some, Option.some.injEq] at h; subst h; obtain ⟨h1, h2⟩ := Z57 hm; exact ⟨by simpa using h1, by simpa using h2⟩

section
variable {P : Program} {X : Ctx} {I : Nat → Prop} {μ : Nat → Value} {ob : Nat → Option Nat} {w w' : World} {a : Act} {tm : List AV} {h : List AObj} {n : Nat}

theorem Z1x {r : Nat} {es : Array MapEntry} {clock : Nat} (hb : w.heap[r]? = some (.map es clock)) : (getObj r).run P w = .ok (.map es clock) w := by
  simp [getObj, Sem.run, hb]
theorem Z7u {r : Nat} {es : Array MapEntry} {clock : Nat} (o : Obj) (hb : w.heap[r]? = some (.map es clock)) : (setObj r o).run P w = .ok () (w.putObj r o) := by
  simp [setObj, Sem.run, hb, World.putObj]
theorem Z5i {a b : ByteArray} (h : a.data.toList = b.data.toList) : a = b := by
  obtain ⟨⟨x⟩⟩ := a; obtain ⟨⟨y⟩⟩ := b; simp only at h; subst h; rfl

theorem Z4b (s : ByteArray) : ∀ (l : List MapEntry) (es : List (List UInt8 × PV)) (i : Nat), es.length = l.length → (∀ j, j < es.length → ∃ k : ByteArray, (l.getD j default).key = .string k ∧ k.data.toList = (es.getD j default).1) →
    Instr.findNow .string (.string s) l i = some ((midx s.data.toList es).map fun j => (i + j, (l.getD j default).val))
  | [], [], i, _, _ => rfl
  | e :: l, x :: es, i, hl, hk => by
    obtain ⟨k, hk1, hk2⟩ := hk 0 (by simp); simp only [List.getD_cons_zero] at hk1 hk2; have ih := Z4b s l es (i + 1) (by simpa using hl) (fun j hj => by simpa using hk (j + 1) (by simpa using hj)); unfold Instr.findNow midx; rw [hk1]; simp only [Instr.sameNow]; by_cases he : s.data.toList = x.1
    · have : s = k := Z5i (he.trans hk2.symm)
      subst this; have hss : (s == s) = true := (MapKept.bytes_beq s s).2 rfl; simp [he, hss]
    · have hne : (s == k) = false := by
        cases hb : s == k with
        | false => rfl
        | true => exact absurd (by rw [(MapKept.bytes_beq s k).1 hb]; exact hk2) he
      rw [hne, if_neg he]; simp only [ih, Option.map_map, Function.comp_def, List.getD_cons_succ]
      congr 2
      funext j
      simp [Nat.add_comm, Nat.add_left_comm]
  | [], _ :: _, _, hl, _ => by simp at hl
  | _ :: _, [], _, hl, _ => by simp at hl

theorem Z1f {k : TypeId} (hk : P.underlying k = some .string) {s : ByteArray} {l : List MapEntry} {es : List (List UInt8 × PV)} (hl : es.length = l.length)
    (hh : ∀ j, j < es.length → ∃ k : ByteArray, (l.getD j default).key = .string k ∧ k.data.toList = (es.getD j default).1) :
    (Instr.findKey k (.string s) l).run P w = .ok ((midx s.data.toList es).map fun j => (j, (l.getD j default).val)) w := by
  simp [Instr.findKey, run_underlying hk, Z4b s l es 0 hl hh]

theorem Z19 {k : TypeId} (hk : P.underlying k = some .string) (e : Bool) (d : Nat) (s : ByteArray) : (Instr.checkKey e (d + 1) k (.string s)).run P w = .ok () w := by
  simp [Instr.checkKey, run_underlying hk]

theorem Z4c (s : Int) : ∀ (l : List MapEntry) (es : List (Int × PV)) (i : Nat), es.length = l.length → (∀ j, j < es.length → (l.getD j default).key = .int .i64 (es.getD j default).1) →
    Instr.findNow (.int .i64) (.int .i64 s) l i = some ((Z1j s es).map fun j => (i + j, (l.getD j default).val))
  | [], [], i, _, _ => rfl
  | e :: l, x :: es, i, hl, hk => by
    have hk1 := hk 0 (by simp); simp only [List.getD_cons_zero] at hk1; have ih := Z4c s l es (i + 1) (by simpa using hl) (fun j hj => by simpa using hk (j + 1) (by simpa using hj)); unfold Instr.findNow Z1j; rw [hk1]; simp only [Instr.sameNow, if_true]; by_cases he : s = x.1
    · simp [he]
    · have hne : (s == x.1) = false := by simpa using he
      rw [hne, if_neg he]; simp only [ih, Option.map_map, Function.comp_def, List.getD_cons_succ]
      congr 2
      funext j
      simp [Nat.add_comm, Nat.add_left_comm]
  | [], _ :: _, _, hl, _ => by simp at hl
  | _ :: _, [], _, hl, _ => by simp at hl

theorem Z1g {k : TypeId} (hk : P.underlying k = some (.int .i64)) {s : Int} {l : List MapEntry} {es : List (Int × PV)} (hl : es.length = l.length)
    (hh : ∀ j, j < es.length → (l.getD j default).key = .int .i64 (es.getD j default).1) :
    (Instr.findKey k (.int .i64 s) l).run P w = .ok ((Z1j s es).map fun j => (j, (l.getD j default).val)) w := by
  simp [Instr.findKey, run_underlying hk, Z4c s l es 0 hl hh]

theorem Z1a {k : TypeId} (hk : P.underlying k = some (.int .i64)) (e : Bool) (d : Nat) (s : Int) : (Instr.checkKey e (d + 1) k (.int .i64 s)).run P w = .ok () w := by
  simp [Instr.checkKey, run_underlying hk]

def AObj.asI : AObj → Option (List (Int × PV))
  | .mp [] => some []
  | .mpi es => some es
  | _ => none
theorem ObjOK.asI {b : Nat} {o : AObj} {es : List (Int × PV)} {ob : Nat → Option Nat} (h : ObjOK n μ I ob w b o) (he : o.asI = some es) : ObjOK n μ I ob w b (.mpi es) := by
  unfold AObj.asI at he
  split at he
  · injection he with he; subst he
    obtain ⟨r, ents, h1, h2, h3, h4, h5, h6⟩ := h; exact ⟨r, ents, h1, h2, h3, h4, fun i hi => by simp at hi, h6⟩
  · injection he with he; subst he; exact h
  · cases he

def Z6b (Γ : Gam) (h : List AObj) (t : TypeId) (b : Nat) (kd : IntKind) (s : Int) (ok : Bool) (K : AV → Prop) : Prop :=
  kd = .i64 ∧ tyAt Γ t fun te => (match te.td with
    | .map k e => tdAt Γ k (.int .i64) ∧ tyAt Γ e fun ee => (match ee.zero.bind AV.pure, h[b]?.bind AObj.asI with
      | some z, some es => if ok then K (.tup [.p ((Z3j s es).getD z), .p (.bool (Z3j s es).isSome)]) else K (.p ((Z3j s es).getD z))
      | _, _ => False)
    | _ => False)

def Z20 (Γ : Gam) (h : List AObj) (t : TypeId) (x i : AV) (ok : Bool) (K : AV → Prop) : Prop :=
  match x, i with
  | .map b, .p (.str s) => tyAt Γ t fun te => (match te.td with
    | .map k e => tdAt Γ k .str ∧ tyAt Γ e fun ee => (match ee.zero.bind AV.pure, h[b]? with
      | some z, some (.mp es) => if ok then K (.tup [.p ((mget s es).getD z), .p (.bool (mget s es).isSome)]) else K (.p ((mget s es).getD z))
      | _, _ => False)
    | _ => False)
  | .map b, .p (.int kd s) => Z6b Γ h t b kd s ok K
  | _, _ => False

theorem Ze2 {Γ : Gam} (hΓ : Zg P Γ) {t : TypeId} {x i : AV} {v vi : Value} {ok : Bool} {K : AV → Prop} (hx : VR n μ I w x v) (hi : VR n μ I w i vi)
    (hobj : ∀ b o, h[b]? = some o → ObjOK n μ I ob w b o) (hk : Z20 Γ h t x i ok K) : ∃ a cv, (Instr.lookup t v vi ok).run P w = .ok cv w ∧ VR n μ I w a cv ∧ K a := by
  unfold Z20 at hk
  split at hk
  · rename_i b s
    obtain ⟨te, ht, hk⟩ := hk.get
    split at hk
    · rename_i k e htd
      obtain ⟨hkt, hk⟩ := hk; obtain ⟨ee, hee, hk⟩ := hk.get
      split at hk
      · rename_i z es hz hb
        obtain ⟨d, hu, hd, _⟩ := (hΓ _ _ ht).desc; rw [htd] at hd; simp only [Z7] at hd; subst hd; obtain ⟨dk, huk, hdk⟩ := hkt.und hΓ; simp only [Z7] at hdk; subst hdk; obtain ⟨inf, hinf, _, _, hzero⟩ := (hΓ _ _ hee).info; obtain ⟨za, hza, hzp⟩ := Option.bind_eq_some_iff.1 hz; obtain ⟨zv, hzv, hplain, _⟩ := hzero za hza; have hpz := (hplain n μ I w).pure hzp; obtain ⟨r, rfl, _, hm⟩ := hx.map_inv; obtain ⟨r', ents, _, hm', hw, hl, hents, _⟩ := hobj _ _ hb; rw [hm] at hm'; injection hm' with hm'; injection hm' with hm'; subst hm'
        obtain ⟨sb, rfl, rfl⟩ := hi.str_inv; have hfk := Z1f (w := w) huk (s := sb) (l := ents.toList) (es := es) (by simpa using hl) (fun j hj => by
          have := (hents j hj).1; simpa [List.getD_eq_getElem?_getD, Array.getD_eq_getD_getElem?] using this)
        have hck := Z19 (P := P) (w := w) huk ents.isEmpty 9999 sb; have hget : ∃ vv : Value, (∀ ok : Bool, (Instr.lookup t (.map (some r)) (.string sb) ok).run P w = .ok (if ok then .tuple #[vv, .bool (mget sb.data.toList es).isSome] else vv) w) ∧ PR I w ((mget sb.data.toList es).getD z) vv := by
          unfold mget
          cases hmi : midx sb.data.toList es with
          | none =>
            rw [hmi] at hfk; refine ⟨zv, fun ok => ?_, hpz⟩; simp [Instr.lookup, run_underlying hu, getObj, Sem.run, hw, hck, hfk, zeroValue, typeInfo, hinf, hzv, Result.andThen]
          | some j =>
            rw [hmi] at hfk; obtain ⟨hj, _⟩ := Z78 hmi; refine ⟨(ents.toList.getD j default).val, fun ok => ?_, ?_⟩
            · simp [Instr.lookup, run_underlying hu, getObj, Sem.run, hw, hck, hfk, Result.andThen]
            · have := (hents j hj).2
              simpa [List.getD_eq_getElem?_getD, Array.getD_eq_getD_getElem?] using this
        obtain ⟨vv, hrun, hp⟩ := hget
        cases ok with
        | true =>
          refine ⟨_, _, hrun true, ?_, hk⟩; exact .tup _ [vv, .bool (mget sb.data.toList es).isSome] rfl (fun j hj => by
            have : j = 0 ∨ j = 1 := by simp at hj; omega
            rcases this with rfl | rfl
            · exact .p _ _ hp
            · exact .mkBool _)
        | false => exact ⟨_, _, hrun false, .p _ _ hp, hk⟩
      · exact hk.elim
    · exact hk.elim
  · rename_i b kd s
    unfold Z6b at hk; obtain ⟨rfl, hk⟩ := hk; obtain ⟨te, ht, hk⟩ := hk.get
    split at hk
    · rename_i k e htd
      obtain ⟨hkt, hk⟩ := hk; obtain ⟨ee, hee, hk⟩ := hk.get
      split at hk
      · rename_i z es hz hb
        obtain ⟨d, hu, hd, _⟩ := (hΓ _ _ ht).desc; rw [htd] at hd; simp only [Z7] at hd; subst hd; obtain ⟨dk, huk, hdk⟩ := hkt.und hΓ; simp only [Z7] at hdk; subst hdk; obtain ⟨inf, hinf, _, _, hzero⟩ := (hΓ _ _ hee).info; obtain ⟨za, hza, hzp⟩ := Option.bind_eq_some_iff.1 hz; obtain ⟨zv, hzv, hplain, _⟩ := hzero za hza; have hpz := (hplain n μ I w).pure hzp; obtain ⟨r, rfl, _, hm⟩ := hx.map_inv; obtain ⟨oo, hob1, hob2⟩ := Option.bind_eq_some_iff.1 hb; obtain ⟨r', ents, _, hm', hw, hl, hents, _⟩ := (hobj _ _ hob1).asI hob2; rw [hm] at hm'; injection hm' with hm'; injection hm' with hm'; subst hm'
        have hvi := hi.int_inv; subst hvi; have hfk := Z1g (w := w) huk (s := s) (l := ents.toList) (es := es) (by simpa using hl) (fun j hj => by
          have := (hents j hj).1; simpa [List.getD_eq_getElem?_getD, Array.getD_eq_getD_getElem?] using this)
        have hck := Z1a (P := P) (w := w) huk ents.isEmpty 9999 s; have hget : ∃ vv : Value, (∀ ok : Bool, (Instr.lookup t (.map (some r)) (.int .i64 s) ok).run P w = .ok (if ok then .tuple #[vv, .bool (Z3j s es).isSome] else vv) w) ∧ PR I w ((Z3j s es).getD z) vv := by
          unfold Z3j
          cases hmi : Z1j s es with
          | none =>
            rw [hmi] at hfk; refine ⟨zv, fun ok => ?_, hpz⟩; simp [Instr.lookup, run_underlying hu, getObj, Sem.run, hw, hck, hfk, zeroValue, typeInfo, hinf, hzv, Result.andThen]
          | some j =>
            rw [hmi] at hfk; obtain ⟨hj, _⟩ := Z57 hmi; refine ⟨(ents.toList.getD j default).val, fun ok => ?_, ?_⟩
            · simp [Instr.lookup, run_underlying hu, getObj, Sem.run, hw, hck, hfk, Result.andThen]
            · have := (hents j hj).2
              simpa [List.getD_eq_getElem?_getD, Array.getD_eq_getD_getElem?] using this
        obtain ⟨vv, hrun, hp⟩ := hget
        cases ok with
        | true =>
          refine ⟨_, _, hrun true, ?_, hk⟩; exact .tup _ [vv, .bool (Z3j s es).isSome] rfl (fun j hj => by
            have : j = 0 ∨ j = 1 := by simp at hj; omega
            rcases this with rfl | rfl
            · exact .p _ _ hp
            · exact .mkBool _)
        | false => exact ⟨_, _, hrun false, .p _ _ hp, hk⟩
      · exact hk.elim
    · exact hk.elim
  · exact hk.elim

/-! a new map; a store into a map -/
def mkMK (tm : List AV) (h : List AObj) (d : Option Nat) (K : St → Prop) : Prop := K ⟨putD tm d (.map h.length), h ++ [.mp []]⟩

theorem Zi5 {t : TypeId} {d : Option Nat} {K : St → Prop} (R : Rep X I μ ob ⟨tm, h⟩ w a) (hk : mkMK tm h d K) : StepOK P X I μ h.length (Instr.makeMap t none) w a d K := by
  have hg : w.grownBy (w.alloc (.map #[] 0)) none := World.grownBy_alloc w _ none
  have R1 := R.name (v := .map (some w.heap.size)) (g := some w.heap.size) (o := .mp []) hg (fun k e => by injection e with e; subst e; simp)
    ⟨w.heap.size, #[], by simp, by simp, by simpa using World.alloc_heap_new w (.map #[] 0), rfl, by simp, by simp⟩
  have R2 := R1.put (v := .map h.length) (cv := .map (some w.heap.size)) (.map _ _ (by simp) (by simp)) d; exact ⟨_, _, _, rfl, ⟨_, _, _, fun _ h => h, R2, fun b hb _ => Zy hb _⟩, hk⟩

def Zd0 (Γ : Gam) (tm : List AV) (h : List AObj) (t : TypeId) (b : Nat) (kd : IntKind) (s : Int) (v : PV) (K : St → Prop) : Prop :=
  kd = .i64 ∧ tyAt Γ t fun te => (match te.td with
    | .map k _ => tdAt Γ k (.int .i64) ∧ (match h[b]?.bind AObj.asI with
      | some es => K ⟨tm, h.set b (.mpi (Z1c s v es))⟩
      | _ => False)
    | _ => False)
def updK (Γ : Gam) (tm : List AV) (h : List AObj) (t : TypeId) (x i y : AV) (K : St → Prop) : Prop :=
  match x, i, y.pure1 with
  | .map b, .p (.str s), some v => tyAt Γ t fun te => (match te.td with
    | .map k _ => tdAt Γ k .str ∧ (match h[b]? with
      | some (.mp es) => K ⟨tm, h.set b (.mp (mset s v es))⟩
      | _ => False)
    | _ => False)
  | .map b, .p (.int kd s), some v => Zd0 Γ tm h t b kd s v K
  | _, _, _ => False

theorem Z0i (w : World) (r : Nat) (o : Obj) : w.grownBy (w.putObj r o) (some r) :=
  ⟨rfl, rfl, rfl, by simp, fun k _ hne => World.putObj_heap_other (fun e => hne (by rw [e]))⟩

theorem Zc4 {Γ : Gam} (hΓ : Zg P Γ) {t : TypeId} {x i y : AV} {v vi vy : Value} {K : St → Prop} (R : Rep X I μ ob ⟨tm, h⟩ w a) (hx : VR h.length μ I w x v) (hi : VR h.length μ I w i vi) (hy : VR h.length μ I w y vy)
    (hk : updK Γ tm h t x i y K) : ∃ w' st', (Instr.mapUpdate t v vi vy).run P w = .ok () w' ∧ Leaves X I μ h.length st' w' a ∧ K st' := by
  unfold updK at hk
  split at hk
  · rename_i b s pv hpv
    obtain ⟨te, ht, hk⟩ := hk.get
    split at hk
    · rename_i k e htd
      obtain ⟨hkt, hk⟩ := hk
      split at hk
      · rename_i es hb
        obtain ⟨d, hu, hd, _⟩ := (hΓ _ _ ht).desc; rw [htd] at hd; simp only [Z7] at hd; subst hd; obtain ⟨dk, huk, hdk⟩ := hkt.und hΓ; simp only [Z7] at hdk; subst hdk; have hpr := hy.pure1 hpv; obtain ⟨r, rfl, hbn, hm⟩ := hx.map_inv; obtain ⟨r', ents, hobr, hm', hw, hl, hents, hborn⟩ := R.objs _ _ hb; rw [hm] at hm'; injection hm' with hm'; injection hm' with hm'; subst hm'
        obtain ⟨sb, rfl, rfl⟩ := hi.str_inv; have hfk := Z1f (w := w) huk (s := sb) (l := ents.toList) (es := es) (by simpa using hl) (fun j hj => by
          have := (hents j hj).1; simpa [List.getD_eq_getElem?_getD, Array.getD_eq_getD_getElem?] using this)
        have hck := Z19 (P := P) (w := w) huk false 9999 sb; have hlt : r < w.heap.size := (Array.getElem?_eq_some_iff.1 hw).1
        have fin : ∀ ents' : Array MapEntry, (Instr.mapUpdate t (.map (some r)) (.string sb) vy).run P w = .ok () (w.putObj r (.map ents' (mset sb.data.toList pv es).length)) →
            (mset sb.data.toList pv es).length = ents'.size → (∀ i, i < (mset sb.data.toList pv es).length → (∃ k : ByteArray, (ents'.getD i default).key = .string k ∧ k.data.toList = ((mset sb.data.toList pv es).getD i default).1) ∧ PR I w ((mset sb.data.toList pv es).getD i default).2 (ents'.getD i default).val) →
            (∀ i, i < ents'.size → (ents'.getD i default).born = i) →
            ∃ w' st', (Instr.mapUpdate t (.map (some r)) (.string sb) vy).run P w = .ok () w' ∧ Leaves X I μ h.length st' w' a ∧ K st' := by
          intro ents' hrun e1 e2 e3; have hg := Z0i w r (.map ents' (mset sb.data.toList pv es).length); have hIw : ∀ g, I g → (w.putObj r (.map ents' (mset sb.data.toList pv es).length)).heap[g]? = w.heap[g]? := fun g hg' => hg.block g (R.imm g hg') (fun e => by injection e with e; subst e; exact (R.own _ _ hobr).1 hg')
          have R1 := R.write (o := .mp (mset sb.data.toList pv es)) hbn hobr hg ⟨r, ents', hobr, hm, World.putObj_heap_same hlt, e1, fun i hi => ⟨(e2 i hi).1, (e2 i hi).2.mono (fun _ h => h) hIw⟩, e3⟩; exact ⟨_, _, hrun, ⟨_, _, _, fun _ h => h, R1, fun _ _ _ => rfl⟩, hk⟩
        cases hmi : midx sb.data.toList es with
        | none =>
          rw [hmi] at hfk; have hms : mset sb.data.toList pv es = es ++ [(sb.data.toList, pv)] := by simp [mset, hmi]
          refine fin (ents.push { key := .string sb, val := vy, born := es.length }) ?_ (by simp [hms, hl]) (fun i hi => ?_) (fun i hi => ?_)
          · rw [hms]
            simp [Instr.mapUpdate, run_underlying hu, getObj, setObj, Sem.run, hw, hck, hfk, Result.andThen, World.putObj]
          · rw [hms] at hi ⊢
            simp only [List.length_append, List.length_singleton] at hi; by_cases hlt2 : i < es.length
            · have := hents i hlt2
              simpa [List.getD_eq_getElem?_getD, Array.getD_eq_getD_getElem?, List.getElem?_append_left hlt2, Array.getElem?_push, show i ≠ ents.size by omega] using this
            · have : i = es.length := by omega
              subst this; have e0 : (ents.push { key := .string sb, val := vy, born := es.length }).getD es.length default = { key := .string sb, val := vy, born := es.length } := by
                simp [Array.getD_eq_getD_getElem?, hl]
              rw [e0]
              simpa [List.getD_eq_getElem?_getD] using hpr
          · simp only [Array.size_push] at hi
            by_cases hlt2 : i < ents.size
            · have := hborn i hlt2
              simpa [Array.getD_eq_getD_getElem?, Array.getElem?_push, show i ≠ ents.size by omega] using this
            · have : i = ents.size := by omega
              subst this; simp [Array.getD_eq_getD_getElem?, hl]
        | some j =>
          rw [hmi] at hfk; obtain ⟨hj, hjk⟩ := Z78 hmi; have hms : mset sb.data.toList pv es = es.set j (sb.data.toList, pv) := by simp [mset, hmi]
          obtain ⟨⟨kb, hkb, hkb2⟩, _⟩ := hents j hj; have hkeq : kb = sb := Z5i (hkb2.trans hjk); subst hkeq; have hjs : j < ents.size := by omega
          have hold : ((ents[j]?).map (·.key)).getD (.string kb) = .string kb := by
            rw [← hkb]; simp [Array.getD_eq_getD_getElem?, hjs]
          have hsb : ∀ x : ByteArray, Instr.sameBits 10000 (.string x) (.string x) = true := fun x => (MapKept.bytes_beq x x).2 rfl
          refine fin (ents.modify j fun e => { e with key := .string kb, val := vy }) ?_ (by simp [hms, hl]) (fun i hi => ?_) (fun i hi => ?_)
          · rw [hms, List.length_set]
            simp only [Option.map_some] at hfk; simp only [Instr.mapUpdate, Sem.run_bind, run_underlying hu, Result.andThen, Z1x hw, hck, hfk, hold, Instr.keyThatStays, hsb, if_true, Sem.run_pure, Z7u _ hw]
          · rw [hms] at hi ⊢
            simp only [List.length_set] at hi; have e0 : (ents.modify j fun e => { e with key := .string kb, val := vy }).getD i default = if j = i then { ents.getD i default with key := .string kb, val := vy } else ents.getD i default := by
              have hi' : i < ents.size := by omega
              simp only [Array.getD_eq_getD_getElem?, Array.getElem?_modify]
              split <;> simp [hi']
            rw [e0]; by_cases e : j = i
            · subst e
              rw [if_pos rfl]
              simpa [List.getD_eq_getElem?_getD, List.getElem?_set_self hj] using hpr
            · rw [if_neg e]
              have := hents i hi
              simpa [List.getD_eq_getElem?_getD, List.getElem?_set_ne e] using this
          · simp only [Array.size_modify] at hi
            have := hborn i hi; simp only [Array.getD_eq_getD_getElem?, Array.getElem?_modify] at this ⊢
            split
            · simpa [hi] using this
            · exact this
      · exact hk.elim
    · exact hk.elim
  · rename_i b kd s pv hpv
    unfold Zd0 at hk; obtain ⟨rfl, hk⟩ := hk; obtain ⟨te, ht, hk⟩ := hk.get
    split at hk
    · rename_i k e htd
      obtain ⟨hkt, hk⟩ := hk
      split at hk
      · rename_i es hb
        obtain ⟨d, hu, hd, _⟩ := (hΓ _ _ ht).desc; rw [htd] at hd; simp only [Z7] at hd; subst hd; obtain ⟨dk, huk, hdk⟩ := hkt.und hΓ; simp only [Z7] at hdk; subst hdk; have hpr := hy.pure1 hpv; obtain ⟨r, rfl, hbn, hm⟩ := hx.map_inv; obtain ⟨oo, hob1, hob2⟩ := Option.bind_eq_some_iff.1 hb; obtain ⟨r', ents, hobr, hm', hw, hl, hents, hborn⟩ := (R.objs _ _ hob1).asI hob2; rw [hm] at hm'; injection hm' with hm'; injection hm' with hm'; subst hm'
        have hvi := hi.int_inv; subst hvi; have hfk := Z1g (w := w) huk (s := s) (l := ents.toList) (es := es) (by simpa using hl) (fun j hj => by
          have := (hents j hj).1; simpa [List.getD_eq_getElem?_getD, Array.getD_eq_getD_getElem?] using this)
        have hck := Z1a (P := P) (w := w) huk false 9999 s; have hlt : r < w.heap.size := (Array.getElem?_eq_some_iff.1 hw).1
        have fin : ∀ ents' : Array MapEntry, (Instr.mapUpdate t (.map (some r)) (.int .i64 s) vy).run P w = .ok () (w.putObj r (.map ents' (Z1c s pv es).length)) →
            (Z1c s pv es).length = ents'.size → (∀ i, i < (Z1c s pv es).length → (ents'.getD i default).key = .int .i64 ((Z1c s pv es).getD i default).1 ∧ PR I w ((Z1c s pv es).getD i default).2 (ents'.getD i default).val) →
            (∀ i, i < ents'.size → (ents'.getD i default).born = i) →
            ∃ w' st', (Instr.mapUpdate t (.map (some r)) (.int .i64 s) vy).run P w = .ok () w' ∧ Leaves X I μ h.length st' w' a ∧ K st' := by
          intro ents' hrun e1 e2 e3; have hg := Z0i w r (.map ents' (Z1c s pv es).length); have hIw : ∀ g, I g → (w.putObj r (.map ents' (Z1c s pv es).length)).heap[g]? = w.heap[g]? := fun g hg' => hg.block g (R.imm g hg') (fun e => by injection e with e; subst e; exact (R.own _ _ hobr).1 hg')
          have R1 := R.write (o := .mpi (Z1c s pv es)) hbn hobr hg ⟨r, ents', hobr, hm, World.putObj_heap_same hlt, e1, fun i hi => ⟨(e2 i hi).1, (e2 i hi).2.mono (fun _ h => h) hIw⟩, e3⟩; exact ⟨_, _, hrun, ⟨_, _, _, fun _ h => h, R1, fun _ _ _ => rfl⟩, hk⟩
        cases hmi : Z1j s es with
        | none =>
          rw [hmi] at hfk; have hms : Z1c s pv es = es ++ [(s, pv)] := by simp [Z1c, hmi]
          refine fin (ents.push { key := .int .i64 s, val := vy, born := es.length }) ?_ (by simp [hms, hl]) (fun i hi => ?_) (fun i hi => ?_)
          · rw [hms]
            simp [Instr.mapUpdate, run_underlying hu, getObj, setObj, Sem.run, hw, hck, hfk, Result.andThen, World.putObj]
          · rw [hms] at hi ⊢
            simp only [List.length_append, List.length_singleton] at hi; by_cases hlt2 : i < es.length
            · have := hents i hlt2
              simpa [List.getD_eq_getElem?_getD, Array.getD_eq_getD_getElem?, List.getElem?_append_left hlt2, Array.getElem?_push, show i ≠ ents.size by omega] using this
            · have : i = es.length := by omega
              subst this; have e0 : (ents.push { key := .int .i64 s, val := vy, born := es.length }).getD es.length default = { key := .int .i64 s, val := vy, born := es.length } := by
                simp [Array.getD_eq_getD_getElem?, hl]
              rw [e0]
              simpa [List.getD_eq_getElem?_getD] using hpr
          · simp only [Array.size_push] at hi
            by_cases hlt2 : i < ents.size
            · have := hborn i hlt2
              simpa [Array.getD_eq_getD_getElem?, Array.getElem?_push, show i ≠ ents.size by omega] using this
            · have : i = ents.size := by omega
              subst this; simp [Array.getD_eq_getD_getElem?, hl]
        | some j =>
          rw [hmi] at hfk; obtain ⟨hj, hjk⟩ := Z57 hmi; have hms : Z1c s pv es = es.set j (s, pv) := by simp [Z1c, hmi]
          have hkb := (hents j hj).1; rw [hjk] at hkb; have hjs : j < ents.size := by omega
          have hold : ((ents[j]?).map (·.key)).getD (.int .i64 s) = .int .i64 s := by
            rw [← hkb]; simp [Array.getD_eq_getD_getElem?, hjs]
          have hsb : ∀ x : Int, Instr.sameBits 10000 (.int .i64 x) (.int .i64 x) = true := fun x => by simp [Instr.sameBits]
          refine fin (ents.modify j fun e => { e with key := .int .i64 s, val := vy }) ?_ (by simp [hms, hl]) (fun i hi => ?_) (fun i hi => ?_)
          · rw [hms, List.length_set]
            simp only [Option.map_some] at hfk; simp only [Instr.mapUpdate, Sem.run_bind, run_underlying hu, Result.andThen, Z1x hw, hck, hfk, hold, Instr.keyThatStays, hsb, if_true, Sem.run_pure, Z7u _ hw]
          · rw [hms] at hi ⊢
            simp only [List.length_set] at hi; have e0 : (ents.modify j fun e => { e with key := .int .i64 s, val := vy }).getD i default = if j = i then { ents.getD i default with key := .int .i64 s, val := vy } else ents.getD i default := by
              have hi' : i < ents.size := by omega
              simp only [Array.getD_eq_getD_getElem?, Array.getElem?_modify]
              split <;> simp [hi']
            rw [e0]; by_cases e : j = i
            · subst e
              rw [if_pos rfl]
              simpa [List.getD_eq_getElem?_getD, List.getElem?_set_self hj] using hpr
            · rw [if_neg e]
              have := hents i hi
              simpa [List.getD_eq_getElem?_getD, List.getElem?_set_ne e] using this
          · simp only [Array.size_modify] at hi
            have := hborn i hi; simp only [Array.getD_eq_getD_getElem?, Array.getElem?_modify] at this ⊢
            split
            · simpa [hi] using this
            · exact this
      · exact hk.elim
    · exact hk.elim
  · exact hk.elim

/-! ranging over a map -/
def rngK (Γ : Gam) (tm : List AV) (h : List AObj) (d : Option Nat) (t : TypeId) (x : AV) (K : St → Prop) : Prop :=
  match x with
  | .map b => (∃ k e, tdAt Γ t (.map k e)) ∧ (match h[b]? with
    | some (.mp es) => K ⟨putD tm d (.ptr h.length 0), h ++ [.it b es.length [] es.length]⟩
    | _ => False)
  | .p (.str s) => tdAt Γ t .str ∧ K ⟨putD tm d (.ptr h.length 0), h ++ [.sit s 0]⟩
  | _ => False

theorem Zh2 {Γ : Gam} (hΓ : Zg P Γ) {t : TypeId} {x : AV} {v : Value} {d : Option Nat} {K : St → Prop} (R : Rep X I μ ob ⟨tm, h⟩ w a) (hx : VR h.length μ I w x v) (hk : rngK Γ tm h d t x K) :
    StepOK P X I μ h.length (Instr.range t v) w a d K := by
  unfold rngK at hk
  split at hk
  · rename_i b
    obtain ⟨⟨k, e, ht⟩, hk⟩ := hk
    split at hk
    · rename_i es hb
      obtain ⟨dd, hu, hd⟩ := ht.und hΓ; simp only [Z7] at hd; subst hd; obtain ⟨r, rfl, hbn, hm⟩ := hx.map_inv; obtain ⟨r', ents, hobr, hm', hw, hl, hents, hborn⟩ := R.objs _ _ hb; rw [hm] at hm'; injection hm' with hm'; injection hm' with hm'; subst hm'
      have hg : w.grownBy (w.alloc (.mapIter (some r) es.length #[] es.length)) none := World.grownBy_alloc w _ none
      have R1 := R.name (v := .pointer (some ⟨w.heap.size, 0, none⟩)) (g := some w.heap.size) (o := .it b es.length [] es.length) hg (fun k e => by injection e with e; subst e; simp)
        ⟨w.heap.size, r, by omega, by simp, by simp, by rw [Z2 _ _ (by omega)]; exact hm, by simpa using World.alloc_heap_new w (.mapIter (some r) es.length #[] es.length), by simp⟩
      have R2 := R1.put (v := .ptr h.length 0) (cv := .pointer (some ⟨w.heap.size, 0, none⟩)) (.ptr _ _ _ (by simp) (by simp)) d; refine ⟨_, _, _, ?_, ⟨_, _, _, fun _ h => h, R2, fun b hb _ => Zy hb _⟩, hk⟩; simp [Instr.range, run_underlying hu, Z1x hw]
    · exact hk.elim
  · rename_i s
    obtain ⟨ht, hk⟩ := hk; obtain ⟨dd, hu, hd⟩ := ht.und hΓ; simp only [Z7] at hd; subst hd; obtain ⟨sb, rfl, rfl⟩ := hx.str_inv; have hg : w.grownBy (w.alloc (.stringIter sb 0)) none := World.grownBy_alloc w _ none
    have R1 := R.name (v := .pointer (some ⟨w.heap.size, 0, none⟩)) (g := some w.heap.size) (o := .sit sb.data.toList 0) hg (fun k e => by injection e with e; subst e; simp)
      ⟨w.heap.size, sb, by simp, by simp, rfl, by simpa using World.alloc_heap_new w (.stringIter sb 0)⟩
    have R2 := R1.put (v := .ptr h.length 0) (cv := .pointer (some ⟨w.heap.size, 0, none⟩)) (.ptr _ _ _ (by simp) (by simp)) d; exact ⟨_, _, _, run_range_string w t sb hu, ⟨_, _, _, fun _ h => h, R2, fun b hb _ => Zy hb _⟩, hk⟩
  · exact hk.elim

def Z76 (tm : List AV) (h : List AObj) (d : Option Nat) (x : AV) (K : St → Prop) : Prop :=
  match x with
  | .ptr b 0 => (match h[b]? with
    | some (.sit s pos) => (pos < s.length → (s.getD pos 0).toNat < 128 ∧ K ⟨putD tm d (.tup [.p (.bool true), .p (.int .i64 pos), .p (.int .i32 (s.getD pos 0).toNat)]), h.set b (.sit s (pos + 1))⟩) ∧
        (¬ pos < s.length → K ⟨putD tm d (.tup [.p (.bool false)]), h⟩)
    | _ => False)
  | _ => False
theorem Z60 {s : ByteArray} {pos r : Nat} {ty : TypeId} (hw : w.heap[r]? = some (.stringIter s pos)) (h : pos < s.size) (ha : (s[pos]'h).toNat < 128) :
    (Instr.next (.pointer (some ⟨r, 0, none⟩)) true ty).run P w = .ok (.tuple #[.bool true, .int .i64 pos, .int .i32 (s[pos]'h).toNat]) (w.putObj r (.stringIter s (pos + 1))) := by
  simp [Instr.next, getObj, setObj, Sem.run, hw, Result.andThen, h, decode_ascii s pos h ha, World.putObj, goInt]
theorem Z3h {s : ByteArray} {pos r : Nat} {ty : TypeId} (hw : w.heap[r]? = some (.stringIter s pos)) (h : ¬ pos < s.size) :
    (Instr.next (.pointer (some ⟨r, 0, none⟩)) true ty).run P w = .ok (.tuple #[.bool false]) w := by
  simp [Instr.next, getObj, Sem.run, hw, h]
theorem Zdw {ty : TypeId} {x : AV} {v : Value} {d : Option Nat} {K : St → Prop} (R : Rep X I μ ob ⟨tm, h⟩ w a) (hx : VR h.length μ I w x v) (hk : Z76 tm h d x K) :
    StepOK P X I μ h.length (Instr.next v true ty) w a d K := by
  unfold Z76 at hk
  split at hk
  · rename_i b
    split at hk
    · rename_i s pos hb
      obtain ⟨hk1, hk2⟩ := hk; obtain ⟨g0, rfl, hbn, hμ0⟩ := hx.ptr_inv; obtain ⟨r, bs, hobr, hμb, hbs, hwi⟩ := R.objs _ _ hb; rw [hμ0] at hμb; injection hμb with hμb; injection hμb with hμb; injection hμb with hμb _ _; have hμb := hμb.symm; subst hμb
      have hlen : s.length = bs.size := by rw [← hbs]; exact Array.length_toList
      by_cases hp : pos < s.length
      · obtain ⟨ha, hk⟩ := hk1 hp
        have hp' : pos < bs.size := by omega
        have he : s.getD pos 0 = bs[pos]'hp' := by
          subst hbs; rw [List.getD_eq_getElem?_getD, List.getElem?_eq_getElem hp, Option.getD_some]
          rfl
        rw [he] at ha hk; have hg := Z0i w r (.stringIter bs (pos + 1)); have hlt : r < w.heap.size := (Array.getElem?_eq_some_iff.1 hwi).1; have hIw : ∀ g, I g → (w.putObj r (.stringIter bs (pos + 1))).heap[g]? = w.heap[g]? := fun g hg' => hg.block g (R.imm g hg') (fun e => by injection e with e; subst e; exact (R.own _ _ hobr).1 hg')
        have R1 := R.write (o := .sit s (pos + 1)) hbn hobr hg ⟨r, bs, hobr, hμ0, hbs, World.putObj_heap_same hlt⟩; have R2 := R1.put (v := .tup [.p (.bool true), .p (.int .i64 pos), .p (.int .i32 ((bs[pos]'hp').toNat : Int))]) (cv := .tuple #[.bool true, .int .i64 pos, .int .i32 ((bs[pos]'hp').toNat : Int)]) (.tup _ [.bool true, .int .i64 pos, .int .i32 ((bs[pos]'hp').toNat : Int)] rfl (fun j hj => by
          have : j = 0 ∨ j = 1 ∨ j = 2 := by simp at hj; omega
          rcases this with rfl | rfl | rfl
          · exact .mkBool _
          · exact .mkInt _ _
          · exact .mkInt _ _)) d
        exact ⟨_, _, _, Z60 hwi hp' ha, ⟨_, _, _, fun _ h => h, R2, fun _ _ _ => rfl⟩, hk⟩
      · have R2 := R.put (v := .tup [.p (.bool false)]) (cv := .tuple #[.bool false]) (.tup _ [.bool false] rfl (fun j hj => by
          have : j = 0 := by simpa using hj
          subst this; exact .mkBool _)) d
        exact ⟨_, _, _, Z3h hwi (by omega), ⟨_, _, _, fun _ h => h, R2, fun _ _ _ => rfl⟩, hk2 hp⟩
    · exact hk.elim
  · exact hk.elim

def nxtK (tm : List AV) (h : List AObj) (d : Option Nat) (x : AV) (K : St → Prop) : Prop :=
  match x with
  | .ptr b 0 => (match h[b]? with
    | some (.it m since seen _) => (match h[m]? with
      | some (.mp es) => ((∀ i, i < since → i < es.length → i ∈ seen) → K ⟨putD tm d (.tup [.p (.bool false)]), h⟩) ∧
          ∀ i, i < es.length → i ∉ seen → K ⟨putD tm d (.tup [.p (.bool true), .p (.str (es.getD i default).1), .p (es.getD i default).2]), h.set b (.it m since (seen ++ [i]) es.length)⟩
      | _ => False)
    | _ => False)
  | _ => False

theorem Z4k (q : Question) : ∃ k w', (choose q).run P w = .ok k w' ∧ w.grownBy w' none ∧ w'.heap = w.heap ∧ (∀ m, q = .mapNext m → 0 < m → k < m) := by
  unfold choose; by_cases hf : q.forced = true
  · refine ⟨0, w, by simp [Sem.run, hf], World.grownBy.refl _ _, rfl, fun m hm h0 => h0⟩
  · refine ⟨q.cut (w.tape w.drawn q), { w with drawn := w.drawn + 1 }, by simp only [Sem.run, hf]; rfl, ⟨rfl, rfl, rfl, Nat.le_refl _, fun _ _ _ => rfl⟩, rfl, fun m hm h0 => ?_⟩
    subst hm; exact Nat.mod_lt _ h0

theorem Zi0 {ty : TypeId} {x : AV} {v : Value} {d : Option Nat} {K : St → Prop} (R : Rep X I μ ob ⟨tm, h⟩ w a) (hx : VR h.length μ I w x v) (hk : nxtK tm h d x K) :
    StepOK P X I μ h.length (Instr.next v false ty) w a d K := by
  unfold nxtK at hk
  split at hk
  · rename_i b
    split at hk
    · rename_i m since seen last hb
      split at hk
      · rename_i es hmb
        obtain ⟨hover, hstep⟩ := hk; obtain ⟨g0, rfl, hbn, hμ0⟩ := hx.ptr_inv; obtain ⟨r, g, hmn, hobr, hμb, hμm, hwi, hlast⟩ := R.objs _ _ hb; rw [hμ0] at hμb; injection hμb with hμb; injection hμb with hμb; injection hμb with hμb _ _; have hμb := hμb.symm; subst hμb
        obtain ⟨r', ents, hobm, hm', hw, hl, hents, hborn⟩ := R.objs _ _ hmb; rw [hμm] at hm'; injection hm' with hm'; injection hm' with hm'; subst hm'
        have hunsup : (!seen.toArray.isEmpty && !ents.isEmpty && ents.all (fun e => decide (e.born ≥ last))) = false := by
          by_cases hs : seen = []
          · subst hs; simp
          · by_cases he : ents.size = 0
            · simp [Array.eq_empty_of_size_eq_zero he]
            · have h0 := hborn 0 (by omega)
              have hl0 := hlast hs; have : ents.all (fun e => decide (e.born ≥ last)) = false := by
                rw [Array.all_eq_false]; refine ⟨0, by omega, ?_⟩; have e0 : ents.getD 0 default = ents[0] := by simp [Array.getD_eq_getD_getElem?, show 0 < ents.size by omega]
                rw [← e0, h0]; simp; omega
              rw [this]; simp
        let left := ents.filter fun e => !seen.toArray.contains e.born
        let old := left.filter fun e => decide (e.born < since)
        let new := left.filter fun e => decide (e.born ≥ since)
        let cands : Array (Option MapEntry) := (if old.isEmpty then #[none] else #[]) ++ (old ++ new).map some
        obtain ⟨q, wd, hq, hgd, hhd, hqlt⟩ := Z4k (P := P) (w := w) (.mapNext cands.size); have hmem : ∀ e, some e ∈ cands → ∃ i, i < es.length ∧ i ∉ seen ∧ e = ents.getD i default := by
          intro e he; have h1 : e ∈ left := by
            simp only [cands, Array.mem_append, Array.mem_map] at he; rcases he with he | ⟨x, hx, hxe⟩
            · split at he <;> simp at he
            · injection hxe with hxe; subst hxe
              rcases hx with hx | hx
              · exact (Array.mem_filter.1 hx).1
              · exact (Array.mem_filter.1 hx).1
          obtain ⟨h2, h3⟩ := Array.mem_filter.1 h1; obtain ⟨i, hi, rfl⟩ := Array.getElem_of_mem h2; have e0 : ents.getD i default = ents[i] := by simp [Array.getD_eq_getD_getElem?, hi]
          refine ⟨i, by omega, ?_, e0.symm⟩; have hbi := hborn i hi; rw [e0] at hbi; rw [hbi] at h3
          simpa using h3
        have hnone : none ∈ cands → ∀ i, i < since → i < es.length → i ∈ seen := by
          intro hn i hi hie; have hoe : old.isEmpty = true := by
            by_cases ho : old.isEmpty = true
            · exact ho
            · simp only [cands, Array.mem_append, Array.mem_map] at hn
              rcases hn with hn | ⟨x, _, hx⟩
              · rw [if_neg ho] at hn; simp at hn
              · cases hx
          refine Classical.byContradiction fun hns => ?_
          have hi' : i < ents.size := by omega
          have e0 : ents.getD i default = ents[i] := by simp [Array.getD_eq_getD_getElem?, hi']
          have hbi := hborn i hi'; rw [e0] at hbi; have : ents[i] ∈ old := Array.mem_filter.2 ⟨Array.mem_filter.2 ⟨Array.getElem_mem _, by rw [hbi]; simpa using hns⟩, by rw [hbi]; simpa using hi⟩; rw [Array.isEmpty_iff] at hoe; rw [hoe] at this; simp at this
        have hpos : 0 < cands.size := by
          simp only [cands, Array.size_append, Array.size_map]
          split
          · simp; omega
          · rename_i ho
            have : 0 < old.size := by
              rcases Nat.eq_zero_or_pos old.size with h0 | h0
              · exact absurd (by rw [Array.isEmpty_iff]; exact Array.eq_empty_of_size_eq_zero h0) ho
              · exact h0
            omega
        have hqs := hqlt _ rfl hpos; have hRd := R.grow (I' := I) hgd (fun _ h => h) (fun _ h => .inl h); have hgi : (getObj r).run P w = .ok (.mapIter (some g) since seen.toArray last) w := by simp [getObj, Sem.run, hwi]
        have hcq : cands[q]? = some cands[q] := Array.getElem?_eq_getElem hqs
        cases hcase : cands[q] with
        | none =>
          have hno := hnone (by rw [← hcase]; exact Array.getElem_mem _); have hK := hover hno; have R2 := hRd.put (v := .tup [.p (.bool false)]) (cv := .tuple #[.bool false]) (.tup _ [.bool false] rfl (fun j hj => by
            have : j = 0 := by simpa using hj
            subst this; exact .mkBool _)) d
          refine ⟨_, _, _, ?_, ⟨_, _, _, fun _ h => h, R2, fun _ _ _ => rfl⟩, hK⟩; have hc2 : cands[q]? = some none := by rw [hcq, hcase]
          simp only [Instr.next, Sem.run_bind, hgi, Result.andThen, Z1x hw, hunsup, Bool.false_eq_true, if_false]; simp only [cands, left, old, new] at hq hc2; rw [hq]; simp only [hc2]
          rfl
        | some e =>
          obtain ⟨i, hi, hns, rfl⟩ := hmem e (by rw [← hcase]; exact Array.getElem_mem _); have hK := hstep i hi hns; obtain ⟨⟨kb, hkb, hkb2⟩, hpv⟩ := hents i hi; have hbi := hborn i (by omega); have hc2 : cands[q]? = some (some (ents.getD i default)) := by rw [hcq, hcase]
          let w2 : World := wd.putObj r (.mapIter (some g) since (seen.toArray.push i) es.length)
          have hwi2 : wd.heap[r]? = some (.mapIter (some g) since seen.toArray last) := by rw [hhd]; exact hwi
          have hlt : r < wd.heap.size := (Array.getElem?_eq_some_iff.1 hwi2).1; have hg2 := Z0i wd r (.mapIter (some g) since (seen.toArray.push i) es.length); have R1 := hRd.write (o := .it m since (seen ++ [i]) es.length) hbn hobr hg2 ⟨r, g, hmn, hobr, hμ0, hμm, by rw [World.putObj_heap_same hlt]; simp, fun _ => by omega⟩; have hIw : ∀ k, I k → w2.heap[k]? = w.heap[k]? := fun k hk => (hg2.block k (by rw [hhd]; exact R.imm k hk) (fun e => by injection e with e; subst e; exact (R.own _ _ hobr).1 hk)).trans (by rw [hhd])
          have R2 := R1.put (v := .tup [.p (.bool true), .p (.str (es.getD i default).1), .p (es.getD i default).2]) (cv := .tuple #[.bool true, (ents.getD i default).key, (ents.getD i default).val])
            (.tup _ [.bool true, (ents.getD i default).key, (ents.getD i default).val] rfl (fun j hj => by
              have : j = 0 ∨ j = 1 ∨ j = 2 := by simp at hj; omega
              rcases this with rfl | rfl | rfl
              · exact .mkBool _
              · show VR _ _ _ _ (.p (.str (es.getD i default).1)) (ents.getD i default).key
                rw [hkb]; exact .mkStr hkb2
              · exact .p _ _ (hpv.mono (fun _ h => h) hIw))) d
          refine ⟨_, _, _, ?_, ⟨_, _, _, fun _ h => h, R2, fun _ _ _ => rfl⟩, hK⟩; simp only [Instr.next, Sem.run_bind, hgi, Result.andThen, Z1x hw, hunsup, Bool.false_eq_true, if_false]; simp only [cands, left, old, new] at hq hc2; rw [hq]; simp only [hc2]; have hso : (setObj r (.mapIter (some g) since (seen.toArray.push i) es.length)).run P wd = .ok () w2 := by
            have : wd.heap[r]? = some (.mapIter (some g) since seen.toArray last) := hwi2; simp [setObj, Sem.run, this, w2, World.putObj]
          simp only [hbi]; simp only [Sem.run_bind, hso, Result.andThen]
          rfl
      · exact hk.elim
    · exact hk.elim
  · exact hk.elim
end
end Go.AM
end

section
namespace Go.AM
open Go.RowKit
section
variable {I : Nat → Prop} {w : World}
theorem RowIn.pr {E : TypeId} {s : Nat} {xs : List PV} {v : Value} {g : Nat} {fz : Bool} (hall : ∀ x ∈ xs, x.cells.length = s) (hin : RowIn I w E s xs v g fz) {J : Nat → Prop} (hJ : ∀ g, I g → J g) (hg : J g) : PR J w (.sl xs) v := by
  obtain ⟨off, cap, cur, fr, vs, hv, hw, _, _, hle, _, hcs, htake, hvl, hpr⟩ := hin; by_cases h0 : xs = []
  · subst h0; rw [hv]; exact .sl0 _ _ (by simp)
  · have := PR.sl (I := J) (w := w) xs s g off cap cur E fr (fun j => vs.getD j undef) h0 hg hw hle hall (fun j hj => by
        have hmul : xs.length * s ≤ cap * s := Nat.mul_le_mul_right _ hle; have h1 : cur.toList.getD (off + j) undef = vs.getD j undef := by
          rw [← htake]; simp only [List.getD_eq_getElem?_getD, List.getElem?_take, if_pos hj, List.getElem?_drop]
        have hj' : off + j < cur.size := by omega
        rw [← h1, Array.getElem?_eq_getElem hj']; simp [List.getD_eq_getElem?_getD, hj'])
      (fun i j hi hj => by
        have hj2 : i * s + j < xs.length * s := by
          have := Nat.mul_le_mul_right s (show i + 1 ≤ xs.length by omega); rw [Nat.add_mul, Nat.one_mul] at this; omega
        have := hpr _ hj2; rw [Z0o hall hi hj] at this; exact this.mono hJ (fun _ _ => rfl))
    rw [hv]; exact this

end

/-! ### An owned row, given to everybody to read -/
def AV.thaw (b : Nat) (xs : List PV) : AV → AV
  | .own c n => if c = b then .p (.sl xs) else .own c n
  | .eptr c s i f => if c = b then .junk else .eptr c s i f
  | .fn f caps => .fn f (thawL b xs caps)
  | .agg l => .agg (thawL b xs l)
  | .tup l => .tup (thawL b xs l)
  | v => v
where
  thawL (b : Nat) (xs : List PV) : List AV → List AV
    | [] => []
    | v :: l => v.thaw b xs :: thawL b xs l

theorem Z54 (b : Nat) (xs : List PV) (l : List AV) : AV.thaw.thawL b xs l = l.map (AV.thaw b xs) := by
  induction l with
  | nil => rfl
  | cons v l ih => simp [AV.thaw.thawL, ih]

def AObj.thaw (b : Nat) (xs : List PV) : AObj → AObj
  | .box cs => .box (cs.map (AV.thaw b xs))
  | .lp tm ps assign body s => .lp (tm.map (AV.thaw b xs)) ps assign body s
  | o => o

theorem Z9 {f : AV → AV} {l : List AV} {i : Nat} (hi : i < l.length) : (l.map f).getD i .junk = f (l.getD i .junk) := by
  simp [List.getD_eq_getElem?_getD, List.getElem?_map, List.getElem?_eq_getElem hi]

theorem VR.thaw {n : Nat} {μ : Nat → Value} {I J : Nat → Prop} {w : World} {x : AV} {v : Value} {b0 : Nat} {xs : List PV} (hI : ∀ g, I g → J g) (hr : PR J w (.sl xs) (μ b0)) (h : VR n μ I w x v) : VR n μ J w (x.thaw b0 xs) v := by
  induction h with
  | junk v => exact .junk v
  | cell v h => exact .cell v h
  | p x v h => exact .p x v (h.mono hI (fun _ _ => rfl))
  | full l a h => exact .full l a (h.mono hI (fun _ _ => rfl))
  | own b k a c hb h =>
    unfold AV.thaw
    split
    · rename_i e; subst e; rw [← h]; exact .p _ _ hr
    · exact .own b k a c hb h
  | ptr b off g hb h => exact .ptr b off g hb h
  | eptr b s i f g off k c hb h =>
    unfold AV.thaw
    split
    · exact .junk _
    · exact .eptr b s i f g off k c hb h
  | ipt l g off cur E fz vs hg hb hv hr => exact .ipt l g off cur E fz vs (hI g hg) hb hv (fun j hj => (hr j hj).mono hI (fun _ _ => rfl))
  | map b r hb h => exact .map b r hb h
  | nil => exact .nil
  | yld b l hb h => exact .yld b l hb h
  | fn f caps cs hl _ ih =>
    unfold AV.thaw; rw [Z54]; exact .fn f _ cs (by simpa using hl) (fun i hi => by rw [Z9 (by simpa using hi)]; exact ih i (by simpa using hi))
  | agg l cs hl _ ih =>
    unfold AV.thaw; rw [Z54]; exact .agg _ cs (by simpa using hl) (fun i hi => by rw [Z9 (by simpa using hi)]; exact ih i (by simpa using hi))
  | tup l cs hl _ ih =>
    unfold AV.thaw; rw [Z54]; exact .tup _ cs (by simpa using hl) (fun i hi => by rw [Z9 (by simpa using hi)]; exact ih i (by simpa using hi))

section
variable {X : Ctx} {I : Nat → Prop} {μ : Nat → Value} {ob : Nat → Option Nat} {w : World} {st : St} {a : Act} {b : Nat} {E : TypeId} {s : Nat} {xs : List PV} {k : RK}

def Z0c (st : St) (b : Nat) (xs : List PV) : St := ⟨st.tmps.map (AV.thaw b xs), (st.h.map (AObj.thaw b xs)).set b .dead⟩

theorem ObjOK.thaw {n c : Nat} {o : AObj} {J : Nat → Prop} (hI : ∀ g, I g → J g) (hr : PR J w (.sl xs) (μ b)) (hc : c ≠ b) (h : ObjOK n μ I ob w c o) : ObjOK n μ J (upd ob b none) w c (o.thaw b xs) := by
  have hob : upd ob b none c = ob c := Z2 _ _ hc
  cases o with
  | dead => trivial
  | box cs =>
    obtain ⟨g, T, cur, h1, h2, h3, h4, h5⟩ := h; refine ⟨g, T, cur, hob.trans h1, h2, h3, by simpa using h4, fun i hi => ?_⟩; simp only [List.length_map] at hi; rw [Z9 hi]; exact (h5 i hi).thaw hI hr
  | row E s ys k =>
    obtain ⟨h0, h⟩ := h; refine ⟨h0, ?_⟩; rcases h with ⟨g, h1, h2⟩ | ⟨h1, h2, a, h3, h4⟩
    · exact .inl ⟨g, hob.trans h1, h2.keep hI (fun _ _ => rfl) rfl⟩
    · exact .inr ⟨h1, hob.trans h2, a, h3, h4.mono hI (fun _ _ => rfl)⟩
  | mp es =>
    obtain ⟨r, ents, h1, h2, h3, h4, h5, h6⟩ := h; exact ⟨r, ents, hob.trans h1, h2, h3, h4, fun i hi => ⟨(h5 i hi).1, ((h5 i hi).2).mono hI (fun _ _ => rfl)⟩, h6⟩
  | mpi es =>
    obtain ⟨r, ents, h1, h2, h3, h4, h5, h6⟩ := h; exact ⟨r, ents, hob.trans h1, h2, h3, h4, fun i hi => ⟨(h5 i hi).1, ((h5 i hi).2).mono hI (fun _ _ => rfl)⟩, h6⟩
  | sit s pos =>
    obtain ⟨r, bs, h1, h2, h3, h4⟩ := h; exact ⟨r, bs, hob.trans h1, h2, h3, h4⟩
  | it m since seen last =>
    obtain ⟨r, g, h0, h1, h2, h3, h4, h5⟩ := h; exact ⟨r, g, h0, hob.trans h1, h2, h3, h4, h5⟩
  | lp tm ps assign body s =>
    obtain ⟨l, rec, h1, h2, h3, h4, h5, h6⟩ := h; refine ⟨l, rec, hob.trans h1, h2, h3, by simpa using h4, fun i hi => ?_, h6⟩; simp only [List.length_map] at hi; rw [Z9 hi]; exact (h5 i hi).thaw hI hr

theorem Rep.freeze (R : Rep X I μ ob st w a) (hb : st.h[b]? = some (.row E s xs k)) : ∃ J, (∀ g, I g → J g) ∧ Rep X J μ (upd ob b none) (Z0c st b xs) w a := by
  obtain ⟨hall, hrow⟩ := R.objs b _ hb; have hlt : b < st.h.length := (List.getElem?_eq_some_iff.1 hb).1
  let J : Nat → Prop := fun g => I g ∨ ob b = some g
  have hIJ : ∀ g, I g → J g := fun _ h => .inl h
  have hr : PR J w (.sl xs) (μ b) := by
    rcases hrow with ⟨g, h1, h2⟩ | ⟨_, _, a, h3, h4⟩
    · exact h2.pr hall hIJ (.inr h1)
    · exact h4.mono hIJ (fun _ _ => rfl)
  refine ⟨J, hIJ, {
    below := R.below, laid := R.laid.mono hIJ (fun _ _ => rfl), base := R.base, imm := fun g hg => hg.elim (R.imm g) (fun h => (R.own b g h).2.2), ctx := fun g hg => .inl (R.ctx g hg), frz := R.frz
    inew := fun g hg => hg.elim (R.inew g) (fun h => .inr (R.own b g h).2.1), may := R.may, names := by simpa [Z0c] using R.names
    own := fun c g hc => ?_, sep := fun c c' g h1 h2 => ?_, past := fun c hc => ?_, objs := fun c o ho => ?_
    size := by simpa [Z0c] using R.size, tmps := fun i hi => ?_, marks := ?_ }⟩
  · by_cases e : c = b
    · subst e; rw [Z5] at hc; cases hc
    · rw [Z2 _ _ e] at hc
      exact ⟨fun h => h.elim (R.own c g hc).1 (fun h => e (R.sep c b g hc h)), (R.own c g hc).2⟩
  · by_cases e : c = b
    · subst e; rw [Z5] at h1; cases h1
    · by_cases e' : c' = b
      · subst e'; rw [Z5] at h2; cases h2
      · rw [Z2 _ _ e] at h1; rw [Z2 _ _ e'] at h2; exact R.sep c c' g h1 h2
  · simp only [Z0c, List.length_set, List.length_map] at hc
    rw [Z2 _ _ (by omega)]; exact R.past c hc
  · simp only [Z0c, List.length_set, List.length_map] at ho ⊢
    by_cases e : c = b
    · subst e
      rw [List.getElem?_set_self (by simpa using hlt)] at ho; injection ho with ho; subst ho; trivial
    · rw [List.getElem?_set_ne (fun h => e h.symm), List.getElem?_map] at ho
      cases ho' : st.h[c]? with
      | none => rw [ho'] at ho; simp at ho
      | some o' =>
        rw [ho'] at ho; simp only [Option.map_some, Option.some.injEq] at ho; subst ho; exact (R.objs c o' ho').thaw hIJ hr e
  · simp only [Z0c, List.length_map, List.length_set] at hi ⊢
    rw [Z9 hi]; exact (R.tmps i hi).thaw hIJ hr
  · obtain ⟨rs, m1, m2, m3⟩ := R.marks
    refine ⟨rs, m1, m2, fun q hq => ?_⟩; obtain ⟨e1, e2, e3, e4⟩ := m3 q hq; refine ⟨e1, e2, fun h => h.elim e3 (e4 b), fun c hc => ?_⟩; by_cases e : c = b
    · subst e; rw [Z5] at hc; cases hc
    · rw [Z2 _ _ e] at hc; exact e4 c hc

def fz1 (v : AV) (st : St) : St := match v with
  | .own b _ => (match st.h[b]? with
    | some (.row _ _ xs _) => Z0c st b xs
    | _ => st)
  | _ => st
def fzL : List AV → St → St
  | [], st => st
  | v :: l, st => fzL l (fz1 v st)

theorem Rep.fz1 (R : Rep X I μ ob st w a) (v : AV) : ∃ J ob', (∀ g, I g → J g) ∧ Rep X J μ ob' (AM.fz1 v st) w a := by
  unfold AM.fz1
  split
  · split
    · rename_i hb
      obtain ⟨J, h1, h2⟩ := R.freeze hb; exact ⟨J, _, h1, h2⟩
    · exact ⟨I, ob, fun _ h => h, R⟩
  · exact ⟨I, ob, fun _ h => h, R⟩
theorem Rep.fzL : ∀ (l : List AV) {I : Nat → Prop} {ob : Nat → Option Nat} {st : St}, Rep X I μ ob st w a → ∃ J ob', (∀ g, I g → J g) ∧ Rep X J μ ob' (AM.fzL l st) w a
  | [], I, ob, _, R => ⟨I, ob, fun _ h => h, R⟩
  | v :: l, _, _, _, R => by
    obtain ⟨J, ob', h1, R1⟩ := R.fz1 v; obtain ⟨J2, ob2, h2, R2⟩ := Rep.fzL l R1; exact ⟨J2, ob2, fun g h => h2 g (h1 g h), R2⟩
theorem Zcq : ∀ (l : List AV) (st : St), (∀ v ∈ l, ∀ b n, v ≠ .own b n) → fzL l st = st
  | [], _, _ => rfl
  | v :: l, st, h => by
    have : fz1 v st = st := by
      unfold fz1; split
      · rename_i b n; exact absurd rfl (h (.own b n) (by simp) b n)
      · rfl
    simp only [fzL, this]; exact Zcq l st (fun u hu => h u (by simp [hu]))
end
end Go.AM
end

section
namespace Go.AM
open Go.RowKit
section
variable {P : Program} {X : Ctx} {I : Nat → Prop} {μ : Nat → Value} {ob : Nat → Option Nat} {w : World} {a : Act} {tm : List AV} {h : List AObj}

def entK (h : List AObj) (x : AV) (K : AV → Prop) : Prop :=
  match x with
  | .ptr b 0 => (match h[b]? with
    | some (.it m _ seen last) => (match h[m]?, seen.getLast? with
      | some (.mp es), some i => (last = es.length ∧ i < es.length) ∧ K (.tup [.p (.str (es.getD i default).1), .p (es.getD i default).2])
      | _, _ => False)
    | _ => False)
  | _ => False

theorem Zac {ents : Array MapEntry} {i : Nat} (hi : i < ents.size) (hb : ∀ j, j < ents.size → (ents.getD j default).born = j) : ents.find? (fun e => e.born == i) = some (ents.getD i default) := by
  rw [← Array.find?_toList]; have e0 : ∀ j (h : j < ents.size), ents.getD j default = ents.toList[j]'(by simpa using h) := fun j h => by simp [Array.getD_eq_getD_getElem?, h]
  rw [List.find?_eq_some_iff_getElem]; refine ⟨by rw [hb i hi]; simp, i, by simpa using hi, (e0 i hi).symm, fun j hj => ?_⟩; rw [← e0 j (by omega), hb j (by omega)]
  simp; omega

theorem Zit {x : AV} {v : Value} {K : AV → Prop} (hx : VR h.length μ I w x v) (hobj : ∀ b o, h[b]? = some o → ObjOK h.length μ I ob w b o) (hk : entK h x K) :
    ∃ a cv, (Instr.entry v).run P w = .ok cv w ∧ VR h.length μ I w a cv ∧ K a := by
  unfold entK at hk
  split at hk
  · rename_i b
    split at hk
    · rename_i m since seen last hb
      split at hk
      · rename_i es i hm hlast
        obtain ⟨⟨hl, hi⟩, hK⟩ := hk; obtain ⟨g0, rfl, hbn, hμ0⟩ := hx.ptr_inv; obtain ⟨r, g, hmn, hobr, hμb, hμm, hwi, _⟩ := hobj _ _ hb; rw [hμ0] at hμb; injection hμb with hμb; injection hμb with hμb; injection hμb with hμb _ _; have hμb := hμb.symm; subst hμb
        obtain ⟨r', ents, hobm, hm', hw, hlen, hents, hborn⟩ := hobj _ _ hm; rw [hμm] at hm'; injection hm' with hm'; injection hm' with hm'; subst hm'
        obtain ⟨⟨kb, hkb, hkb2⟩, hpv⟩ := hents i hi; have hback : seen.toArray.back? = some i := by simpa [List.getLast?_eq_getElem?, Array.back?] using hlast
        have hf := Zac (ents := ents) (i := i) (by omega) hborn; have hgi : (getObj r).run P w = .ok (.mapIter (some g) since seen.toArray last) w := by simp [getObj, Sem.run, hwi]
        refine ⟨_, .tuple #[(ents.getD i default).key, (ents.getD i default).val], ?_, ?_, hK⟩
        · simp only [Instr.entry, Sem.run_bind, hgi, Result.andThen, hback, Z1x hw]
          rw [if_neg (by simp [hl])]; simp only [hf]; rfl
        · refine .tup _ [(ents.getD i default).key, (ents.getD i default).val] rfl (fun j hj => ?_)
          have : j = 0 ∨ j = 1 := by simp at hj; omega
          rcases this with rfl | rfl
          · show VR _ _ _ _ (.p (.str (es.getD i default).1)) (ents.getD i default).key
            rw [hkb]; exact .mkStr hkb2
          · exact .p _ _ hpv
      · exact hk.elim
    · exact hk.elim
  · exact hk.elim

theorem Z4x {s : Nat} : ∀ {xs : List PV}, (∀ x ∈ xs, x.cells.length = s) → ∀ J : Nat, Zk (xs.take J) = (Zk xs).take (J * s)
  | [], _, J => by simp [Zk]
  | x :: xs, hall, 0 => by simp [Zk]
  | x :: xs, hall, J + 1 => by
    have hx := hall x (by simp); have ih := Z4x (xs := xs) (fun y hy => hall y (by simp [hy])) J; simp only [Zk, List.take_succ_cons, List.flatMap_cons] at ih ⊢; rw [ih, Nat.add_mul, Nat.one_mul, Nat.add_comm (J * s) s, ← hx, List.take_length_add_append]

def Z5x (Γ : Gam) (n0 : Nat) (ks : List Nat) (tm : List AV) (h : List AObj) (d : Option Nat) (t : TypeId) (b m : Nat) (hi : Option AV) (K : St → Prop) : Prop :=
  match hi with
  | some (.p (.int _ j)) => tyAt Γ t fun te => (match te.td with
    | .slice e => tyAt Γ e fun _ => (match h[b]? with
      | some (.row E s xs k) => (k.hard = true ∧ (n0 ≤ b ∨ b ∈ ks) ∧ 0 ≤ j ∧ j ≤ m) ∧ K ⟨putD (tm.map (AV.kill b)) d (.own b j.toNat), (h.map (AObj.kill b)).set b (.row E s (xs.take j.toNat) k)⟩
      | _ => False)
    | _ => False)
  | _ => False

theorem Zbc {Γ : Gam} (hΓ : Zg P Γ) {t : TypeId} {b m : Nat} {v : Value} {hi : Option AV} {vh : Option Value} {d : Option Nat} {K : St → Prop} (R : Rep X I μ ob ⟨tm, h⟩ w a) (hx : VR h.length μ I w (.own b m) v)
    (hh : match hi, vh with | none, none => True | some x, some v => VR h.length μ I w x v | _, _ => False) (hk : Z5x Γ X.n0 X.ks tm h d t b m hi K) : StepOK P X I μ h.length (Instr.sliceAt t v none vh none) w a d K := by
  unfold Z5x at hk
  split at hk
  · rename_i q j
    obtain ⟨kh, rfl⟩ : ∃ kh, vh = some (.int kh j) := by
      cases vh with
      | none => exact hh.elim
      | some u => exact ⟨q, by rw [hh.int_inv]⟩
    obtain ⟨te, ht, hk⟩ := hk.get
    split at hk
    · rename_i e he
      obtain ⟨ee, hee, hk⟩ := hk.get
      split at hk
      · rename_i E s xs k hb
        obtain ⟨⟨hlax, hmay, h0, hjm⟩, hK⟩ := hk; obtain ⟨dd, hu, hd, _⟩ := (hΓ _ _ ht).desc; rw [he] at hd; simp only [Z7] at hd; subst hd; obtain ⟨inf, hinf, hisz, _⟩ := (hΓ _ _ hee).info; have hel : P.elem t = e := by simp [Program.elem, hu]
        have hu' : P.underlying t = some (.slice (P.elem t)) := by rw [hel]; exact hu
        have hsize : (sizeOf (P.elem t)).run P w = .ok ee.cells w := by simp [sizeOf, typeInfo, hel, hinf, hisz]
        obtain ⟨hall, hrow⟩ := R.objs _ _ hb; obtain ⟨xa, xc, rfl, hbn, hbm⟩ := hx.own_inv; rcases hrow with ⟨g, hobg, off, cap, cur, fr, vs, e3, hw, hfr, hnf, hle, hcm, hcs, htake, hvl, hpr⟩ | ⟨hl2, _⟩
        · rw [hbm] at e3; injection e3 with e4 e5 e6; subst e4 e5 e6
          obtain ⟨J, rfl⟩ := Int.eq_ofNat_of_zero_le h0; have hJ : J ≤ xs.length := by omega
          have hrun : (Instr.sliceAt t (.slice (some ⟨g, off, none⟩) xs.length xc) none (some (.int kh J)) none).run P w = .ok (.slice (some ⟨g, off, none⟩) J xc) w := by
            rw [run_sliceAt_slice (P := P) w t _ _ _ _ hu', run_slice_h (P := P) w t _ _ xc hu' kh J h0 (by omega), hsize]; simp [sliced, Result.andThen, Addr.add]
          have hlt : (xs.take J).length = J := by simp [hJ]
          have R1 := R.move (w' := w) (v := .slice (some ⟨g, off, none⟩) J xc) (g := some g) (o := .row E s (xs.take J) k) hbn (by rcases hmay with h | h; exact .inl h; exact .inr h)
            (World.grownBy.refl _ _) (fun k e => by injection e with e; subst e; exact ⟨.inl hobg, (R.own _ _ hobg).2.2⟩) (by
              refine ⟨fun x hx => hall x (List.mem_of_mem_take hx), .inl ⟨g, by simp, off, xc, cur, fr, vs.take (J * s), by simp [hlt], hw, hfr, hnf, by rw [hlt]; omega, hcm, hcs, ?_, ?_, fun j hj => ?_⟩⟩
              · rw [hlt, ← htake, List.take_take, Nat.min_eq_left (Nat.mul_le_mul_right _ hJ)]
              · have := Nat.mul_le_mul_right s hJ
                rw [hlt, List.length_take, hvl]; omega
              · rw [hlt] at hj
                have hJs := Nat.mul_le_mul_right s hJ; have hfl : Zk (xs.take J) = (Zk xs).take (J * s) := Z4x hall J; rw [hfl]; have := hpr j (by omega)
                simpa [List.getD_eq_getElem?_getD, List.getElem?_take, hj] using this)
          have R2 := R1.put (v := .own b J) (cv := .slice (some ⟨g, off, none⟩) J xc) (.own _ _ _ _ (by simpa using hbn) (by simp)) d; exact ⟨_, _, _, hrun, ⟨_, _, _, fun _ h => h, R2, fun c hc hm => Z2 _ _ (fun e => hm (by subst e; rcases hmay with h | h; exact .inl h; exact .inr h))⟩, by simpa using hK⟩
        · rw [hl2] at hlax; cases hlax
      · exact hk.elim
    · exact hk.elim
  · exact hk.elim
def Z99 (Γ : Gam) (n0 : Nat) (ks : List Nat) (tm : List AV) (h : List AObj) (d : Option Nat) (t : TypeId) (b m : Nat) (lo : AV) (K : St → Prop) : Prop :=
  match lo with
  | .p (.int _ j) => tyAt Γ t fun te => (match te.td with
    | .slice e => tyAt Γ e fun ee => (match h[b]? with
      | some (.row E s xs .que) => ((n0 ≤ b ∨ b ∈ ks) ∧ s = ee.cells ∧ 0 ≤ j ∧ j ≤ m) ∧ K ⟨putD (tm.map (AV.kill b)) d (.own b (m - j.toNat)), (h.map (AObj.kill b)).set b (.row E s (xs.drop j.toNat) .que)⟩
      | some (.row E s xs .laq) => ((n0 ≤ b ∨ b ∈ ks) ∧ s = ee.cells ∧ 0 ≤ j ∧ j ≤ m) ∧ K ⟨putD (tm.map (AV.kill b)) d (.own b (m - j.toNat)), (h.map (AObj.kill b)).set b (.row E s (xs.drop j.toNat) .laq)⟩
      | _ => False)
    | _ => False)
  | _ => False

theorem Z4y {s : Nat} : ∀ {xs : List PV}, (∀ x ∈ xs, x.cells.length = s) → ∀ J : Nat, Zk (xs.drop J) = (Zk xs).drop (J * s)
  | [], _, J => by simp [Zk]
  | x :: xs, hall, 0 => by simp [Zk]
  | x :: xs, hall, J + 1 => by
    have hx := hall x (by simp); have ih := Z4y (xs := xs) (fun y hy => hall y (by simp [hy])) J; simp only [Zk, List.drop_succ_cons, List.flatMap_cons] at ih ⊢; rw [ih, Nat.add_mul, Nat.one_mul, Nat.add_comm (J * s) s, ← hx, List.drop_append]; simp [hx]

theorem Z7v {Γ : Gam} (hΓ : Zg P Γ) {t e : TypeId} {te ee : TE} {b m : Nat} {v : Value} {q : IntKind} {j : Int} {d : Option Nat} {K : St → Prop} {E : TypeId} {s : Nat} {xs : List PV} {k : RK} (R : Rep X I μ ob ⟨tm, h⟩ w a) (hx : VR h.length μ I w (.own b m) v)
    (ht : Γ t = some te) (he : te.td = .slice e) (hee : Γ e = some ee) (hb : h[b]? = some (.row E s xs k)) (hmay : X.n0 ≤ b ∨ b ∈ X.ks) (hse : s = ee.cells) (h0 : 0 ≤ j) (hjm : j ≤ m)
    (hK : K ⟨putD (tm.map (AV.kill b)) d (.own b (m - j.toNat)), (h.map (AObj.kill b)).set b (.row E s (xs.drop j.toNat) k)⟩) : StepOK P X I μ h.length (Instr.sliceAt t v (some (.int q j)) none none) w a d K := by
  obtain ⟨dd, hu, hd, _⟩ := (hΓ _ _ ht).desc; rw [he] at hd; simp only [Z7] at hd; subst hd; obtain ⟨inf, hinf, hisz, _⟩ := (hΓ _ _ hee).info; have hel : P.elem t = e := by simp [Program.elem, hu]
  have hu' : P.underlying t = some (.slice (P.elem t)) := by rw [hel]; exact hu
  have hsize : (sizeOf (P.elem t)).run P w = .ok ee.cells w := by simp [sizeOf, typeInfo, hel, hinf, hisz]
  obtain ⟨hall, hrow⟩ := R.objs _ _ hb; obtain ⟨xa, xc, rfl, hbn, hbm⟩ := hx.own_inv; rcases hrow with ⟨g, hobg, off, cap, cur, fr, vs, e3, hw, hfr, hnf, hle, hcm, hcs, htake, hvl, hpr⟩ | ⟨hlk, hl2⟩
  · rw [hbm] at e3; injection e3 with e4 e5 e6; subst e4 e5 e6
    obtain ⟨J, rfl⟩ := Int.eq_ofNat_of_zero_le h0; have hJ : J ≤ xs.length := by omega
    obtain ⟨of2, hof, hofe⟩ : ∃ of2, (if xc = J then (some ⟨g, off, none⟩ : Option Addr) else (some ⟨g, off, none⟩ : Option Addr).map (·.add (J * ee.cells))) = some ⟨g, of2, none⟩ ∧ (of2 = off ∧ xc = J ∨ of2 = off + J * ee.cells) := by
      by_cases hcJ : xc = J
      · exact ⟨off, by rw [if_pos hcJ], .inl ⟨rfl, hcJ⟩⟩
      · exact ⟨off + J * ee.cells, by rw [if_neg hcJ]; simp [Addr.add_lit], .inr rfl⟩
    have hrun : (Instr.sliceAt t (.slice (some ⟨g, off, none⟩) xs.length xc) (some (.int q J)) none none).run P w = .ok (.slice (some ⟨g, of2, none⟩) (xs.length - J) (xc - J)) w := by
      rw [run_sliceAt_slice (P := P) w t _ _ _ _ hu', run_slice_l (P := P) w t _ _ xc hu' q J h0 (by omega), hsize]; simp only [sliced, Result.andThen, Int.toNat_natCast]; rw [hof]
    have hlt : (xs.drop J).length = xs.length - J := by simp
    have hmul : (xs.length - J) * s + J * s = xs.length * s := by rw [← Nat.add_mul]; congr 1; omega
    have hmulc : (xc - J) * s + J * s = xc * s := by rw [← Nat.add_mul]; congr 1; omega
    have htk : (cur.toList.drop of2).take ((xs.length - J) * s) = vs.drop (J * s) := by
      rcases hofe with ⟨rfl, hcJ⟩ | rfl
      · have h0' : xs.length - J = 0 := by omega
        rw [h0', Nat.zero_mul, List.take_zero]
        exact (List.drop_eq_nil_of_le (by rw [hvl]; have : xs.length = J := by omega
                                          rw [this]; exact Nat.le_refl _)).symm
      · rw [← htake, List.drop_take, List.drop_drop, ← hse]
        congr 1; omega
    have R1 := R.move (w' := w) (v := .slice (some ⟨g, of2, none⟩) (xs.length - J) (xc - J)) (g := some g) (o := .row E s (xs.drop J) k) hbn (by rcases hmay with h | h; exact .inl h; exact .inr h)
      (World.grownBy.refl _ _) (fun k' e => by injection e with e; subst e; exact ⟨.inl hobg, (R.own _ _ hobg).2.2⟩) (by
        refine ⟨fun x hx => hall x (List.mem_of_mem_drop hx), .inl ⟨g, by simp, of2, xc - J, cur, fr, vs.drop (J * s), by simp [hlt], hw, hfr, hnf, by rw [hlt]; omega, by omega, ?_, ?_, ?_, fun j hj => ?_⟩⟩
        · rcases hofe with ⟨rfl, hcJ⟩ | rfl
          · have : xc - J = 0 := by omega
            rw [this]; omega
          · rw [← hse]; omega
        · rw [hlt]; exact htk
        · rw [hlt, List.length_drop, hvl]; omega
        · rw [hlt] at hj
          rw [Z4y hall J]; have := hpr (J * s + j) (by omega)
          simpa [List.getD_eq_getElem?_getD, List.getElem?_drop] using this)
    have R2 := R1.put (v := .own b (xs.length - J)) (cv := .slice (some ⟨g, of2, none⟩) (xs.length - J) (xc - J)) (.own _ _ _ _ (by simpa using hbn) (by simp)) d; exact ⟨_, _, _, hrun, ⟨_, _, _, fun _ h => h, R2, fun c hc hm => Z2 _ _ (fun e => hm (by subst e; rcases hmay with h | h; exact .inl h; exact .inr h))⟩, by simpa using hK⟩
  · obtain ⟨hob, a', e3, hpr⟩ := hl2
    rw [hbm] at e3; injection e3 with e4 e5 e6; subst e4 e5 e6
    obtain ⟨J, rfl⟩ := Int.eq_ofNat_of_zero_le h0; have hJ : J ≤ xs.length := by omega
    have hpr' : PR I w (.sl xs) (.slice xa xs.length xs.length) := by rw [← hbm]; exact hpr
    have hsub := PR.sub (lo := J) (k := xs.length - J) (m := xs.length) hpr' hall (by omega) (by omega) (Nat.le_refl _); have hsl : ∃ a2, sliced xa J (J + (xs.length - J)) xs.length s = .slice a2 (xs.length - J) (xs.length - J) := by
      unfold sliced; have e7 : J + (xs.length - J) - J = xs.length - J := by omega
      rw [e7]; exact ⟨_, rfl⟩
    obtain ⟨a2, ha2⟩ := hsl; have hdt : (xs.drop J).take (xs.length - J) = xs.drop J := by rw [List.take_of_length_le (by simp)]
    rw [ha2, hdt] at hsub; have hrun : (Instr.sliceAt t (.slice xa xs.length xs.length) (some (.int q J)) none none).run P w = .ok (.slice a2 (xs.length - J) (xs.length - J)) w := by
      rw [run_sliceAt_slice (P := P) w t _ _ _ _ hu', run_slice_l (P := P) w t _ _ xs.length hu' q J h0 (by omega), hsize]; simp only [Result.andThen, Int.toNat_natCast]; rw [← hse, ← ha2]
      congr 3
      omega
    have hlt : (xs.drop J).length = xs.length - J := by simp
    have R1 := R.move (w' := w) (v := .slice a2 (xs.length - J) (xs.length - J)) (g := none) (o := .row E s (xs.drop J) k) hbn (by rcases hmay with h | h; exact .inl h; exact .inr h)
      (World.grownBy.refl _ _) (fun k' e => by cases e) (by
        refine ⟨fun x hx => hall x (List.mem_of_mem_drop hx), .inr ⟨hlk, by simp, a2, by simp [hlt], by simpa using hsub⟩⟩)
    have R2 := R1.put (v := .own b (xs.length - J)) (cv := .slice a2 (xs.length - J) (xs.length - J)) (.own _ _ _ _ (by simpa using hbn) (by simp)) d; exact ⟨_, _, _, hrun, ⟨_, _, _, fun _ h => h, R2, fun c hc hm => Z2 _ _ (fun e => hm (by subst e; rcases hmay with h | h; exact .inl h; exact .inr h))⟩, by simpa using hK⟩

theorem Zd9 {Γ : Gam} (hΓ : Zg P Γ) {t : TypeId} {b m : Nat} {v : Value} {lo : AV} {vl : Value} {d : Option Nat} {K : St → Prop} (R : Rep X I μ ob ⟨tm, h⟩ w a) (hx : VR h.length μ I w (.own b m) v)
    (hh : VR h.length μ I w lo vl) (hk : Z99 Γ X.n0 X.ks tm h d t b m lo K) : StepOK P X I μ h.length (Instr.sliceAt t v (some vl) none none) w a d K := by
  unfold Z99 at hk
  split at hk
  · rename_i q j
    obtain rfl := hh.int_inv; obtain ⟨te, ht, hk⟩ := hk.get
    split at hk
    · rename_i e he
      obtain ⟨ee, hee, hk⟩ := hk.get
      split at hk
      · rename_i E s xs hb
        obtain ⟨⟨hmay, hse, h0, hjm⟩, hK⟩ := hk; exact Z7v hΓ R hx ht he hee hb hmay hse h0 hjm hK
      · rename_i E s xs hb
        obtain ⟨⟨hmay, hse, h0, hjm⟩, hK⟩ := hk; exact Z7v hΓ R hx ht he hee hb hmay hse h0 hjm hK
      · exact hk.elim
    · exact hk.elim
  · exact hk.elim
end
end Go.AM
end

