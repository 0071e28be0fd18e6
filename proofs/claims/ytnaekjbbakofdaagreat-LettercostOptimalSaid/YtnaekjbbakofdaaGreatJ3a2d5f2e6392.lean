/-
  DERIVED: THE SHELF's CONTRACTS AT THIS DUMP, IN PLAIN WORDS (tools/lay-plain.mjs out of 'YtnaekjbbakofdaaGreatTmpIs.lean', which tools/lay-shelf.mjs wrote): THE SAME DECLARATIONS UNDER THE SAME NAMES: 'import', 'namespace', 'open', 'def', 'theorem' AND NOTHING ELSE: no command of the shelf's: FOR A HAND-IN. Each laying: the table of numbers ('.._ren') and one theorem, a field a fact of the dump's own or the kernel's comparison; each contract: ONE APPLICATION.
  A statement that makes a list of one element, which is its own to write.
  slices.Insert of one number, as a contract with the heap.
  slices.BinarySearch of numbers; Lengths.
  lettercost.Lengths.
  lettercost.Lengths: the walk.
  Codes without beginnings of others, plain.
  Plain facts of parsers: maps of words to numbers, proper beginnings in order, places of words.
  slices.Index of words and the reference's place; slices.Contains of numbers.
  slices.SortFunc by the parser's comparison of words.
  parser.build.
  parser.Build, parser.Automaton, parser.same.
  The examples of the chapter.
-/
import Derived.Shelf.Spec.SlicesInsertGrow
import Derived.Shelf.Spec.SlicesInsert
import Derived.Ground.Names2Prog
import Derived.Test.YtnaekjbbakofdaaGreatProg
import Derived.Test.YtnaekjbbakofdaaGreatJ55c5db00ba4b
import Derived.Test.YtnaekjbbakofdaaGreatJd4e4e49d03c5
import Derived.Test.YtnaekjbbakofdaaGreatJ9f8c92535658
import Derived.Test.YtnaekjbbakofdaaGreatJ75d8ba1040fe
import Derived.Test.YtnaekjbbakofdaaGreatJ7520744bc5ab

section
namespace Go.Proofs
open Go.Shelf
def Tryz.insS_ren : Go.Shelf.Ren := ⟨fun | 21 => 48 | 27 => 79 | 28 => 80 | 35 => 111 | 39 => 121 | n => n, fun | 22 => 22 | 3 => 3 | 4 => 4 | 0 => 0 | n => n, fun | n => n⟩
theorem Tryz.insS : Go.Proofs.Lays2.n21 Tryz.prog Tryz.insS_ren := {
  mixed := by kernel_rfl
  f21 := Tryz.func48.trans (congrArg some (by kernel_rfl))
  f27 := Tryz.func79.trans (congrArg some (by kernel_rfl))
  f28 := Tryz.func80.trans (congrArg some (by kernel_rfl))
  f35 := Tryz.func111.trans (congrArg some (by kernel_rfl))
  f39 := Tryz.func121.trans (congrArg some (by kernel_rfl))
  t0 := Tryz.underlying0
  a0 := Tryz.isAgg0
  z0 := Tryz.sizeOf0
  v0 := Tryz.zeroValue0
  t3 := Tryz.underlying3
  a3 := Tryz.isAgg3
  z3 := Tryz.sizeOf3
  v3 := Tryz.zeroValue3
  t4 := Tryz.underlying4
  a4 := Tryz.isAgg4
  z4 := Tryz.sizeOf4
  v4 := Tryz.zeroValue4
  t22 := Tryz.underlying22
  a22 := Tryz.isAgg22
  z22 := Tryz.sizeOf22
  v22 := Tryz.zeroValue22
  i3 := by kernel_rfl }
end Go.Proofs
end

section
namespace Go.AM
open Go.RowKit
section
variable {P : Program} {X : Ctx} {I : Nat → Prop} {μ : Nat → Value} {ob : Nat → Option Nat} {w : World} {a : Act} {tm : List AV} {h : List AObj}

theorem bs1_ok {Γ : Gam} (hΓ : GamOK P Γ) {t e : TypeId} {ee : TE} {p : PV} {cv : Value} {d : Option Nat} {K : St → Prop} (R : Rep X I μ ob ⟨tm, h⟩ w a) (ht : tdAt Γ t (.slice e)) (hee : Γ e = some ee) (hc : ee.cells = 1)
    (hz : ee.zero.isSome = true) (hp : PR I w p cv) (hp0 : p.isAgg = false) (hK : K ⟨putD tm d (.own h.length 1), h ++ [.row e 1 [p] .own]⟩) : StepOK P X I μ h.length (Instr.buildSlice t 1 #[(0, cv)]) w a d K := by
  have hp1 : p.cells = [p] := by cases p <;> first | rfl | cases hp0
  obtain ⟨dd, hu, hd⟩ := ht.und hΓ
  simp only [descOK] at hd; subst hd
  obtain ⟨inf, hinf, hisz, _, hzero⟩ := (hΓ _ _ hee).info
  obtain ⟨z, hz'⟩ := Option.isSome_iff_exists.1 hz
  obtain ⟨zv, hzv, _, hzs⟩ := hzero z hz'
  rw [hc] at hisz hzs
  have hcv : cv.cells = #[cv] := hp.cells_one (fun l e => by rw [e] at hp0; cases hp0)
  have hrun : (Instr.buildSlice t 1 #[(0, cv)]).run P w = .ok (.slice (some ⟨w.heap.size, 0, none⟩) 1 1) (w.alloc (.cells #[cv] e)) := by
    have hgt : ¬ (2 ^ 24 < 1 * 1) := by omega
    simp only [Instr.buildSlice, Sem.run_bind, run_underlying hu, Result.andThen, sizeOf, typeInfo, run_program, hinf, Sem.run_pure, hisz, gt_iff_lt, hgt, if_false, zeroValue, hzv]
    rw [if_neg (by decide)]
    simp [hinf, hzv, Instr.fill, newRow, hcv, Sem.run_bind, Sem.run_pure, Result.andThen, run_program]
    have e1 : Array.range 1 = #[0] := rfl
    rw [e1]
    congr 2
    simp
  have hg : w.grownBy (w.alloc (.cells #[cv] e)) none := World.grownBy_alloc w _ none
  have hnew := heap_alloc_new w (.cells #[cv] e)
  have hpr : PR I (w.alloc (.cells #[cv] e)) p cv := hp.mono (fun _ h => h) (fun g hg' => hg.block g (R.imm g hg') (by simp))
  have R1 := R.name (v := .slice (some ⟨w.heap.size, 0, none⟩) 1 1) (g := some w.heap.size) (o := .row e 1 [p] .own) hg (fun k e => by injection e with e; subst e; simp) (by
    refine ⟨fun x hx => by rw [List.mem_singleton.1 hx, hp1]; rfl, .inl ⟨w.heap.size, by simp, 0, 1, #[cv], (0, 0), [cv], by simp, hnew, fun _ => rfl, fun j hj => by simp, by simp, by simp [maxLen], by simp, by simp, by simp, fun j hj => ?_⟩⟩
    have : j = 0 := by simpa using hj
    subst this
    simpa [flats, hp1] using hpr)
  exact ⟨_, _, _, hrun, ⟨I, _, _, fun _ h => h, R1.put (v := .own h.length 1) (cv := .slice (some ⟨w.heap.size, 0, none⟩) 1 1) (.own _ _ _ _ (by simp) (by simp)) d, fun b hb _ => upd_other _ _ (Nat.ne_of_lt hb)⟩, hK⟩
end

def bsO (E : Env) (o : Oper) (st : St) (K : St → Prop) : Prop := match o.op with
  | .buildSlice t 1 parts => (match parts.toList with
    | [(0, x)] => ∃ e ee p, tdAt E.Γ t (.slice e) ∧ E.Γ e = some ee ∧ ee.cells = 1 ∧ ee.zero.isSome = true ∧ (ev st.tmps x).pure = some p ∧ p.isAgg = false ∧ K ⟨putD st.tmps o.dst (.own st.h.length 1), st.h ++ [.row e 1 [p] .own]⟩
    | _ => False)
  | _ => False
def stepsB (E : Env) (ops : List Oper) : Nat → List Oper → St → (St → Prop) → Prop
  | _, [], _, _ => False
  | 0, o :: rest, st, K => o.guard = none ∧ bsO E o st fun st' => stepsL E (ops.map (·.dst)) rest st' K
  | j + 1, o :: rest, st, K => o.guard = none ∧ opK E o st fun st' => stepsB E ops j rest st' K
section
variable {E : Env} {r : Option Nat} {X : Ctx} {K : St → Prop}
@[go_sem] theorem stepsB_plain {tm : List AV} {h : List AObj} (ops rest : List Oper) (j : Nat) (dst : Option Tmp) (op : Op) (ty : TypeId) (pos : String) (after : Array Edge) :
    stepsB E ops (j + 1) (⟨dst, op, ty, pos, after, none⟩ :: rest) ⟨tm, h⟩ K = opK E ⟨dst, op, ty, pos, after, none⟩ ⟨tm, h⟩ fun st' => stepsB E ops j rest st' K := propext ⟨fun h => h.2, fun h => ⟨rfl, h⟩⟩
@[go_sem] theorem stepsB_here {tm : List AV} {h : List AObj} (ops rest : List Oper) (dst : Option Tmp) (t : TypeId) (x : Operand) (ty : TypeId) (pos : String) (after : Array Edge) :
    stepsB E ops 0 (⟨dst, .buildSlice t 1 #[(0, x)], ty, pos, after, none⟩ :: rest) ⟨tm, h⟩ K =
      ∃ e ee p, tdAt E.Γ t (.slice e) ∧ E.Γ e = some ee ∧ ee.cells = 1 ∧ ee.zero.isSome = true ∧ (ev tm x).pure = some p ∧ p.isAgg = false ∧ stepsL E (ops.map (·.dst)) rest ⟨putD tm dst (.own h.length 1), h ++ [.row e 1 [p] .own]⟩ K := propext ⟨fun h => h.2, fun h => ⟨rfl, h⟩⟩
theorem stepsB_ok (hΓ : GamOK E.P E.Γ) (hE : E.fits X) {ops : Array Oper} {Q : Exit → Act → World → Prop} {ds : List Deferred} : ∀ (b : Nat) (l : List Oper) (k : Nat), (∀ j, l[j]? = ops[k + j]?) → ∀ {st : St} {a : Act} {w : World} {I : Nat → Prop},
    Now X I st w a → a.defers = ds → stepsB E ops.toList b l st K → (∀ a w, After X I ds K a w → Q .normal a w) → wpOpsIn (Fw r) 0 E.P ops Q (List.range' k l.length) a w
  | 0, [], k, _, st, a, w, I, _, _, hk, _ => False.elim hk
  | _ + 1, [], k, _, st, a, w, I, _, _, hk, _ => False.elim hk
  | b, o :: l, k, hl, st, a, w, I, hN, hd, hk, hQ => by
    have h0 : ops[k]? = some o := by simpa using (hl 0).symm
    have hl' : ∀ j, l[j]? = ops[k + 1 + j]? := fun j => by have := hl (j + 1); simpa [Nat.add_assoc, Nat.add_comm 1 j] using this
    obtain ⟨I', μ', ob', hI, R⟩ := hN
    have hQ' : ∀ a w, After X I' ds K a w → Q .normal a w := fun a w ⟨st', hn, h2, h3⟩ => hQ a w ⟨st', hn.trans hI, h2, h3⟩
    simp only [List.length_cons, List.range'_succ, wpOpsIn, h0]
    cases b with
    | succ b =>
      obtain ⟨hg, hk⟩ := hk
      rw [if_pos (by simp [Region.wanted, hg])]
      exact wpIn_next_mono (fun a' w' ⟨st', hn, hd', hk'⟩ => stepsB_ok hΓ hE b l (k + 1) hl' hn (hd'.trans hd) hk' (fun a w hA => hQ' a w hA)) (op_ok hΓ hE R hk)
    | zero =>
      obtain ⟨hg, hk⟩ := hk
      rw [if_pos (by simp [Region.wanted, hg])]
      have hb : o.wpIn (Fw r) 0 E.P a w (After X I' a.defers fun st' => stepsL E (ops.toList.map (·.dst)) l st' K) Q := by
        unfold bsO at hk
        split at hk
        · rename_i t parts hop
          split at hk
          · rename_i x hpt
            obtain ⟨e, ee, p, h1, h2, h3, h4, h5, h6, h7⟩ := hk
            have hp := (R.evs x).pure h5
            refine wp_step (s := Instr.buildSlice t 1 #[(0, a.eval x)]) (by rw [hop]; simp) ?_ (bs1_ok hΓ R h1 h2 h3 h4 hp h6 h7)
            have hpa : parts = #[(0, x)] := by rw [← Array.toArray_toList (xs := parts), hpt]
            simp [execOp, hop, hpa]
          · exact hk.elim
        · exact hk.elim
      refine wpIn_next_mono (fun a' w' ⟨st', hn, hd', hk'⟩ => ?_) hb
      have hk' : stepsL E (ops.toList.map (·.dst)) l st' K := hk'
      rw [← stepsL_eq] at hk'
      exact steps_ok hΓ hE l (k + 1) hl' hn (hd'.trans hd) hk' (fun a w hA => hQ' a w hA)
theorem AWp.regionB (b : Nat) (hΓ : GamOK E.P E.Γ) {Q : Exit → St → Prop} {st : St} {id : Nat} {ops : List Oper} (h : stepsB E ops b ops st (Q .normal)) : AWp E r (.region id ops.toArray false) Q st := fun X I w a hE hN => by
  refine wpIn_region ?_
  have e : (List.range ops.toArray.size) = List.range' 0 ops.length := by rw [List.range_eq_range']; simp
  rw [e]
  exact stepsB_ok (K := Q .normal) hΓ hE b ops 0 (by simp) hN rfl h (fun _ _ ⟨st', h1, _, h3⟩ => ⟨st', h1, h3⟩)
end
end Go.AM
end

section
namespace Go.Proofs.YtnaekjbbakofdaaGreat
open Go Go.AM Go.RowKit
set_option maxRecDepth 100000
set_option maxHeartbeats 1000000
set_option linter.unusedSimpArgs false

structure SetTo (w w' : World) (b : Nat) (cur' : Array Value) (E : TypeId) (fr : Nat × Nat) : Prop where
  os : w'.os = w.os
  tape : w'.tape = w.tape
  output : w'.output = w.output
  here : w'.heap[b]? = some (.cells cur' E fr)
  size : w'.heap.size = w.heap.size
  rest : ∀ k, k ≠ b → w'.heap[k]? = w.heap[k]?
theorem setCell_to {w : World} {b o : Nat} {cur : Array Value} {E : TypeId} {fr : Nat × Nat} (v : Value) (h : w.heap[b]? = some (.cells cur E fr)) : SetTo w (w.setCell ⟨b, o, none⟩ v) b (cur.setIfInBounds o v) E fr :=
  ⟨rfl, rfl, rfl, by show (w.heap.modify b _)[b]? = _; rw [Array.getElem?_modify, if_pos rfl, h]; rfl, by show (w.heap.modify b _).size = _; simp, fun k hk => by
    show (w.heap.modify b _)[k]? = _; rw [Array.getElem?_modify, if_neg (fun e => hk e.symm)]⟩
theorem setCells_to {b : Nat} {E : TypeId} {fr : Nat × Nat} : ∀ (vs : List Value) (o : Nat) (w : World) (cur : Array Value), w.heap[b]? = some (.cells cur E fr) →
    ∃ cur' : Array Value, SetTo w (w.setCells b o vs) b cur' E fr ∧ cur'.size = cur.size ∧ ∀ k, k < cur.size → cur'[k]? = if o ≤ k ∧ k < o + vs.length then some (vs.getD (k - o) undef) else cur[k]?
  | [], o, w, cur, h => ⟨cur, ⟨rfl, rfl, rfl, h, rfl, fun _ _ => rfl⟩, rfl, fun k _ => by rw [if_neg (by simp)]⟩
  | v :: vs, o, w, cur, h => by
    have h1 := setCell_to (o := o) v h
    obtain ⟨cur', h2, h3, h4⟩ := setCells_to vs (o + 1) _ _ h1.here
    refine ⟨cur', ⟨h2.os.trans h1.os, h2.tape.trans h1.tape, h2.output.trans h1.output, h2.here, h2.size.trans h1.size, fun k hk => (h2.rest k hk).trans (h1.rest k hk)⟩, by simpa using h3, fun k hk => ?_⟩
    rw [h4 k (by simpa using hk)]
    by_cases he : k = o
    · subst he
      rw [if_neg (by omega), if_pos (by simp)]
      simp [hk]
    · rw [Array.getElem?_setIfInBounds_ne (fun e => he e.symm)]
      by_cases hin : o + 1 ≤ k ∧ k < o + 1 + vs.length
      · rw [if_pos hin, if_pos (by simp; omega)]
        have : k - o = (k - (o + 1)) + 1 := by omega
        rw [this, List.getD_cons_succ]
      · rw [if_neg hin, if_neg (by simp; omega)]

def insA (l : List Nat) (i x : Nat) : List Nat := l.take i ++ x :: l.drop i
theorem insA_len {l : List Nat} {i x : Nat} (h : i ≤ l.length) : (insA l i x).length = l.length + 1 := by unfold insA; simp; omega
theorem insA_get {l : List Nat} {i x j : Nat} (h : i ≤ l.length) : (insA l i x).getD j 0 = if j < i then l.getD j 0 else if j = i then x else l.getD (j - 1) 0 := by
  unfold insA
  simp only [List.getD_eq_getElem?_getD]
  by_cases h1 : j < i
  · rw [if_pos h1, List.getElem?_append_left (by simp; omega), List.getElem?_take_of_lt h1]
  · rw [if_neg h1, List.getElem?_append_right (by simp; omega)]
    have hl : (l.take i).length = i := by simp; omega
    rw [hl]
    by_cases h2 : j = i
    · subst h2; rw [if_pos rfl, Nat.sub_self]; rfl
    · rw [if_neg h2]
      have : j - i = (j - i - 1) + 1 := by omega
      rw [this, List.getElem?_cons_succ, List.getElem?_drop]
      congr 2; omega
def intW (n : Nat) : Value := .int .i64 (n : Int)

theorem flats_nV (l : List Nat) : flats (l.map Kn.nV) = l.map Kn.nV := by
  unfold flats
  induction l with
  | nil => rfl
  | cons x l ih => simp only [List.map_cons, List.flatMap_cons, ih]; rfl
section
variable {X : Ctx} {I : Nat → Prop} {μ : Nat → Value} {ob : Nat → Option Nat} {w w' : World} {h : List AObj} {b g : Nat}
theorem ins_done (R : RepH X I μ ob h w) (hbn : b < h.length) (hmay : X.may b) {g' off' cap' : Nat} {cur' : Array Value} (l : List Nat)
    (hgr : w.grownBy w' (ob b)) (hg' : ob b = some g' ∨ w.heap.size ≤ g') (hlt : g' < w'.heap.size) (hcur : w'.heap[g']? = some (.cells cur' 3 (0, 0))) (hcells : ∀ j, j < l.length → cur'[off' + j]? = some (intW (l.getD j 0)))
    (hc1 : l.length ≤ cap') (hc2 : cap' ≤ maxLen) (hc3 : off' + cap' ≤ cur'.size) :
    ∃ cv v h' I' μ' ob', Ending.returned (Value.slice (some ⟨g', off', none⟩) l.length cap') = .returned cv ∧ RepH X I' μ' ob' h' w' ∧ VR h'.length μ' I' w' v cv ∧ (∀ g, I g → I' g) ∧
      (∀ c, c < h.length → c ∉ [b] → μ' c = μ c) ∧ h.length ≤ h'.length ∧ (∀ g, I' g → I g ∨ (∃ b, ob b = some g) ∨ w.heap.size ≤ g) ∧ (∀ b g, ob' b = some g → (∃ c, ob c = some g) ∨ w.heap.size ≤ g) ∧
      (∀ g, g < w.heap.size → (∀ b, ob b ≠ some g) → w'.heap[g]? = w.heap[g]?) ∧ v = .own b l.length ∧ h' = (h.map (AObj.kill b)).set b (.row 3 1 (l.map Kn.nV) .own) := by
  have R2 := R.move (b0 := b) (v := .slice (some ⟨g', off', none⟩) l.length cap') (g := some g') (o := .row 3 1 (l.map Kn.nV) .own) hbn hmay hgr
    (fun k e => by injection e with e; subst e; exact ⟨hg', hlt⟩) ⟨fun x hx => by
      obtain ⟨u, _, rfl⟩ := List.mem_map.1 hx; rfl, .inl ⟨g', by simp, off', cap', cur', (0, 0), (cur'.toList.drop off').take l.length, by rw [upd_same, List.length_map], hcur, fun _ => rfl, by simp,
        by rw [List.length_map]; exact hc1, hc2, by rw [Nat.mul_one]; exact hc3, by rw [List.length_map, Nat.mul_one], by
          have hsz : cur'.toList.length = cur'.size := Array.length_toList
          rw [List.length_map, List.length_take, List.length_drop, hsz, Nat.mul_one]; omega, fun j hj => ?_⟩⟩
  · exact ⟨_, .own b l.length, _, I, upd μ b (.slice (some ⟨g', off', none⟩) l.length cap'), upd ob b (some g'), rfl, R2, .own _ _ _ _ (by simpa using hbn) (by simp), fun _ h => h, fun k _ hk => upd_other _ _ (by simpa using hk), by simp, fun g hg => .inl hg,
      fun k g2 hk => by
        by_cases e : k = b
        · subst e; rw [upd_same] at hk; injection hk with hk; subst hk; exact hg'.imp (fun e => ⟨k, e⟩) id
        · rw [upd_other _ _ e] at hk; exact .inl ⟨k, hk⟩,
      fun k hk hno => hgr.block k hk (fun e => hno b e.symm), rfl, rfl⟩
  · rw [List.length_map, Nat.mul_one] at hj
    have h1 := hcells j hj
    rw [flats_nV, getD_map_lt _ _ _ _ hj]
    have h3 : ((cur'.toList.drop off').take l.length).getD j undef = intW (l.getD j 0) := by
      rw [List.getD_eq_getElem?_getD, List.getElem?_take_of_lt hj, List.getElem?_drop, Array.getElem?_toList, h1]; rfl
    rw [h3, List.getD_eq_getElem?_getD, List.getElem?_eq_getElem hj]
    exact .int _ _
end

theorem c48 {h : List AObj} {b b2 : Nat} (l : List Nat) (i x : Nat) (hi : i ≤ l.length) (hb : h[b]? = some (.row 3 1 (l.map Kn.nV) .own)) (hb2 : h[b2]? = some (.row 3 1 [Kn.nV x] .own)) (hne : b ≠ b2) (hsz : l.length ≤ 100000) :
    AC Tryz.prog 48 [.own b l.length, .p (.int .i64 i), .own b2 1] h [b] (fun v h' => v = .own b (insA l i x).length ∧ h' = (h.map (AObj.kill b)).set b (.row 3 1 ((insA l i x).map Kn.nV) .own)) := by
  refine ⟨entersF_of Tryz.func48 (by kernel_rfl) rfl, fun X I μ ob w cargs R hlen hargs hmay => ?_⟩
  obtain ⟨a0, a1, a2, rfl⟩ : ∃ a x y, cargs = [a, x, y] := by
    match cargs, hlen with
    | [a, x, y], _ => exact ⟨a, x, y, rfl⟩
  have g0 := hargs 0 (by simp)
  have g1 := hargs 1 (by simp)
  have g2 := hargs 2 (by simp)
  simp only [List.getD_cons_zero, List.getD_cons_succ] at g0 g1 g2
  have g1 := g1.int_inv
  subst g1
  obtain ⟨a, c, rfl, hbn, hbm⟩ := g0.own_inv
  obtain ⟨a', vc, rfl, hbn2, hbm2⟩ := g2.own_inv
  have hmb := hmay b (by simp)
  rcases (R.objs _ _ hb).2 with ⟨g, hg, off, cap, cur, fr, vs, e1, e2, e3, e4, e5, e6, e7, e8, e9, e10⟩ | ⟨hk, _⟩
  rotate_left
  · cases hk
  rcases (R.objs _ _ hb2).2 with ⟨g', hg', off', cap', cur', fr', vs', f1, f2, f3, f4, f5, f6, f7, f8, f9, f10⟩ | ⟨hk, _⟩
  rotate_left
  · cases hk
  rw [hbm] at e1
  rw [hbm2] at f1
  simp only [List.length_map] at e1 e5 e7 e8 e9 e10
  injection e1 with e1a _ e1c
  injection f1 with f1a _ f1c
  subst e1a e1c f1a f1c
  have hfr := e3 rfl
  have hfr' := f3 rfl
  subst hfr hfr'
  have hgl := (R.own b g hg).2.2
  have hgg : g' ≠ g := fun e => hne (R.sep b b2 g hg (by rw [← e]; exact hg'))
  -- the cells
  have cell : ∀ j, j < l.length → cur[off + j]? = some (intW (l.getD j 0)) := fun j hj => by
    have h1 := e10 j (by omega)
    rw [flats_nV, getD_map_lt _ _ _ _ hj] at h1
    have h2 : vs.getD j undef = intW (l.getD j 0) := by
      rw [List.getD_eq_getElem?_getD (l := l), List.getElem?_eq_getElem hj]
      generalize vs.getD j undef = u at h1 ⊢
      cases h1; rfl
    have h3 : vs[j]? = some (vs.getD j undef) := by rw [List.getD_eq_getElem?_getD, List.getElem?_eq_getElem (by omega)]; rfl
    rw [← e8, List.getElem?_take_of_lt (by omega), List.getElem?_drop, Array.getElem?_toList] at h3
    rw [h3, e8, h2]
  have cellx : cur'[off']? = some (intW x) := by
    have h1 := f10 0 (by simp)
    have h2 : vs'.getD 0 undef = intW x := by
      generalize vs'.getD 0 undef = u at h1 ⊢
      have h1 : PR I w (.int .i64 (x : Int)) u := h1
      cases h1; rfl
    have h3 : vs'[0]? = some (vs'.getD 0 undef) := by rw [List.getD_eq_getElem?_getD, List.getElem?_eq_getElem (by simp at f9; omega)]; rfl
    rw [← f8, List.getElem?_take_of_lt (by simp), List.getElem?_drop, Array.getElem?_toList] at h3
    rw [f8, h2] at h3
    simpa using h3
  obtain ⟨cs, hcs⟩ : ∃ cs : List Value, cs = l.map intW := ⟨_, rfl⟩
  have hcl : cs.length = l.length := by rw [hcs, List.length_map]
  have hcsg : ∀ j v, cs[j]? = some v → w.cell? ⟨g, off + j, none⟩ = some v := fun j v hj => by
    have hjl : j < l.length := by have := (List.getElem?_eq_some_iff.1 hj).1; omega
    unfold World.cell?
    simp only [e2]
    have : v = intW (l.getD j 0) := by
      rw [hcs, List.getElem?_map] at hj
      rw [List.getElem?_eq_getElem hjl] at hj
      rw [List.getD_eq_getElem?_getD, List.getElem?_eq_getElem hjl]
      simpa using hj.symm
    rw [this]
    simpa using cell j hjl
  have hvs : ∀ j v, ([intW x] : List Value)[j]? = some v → w.cell? ⟨g', off' + j, none⟩ = some v := fun j v hj => by
    match j, hj with
    | 0, hj =>
      have : intW x = v := by simpa using hj
      subst this
      unfold World.cell?
      simp only [f2]
      simpa using cellx
  have h1c : ∀ v ∈ cs, v.oneCell' = true := fun v hv => by
    rw [hcs] at hv
    obtain ⟨n, _, rfl⟩ := List.mem_map.1 hv; rfl
  have h1v : ∀ v ∈ [intW x], v.oneCell' = true := fun v hv => by rw [List.mem_singleton.1 hv]; rfl
  have hil := insA_len (x := x) hi
  have hiso : ∀ k, k < cur.size → (w.cell? ⟨g, k, none⟩).isSome = true := fun k hk => by
    unfold World.cell?; simp only [e2]; simp [hk]
  have hnf : ∀ k, w.frozen? ⟨g, k, none⟩ = false := fun k => by
    unfold World.frozen?; simp only [e2]; simp
  have hnf' : ∀ k, w.frozen? ⟨g', k, none⟩ = false := fun k => by
    unfold World.frozen?; simp only [f2]; simp
  rw [Nat.mul_one] at e7
  have hc63 : c ≤ 9223372036854775807 := by simp only [maxLen] at e6; omega
  by_cases hroom : l.length + 1 ≤ c
  · by_cases hin : i < l.length
    · -- in place
      have hc := Any2.slices_Insert_int_shift (ρ := Tryz.insS_ren) Tryz.insS g off l.length c i g' off' 1 vc cs [intW x] w hin (by omega) hroom hc63 hgg hcl rfl hcsg (fun j hj => hiso _ (by omega)) (fun j _ => hnf _) hvs h1c h1v
        3 3 cur'.size cur.size (by unfold World.shape?; simp only [f2]) (by unfold World.shape?; simp only [e2]) (by omega) (hnf' _) (hnf' _)
      refine Calls.mono (P := Tryz.prog) hc ?_
      rintro e w' ⟨rfl, rfl⟩
      have hd2 : w.drew.heap[g]? = some (.cells cur 3 (0, 0)) := e2
      obtain ⟨cur1, s1, s2, s3⟩ := setCells_to (cs.drop i) (off + (i + 1)) w.drew cur hd2
      obtain ⟨cur2, t1, t2, t3⟩ := setCells_to [intW x] (off + i) _ cur1 s1.here
      have hgr : w.grownBy ((w.drew.setCells g (off + (i + 1)) (cs.drop i)).setCells g (off + i) [intW x]) (some g) :=
        ⟨t1.os.trans s1.os, t1.tape.trans s1.tape, t1.output.trans s1.output, by rw [t1.size, s1.size]; exact Nat.le_refl _, fun k hk hk2 => (t1.rest k (fun e => hk2 (by rw [e]))).trans (s1.rest k (fun e => hk2 (by rw [e])))⟩
      have := ins_done R hbn hmb (insA l i x) (by rw [hg]; exact hgr) (.inl hg) (by rw [t1.size, s1.size]; exact hgl) t1.here (fun j hj => ?_) (by rw [hil]; exact hroom) e6 (by rw [t2, s2]; exact e7)
      · rw [hil] at this ⊢
        exact this
      · rw [hil] at hj
        rw [insA_get hi, t3 _ (by omega)]
        by_cases q1 : j < i
        · rw [if_neg (by simp; omega), if_pos q1, s3 _ (by omega), if_neg (by omega)]
          exact cell j (by omega)
        · rw [if_neg q1]
          by_cases q2 : j = i
          · rw [if_pos q2, if_pos (by simp; omega)]
            have : off + j - (off + i) = 0 := by omega
            rw [this]; rfl
          · rw [if_neg q2, if_neg (by simp; omega), s3 _ (by omega), if_pos (by rw [List.length_drop]; omega)]
            have : off + j - (off + (i + 1)) = j - 1 - i := by omega
            rw [this, hcs, List.getD_eq_getElem?_getD, List.getElem?_drop, List.getElem?_map, show i + (j - 1 - i) = j - 1 by omega, List.getElem?_eq_getElem (by omega), List.getD_eq_getElem?_getD, List.getElem?_eq_getElem (by omega)]
            rfl
    · have hie : i = l.length := by omega
      subst hie
      have hc := Any2.slices_Insert_int_end_room (ρ := Tryz.insS_ren) Tryz.insS g off l.length c g' off' 1 vc [intW x] w (by omega) hroom hc63 rfl (fun j hj => hiso _ (by omega)) (fun j _ => hnf _) hvs h1v
      refine Calls.mono (P := Tryz.prog) hc ?_
      rintro e w' ⟨rfl, rfl⟩
      obtain ⟨cur2, t1, t2, t3⟩ := setCells_to [intW x] (off + l.length) _ cur e2
      have hgr : w.grownBy (w.setCells g (off + l.length) [intW x]) (some g) :=
        ⟨t1.os, t1.tape, t1.output, by rw [t1.size]; exact Nat.le_refl _, fun k hk hk2 => t1.rest k (fun e => hk2 (by rw [e]))⟩
      have := ins_done R hbn hmb (insA l l.length x) (by rw [hg]; exact hgr) (.inl hg) (by rw [t1.size]; exact hgl) t1.here (fun j hj => ?_) (by rw [hil]; exact hroom) e6 (by rw [t2]; exact e7)
      · rw [hil] at this ⊢
        exact this
      · rw [hil] at hj
        rw [insA_get hi, t3 _ (by omega)]
        by_cases q1 : j < l.length
        · rw [if_neg (by simp; omega), if_pos q1]
          exact cell j q1
        · rw [if_neg q1, if_pos (show j = l.length by omega), if_pos (by simp; omega)]
          have : off + j - (off + l.length) = 0 := by omega
          rw [this]; rfl
  · have hcn : c = l.length := by omega
    subst hcn
    have ht : Tryz.insS_ren.t 3 = 3 := rfl
    have hcg : l.length + 1 ≤ grownCap w (l.length + 1) l.length 3 := grownCap_ge w _ _ _
    have hcm : grownCap w (l.length + 1) l.length 3 ≤ maxLen := grownCap_le_maxLen w _ _ _ (by simp only [maxLen]; omega)
    have ez : (Value.int .i64 0).cells.size = 1 := rfl
    by_cases hin : i < l.length
    · have hc := Any2.slices_Insert_int_grow (ρ := Tryz.insS_ren) Tryz.insS g off l.length l.length i g' off' 1 vc cs [intW x] w hin (by omega) (Nat.le_refl _) (by omega) (by omega) hcl rfl hcsg hvs h1c h1v
      refine Calls.mono (P := Tryz.prog) hc ?_
      rw [ht]
      generalize hGe : grownCap w (l.length + 1) l.length 3 = G at *
      rintro e w' ⟨rfl, rfl⟩
      obtain ⟨C, hC⟩ : ∃ C : Array Value, C = (cs.take i).toArray ++ Builtin.zeroCells (Value.int .i64 0).cells (l.length + 1 - i) ++ Builtin.zeroCells (Value.int .i64 0).cells (G - (l.length + 1)) := ⟨_, rfl⟩
      have hCs : C.size = G := by
        rw [hC]
        simp only [Array.size_append, List.size_toArray, size_zeroCells, ez, List.length_take, hcl]; omega
      have hC0 : ∀ j, j < i → C[j]? = some (intW (l.getD j 0)) := fun j hj => by
        rw [hC, Array.append_assoc, Array.getElem?_append_left (by simp [hcl]; omega)]
        rw [List.getElem?_toArray, List.getElem?_take_of_lt hj, hcs, List.getElem?_map, List.getElem?_eq_getElem (by omega), List.getD_eq_getElem?_getD, List.getElem?_eq_getElem (by omega)]
        rfl
      rw [← hC]
      have hnew : (w.alloc (.cells C 3)).drew.heap[w.heap.size]? = some (.cells C 3 (0, 0)) := heap_alloc_new w _
      obtain ⟨cur1, s1, s2, s3⟩ := setCells_to [intW x] i _ C hnew
      have hnew2 : ((w.alloc (.cells C 3)).drew.setCells w.heap.size i [intW x]).drew.heap[w.heap.size]? = some (.cells cur1 3 (0, 0)) := s1.here
      obtain ⟨cur2, t1, t2, t3⟩ := setCells_to (cs.drop i) (i + 1) _ cur1 hnew2
      have hsz2 : ((((w.alloc (.cells C 3)).drew.setCells w.heap.size i [intW x]).drew).setCells w.heap.size (i + 1) (cs.drop i)).heap.size = w.heap.size + 1 := by
        rw [t1.size]; show ((w.alloc (.cells C 3)).drew.setCells w.heap.size i [intW x]).heap.size = _; rw [s1.size]; simp
      have hgr : w.grownBy ((((w.alloc (.cells C 3)).drew.setCells w.heap.size i [intW x]).drew).setCells w.heap.size (i + 1) (cs.drop i)) (some g) :=
        ⟨t1.os.trans s1.os, t1.tape.trans s1.tape, t1.output.trans s1.output, by rw [hsz2]; omega, fun k hk _ => (t1.rest k (by omega)).trans ((s1.rest k (by omega)).trans (Below.heap_alloc w _ k hk))⟩
      have := ins_done R hbn hmb (g' := w.heap.size) (off' := 0) (cap' := G) (insA l i x) (by rw [hg]; exact hgr) (.inr (Nat.le_refl _)) (by rw [hsz2]; omega) t1.here (fun j hj => ?_) (by rw [hil]; exact hcg) hcm (by rw [t2, s2, hCs]; omega)
      · rw [hil] at this ⊢
        exact this
      · rw [hil] at hj
        rw [insA_get hi, Nat.zero_add, t3 _ (by omega)]
        by_cases q1 : j < i
        · rw [if_neg (by omega), if_pos q1, s3 _ (by omega), if_neg (by omega)]
          exact hC0 j q1
        · rw [if_neg q1]
          by_cases q2 : j = i
          · rw [if_pos q2, if_neg (by omega), s3 _ (by omega), if_pos (by simp; omega)]
            rw [q2, Nat.sub_self]; rfl
          · rw [if_neg q2, if_pos (by rw [List.length_drop]; omega)]
            have : j - (i + 1) = j - 1 - i := by omega
            rw [this, hcs, List.getD_eq_getElem?_getD, List.getElem?_drop, List.getElem?_map, show i + (j - 1 - i) = j - 1 by omega, List.getElem?_eq_getElem (by omega), List.getD_eq_getElem?_getD, List.getElem?_eq_getElem (by omega)]
            rfl
    · have hie : i = l.length := by omega
      subst hie
      have hc := Any2.slices_Insert_int_end_grow (ρ := Tryz.insS_ren) Tryz.insS (some ⟨g, off, none⟩) l.length l.length g' off' 1 vc cs [intW x] w (by omega) (Nat.le_refl _) (by omega) (by omega) hcl rfl (fun h => by cases h) (fun a ha j v hj => by
        injection ha with ha; subst ha
        rw [Addr.add_lit]; exact hcsg j v hj) hvs h1v
      refine Calls.mono (P := Tryz.prog) hc ?_
      rw [ht]
      generalize hGe : grownCap w (l.length + 1) l.length 3 = G at *
      rintro e w' ⟨rfl, rfl⟩
      obtain ⟨C, hC⟩ : ∃ C : Array Value, C = (cs ++ [intW x]).toArray ++ Builtin.zeroCells (Value.int .i64 0).cells (G - (l.length + 1)) := ⟨_, rfl⟩
      have hCs : C.size = G := by
        rw [hC]
        simp only [Array.size_append, List.size_toArray, size_zeroCells, ez, List.length_append, List.length_singleton, hcl]; omega
      rw [← hC]
      have hnew : (w.drew.alloc (.cells C 3)).heap[w.heap.size]? = some (.cells C 3 (0, 0)) := heap_alloc_new w.drew _
      have hgr0 := grown_drew_alloc w (.cells C 3)
      have hgr : w.grownBy (w.drew.alloc (.cells C 3)) (some g) := ⟨hgr0.os, hgr0.tape, hgr0.output, hgr0.size, fun k hk _ => hgr0.block k hk (by simp)⟩
      have := ins_done R hbn hmb (g' := w.heap.size) (off' := 0) (cap' := G) (insA l l.length x) (by rw [hg]; exact hgr) (.inr (Nat.le_refl _)) (by simp) hnew (fun j hj => ?_) (by rw [hil]; exact hcg) hcm (by rw [hCs]; omega)
      · rw [hil] at this ⊢
        exact this
      · rw [hil] at hj
        rw [insA_get hi, Nat.zero_add, hC, Array.getElem?_append_left (by simp [hcl]; omega), List.getElem?_toArray]
        by_cases q1 : j < l.length
        · rw [if_pos q1, List.getElem?_append_left (by omega), hcs, List.getElem?_map, List.getElem?_eq_getElem (by omega), List.getD_eq_getElem?_getD, List.getElem?_eq_getElem (by omega)]
          rfl
        · rw [if_neg q1, if_pos (show j = l.length by omega), List.getElem?_append_right (by omega), hcl, show j - l.length = 0 by omega]
          rfl

theorem c48l {h : List AObj} {b b2 : Nat} (x : Nat) (rk : RK) (hrk : rk ≠ .raw) (hb : h[b]? = some (.row 3 1 [] rk)) (hb2 : h[b2]? = some (.row 3 1 [Kn.nV x] .own)) (hne : b ≠ b2) :
    AC Tryz.prog 48 [.own b 0, .p (.int .i64 (0 : Nat)), .own b2 1] h [b] (fun v h' => v = .own b 1 ∧ h' = (h.map (AObj.kill b)).set b (.row 3 1 [Kn.nV x] .own)) := by
  refine ⟨entersF_of Tryz.func48 (by kernel_rfl) rfl, fun X I μ ob w cargs R hlen hargs hmay => ?_⟩
  have hbl : b < h.length := (List.getElem?_eq_some_iff.1 hb).1
  rcases (R.objs _ _ hb).2 with ⟨g, hg, hrow⟩ | ⟨hk, hob, a1, hm1, hp1⟩
  · have hset : ∀ c o, (h.set b (.row 3 1 [] .own))[c]? = some o → ObjOK (h.set b (.row 3 1 [] .own)).length μ I ob w c o := fun c o ho => by
      rw [List.length_set]
      by_cases e : c = b
      · subst e
        rw [List.getElem?_set_self hbl] at ho
        injection ho with ho; subst ho
        refine ⟨fun y hy => (by cases hy), .inl ⟨g, hg, ?_⟩⟩
        have hx : ((rk != RK.raw) = true) := by cases rk <;> first | rfl | exact absurd rfl hrk
        rw [hx] at hrow
        exact hrow
      · rw [List.getElem?_set_ne (fun e2 => e e2.symm)] at ho
        exact R.objs c o ho
    have R' : RepH X I μ ob (h.set b (.row 3 1 [] .own)) w := { R with
      names := by rw [List.length_set]; exact R.names
      past := fun c hc => R.past c (by rw [List.length_set] at hc; exact hc)
      objs := hset }
    have hc := (c48 (h := h.set b (.row 3 1 [] .own)) (b := b) (b2 := b2) [] 0 x (Nat.le_refl _) (by rw [List.getElem?_set_self hbl]; rfl) (by rw [List.getElem?_set_ne hne]; exact hb2) hne (by simp)).2 X I μ ob w cargs R' hlen (fun i hi => by rw [List.length_set]; exact hargs i hi) hmay
    refine Calls.mono hc ?_
    rintro e w' ⟨cv, v, h', I', μ', ob', z0, z1, z2, z3, z4, z5, z6, z7, z8, z9, z10⟩
    refine ⟨cv, v, h', I', μ', ob', z0, z1, z2, z3, by rw [List.length_set] at z4; exact z4, by rw [List.length_set] at z5; exact z5, z6, z7, z8, z9, ?_⟩
    rw [z10, List.map_set, List.set_set]
    rfl
  · obtain ⟨a0, q1, q2, rfl⟩ : ∃ a x y, cargs = [a, x, y] := by
      match cargs, hlen with
      | [a, x, y], _ => exact ⟨a, x, y, rfl⟩
    have g0 := hargs 0 (by simp)
    have g1 := hargs 1 (by simp)
    have g2 := hargs 2 (by simp)
    simp only [List.getD_cons_zero, List.getD_cons_succ] at g0 g1 g2
    have g1 := g1.int_inv
    subst g1
    obtain ⟨a, c, rfl, hbn, hbm⟩ := g0.own_inv
    obtain ⟨a', vc, rfl, hbn2, hbm2⟩ := g2.own_inv
    rw [hbm] at hm1
    injection hm1 with m1 _ m3
    subst m1
    have m3 : c = 0 := m3
    subst m3
    rcases (R.objs _ _ hb2).2 with ⟨g', hg', off', cap', cur', fr', vs', f1, f2, f3, f4, f5, f6, f7, f8, f9, f10⟩ | ⟨hk2, _⟩
    rotate_left
    · cases hk2
    rw [hbm2] at f1
    injection f1 with f1a _ f1c
    subst f1a f1c
    have hfr' := f3 rfl
    subst hfr'
    have cellx : cur'[off']? = some (intW x) := by
      have h1 := f10 0 (by simp)
      have h2 : vs'.getD 0 undef = intW x := by
        generalize vs'.getD 0 undef = u at h1 ⊢
        have h1 : PR I w (.int .i64 (x : Int)) u := h1
        cases h1; rfl
      have h3 : vs'[0]? = some (vs'.getD 0 undef) := by rw [List.getD_eq_getElem?_getD, List.getElem?_eq_getElem (by simp at f9; omega)]; rfl
      rw [← f8, List.getElem?_take_of_lt (by simp), List.getElem?_drop, Array.getElem?_toList] at h3
      rw [f8, h2] at h3
      simpa using h3
    have hvs : ∀ j v, ([intW x] : List Value)[j]? = some v → w.cell? ⟨g', off' + j, none⟩ = some v := fun j v hj => by
      match j, hj with
      | 0, hj =>
        have : intW x = v := by simpa using hj
        subst this
        unfold World.cell?
        simp only [f2]
        simpa using cellx
    have h1v : ∀ v ∈ [intW x], v.oneCell' = true := fun v hv => by rw [List.mem_singleton.1 hv]; rfl
    have ht : Tryz.insS_ren.t 3 = 3 := rfl
    have hcg : 0 + 1 ≤ grownCap w (0 + 1) 0 3 := grownCap_ge w _ _ _
    have hcm : grownCap w (0 + 1) 0 3 ≤ maxLen := grownCap_le_maxLen w _ _ _ (by simp only [maxLen]; omega)
    have ez : (Value.int .i64 0).cells.size = 1 := rfl
    have hc := Any2.slices_Insert_int_end_grow (ρ := Tryz.insS_ren) Tryz.insS a 0 0 g' off' 1 vc [] [intW x] w (by omega) (Nat.le_refl _) (by omega) (by omega) rfl rfl (fun _ => rfl) (fun _ _ j v hj => by simp at hj) hvs h1v
    refine Calls.mono (P := Tryz.prog) hc ?_
    rw [ht]
    generalize hGe : grownCap w (0 + 1) 0 3 = G at *
    rintro e w' ⟨rfl, rfl⟩
    obtain ⟨C, hC⟩ : ∃ C : Array Value, C = (([] : List Value) ++ [intW x]).toArray ++ Builtin.zeroCells (Value.int .i64 0).cells (G - (0 + 1)) := ⟨_, rfl⟩
    have hCs : C.size = G := by
      rw [hC]
      simp only [Array.size_append, List.size_toArray, size_zeroCells, ez, List.length_append, List.length_singleton, List.length_nil]; omega
    rw [← hC]
    have hnew : (w.drew.alloc (.cells C 3)).heap[w.heap.size]? = some (.cells C 3 (0, 0)) := heap_alloc_new w.drew _
    have hgr0 := grown_drew_alloc w (.cells C 3)
    have := ins_done R hbn (hmay b (by simp)) (g' := w.heap.size) (off' := 0) (cap' := G) [x] (by rw [hob]; exact hgr0) (.inr (Nat.le_refl _)) (by simp) hnew (fun j hj => ?_) hcg hcm (by rw [hCs]; omega)
    · exact this
    · have : j = 0 := by simpa using hj
      subst this
      rw [hC, Nat.zero_add, Array.getElem?_append_left (by simp)]; rfl

theorem c48f {h : List AObj} {b2 : Nat} (x : Nat) (hb2 : h[b2]? = some (.row 3 1 [Kn.nV x] .own)) (hkill : h.map (AObj.kill h.length) = h) :
    AC Tryz.prog 48 [.full [], .p (.int .i64 (0 : Nat)), .own b2 1] h [] (fun v h' => v = .own h.length 1 ∧ h' = h ++ [.row 3 1 [Kn.nV x] .own]) := by
  have hb2l : b2 < h.length := (List.getElem?_eq_some_iff.1 hb2).1
  refine ⟨entersF_of Tryz.func48 (by kernel_rfl) rfl, fun X I μ ob w cargs R hlen hargs hmay => ?_⟩
  obtain ⟨a0, q1, q2, rfl⟩ : ∃ a x y, cargs = [a, x, y] := by
    match cargs, hlen with
    | [a, x, y], _ => exact ⟨a, x, y, rfl⟩
  have g0 := hargs 0 (by simp)
  have g1 := hargs 1 (by simp)
  have g2 := hargs 2 (by simp)
  simp only [List.getD_cons_zero, List.getD_cons_succ] at g0 g1 g2
  obtain ⟨a, rfl, hp⟩ : ∃ a, a0 = .slice a 0 0 ∧ PR I w (.sl []) (.slice a 0 0) := by
    cases g0 with
    | full l a hp => exact ⟨a, rfl, hp⟩
  have R1 := R.name (World.grownBy.refl w none) (v := .slice a 0 0) (g := none) (o := .row 3 1 [] .lax) (by simp) ⟨fun y hy => (by cases hy), .inr ⟨rfl, upd_same _ _ _, a, upd_same _ _ _, by rw [upd_same]; exact hp⟩⟩
  have up : ∀ {c g : Nat}, upd ob h.length none c = some g → ob c = some g := fun {c g} hc => by
    by_cases e : c = h.length
    · subst e; rw [upd_same] at hc; cases hc
    · rwa [upd_other _ _ e] at hc
  have hc := (c48l (h := h ++ [.row 3 1 [] .lax]) (b := h.length) (b2 := b2) x .lax (by simp) (by simp) (by rw [List.getElem?_append_left hb2l]; exact hb2) (by omega)).2 X I _ _ w [.slice a 0 0, q1, q2] R1 rfl (fun i hi => by
    match i, hi with
    | 0, _ => exact .own _ _ _ _ (by simp) (upd_same _ _ _)
    | 1, _ => exact g1.mono (by simp) (fun c hc => upd_other _ _ (by omega)) (fun _ h => h) (fun _ _ => rfl)
    | 2, _ => exact g2.mono (by simp) (fun c hc => upd_other _ _ (by omega)) (fun _ h => h) (fun _ _ => rfl)) (fun k hk => by
      rw [List.mem_singleton.1 hk]; exact .inl R.names)
  refine Calls.mono hc ?_
  rintro e w' ⟨cv, v, h', I', μ', ob', z0, z1, z2, z3, z4, z5, z6, z7, z8, z9, z10⟩
  refine ⟨cv, v, h', I', μ', ob', z0, z1, z2, z3, fun c hc _ => ?_, by rw [List.length_append] at z5; omega, fun g hg => ?_, fun c g hg => ?_, fun g hg hno => z8 g hg (fun c hc => hno c (up hc)), z9, ?_⟩
  · rw [z4 c (by simp; omega) (by simp; omega), upd_other _ _ (by omega)]
  · rcases z6 g hg with h1 | ⟨c, h1⟩ | h1
    · exact .inl h1
    · exact .inr (.inl ⟨c, up h1⟩)
    · exact .inr (.inr h1)
  · rcases z7 c g hg with ⟨d, h1⟩ | h1
    · exact .inl ⟨d, up h1⟩
    · exact .inr h1
  · rw [z10, List.map_append, hkill]
    simp
end Go.Proofs.YtnaekjbbakofdaaGreat
end

section
namespace Go.Proofs.YtnaekjbbakofdaaGreat
open Go Go.AM
set_option maxRecDepth 100000
set_option maxHeartbeats 4000000
set_option linter.unusedSimpArgs false

def cntLt (l : List Nat) (x : Nat) : Nat := (l.filter fun y => decide (y < x)).length
theorem cntLt_of {l : List Nat} {x i : Nat} (hi : i ≤ l.length) (h1 : ∀ k (hk : k < l.length), k < i → l[k] < x) (h2 : ∀ k (hk : k < l.length), i ≤ k → x ≤ l[k]) : cntLt l x = i := by
  unfold cntLt
  have e : l = l.take i ++ l.drop i := (List.take_append_drop i l).symm
  conv => lhs; rw [e]
  rw [List.filter_append, List.length_append]
  have e1 : (l.take i).filter (fun y => decide (y < x)) = l.take i := List.filter_eq_self.2 fun y hy => by
    obtain ⟨k, hk, rfl⟩ := List.getElem_of_mem hy
    rw [List.getElem_take, decide_eq_true_eq]
    rw [List.length_take] at hk
    exact h1 k (by omega) (by omega)
  have e2 : (l.drop i).filter (fun y => decide (y < x)) = [] := List.filter_eq_nil_iff.2 fun y hy => by
    obtain ⟨k, hk, rfl⟩ := List.getElem_of_mem hy
    rw [List.getElem_drop, decide_eq_true_eq]
    rw [List.length_drop] at hk
    have := h2 (i + k) (by omega) (by omega)
    omega
  rw [e1, e2, List.length_take]
  simp; omega

theorem c78 (x : Int) : PFn Tryz.prog 78 [.int .i64 x] [.bool false] := by
  refine PFn.of_body hΓ Tryz.func78 (by kernel_rfl) rfl (AWp.of_awpD [] hΓ hmix (by kernel_rfl) ?_)
  simp -implicitDefEqProofs only [Tryz.ntmps78, Tryz.results78, Nat.reduceAdd, Nat.reduceSub, go_sem]
  try simp

theorem c47 (l : List Nat) (x : Nat) (hl : l.length ≤ 1000000) (hs : l.Pairwise (· ≤ ·)) : ∃ f, PFn Tryz.prog 47 [.sl (l.map Kn.nV), .int .i64 x] [.int .i64 (cntLt l x), .bool f] := by
  refine ⟨decide (∃ h : cntLt l x < l.length, l[cntLt l x] = x), ?_⟩
  refine PFn.of_body hΓ Tryz.func47 (by kernel_rfl) rfl (AWp.of_awpD [] hΓ hmix (by kernel_rfl) ?_)
  simp -implicitDefEqProofs only [Tryz.ntmps47, Tryz.results47, Nat.reduceAdd, Nat.reduceSub, List.length_map, go_sem]
  refine AWp.loopI (fun a : Nat × Nat => ⟨mkF 54 [(0, .p (.sl (l.map Kn.nV))), (1, .p (.int .i64 x)), (6, .p (.int .i64 l.length)), (7, .p (.int .i64 a.1)), (8, .p (.int .i64 a.2))], []⟩)
    (fun a => a.1 ≤ a.2 ∧ a.2 ≤ l.length ∧ (∀ k (hk : k < l.length), k < a.1 → l[k] < x) ∧ (∀ k (hk : k < l.length), a.2 ≤ k → x ≤ l[k])) (fun a => a.2 - a.1) (0, l.length) (by simp [go_sem]) ⟨Nat.zero_le _, Nat.le_refl _, fun _ _ h => by omega, fun _ _ h => by simp only at h; omega⟩ ?_
  rintro ⟨i, j⟩ ⟨hij, hjl, h1, h2⟩
  simp only at hij hjl h1 h2
  simp -implicitDefEqProofs only [go_sem]
  refine AWp.of_awpD [] hΓ hmix (by kernel_rfl) ?_
  by_cases hlt : i < j
  · have hlt' : (i : Int) < (j : Int) := by omega
    have hin1 : InR .i64 ((i : Int) + j) := by simp only [InR]; omega
    have hw1 : IntKind.u64.wrap ((i : Int) + j) = ((i + j : Nat) : Int) := by rw [InR.wrap (k := .u64) (by simp only [InR]; omega)]; omega
    obtain ⟨m, hm⟩ : ∃ m, m = (i + j) / 2 := ⟨_, rfl⟩
    have hmid : IntKind.i64.wrap (((i + j : Nat) : Int) / 2 ^ Int.toNat 1) = ((m : Nat) : Int) := by
      have e : ((i + j : Nat) : Int) / 2 ^ Int.toNat 1 = ((m : Nat) : Int) := by
        rw [hm]
        have : (2 : Int) ^ Int.toNat 1 = 2 := rfl
        rw [this]; omega
      rw [e]; exact InR.wrap (k := .i64) (by simp only [InR]; omega)
    have hml : m < l.length := by omega
    have hml' : (m : Int) < (l.length : Int) := by omega
    have hg : (l.map Kn.nV).getD m default = .int .i64 (l[m] : Nat) := getD_map_lt _ _ _ _ hml
    have e54 := t161 l[m] x
    have hc1 : (0 : Int) ≤ 1 ∧ (1 : Int) < ((64 : Nat) : Int) := by decide
    simp -implicitDefEqProofs only [hlt, hlt', hin1, hw1, hmid, hml', hg, Int.toNat_natCast, List.length_map, go_sem]
    refine ⟨hc1, callK_fn e54 (.pures rfl) ?_⟩
    have hsl := List.pairwise_iff_getElem.1 hs
    by_cases hc : l[m] < x
    · simp -implicitDefEqProofs only [hc, go_sem]
      refine ⟨by simp only [InR]; omega, (m + 1, j), by omega, ⟨by simp only; omega, hjl, fun k hk hkm => ?_, h2⟩, by simp only; omega⟩
      simp only at hkm
      by_cases he : k = m
      · subst he; exact hc
      · have := hsl k m hk hml (by omega); omega
    · simp -implicitDefEqProofs only [hc, go_sem]
      refine ⟨(i, m), by omega, ⟨by simp only; omega, by simp only; omega, h1, fun k hk hkm => ?_⟩, by simp only; omega⟩
      simp only at hkm
      by_cases he : k = m
      · subst he; omega
      · have := hsl m k hml hk (by omega); omega
  · have hij' : i = j := by omega
    subst hij'
    have hcn := cntLt_of hjl h1 h2
    rw [hcn]
    by_cases hil : i < l.length
    rotate_left
    · have hil' : ¬ (i : Int) < (l.length : Int) := by omega
      have hf : decide (∃ h : i < l.length, l[i] = x) = false := decide_eq_false (fun ⟨h, _⟩ => hil h)
      rw [hf]
      simp -implicitDefEqProofs only [Int.lt_irrefl, Nat.lt_irrefl, hil, hil', go_sem]
    have hil' : (i : Int) < (l.length : Int) := by omega
    have hg : (l.map Kn.nV).getD i default = .int .i64 (l[i] : Nat) := getD_map_lt _ _ _ _ hil
    by_cases he : l[i] = x
    · have hf : decide (∃ h : i < l.length, l[i] = x) = true := decide_eq_true ⟨hil, he⟩
      have he' : ((l[i] : Nat) : Int) = (x : Int) := by omega
      rw [hf]
      simp -implicitDefEqProofs only [Int.lt_irrefl, Nat.lt_irrefl, hil, hil', hg, he', Int.toNat_natCast, List.length_map, go_sem]
    · have hf : decide (∃ h : i < l.length, l[i] = x) = false := decide_eq_false (fun ⟨_, h⟩ => he h)
      have he' : ¬ ((l[i] : Nat) : Int) = (x : Int) := by omega
      rw [hf]
      simp -implicitDefEqProofs only [Int.lt_irrefl, Nat.lt_irrefl, hil, hil', hg, he', Int.toNat_natCast, List.length_map, go_sem]
      refine callK_fn (c78 _) (.pures rfl) ?_
      simp -implicitDefEqProofs only [go_sem]
end Go.Proofs.YtnaekjbbakofdaaGreat
end

section
namespace Go.Proofs.YtnaekjbbakofdaaGreat
open Go Go.AM
set_option maxRecDepth 100000
set_option maxHeartbeats 4000000
set_option linter.unusedSimpArgs false

def putS (l : List Nat) (x : Nat) : List Nat := insA l (cntLt l x) x
def growS (cs l : List Nat) : List Nat := match l with
  | [] => []
  | f :: rest => (cs.map fun c => f + c).foldl putS rest
def lensN (cs : List Nat) (n : Nat) : Nat → List Nat → List Nat
  | 0, l => l
  | k + 1, l => if l.length < n then lensN cs n k (growS cs l) else l
def lensL (cs : List Nat) (n : Nat) : List Nat := (lensN cs n n [0]).take n

theorem cntLt_le (l : List Nat) (x : Nat) : cntLt l x ≤ l.length := List.length_filter_le _ _
theorem putS_len (l : List Nat) (x : Nat) : (putS l x).length = l.length + 1 := insA_len (cntLt_le l x)
theorem mem_putS {l : List Nat} {x y : Nat} : y ∈ putS l x ↔ y = x ∨ y ∈ l := by
  unfold putS insA
  rw [List.mem_append, List.mem_cons]
  have h : y ∈ l ↔ y ∈ l.take (cntLt l x) ∨ y ∈ l.drop (cntLt l x) := by rw [← List.mem_append, List.take_append_drop]
  rw [h]
  constructor
  · rintro (h | h | h)
    · exact .inr (.inl h)
    · exact .inl h
    · exact .inr (.inr h)
  · rintro (h | h | h)
    · exact .inr (.inl h)
    · exact .inl h
    · exact .inr (.inr h)
theorem cnt_split {x : Nat} : ∀ {l : List Nat}, l.Pairwise (· ≤ ·) → (∀ y ∈ l.take (cntLt l x), y < x) ∧ ∀ y ∈ l.drop (cntLt l x), x ≤ y
  | [], _ => by simp
  | a :: l, h => by
    have h' := List.pairwise_cons.1 h
    by_cases ha : a < x
    · have e : cntLt (a :: l) x = cntLt l x + 1 := by unfold cntLt; rw [List.filter_cons_of_pos (by simpa using ha)]; rfl
      obtain ⟨h1, h2⟩ := cnt_split (x := x) h'.2
      rw [e, List.take_succ_cons, List.drop_succ_cons]
      exact ⟨fun y hy => (List.mem_cons.1 hy).elim (fun e => e ▸ ha) (h1 y), h2⟩
    · have e : cntLt (a :: l) x = 0 := by
        unfold cntLt
        rw [List.length_eq_zero_iff, List.filter_eq_nil_iff]
        intro y hy
        have : a ≤ y := (List.mem_cons.1 hy).elim (fun e => by omega) (h'.1 y)
        simp; omega
      rw [e]
      refine ⟨by simp, fun y hy => ?_⟩
      have : a ≤ y := (List.mem_cons.1 hy).elim (fun e => by omega) (h'.1 y)
      omega
theorem putS_sorted {l : List Nat} {x : Nat} (h : l.Pairwise (· ≤ ·)) : (putS l x).Pairwise (· ≤ ·) := by
  obtain ⟨h1, h2⟩ := cnt_split (x := x) h
  unfold putS insA
  rw [List.pairwise_append]
  refine ⟨h.sublist (List.take_sublist _ _), List.pairwise_cons.2 ⟨h2, h.sublist (List.drop_sublist _ _)⟩, fun a ha b hb => ?_⟩
  have := h1 a ha
  rcases List.mem_cons.1 hb with rfl | hb
  · omega
  · have := h2 b hb; omega
structure SL (B : Nat) (l : List Nat) : Prop where
  so : l.Pairwise (· ≤ ·)
  le : ∀ x ∈ l, x ≤ B
theorem SL.put {B : Nat} {l : List Nat} (h : SL B l) {x : Nat} (hx : x ≤ B) : SL B (putS l x) :=
  ⟨putS_sorted h.so, fun y hy => (mem_putS.1 hy).elim (fun e => e ▸ hx) (h.le y)⟩
theorem SL.fold {B : Nat} : ∀ {xs l : List Nat}, SL B l → (∀ x ∈ xs, x ≤ B) → SL B (xs.foldl putS l) ∧ (xs.foldl putS l).length = l.length + xs.length
  | [], l, h, _ => ⟨h, rfl⟩
  | x :: xs, l, h, hx => by
    obtain ⟨h1, h2⟩ := SL.fold (xs := xs) (h.put (hx x (by simp))) (fun y hy => hx y (by simp [hy]))
    exact ⟨h1, by rw [List.foldl_cons, h2, putS_len]; simp; omega⟩
theorem SL.grow {B : Nat} {cs : List Nat} (hc : ∀ c ∈ cs, c ≤ 8) {f : Nat} {rest : List Nat} (h : SL B (f :: rest)) : SL (B + 8) (growS cs (f :: rest)) ∧ (growS cs (f :: rest)).length = rest.length + cs.length := by
  have hf := h.le f (by simp)
  have := SL.fold (B := B + 8) (xs := cs.map fun c => f + c) (l := rest) ⟨(List.pairwise_cons.1 h.so).2, fun x hx => by have := h.le x (by simp [hx]); omega⟩ (fun x hx => by
    obtain ⟨c, hc2, rfl⟩ := List.mem_map.1 hx
    have := hc c hc2; omega)
  rwa [List.length_map] at this
end Go.Proofs.YtnaekjbbakofdaaGreat
end

section
namespace Go.Proofs.YtnaekjbbakofdaaGreat
open Go Go.AM
set_option maxRecDepth 100000
set_option maxHeartbeats 4000000
set_option linter.unusedSimpArgs false

theorem c17 {cs : List Nat} (hc : OkC cs) {n : Nat} (hn1 : 1 ≤ n) (hn : n ≤ 64) : PFn Tryz.prog 17 [.sl (cs.map Kn.nV), .int .i64 n] [.sl ((lensL cs n).map Kn.nV), .int .i64 0] := by
  have e46 := hc.c46
  have h2 := hc.l2
  have h3 := hc.l3
  have hn1' : ¬ (n : Int) < 1 := by omega
  have hn' : ¬ (64 : Int) < (n : Int) := by omega
  refine PFn.of_body hΓ Tryz.func17 (by kernel_rfl) rfl (AWp.seq (AWp.of_awpD [] hΓ hmix (by kernel_rfl) ?_))
  simp -implicitDefEqProofs only [Tryz.ntmps17, Tryz.results17, Nat.reduceAdd, Nat.reduceSub, go_sem]
  refine AWp.seq (AWp.of_awpD [] hΓ hmix (by kernel_rfl) ?_)
  simp -implicitDefEqProofs only [go_sem]
  refine callK_fn e46 (.still rfl) ?_
  simp -implicitDefEqProofs only [go_sem]
  refine AWp.seq (AWp.of_awpD [] hΓ hmix (by kernel_rfl) ?_)
  simp -implicitDefEqProofs only [hn1', hn', go_sem]
  have hs0 : sizeOK [PV.int .i64 0] 1 := by simp [sizeOK, PV.cells]
  refine AWp.seq (AWp.of_awpD [] hΓ hmix (by kernel_rfl) ?_)
  simp -implicitDefEqProofs only [go_sem]
  refine ⟨⟨hs0, by omega⟩, ?_⟩
  refine AWp.fullP (l := [.int .i64 0]) 7 rfl ?_
  simp -implicitDefEqProofs only [List.set_cons_succ, List.set_cons_zero, go_sem]
  refine AWp.seq (AWp.block ?_)
  generalize hLL : lensL cs n = LL
  unfold lensL at hLL
  generalize hL0 : lensN cs n n [0] = L0 at hLL
  refine AWp.loopJ (fun a : Nat × List Nat => ⟨mkF 60 [(0, .p (.sl (cs.map Kn.nV))), (1, .p (.int .i64 n)), (7, .p (.sl (a.2.map Kn.nV)))], []⟩)
    (fun a => a.1 ≤ n ∧ lensN cs n a.1 a.2 = L0 ∧ SL (8 * (n - a.1)) a.2 ∧ 0 < a.2.length ∧ n ≤ a.2.length + a.1 ∧ a.2.length ≤ n + 1) (fun a => a.1) (n, [0])
    (fun a => by simp [BelowAll, mkF, AV.blw, AV.blw.blwL, blwH]) (by simp [go_sem, Kn.nV]) ⟨Nat.le_refl _, hL0, ⟨by simp, by simp⟩, by simp, by simp <;> omega, by simp <;> omega⟩ ?_
  rintro ⟨k, l⟩ ⟨hk, hLn, hSL, hl0, hnk, hln⟩
  simp only at hk hLn hSL hl0 hnk hln
  simp -implicitDefEqProofs only [go_sem]
  by_cases hlt : l.length < n
  rotate_left
  · have hlt' : ¬ (l.length : Int) < (n : Int) := by omega
    refine AWp.seq (AWp.of_awpD [] hΓ hmix (by kernel_rfl) ?_)
    simp -implicitDefEqProofs only [hlt, hlt', List.length_map, go_sem]
    have hl2 : L0 = l := by
      rw [← hLn]
      cases k with
      | zero => rfl
      | succ k => rw [lensN, if_neg hlt]
    rw [← hLL, hl2]
    have hle : (n : Int) ≤ (l.length : Int) := by omega
    refine AWp.seq (AWp.of_awpD [] hΓ hmix (by kernel_rfl) ?_)
    have hszl := size_c26 l
    simp -implicitDefEqProofs only [hszl, List.length_map, Int.toNat_natCast, List.map_take, go_sem]
    refine ⟨by omega, ?_⟩
    refine AWp.of_awpD [] hΓ hmix (by kernel_rfl) ?_
    simp -implicitDefEqProofs only [go_sem]
  have hlt' : (l.length : Int) < (n : Int) := by omega
  obtain ⟨k', rfl⟩ : ∃ k', k = k' + 1 := ⟨k - 1, by omega⟩
  rw [lensN, if_pos hlt] at hLn
  obtain ⟨f, rest, rfl⟩ : ∃ f rest, l = f :: rest := by
    cases l with
    | nil => simp at hl0
    | cons f rest => exact ⟨f, rest, rfl⟩
  obtain ⟨hg1, hg2⟩ := SL.grow hc.hi hSL
  have hfB := hSL.le f (by simp)
  have hszl := size_c26 (f :: rest)
  simp only [List.map_cons, List.length_cons] at hlt hlt' hszl hnk
  refine AWp.seq (AWp.of_awpD [] hΓ hmix (by kernel_rfl) ?_)
  simp -implicitDefEqProofs only [hlt, hlt', List.length_map, List.map_cons, List.length_cons, go_sem]
  refine AWp.block ?_
  have hnv : Kn.nV f = .int .i64 (f : Int) := rfl
  refine AWp.seq (AWp.of_awpD [] hΓ hmix (by kernel_rfl) ?_)
  have hg0 : (PV.int .i64 (f : Int) :: rest.map Kn.nV).getD (Int.toNat 0) default = .int .i64 (f : Int) := rfl
  simp -implicitDefEqProofs only [hnv, hg0, List.map_cons, List.length_cons, go_sem]
  refine ⟨by omega, ?_⟩
  refine AWp.seq (AWp.of_awpD [] hΓ hmix (by kernel_rfl) ?_)
  have h01 : (0 : Int) ≤ 1 := by decide
  have hszl2 : sizeOK (.int .i64 (f : Int) :: rest.map Kn.nV) 1 := hszl
  simp -implicitDefEqProofs only [hszl2, hnv, List.length_cons, List.length_map, h01, go_sem]
  refine ⟨by omega, ?_⟩
  refine AWp.seq (AWp.of_awpD [] hΓ hmix (by kernel_rfl) ?_)
  simp -implicitDefEqProofs only [List.length_map, go_sem]
  refine AWp.block ?_
  obtain ⟨cur, hcur⟩ : ∃ cur : Nat → List Nat, cur = fun j => ((cs.take j).map fun c => f + c).foldl putS rest := ⟨_, rfl⟩
  have hc0 : cur 0 = rest := by rw [hcur]; rfl
  have hce : cur cs.length = growS cs (f :: rest) := by rw [hcur]; simp [growS]
  have hcs : ∀ j (hj : j < cs.length), cur (j + 1) = putS (cur j) (f + cs[j]) := fun j hj => by
    rw [hcur]
    simp only
    rw [List.take_succ_eq_append_getElem hj, List.map_append, List.foldl_append]
    rfl
  have hcB : ∀ j, j ≤ cs.length → SL 600 (cur j) ∧ (cur j).length = rest.length + j := fun j hj => by
    have h := SL.fold (B := 600) (xs := (cs.take j).map fun c => f + c) (l := rest) ⟨(List.pairwise_cons.1 hSL.so).2, fun x hx => by have := hSL.le x (by simp [hx]); omega⟩ (fun x hx => by
      obtain ⟨c, hcm, rfl⟩ := List.mem_map.1 hx
      have := hc.hi c (List.mem_of_mem_take hcm); omega)
    rw [hcur]
    refine ⟨h.1, ?_⟩
    have := h.2
    rw [List.length_map, List.length_take, Nat.min_eq_left hj] at this
    exact this
  refine AWp.loopJ (fun j : Nat => ⟨mkF 60 [(0, .p (.sl (cs.map Kn.nV))), (1, .p (.int .i64 n)), (7, .p (.sl ((cur j).map Kn.nV))), (8, .p (.int .i64 f)), (34, .p (.sl (cs.map Kn.nV))), (35, .p (.int .i64 cs.length)), (36, .p (.int .i64 j))], []⟩)
    (fun j => j ≤ cs.length) (fun j => cs.length - j) 0 (fun a => by simp [BelowAll, mkF, AV.blw, AV.blw.blwL, blwH]) (by rw [hc0]; simp [go_sem]) (Nat.zero_le _) ?_
  intro j hj
  simp -implicitDefEqProofs only [go_sem]
  by_cases hjc : j < cs.length
  rotate_left
  · have hje : j = cs.length := by omega
    subst hje
    rw [hce]
    refine AWp.of_awpD [] hΓ hmix (by kernel_rfl) ?_
    simp -implicitDefEqProofs only [Nat.lt_irrefl, Int.lt_irrefl, go_sem]
    refine ⟨(k', growS cs (f :: rest)), rfl, ⟨by omega, hLn, ?_, by rw [hg2]; omega, by rw [hg2]; omega, ?_⟩, by omega⟩
    · rw [show 8 * (n - k') = 8 * (n - (k' + 1)) + 8 by omega]; exact hg1
    · simp only; rw [hg2]; simp only [List.length_cons] at hln; omega
  have hjc' : (j : Int) < (cs.length : Int) := by omega
  obtain ⟨hSj, hlj⟩ := hcB j hj
  have hsuc := hcs j hjc
  have hcj := hc.hi _ (List.getElem_mem hjc)
  have hgc : (cs.map Kn.nV).getD j default = .int .i64 (cs[j] : Nat) := getD_map_lt _ _ _ _ hjc
  have hadd : (f : Int) + ((cs[j] : Nat) : Int) = ((f + cs[j] : Nat) : Int) := by omega
  have hin : InR .i64 ((f + cs[j] : Nat) : Int) := by simp only [InR]; omega
  obtain ⟨fl, e47⟩ := c47 (cur j) (f + cs[j]) (by rw [hlj]; simp only [List.length_cons] at hln; omega) hSj.so
  have hcl := cntLt_le (cur j) (f + cs[j])
  have hput : putS (cur j) (f + cs[j]) = insA (cur j) (cntLt (cur j) (f + cs[j])) (f + cs[j]) := rfl
  generalize hcn : cntLt (cur j) (f + cs[j]) = ix at *
  refine AWp.seq (AWp.of_awpD [] hΓ hmix (by kernel_rfl) ?_)
  simp -implicitDefEqProofs only [hjc', go_sem]
  refine AWp.seq (AWp.of_awpD [] hΓ hmix (by kernel_rfl) ?_)
  simp -implicitDefEqProofs only [go_sem]
  refine AWp.seq (AWp.block ?_)
  refine AWp.seq (AWp.of_awpD [] hΓ hmix (by kernel_rfl) ?_)
  simp -implicitDefEqProofs only [hjc', hjc, hgc, Int.toNat_natCast, List.length_map, go_sem]
  refine AWp.seq (AWp.of_awpD [] hΓ hmix (by kernel_rfl) ?_)
  simp -implicitDefEqProofs only [hadd, go_sem]
  refine ⟨hin, callK_fn e47 (.pures rfl) ?_⟩
  simp -implicitDefEqProofs only [go_sem]
  refine AWp.regionB 6 hΓ ?_
  simp -implicitDefEqProofs only [go_sem]
  refine callK_ac (c26 (cur j) (by rw [hlj]; simp only [List.length_cons] at hln; omega)) (by simp) ?_
  rintro v h' (⟨he, rfl, rfl⟩ | ⟨rk, hrk, hrk2, rfl, rfl⟩)
  · have hix : ix = 0 := by rw [he] at hcl; simpa using hcl
    subst hix
    have hcn1 : cur (j + 1) = [f + cs[j]] := by rw [hsuc, hput, he]; rfl
    simp -implicitDefEqProofs only [killAll, List.foldl, hadd, go_sem]
    refine ⟨hin, 3, _, .int .i64 ((f + cs[j] : Nat) : Int), rfl, rfl, rfl, rfl, rfl, rfl, ?_⟩
    simp -implicitDefEqProofs only [List.map_cons, List.map_nil, go_sem]
    refine callK_ac (c48f (h := [.row 3 1 [.int .i64 ((f + cs[j] : Nat) : Int)] .own]) (b2 := 0) (f + cs[j]) rfl (by simp [AObj.kill])) (by simp) ?_
    rintro v h' ⟨rfl, rfl⟩
    simp -implicitDefEqProofs only [killAll, List.foldl, List.length_cons, List.length_nil, Nat.reduceAdd, go_sem]
    refine AWp.freeze 1 rfl ?_
    simp -implicitDefEqProofs only [Frozen, AV.thaw, AObj.thaw, AV.thaw.thawL, List.map_cons, List.map_nil, List.set_cons_zero, List.set_cons_succ, Nat.reduceEqDiff, go_sem]
    refine AWp.of_awpD [] hΓ hmix (by kernel_rfl) ?_
    simp -implicitDefEqProofs only [go_sem]
    exact ⟨by simp only [InR]; omega, j + 1, ⟨by rw [hcn1]; rfl, by omega⟩, by omega, by omega⟩
  · simp -implicitDefEqProofs only [killAll, List.foldl, hadd, go_sem]
    refine ⟨hin, 3, _, .int .i64 ((f + cs[j] : Nat) : Int), rfl, rfl, rfl, rfl, rfl, rfl, ?_⟩
    simp -implicitDefEqProofs only [List.map_cons, List.map_nil, List.length_cons, List.length_nil, Nat.reduceAdd, go_sem]
    have hcase : AC Tryz.prog 48 [.own 0 (cur j).length, .p (.int .i64 ix), .own 1 1] [.row 3 1 ((cur j).map Kn.nV) rk, .row 3 1 [.int .i64 ((f + cs[j] : Nat) : Int)] .own] [0]
        (fun v h' => v = .own 0 (cur (j + 1)).length ∧ h' = [.row 3 1 ((cur (j + 1)).map Kn.nV) .own, .row 3 1 [.int .i64 ((f + cs[j] : Nat) : Int)] .own]) := by
      by_cases he : cur j = []
      · have hix : ix = 0 := by rw [he] at hcl; simpa using hcl
        subst hix
        have hcn1 : cur (j + 1) = [f + cs[j]] := by rw [hsuc, hput, he]; rfl
        rw [he, hcn1]
        refine AC.monoR (c48l (h := [.row 3 1 [] rk, .row 3 1 [.int .i64 ((f + cs[j] : Nat) : Int)] .own]) (b := 0) (b2 := 1) (f + cs[j]) rk hrk rfl rfl (by omega)) ?_
        rintro v h' ⟨rfl, rfl⟩
        exact ⟨rfl, rfl⟩
      · have hrk3 := hrk2 he
        subst hrk3
        rw [hsuc, hput]
        refine AC.monoR (c48 (h := [.row 3 1 ((cur j).map Kn.nV) .own, .row 3 1 [.int .i64 ((f + cs[j] : Nat) : Int)] .own]) (b := 0) (b2 := 1) (cur j) ix (f + cs[j]) hcl rfl rfl (by omega) (by rw [hlj]; simp only [List.length_cons] at hln; omega)) ?_
        rintro v h' ⟨rfl, rfl⟩
        exact ⟨rfl, rfl⟩
    refine callK_ac hcase (by simp) ?_
    rintro v h' ⟨rfl, rfl⟩
    simp -implicitDefEqProofs only [killAll, List.foldl, AV.kill, AV.kill.killL, Nat.reduceEqDiff, List.map_cons, List.map_nil, go_sem]
    refine AWp.freeze 0 rfl ?_
    simp -implicitDefEqProofs only [Frozen, AV.thaw, AObj.thaw, AV.thaw.thawL, List.map_cons, List.map_nil, List.set_cons_zero, List.set_cons_succ, Nat.reduceEqDiff, go_sem]
    refine AWp.of_awpD [] hΓ hmix (by kernel_rfl) ?_
    simp -implicitDefEqProofs only [go_sem]
    exact ⟨by simp only [InR]; omega, j + 1, ⟨rfl, by omega⟩, by omega, by omega⟩
end Go.Proofs.YtnaekjbbakofdaaGreat
end

section
namespace Go.Proofs.YtnaekjbbakofdaaGreat
open Go Go.AM
set_option maxRecDepth 100000
set_option maxHeartbeats 4000000
set_option linter.unusedSimpArgs false

end Go.Proofs.YtnaekjbbakofdaaGreat
end

section
namespace Go.Proofs.YtnaekjbbakofdaaGreat
open Go Go.AM
set_option linter.unusedSimpArgs false

def inits (w : List UInt8) (n : Nat) : List (List UInt8) := (List.range n).map fun j => w.take j
def slI (l : List Int) : PV := .sl (l.map (.int .i64))
end Go.Proofs.YtnaekjbbakofdaaGreat
end

section
namespace Go.Proofs.YtnaekjbbakofdaaGreat
open Go Go.AM
set_option maxRecDepth 100000
set_option linter.unusedSimpArgs false

end Go.Proofs.YtnaekjbbakofdaaGreat
end

section
namespace Go.Proofs.YtnaekjbbakofdaaGreat
open Go Go.AM Go.RowKit
set_option maxRecDepth 100000
set_option linter.unusedSimpArgs false

end Go.Proofs.YtnaekjbbakofdaaGreat
end

section
namespace Go.Proofs.YtnaekjbbakofdaaGreat
open Go Go.AM
set_option maxRecDepth 100000
set_option linter.unusedSimpArgs false

end Go.Proofs.YtnaekjbbakofdaaGreat
end

section
namespace Go.Proofs.YtnaekjbbakofdaaGreat
open Go Go.AM
set_option maxRecDepth 100000
set_option linter.unusedSimpArgs false

theorem p36 (a b : List Int) (hl : a.length ≤ 1000000) : PFn Tryz.prog 20 [slI a, slI b] [.bool (decide (a = b))] := by
  refine PFn.of_body hΓ Tryz.func20 (by kernel_rfl) rfl (AWp.of_awpD [(6, 9)] hΓ hmix (by kernel_rfl) ?_)
  simp +contextual -implicitDefEqProofs only [slI, Tryz.ntmps20, Tryz.results20, Nat.reduceAdd, Nat.reduceSub, go_sem]
  by_cases he : a.length = b.length
  rotate_left
  · have hz : ¬ (a.length : Int) = b.length := by omega
    simp -implicitDefEqProofs only [he, hz, List.length_map, go_sem]
    exact (decide_eq_false fun e => he (by rw [e])).symm
  simp -implicitDefEqProofs only [he, List.length_map, go_sem]
  refine AWp.loopI (fun k : Nat => ⟨mkF 26 [(0, .p (.sl (a.map (.int .i64)))), (1, .p (.sl (b.map (.int .i64)))), (4, .p (.bool false)), (12, .p (.int .i64 b.length)), (13, .p (.int .i64 k))], []⟩)
    (fun k => k ≤ a.length ∧ a.take k = b.take k) (fun k => a.length - k) 0 (by simp [go_sem]) (by simp) ?_
  rintro k ⟨hk, heq⟩
  simp -implicitDefEqProofs only [go_sem]
  refine AWp.of_awpD [(6, 9)] hΓ hmix (by kernel_rfl) ?_
  by_cases hlt : k < b.length
  · have hla : k < a.length := by omega
    by_cases hk' : a[k] = b[k]
    · simp -implicitDefEqProofs only [hlt, hla, getD_map_lt, ↓reduceIte, hk', go_sem]
      refine ⟨by simp only [InR]; omega, k + 1, by simp, ⟨hla, ?_⟩, by omega⟩
      rw [List.take_succ_eq_append_getElem hla, List.take_succ_eq_append_getElem hlt, heq, hk']
    · simp -implicitDefEqProofs only [hlt, hla, getD_map_lt, ↓reduceIte, hk', go_sem]
      exact (decide_eq_false fun e => hk' (by subst e; rfl)).symm
  · have hz : ¬ (k : Int) < b.length := by omega
    simp -implicitDefEqProofs only [hz, hlt, go_sem]
    rw [List.take_of_length_le (by omega), List.take_of_length_le (by omega)] at heq
    exact (decide_eq_true heq).symm

theorem p43 (a b : List (List UInt8)) (hl : a.length ≤ 1000000) : PFn Tryz.prog 19 [.sl (a.map .str), .sl (b.map .str)] [.bool (decide (a = b))] := by
  refine PFn.of_body hΓ Tryz.func19 (by kernel_rfl) rfl (AWp.of_awpD [(6, 9)] hΓ hmix (by kernel_rfl) ?_)
  simp +contextual -implicitDefEqProofs only [Tryz.ntmps19, Tryz.results19, Nat.reduceAdd, Nat.reduceSub, go_sem]
  by_cases he : a.length = b.length
  rotate_left
  · have hz : ¬ (a.length : Int) = b.length := by omega
    simp -implicitDefEqProofs only [he, hz, List.length_map, go_sem]
    exact (decide_eq_false fun e => he (by rw [e])).symm
  simp -implicitDefEqProofs only [he, List.length_map, go_sem]
  refine AWp.loopI (fun k : Nat => ⟨mkF 26 [(0, .p (.sl (a.map .str))), (1, .p (.sl (b.map .str))), (4, .p (.bool false)), (12, .p (.int .i64 b.length)), (13, .p (.int .i64 k))], []⟩)
    (fun k => k ≤ a.length ∧ a.take k = b.take k) (fun k => a.length - k) 0 (by simp [go_sem]) (by simp) ?_
  rintro k ⟨hk, heq⟩
  simp -implicitDefEqProofs only [go_sem]
  refine AWp.of_awpD [(6, 9)] hΓ hmix (by kernel_rfl) ?_
  by_cases hlt : k < b.length
  · have hla : k < a.length := by omega
    by_cases hk' : a[k] = b[k]
    · simp -implicitDefEqProofs only [hlt, hla, getD_map_lt, ↓reduceIte, hk', go_sem]
      refine ⟨by simp only [InR]; omega, k + 1, by simp, ⟨hla, ?_⟩, by omega⟩
      rw [List.take_succ_eq_append_getElem hla, List.take_succ_eq_append_getElem hlt, heq, hk']
    · simp -implicitDefEqProofs only [hlt, hla, getD_map_lt, ↓reduceIte, hk', go_sem]
      exact (decide_eq_false fun e => hk' (by subst e; rfl)).symm
  · have hz : ¬ (k : Int) < b.length := by omega
    simp -implicitDefEqProofs only [hz, hlt, go_sem]
    rw [List.take_of_length_le (by omega), List.take_of_length_le (by omega)] at heq
    exact (decide_eq_true heq).symm

end Go.Proofs.YtnaekjbbakofdaaGreat
end

section
namespace Go.Proofs.YtnaekjbbakofdaaGreat
open Go Go.AM
set_option maxRecDepth 100000
set_option maxHeartbeats 4000000
set_option linter.unusedSimpArgs false

def insW (x : Wd) : List Wd → List Wd
  | [] => [x]
  | y :: t => if cmpW x y < 0 then x :: y :: t else y :: insW x t
def isW : List Wd → List Wd
  | [] => []
  | x :: l => insW x (isW l)
theorem mem_insW {x y : Wd} : ∀ {S : List Wd}, y ∈ insW x S ↔ y = x ∨ y ∈ S
  | [] => by simp [insW]
  | z :: t => by
    unfold insW
    split
    · simp
    · simp only [List.mem_cons, mem_insW (S := t)]
      constructor
      · rintro (h | h | h)
        · exact .inr (.inl h)
        · exact .inl h
        · exact .inr (.inr h)
      · rintro (h | h | h)
        · exact .inr (.inl h)
        · exact .inl h
        · exact .inr (.inr h)
theorem insW_strict {x : Wd} : ∀ {S : List Wd}, S.Pairwise ltW → x ∉ S → (insW x S).Pairwise ltW
  | [], _, _ => by simp [insW]
  | y :: t, h, hx => by
    have h' := List.pairwise_cons.1 h
    unfold insW
    split
    · rename_i hlt
      have hlt := (ltW_iff x y).1 hlt
      refine List.pairwise_cons.2 ⟨fun z hz => ?_, h⟩
      rcases List.mem_cons.1 hz with rfl | hz
      · exact hlt
      · exact ltW_trans hlt (h'.1 z hz)
    · rename_i hlt
      have hlt : ¬ ltW x y := fun h => hlt ((ltW_iff x y).2 h)
      refine List.pairwise_cons.2 ⟨fun z hz => ?_, insW_strict h'.2 (fun h => hx (by simp [h]))⟩
      rcases mem_insW.1 hz with rfl | hz
      · refine Classical.byContradiction fun h => hx ?_
        have := ltW_total hlt h
        subst this; simp
      · exact h'.1 z hz
theorem mem_isW {y : Wd} : ∀ {l : List Wd}, y ∈ isW l ↔ y ∈ l
  | [] => by simp [isW]
  | x :: l => by unfold isW; rw [mem_insW, mem_isW (l := l), List.mem_cons]
theorem isW_strict : ∀ {l : List Wd}, l.Nodup → (isW l).Pairwise ltW
  | [], _ => by simp [isW]
  | x :: l, h => by
    have h' := List.nodup_cons.1 h
    exact insW_strict (isW_strict h'.2) (fun hx => h'.1 (mem_isW.1 hx))
theorem sortW_isW {l : List Wd} (h : l.Nodup) : sortW l = isW l := strict_unique (sortW_strict h) (isW_strict h) (fun x => by rw [mem_isW]; exact (List.mergeSort_perm l _).mem_iff)

def listK (cs W : List Nat) (x : List Wd) : List Wd := givenL cs W (isW x) (matchN cs W x)
def stepK (cs W : List Nat) (s : Option (List Wd × Nat)) (x : List Wd) : Option (List Wd × Nat) :=
  match s with
  | none => some (listK cs W x, matchN cs W x)
  | some (b, m) => if m < matchN cs W x then some (b, m) else if matchN cs W x < m ∨ cmpWs (listK cs W x) b < 0 then some (listK cs W x, matchN cs W x) else some (b, m)
def stepGK (cs W : List Nat) (s : Option (List Wd × Nat)) (x : List Wd) : Option (List Wd × Nat) := if goodB cs.length W.length x = true then stepK cs W s x else s
theorem runO_K {cs W : List Nat} : ∀ {xs : List (List Wd)} (s : Option (List Wd × Nat)), (∀ x ∈ xs, x.Nodup) → xs.foldl (stepG cs W) s = xs.foldl (stepGK cs W) s
  | [], _, _ => rfl
  | x :: xs, s, h => by
    have hx : stepG cs W s x = stepGK cs W s x := by
      have hl : listOf cs W x = listK cs W x := by unfold listOf listK; rw [sortW_isW (h x (by simp))]
      unfold stepG stepGK stepO stepK
      rw [hl]
      rfl
    rw [List.foldl_cons, List.foldl_cons, hx]
    exact runO_K _ (fun y hy => h y (by simp [hy]))
def optK (cs W : List Nat) : Option (List Wd × Nat) := (treesF cs.length W.length W.length []).foldl (stepGK cs W) none
theorem optN_K {cs W : List Nat} (h : ∀ x ∈ treesF cs.length W.length W.length [], x.Nodup) : optN cs W = optK cs W := runO_K none h

theorem best1 : optN [1, 2] [5, 5, 1] = some ([[49], [48, 48], [48, 49]], 23) := by
  rw [optN_K (by decide)]
  decide +kernel
theorem best2 : optN [1, 2] [3, 1, 1] = some ([[48], [49, 48], [49, 49]], 10) := by
  rw [optN_K (by decide)]
  decide +kernel
theorem lens1 : lensL [1, 2] 3 = [2, 2, 3] := by decide +kernel

theorem awake41 : PFn Tryz.prog 12 [] [.bool true] := by
  have okc : OkC [1, 2] := ⟨by decide, by decide, by decide, by decide⟩
  have okw1 : OkW [5, 5, 1] := ⟨by decide, by decide, fun w hw => lt_cap (by simp at hw; omega)⟩
  have okw2 : OkW [3, 1, 1] := ⟨by decide, by decide, fun w hw => lt_cap (by simp at hw; omega)⟩
  have n1 := c38 [5, 5, 1] (by decide) (by decide) (by decide)
  have n2 := c38 [3, 1, 1] (by decide) (by decide) (by decide)
  have o1 := c13 okc okw1
  have o2 := c13 okc okw2
  have l1 := c15 okc okw1
  have g1 := c17 okc (n := 3) (by decide) (by decide)
  have b1 : bestL [1, 2] [5, 5, 1] = [[49], [48, 48], [48, 49]] := by unfold bestL; rw [best1]; rfl
  have b2 : bestL [1, 2] [3, 1, 1] = [[48], [49, 48], [49, 49]] := by unfold bestL; rw [best2]; rfl
  have e1 : leastL [1, 2] [5, 5, 1] = 23 := by unfold leastL; rw [best1]; rfl
  rw [b1] at o1
  rw [b2] at o2
  rw [e1, intN_pos] at l1
  rw [lens1] at g1
  have q1 := p43 [[49], [48, 48], [48, 49]] [[49], [48, 48], [48, 49]] (by decide)
  have q2 := p43 [[48], [49, 48], [49, 49]] [[48], [49, 48], [49, 49]] (by decide)
  have q3 := p36 [2, 2, 3] [2, 2, 3] (by decide)
  have e23 := u34 23 (by decide)
  rw [decide_eq_true rfl] at q1 q2 q3
  rw [intN_pos] at e23
  have n1 : PFn Tryz.prog 38 [.sl [.int .i64 5, .int .i64 5, .int .i64 1]] [.sl [intN false 5, intN false 5, intN false 1]] := n1
  have n2 : PFn Tryz.prog 38 [.sl [.int .i64 3, .int .i64 1, .int .i64 1]] [.sl [intN false 3, intN false 1, intN false 1]] := n2
  have o1 : PFn Tryz.prog 13 [.sl [.int .i64 1, .int .i64 2], .sl [intN false 5, intN false 5, intN false 1]] [.sl [.str [49], .str [48, 48], .str [48, 49]], .int .i64 0] := o1
  have o2 : PFn Tryz.prog 13 [.sl [.int .i64 1, .int .i64 2], .sl [intN false 3, intN false 1, intN false 1]] [.sl [.str [48], .str [49, 48], .str [49, 49]], .int .i64 0] := o2
  have l1 : PFn Tryz.prog 15 [.sl [.int .i64 1, .int .i64 2], .sl [intN false 5, intN false 5, intN false 1]] [.agg [.bool false, .str (magB 23)], .int .i64 0] := l1
  have g1 : PFn Tryz.prog 17 [.sl [.int .i64 1, .int .i64 2], .int .i64 3] [.sl [.int .i64 2, .int .i64 2, .int .i64 3], .int .i64 0] := g1
  have q1 : PFn Tryz.prog 19 [.sl [.str [49], .str [48, 48], .str [48, 49]], .sl [.str [49], .str [48, 48], .str [48, 49]]] [.bool true] := q1
  have q2 : PFn Tryz.prog 19 [.sl [.str [48], .str [49, 48], .str [49, 49]], .sl [.str [48], .str [49, 48], .str [49, 49]]] [.bool true] := q2
  have q3 : PFn Tryz.prog 20 [.sl [.int .i64 2, .int .i64 2, .int .i64 3], .sl [.int .i64 2, .int .i64 2, .int .i64 3]] [.bool true] := q3
  have e23 : PFn Tryz.prog 23 [.int .i64 23] [.agg [.bool false, .str (magB 23)]] := e23
  have s2 : ∀ a b : Int, sizeOK [PV.int .i64 a, PV.int .i64 b] 1 := fun a b => by simp [sizeOK, PV.cells]
  have s3 : ∀ a b c : Int, sizeOK [PV.int .i64 a, PV.int .i64 b, PV.int .i64 c] 1 := fun a b c => by simp [sizeOK, PV.cells]
  have s4 : ∀ a b c : List UInt8, sizeOK [PV.str a, PV.str b, PV.str c] 1 := fun a b c => by simp [sizeOK, PV.cells]
  refine PFn.of_body hΓ Tryz.func12 (by kernel_rfl) rfl (AWp.seq (AWp.of_awpD [] hΓ hmix (by kernel_rfl) ?_))
  simp -implicitDefEqProofs only [Tryz.ntmps12, Tryz.results12, Nat.reduceAdd, Nat.reduceSub, go_sem]
  refine AWp.seq (AWp.of_awpD [] hΓ hmix (by kernel_rfl) ?_)
  simp -implicitDefEqProofs only [s2, s3, go_sem]
  refine ⟨by omega, by omega, callK_fn n1 (.still rfl) ?_⟩
  simp -implicitDefEqProofs only [go_sem]
  refine callK_fn o1 (.still rfl) ?_
  simp -implicitDefEqProofs only [go_sem]
  refine AWp.seq (AWp.of_awpD [] hΓ hmix (by kernel_rfl) ?_)
  simp -implicitDefEqProofs only [s2, s3, go_sem]
  refine ⟨by omega, by omega, callK_fn n2 (.still rfl) ?_⟩
  simp -implicitDefEqProofs only [go_sem]
  refine callK_fn o2 (.still rfl) ?_
  simp -implicitDefEqProofs only [go_sem]
  refine AWp.seq (AWp.of_awpD [] hΓ hmix (by kernel_rfl) ?_)
  simp -implicitDefEqProofs only [s2, s3, go_sem]
  refine ⟨by omega, by omega, callK_fn n1 (.still rfl) ?_⟩
  simp -implicitDefEqProofs only [go_sem]
  refine callK_fn l1 (.still rfl) ?_
  simp -implicitDefEqProofs only [go_sem]
  refine AWp.seq (AWp.of_awpD [] hΓ hmix (by kernel_rfl) ?_)
  simp -implicitDefEqProofs only [s2, s3, go_sem]
  refine ⟨by omega, callK_fn g1 (.still rfl) ?_⟩
  simp -implicitDefEqProofs only [go_sem]
  refine AWp.of_awpD [(5, 27)] hΓ hmix (by kernel_rfl) ?_
  simp -implicitDefEqProofs only [s3, s4, ite_self, go_sem]
  refine ⟨by omega, callVPK_fn q1 (.still rfl) ?_⟩
  simp -implicitDefEqProofs only [s3, s4, go_sem]
  refine ⟨by omega, callVPK_fn q2 (.still rfl) ?_⟩
  simp -implicitDefEqProofs only [s3, s4, go_sem]
  refine callVPK_fn e23 (.still rfl) ?_
  simp -implicitDefEqProofs only [go_sem]
  refine aggI rfl rfl ?_
  simp -implicitDefEqProofs only [s3, s4, go_sem]
  refine ⟨by omega, callVPK_fn q3 (.still rfl) ?_⟩
  simp -implicitDefEqProofs only [go_sem]
end Go.Proofs.YtnaekjbbakofdaaGreat
end

