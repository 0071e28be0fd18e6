/-
  Texts of this claim, joined.
-/
import Derived.Test.YtpljmccnfmkmfaaGreatJe936c75298de
import Derived.Handed
import Derived.JoinedOf
import Derived.ProofKit
import Derived.Test.YtpljmccnfmkmfaaGreatJfb534ab956df
import Derived.Test.YtpljmccnfmkmfaaGreatJ1cd7948eb424

set_option linter.unusedSimpArgs false
set_option linter.unusedVariables false
section
namespace Go.AM
open Go.RowKit Go.ChangeShapes

inductive Sh where
  | bool
  | int (k : IntKind)
  | str
  | sl (s : Sh)
  | agg (l : List Sh)
  deriving Inhabited

def Sh.cells : Sh → List Sh
  | .agg l => l
  | s => [s]

inductive Fit : Sh → PV → Prop
  | bool (b : Bool) : Fit .bool (.bool b)
  | int (k : IntKind) (n : Int) (h : InR k n) : Fit (.int k) (.int k n)
  | str (s : List UInt8) (h : s.length ≤ maxLen) : Fit .str (.str s)
  | sl (s : Sh) (l : List PV) (h : l.length ≤ maxLen) (hl : ∀ i, i < l.length → Fit s (l.getD i default)) : Fit (.sl s) (.sl l)
  | agg (ss : List Sh) (l : List PV) (h : l.length = ss.length) (hl : ∀ i, i < l.length → Fit (ss.getD i default) (l.getD i default)) : Fit (.agg ss) (.agg l)

mutual
def shB (P : Program) : Nat → TypeId → Option Sh
  | 0, _ => none
  | n + 1, t => match P.underlying t with
    | some .bool => some .bool
    | some (.int k) => some (.int k)
    | some .string => some .str
    | some (.slice e) => match shB P n e with
      | some s => if 0 < P.cellsOf e then some (.sl s) else none
      | none => none
    | some (.struct fs) => (shL P n (P.cellsOf t) fs.toList 0).map .agg
    | _ => none
def shL (P : Program) : Nat → Nat → List Field → Nat → Option (List Sh)
  | 0, _, _, _ => none
  | _ + 1, total, [], off => if off = total then some [] else none
  | n + 1, total, f :: fs, off => if f.offset = off then (match shB P n f.type, shL P n total fs (off + P.cellsOf f.type) with
    | some s, some r => some (s.cells ++ r)
    | _, _ => none) else none
end

theorem Fit.cells {s : Sh} {p : PV} (h : Fit s p) : p.cells.length = s.cells.length ∧ ∀ i, i < p.cells.length → Fit (s.cells.getD i default) (p.cells.getD i default) := by
  have one : ∀ (i : Nat) (s : Sh) (p : PV), Fit s p → i < [p].length → Fit ([s].getD i default) ([p].getD i default) := by
    intro i s p h hi; have : i = 0 := by simpa using hi
    subst this; exact h
  cases h with
  | bool b => exact ⟨rfl, fun i hi => one i _ _ (.bool b) hi⟩
  | int k n hn => exact ⟨rfl, fun i hi => one i _ _ (.int k n hn) hi⟩
  | str l hl => exact ⟨rfl, fun i hi => one i _ _ (.str l hl) hi⟩
  | sl s l h1 h2 => exact ⟨rfl, fun i hi => one i _ _ (.sl s l h1 h2) hi⟩
  | agg ss l h1 h2 => exact ⟨h1, h2⟩

theorem Z6p {α : Type} [Inhabited α] {Q : Nat → α → Prop} : ∀ (n : Nat), (∀ i, i < n → ∃ p, Q i p) → ∃ l : List α, l.length = n ∧ ∀ i, i < n → Q i (l.getD i default)
  | 0, _ => ⟨[], rfl, fun i hi => absurd hi (Nat.not_lt_zero i)⟩
  | n + 1, h => by
    obtain ⟨l, h1, h2⟩ := Z6p n (fun i hi => h i (by omega)); obtain ⟨p, hp⟩ := h n (by omega); refine ⟨l ++ [p], by simp [h1], fun i hi => ?_⟩; by_cases hn : i < n
    · have := h2 i hn
      rw [List.getD_eq_getElem?_getD] at this ⊢
      rwa [List.getElem?_append_left (by omega)]
    · have : i = n := by omega
      subst this; rw [List.getD_eq_getElem?_getD, List.getElem?_append_right (by omega)]
      simpa [h1] using hp

section
variable {H : Type} {enc : TypeId × Value → H} {P : Program} {w : World} {base : Nat} {spare : Nat → Bool} {held : Bool}

def FitC (w : World) (sh : Sh) (cs : List Value) : Prop :=
  ∃ p, Fit sh p ∧ p.cells.length = cs.length ∧ ∀ i, i < cs.length → PR (fun g => g < w.heap.size) w (p.cells.getD i default) (cs.getD i undef)

theorem FitC.one {sh : Sh} {p : PV} {v : Value} (h : Fit sh p) (hc : p.cells = [p]) (hr : PR (fun g => g < w.heap.size) w p v) : FitC w sh [v] :=
  ⟨p, h, by rw [hc]; rfl, fun i hi => by
    have : i = 0 := by simpa using hi
    subst this; rw [hc]; exact hr⟩

theorem Zfk {k : IntKind} {n : Int} (h : (Lit.int k n).wf = true) : InR k n := by
  simp only [Lit.wf, Bool.and_eq_true, decide_eq_true_eq] at h
  cases k <;> simpa [InR, IntKind.min, IntKind.max, IntKind.signed, IntKind.bits] using h

theorem Z5i {α : Type} {cs : List α} {off k : Nat} (i : Nat) (hi : i < k) (d : α) : ((cs.drop off).take k).getD i d = cs.getD (off + i) d := by
  simp only [List.getD_eq_getElem?_getD, List.getElem?_take, hi, if_true, List.getElem?_drop]

theorem cells?_get {a : Addr} {n : Nat} {cs : List Value} (h : w.cells? base a n = some cs) : cs.length = n ∧ ∀ j, j < n → w.cell? (a.add j) = some (cs.getD j undef) := by
  unfold World.cells? at h
  split at h
  · have hl := mapM_some_length h
    rw [List.length_range] at hl; refine ⟨hl, fun j hj => ?_⟩; have := mapM_some_get h j j (by simp [hj]); rw [this, List.getD_eq_getElem?_getD, List.getElem?_eq_getElem (by omega)]; rfl
  · cases h

theorem cell?_some {a : Addr} {v : Value} (h : w.cell? a = some v) : ∃ cur E fz, w.heap[a.block]? = some (.cells cur E fz) ∧ a.spot = none ∧ cur[a.off]? = some v := by
  unfold World.cell? at h
  split at h
  · rename_i c E fz hb
    split at h
    · cases h
    · rename_i hs
      exact ⟨c, E, fz, hb, by simpa using hs, h⟩
  · cases h

theorem Z99 (a : Addr) (n : Nat) : (a.add n).off = a.off + n ∧ (a.add n).block = a.block := by
  unfold Addr.add
  split
  · subst_vars; exact ⟨rfl, rfl⟩
  · exact ⟨rfl, rfl⟩

theorem Z6u : ∀ (n : Nat), (∀ (t : TypeId) (sh : Sh), shB P n t = some sh → ∀ (fuel : Nat) (cs : List Value) (x : DataW H × List MemPlace), DataW.trod enc P w base spare held fuel t cs = some x → FitC w sh cs) ∧
    (∀ (total : Nat) (fs : List Field) (off : Nat) (ss : List Sh), shL P n total fs off = some ss → ∀ cs : List Value, cs.length = total →
      (∀ f ∈ fs, ∃ fuel x, DataW.trod enc P w base spare held fuel f.type ((cs.drop f.offset).take (P.cellsOf f.type)) = some x) →
      ∃ ps : List PV, ps.length = ss.length ∧ off + ps.length = total ∧ (∀ i, i < ps.length → Fit (ss.getD i default) (ps.getD i default)) ∧
        ∀ i, i < ps.length → PR (fun g => g < w.heap.size) w (ps.getD i default) (cs.getD (off + i) undef))
  | 0 => ⟨fun t sh h => by simp [shB] at h, fun total fs off ss h => by simp [shL] at h⟩
  | n + 1 => by
    obtain ⟨ih1, ih2⟩ := Z6u n; refine ⟨fun t sh h fuel cs x hx => ?_, fun total fs off ss h cs hcs hf => ?_⟩
    · unfold shB at h
      split at h
      · rename_i ht
        injection h with h; subst h
        obtain ⟨b, rfl, _⟩ := DataW.trod_bool ht hx; exact .one (.bool b) rfl (.bool b)
      · rename_i k ht
        injection h with h; subst h
        obtain ⟨m, rfl, _, hw⟩ := DataW.trod_int ht hx; exact .one (.int k m (Zfk hw)) rfl (.int k m)
      · rename_i ht
        injection h with h; subst h
        obtain ⟨s, rfl, _, hs⟩ := DataW.trod_string ht hx; exact .one (.str s.data.toList (by simpa using hs)) rfl (.str s)
      · rename_i e ht
        split at h
        · rename_i s hs
          split at h
          · rename_i hpos
            injection h with h; subst h
            rcases DataW.trod_slice ht hx with ⟨rfl, _⟩ | ⟨a, len, cap, elems, rest, m, _, rfl, _, _, hl, hm, hlen, hel, _, _⟩
            · exact .one (.sl s [] (Nat.zero_le _) (fun i hi => absurd hi (Nat.not_lt_zero i))) rfl (.sl0 none 0 (fun _ => rfl))
            · have each : ∀ i, i < len → ∃ p : PV, ∃ ci, w.cells? base (a.add (i * P.cellsOf e)) (P.cellsOf e) = some ci ∧ Fit s p ∧ p.cells.length = P.cellsOf e ∧
                  ∀ j, j < P.cellsOf e → PR (fun g => g < w.heap.size) w (p.cells.getD j default) (ci.getD j undef) := by
                intro i hi; have h1 := hel i hi; rw [List.getElem?_eq_getElem (by omega), Option.bind_eq_some_iff] at h1; obtain ⟨ci, h2, h3⟩ := h1; obtain ⟨p, f1, f2, f3⟩ := ih1 e s hs m ci _ h3; have hcl := (cells?_get h2).1; exact ⟨p, ci, h2, f1, by omega, fun j hj => f3 j (by omega)⟩
              obtain ⟨l, hll, hq⟩ := Z6p len each; refine .one (.sl s l (by omega) (fun i hi => by obtain ⟨ci, _, hf, _⟩ := hq i (by omega); exact hf)) rfl ?_; rw [← hll]; by_cases hz : l = []
              · subst hz; exact .sl0 _ _ (fun h => by cases h)
              · have hpl : 0 < len := by rw [← hll]; exact List.length_pos_iff.2 hz
                have cell : ∀ i j, i < len → j < P.cellsOf e → ∃ v, w.cell? ((a.add (i * P.cellsOf e)).add j) = some v ∧ PR (fun g => g < w.heap.size) w (((l.getD i default).cells).getD j default) v := by
                  intro i j hi hj; obtain ⟨ci, h2, _, _, h3⟩ := hq i hi; exact ⟨_, (cells?_get h2).2 j hj, h3 j hj⟩
                obtain ⟨v0, hv0, _⟩ := cell 0 0 hpl hpos; rw [Nat.zero_mul] at hv0; obtain ⟨cur, E, fz, hb, hsp, _⟩ := cell?_some hv0; obtain ⟨g, off, spot⟩ := a; have hsp : spot = none := by simpa [Addr.add] using hsp
                subst hsp; have hb : w.heap[g]? = some (.cells cur E fz) := by simpa [Addr.add] using hb
                have pos : ∀ i j, i < len → j < P.cellsOf e → ∃ v, cur[off + (i * P.cellsOf e + j)]? = some v ∧ PR (fun g => g < w.heap.size) w (((l.getD i default).cells).getD j default) v := by
                  intro i j hi hj; obtain ⟨v, h1, h2⟩ := cell i j hi hj; obtain ⟨cur', E', fz', hb', _, hv⟩ := cell?_some h1; rw [(Z99 _ _).2, (Z99 _ _).2] at hb'; rw [hb] at hb'
                  injection hb' with hb'; injection hb' with hb' _ _
                  subst hb'; rw [(Z99 _ _).1, (Z99 _ _).1] at hv; exact ⟨v, by rw [← hv]; congr 1; show _ = off + _ + _; omega, h2⟩
                refine .sl l (P.cellsOf e) g off cap cur E fz (fun k => (cur[off + k]?).getD undef) hz (Array.getElem?_eq_some_iff.1 hb).1 hb (by omega) (fun x hx => ?_) (fun k hk => ?_) (fun i j hi hj => ?_)
                · obtain ⟨i, hi, rfl⟩ := List.getElem_of_mem hx
                  obtain ⟨ci, _, _, h4, _⟩ := hq i (by omega)
                  rwa [List.getD_eq_getElem?_getD, List.getElem?_eq_getElem hi] at h4
                · have hdm : k = k / P.cellsOf e * P.cellsOf e + k % P.cellsOf e := by rw [Nat.mul_comm]; exact (Nat.div_add_mod k _).symm
                  obtain ⟨v, hv, _⟩ := pos (k / P.cellsOf e) (k % P.cellsOf e) (Nat.div_lt_of_lt_mul (by rw [Nat.mul_comm, ← hll]; exact hk)) (Nat.mod_lt _ hpos); rw [← hdm] at hv; rw [hv]; rfl
                · obtain ⟨v, hv, hr⟩ := pos i j (by omega) hj
                  rw [hv]; exact hr
          · cases h
        · cases h
      · rename_i fs ht
        simp only [Option.map_eq_some_iff] at h; obtain ⟨ss, hss, rfl⟩ := h; obtain ⟨xs, m, _, _, hlen, hxl, hf⟩ := DataW.trod_struct ht hx; obtain ⟨ps, h1, h2, h3, h4⟩ := ih2 _ _ _ _ hss cs hlen (fun f hm => by
          obtain ⟨i, hi, rfl⟩ := List.getElem_of_mem hm; have := hf i fs.toList[i] (by rw [← Array.getElem?_toList, List.getElem?_eq_getElem hi]); rw [List.getElem?_eq_getElem (by rw [hxl]; simpa using hi)] at this; exact ⟨m, _, this⟩)
        refine ⟨.agg ps, .agg ss ps h1 h3, by show ps.length = _; omega, fun i hi => ?_⟩; have := h4 i (by omega)
        rwa [Nat.zero_add] at this
      · cases h
    · cases fs with
      | nil =>
        simp only [shL] at h
        split at h
        · rename_i he
          injection h with h; subst h
          exact ⟨[], rfl, by simpa using he, fun i hi => absurd hi (Nat.not_lt_zero i), fun i hi => absurd hi (Nat.not_lt_zero i)⟩
        · cases h
      | cons f fs =>
        simp only [shL] at h
        split at h
        · rename_i ho
          split at h
          · rename_i s r hs hr
            injection h with h; subst h
            obtain ⟨fuel, x, hx⟩ := hf f (by simp); rw [ho] at hx; obtain ⟨p, f1, f2, f3⟩ := ih1 _ _ hs _ _ _ hx; obtain ⟨ps, g1, g2, g3, g4⟩ := ih2 _ _ _ _ hr cs hcs (fun f' hf' => hf f' (by simp [hf'])); have hl : ((cs.drop off).take (P.cellsOf f.type)).length = P.cellsOf f.type := by simp only [List.length_take, List.length_drop]; omega
            have hpl : p.cells.length = P.cellsOf f.type := by omega
            obtain ⟨c1, c2⟩ := f1.cells; refine ⟨p.cells ++ ps, by simp [c1, g1], by simp only [List.length_append]; omega, fun i hi => ?_, fun i hi => ?_⟩
            · by_cases hlt : i < p.cells.length
              · have := c2 i hlt
                simp only [List.getD_eq_getElem?_getD] at this ⊢
                rwa [List.getElem?_append_left (by omega), List.getElem?_append_left hlt]
              · have := g3 (i - p.cells.length) (by simp only [List.length_append] at hi; omega)
                simp only [List.getD_eq_getElem?_getD] at this ⊢
                rwa [List.getElem?_append_right (by omega), List.getElem?_append_right (by omega), ← c1]
            · by_cases hlt : i < p.cells.length
              · have := f3 i (by omega)
                rw [Z5i i (by omega)] at this; rw [show (p.cells ++ ps).getD i default = p.cells.getD i default by simp only [List.getD_eq_getElem?_getD]; rw [List.getElem?_append_left hlt]]; exact this
              · have := g4 (i - p.cells.length) (by simp only [List.length_append] at hi; omega)
                rw [show (p.cells ++ ps).getD i default = ps.getD (i - p.cells.length) default by simp only [List.getD_eq_getElem?_getD]; rw [List.getElem?_append_right (by omega)]]
                rwa [show off + P.cellsOf f.type + (i - p.cells.length) = off + i by omega] at this
          · cases h
        · cases h

theorem Zdi {v : Value} (h : ∀ cs, v ≠ .agg cs) : v.cells.toList = [v] := by
  cases v <;> first | rfl | exact absurd rfl (h _)

theorem Zmo {n : Nat} {t : TypeId} {sh : Sh} {v : Value} {d : DataW H} {ps : List MemPlace} {b : Nat} (hs : shB P n t = some sh) (hok : Value.okWide P w .any b t v) (h : DataW.Trod enc P w base spare held t v d ps) :
    ∃ p, Fit sh p ∧ PR (fun g => g < w.heap.size) w p v := by
  obtain ⟨fuel, h⟩ := h; obtain ⟨p, h1, h2, h3⟩ := (Z6u n).1 t sh hs fuel _ _ h; have flat : (∀ cs, v ≠ .agg cs) → p.cells = [p] → ∃ p, Fit sh p ∧ PR (fun g => g < w.heap.size) w p v := by
    intro hv hp; rw [Zdi hv, hp] at h3; exact ⟨p, h1, h3 0 (by simp)⟩
  cases n with
  | zero => simp [shB] at hs
  | succ n =>
    unfold shB at hs; unfold Value.okWide at hok
    split at hs
    · rename_i ht
      injection hs with hs; subst hs
      rw [ht] at hok; simp only [Cell.okWide, ht] at hok; exact flat (fun cs e => by subst e; simp [Cell.ok, ht] at hok) (by cases h1; rfl)
    · rename_i k ht
      injection hs with hs; subst hs
      rw [ht] at hok; simp only [Cell.okWide, ht] at hok; exact flat (fun cs e => by subst e; simp [Cell.ok, ht] at hok) (by cases h1; rfl)
    · rename_i ht
      injection hs with hs; subst hs
      rw [ht] at hok; simp only [Cell.okWide, ht] at hok; exact flat (fun cs e => by subst e; simp [Cell.ok, ht] at hok) (by cases h1; rfl)
    · rename_i e ht
      split at hs
      · split at hs
        · injection hs with hs; subst hs
          rw [ht] at hok; simp only [Cell.okWide, ht] at hok; exact flat (fun cs e => by subst e; simp [Cell.ok, ht] at hok) (by cases h1; rfl)
        · cases hs
      · cases hs
    · rename_i fs ht
      rw [ht] at hok; obtain ⟨cs, rfl, _, _⟩ := hok; simp only [Option.map_eq_some_iff] at hs; obtain ⟨ss, _, rfl⟩ := hs
      cases h1 with
      | agg _ l hl hf =>
        refine ⟨.agg l, .agg ss l hl hf, ?_⟩; obtain ⟨cs⟩ := cs; exact .agg l cs h2 (fun i hi => h3 i (by rw [← h2]; exact hi))
    · cases hs

def Fits : List Sh → List PV → Prop
  | [], [] => True
  | s :: ss, p :: ps => Fit s p ∧ Fits ss ps
  | _, _ => False

theorem Fits.zero {l : List PV} (h : Fits [] l) : l = [] := by cases l with
  | nil => rfl
  | cons p l => exact h.elim
theorem Fits.cons {s : Sh} {ss : List Sh} {l : List PV} (h : Fits (s :: ss) l) : ∃ p ps, l = p :: ps ∧ Fit s p ∧ Fits ss ps := by cases l with
  | nil => exact h.elim
  | cons p l => exact ⟨p, l, rfl, h⟩

theorem Zck {n : Nat} {b : Nat} : ∀ {ts : List TypeId} {vs : List Value} {ds : List (DataW H)} {ps : List MemPlace} {shs : List Sh}, DataW.TrodAll enc P w base spare held ts vs ds ps → ts.map (shB P n) = shs.map some →
    (∀ (j : Nat) t v, ts[j]? = some t → vs[j]? = some v → Value.okWide P w .any b t v) →
    ∃ pv : List PV, Fits shs pv ∧ pv.length = vs.length ∧ ∀ i, i < pv.length → PR (fun g => g < w.heap.size) w (pv.getD i default) (vs.getD i undef)
  | [], vs, ds, ps, shs, h, hs, _ => by
    obtain ⟨rfl, rfl, rfl⟩ := trodAll_nil h
    cases shs with
    | nil => exact ⟨[], trivial, rfl, fun i hi => absurd hi (Nat.not_lt_zero i)⟩
    | cons s ss => simp at hs
  | t :: ts, vs, ds, ps, shs, h, hs, hok => by
    obtain ⟨v, vs1, d, ds1, a, b', rfl, rfl, rfl, h1, h2⟩ := trodAll_cons h
    cases shs with
    | nil => simp at hs
    | cons s ss =>
      simp only [List.map_cons, List.cons.injEq] at hs; obtain ⟨p, f1, f2⟩ := Zmo hs.1 (hok 0 t v rfl rfl) h1; obtain ⟨pv, g1, g2, g3⟩ := Zck h2 hs.2 (fun j t v hj hv => hok (j + 1) t v (by simpa using hj) (by simpa using hv)); refine ⟨p :: pv, ⟨f1, g1⟩, by simp [g2], fun i hi => ?_⟩
      cases i with
      | zero => exact f2
      | succ i => exact g3 i (by simpa using hi)

theorem Z44 {W W' : World} (hl : laidOutB P = true) (hb : Below W.heap.size W W') : ∀ {ts : List TypeId} {vs : List Value} {ds : List (DataW H)} {ps : List MemPlace}, DataW.TrodAll enc P W 0 (fun _ => true) true ts vs ds ps →
    ts.all (fun t => P.readableRec t && decide (t < P.types.size)) = true → (∀ x ∈ ps, x.block < W.heap.size) → DataW.TrodAll enc P W' 0 (fun b => decide (b < W.heap.size)) true ts vs ds ps
  | [], vs, ds, ps, h, _, _ => by
    obtain ⟨rfl, rfl, rfl⟩ := trodAll_nil h
    rfl
  | t :: ts, vs, ds, ps, h, hr, hlt => by
    obtain ⟨v, vs1, d, ds1, a, b, rfl, rfl, rfl, h1, h2⟩ := trodAll_cons h; simp only [List.all_cons, Bool.and_eq_true, decide_eq_true_eq] at hr; exact ⟨a, b, Below.trod hl hr.1.1 hr.1.2 h1 hb (fun x hx => hlt x (by simp [hx])), Z44 hl hb h2 hr.2 (fun x hx => hlt x (by simp [hx])), rfl⟩

theorem lift {C : Checked} {os : Os} {f : FuncId} {fn : Func} {s : ChangeSpec} {conds : List PathCond} {fresh handsOn : Bool} {shs : List Sh} {tb : TypeId}
    (own : ownKnob C.prog.godebug = none) (laid : laidOutB C.prog = true) (started : os.Started) (noInit : C.prog.inits.idxOf? f = none) (hfn : C.prog.funcs[f]? = some fn)
    (witness : ∃ (w : World) (tape : Tape) (i : Input), w.os = os ∧ (w.forCall tape i).Shaped C.prog ∧ i.vars = [] ∧ Input.okWide C.prog (w.forCall tape i) .any w.heap.size f i ∧
      s.pre6 enc C.prog fn conds false (w.forCall tape i).memory i.args ∧ ({} : Assume).holds C.prog (lone (Frame.enter C.prog f i.args .normal) [] (w.forCall tape i)))
    (hsh : fn.params.toList.map (shB C.prog 9) = shs.map some) (hread : fn.params.toList.all (fun t => C.prog.readableRec t && decide (t < C.prog.types.size)) = true)
    (hres : fn.resultTypes = #[tb]) (hb : C.prog.underlying tb = some .bool) (hvars : s.vars = [])
    (hs : ∀ ds : List (DataW H), ds.length = fn.params.toList.length → s.fn H (ds ++ []) = { results := [.lit (.bool true)], args := ds })
    (h : ∀ pv, Fits shs pv → PFn C.prog f pv [.bool true]) :
    ReturnsInHanded {} C os f .any (s.pre6 enc C.prog fn conds false) (s.post enc C.prog fn false fresh handsOn false) := by
  refine returnsInHanded_of_change own started noInit hfn witness ?_; intro W base args ds gs before hval hW _ _; have hW' := hW; obtain ⟨p, q, hA, hV, hpq, _, _⟩ := hW; rw [hvars] at hV; obtain ⟨rfl, rfl⟩ := trodVars_none hV; rw [List.append_nil] at hpq; subst hpq; obtain ⟨pv, k1, k2, k3⟩ := Zck (ts := fn.params.toList) hA hsh (fun j t v hj hv => hval j t v (by rw [← Array.getElem?_toList]; exact hj) (by rw [← Array.getElem?_toList]; exact hv)); have hc := (h pv k1).2 (fun g => g < W.heap.size) W args.toList (fun _ hg => hg) k2 (fun i hi => k3 i hi); refine hc.mono ?_; rintro e W' ⟨cv, I', rfl, hg, _, _, hv⟩; have hcv : cv = .bool true := by
    cases hv with
    | p _ _ h => cases h; rfl
  subst hcv; have hbel : Below W.heap.size W W' := ⟨hg.os, hg.tape, hg.output, hg.size, fun k hk => hg.block k hk (by simp)⟩; have hlen : ds.length = fn.params.toList.length := by
    have : ∀ {ts : List TypeId} {vs : List Value} {ds : List (DataW H)} {ps : List MemPlace}, DataW.TrodAll enc C.prog W 0 (fun _ => true) true ts vs ds ps → ds.length = ts.length := by
      intro ts
      induction ts with
      | nil => intro vs ds ps h; obtain ⟨rfl, rfl, rfl⟩ := trodAll_nil h; rfl
      | cons t ts ih => intro vs ds ps h; obtain ⟨v, vs1, d, ds1, a, b, rfl, rfl, rfl, _, h2⟩ := trodAll_cons h; simp [ih h2]
    exact this hA
  have hlt : ∀ x ∈ before, x.block < W.heap.size := fun x hx => hW'.lt x hx
  refine ⟨_, rfl, ds, [], before, [], before, [], hW', ?_, ?_, ?_, hbel.frame _, fun h => by cases h⟩
  · rw [hs ds hlen, hres]
    exact trodAll_mk1 (shut_bool hb true)
  · rw [hs ds hlen]
    exact Z44 laid hbel hA hread hlt
  · rw [hs ds hlen, hvars]; rfl
end
end Go.AM
end

section
namespace Go.AM
open Go.RowKit

section
variable {P : Program} {X : Ctx} {I I' : Nat → Prop} {μ : Nat → Value} {ob : Nat → Option Nat} {w w' : World} {h : List AObj} {o : AObj}

theorem RepH.nameOld (R : RepH X I μ ob h w) {v : Value} {g : Option Nat} (hgn : ∀ k, g = some k → X.mine k ∧ k < w.heap.size ∧ ¬ I k ∧ ∀ b, ob b ≠ some k)
    (ho : ObjOK (h.length + 1) (upd μ h.length v) I (upd ob h.length g) w h.length o) : RepH X I (upd μ h.length v) (upd ob h.length g) (h ++ [o]) w := by
  have hlt : ∀ c, c < h.length → c ≠ h.length := fun c hc => by omega
  exact {
    below := R.below, base := R.base, imm := R.imm, ctx := R.ctx, frz := R.frz, inew := R.inew
    may := fun b hb => by
      have : b ≠ h.length := fun e => hb (.inl (by rw [e]; exact R.names))
      rw [Z6 _ _ this]; exact R.may b hb
    names := by simpa using Nat.le_succ_of_le R.names
    own := fun b k hb => by
      by_cases e : b = h.length
      · subst e; rw [Z9] at hb
        have := hgn k hb; exact ⟨this.2.2.1, this.1, this.2.1⟩
      · rw [Z6 _ _ e] at hb
        exact R.own b k hb
    sep := fun b b' k hb hb' => by
      by_cases e : b = h.length <;> by_cases e' : b' = h.length
      · omega
      · subst e; rw [Z9] at hb; rw [Z6 _ _ e'] at hb'
        exact absurd hb' ((hgn k hb).2.2.2 b')
      · subst e'; rw [Z9] at hb'; rw [Z6 _ _ e] at hb
        exact absurd hb ((hgn k hb').2.2.2 b)
      · rw [Z6 _ _ e] at hb; rw [Z6 _ _ e'] at hb'; exact R.sep b b' k hb hb'
    past := fun b hb => by
      simp only [List.length_append, List.length_singleton] at hb; rw [Z6 _ _ (by omega)]; exact R.past b (by omega)
    objs := fun b o' hb => by
      simp only [List.length_append, List.length_singleton]; by_cases e : b < h.length
      · rw [List.getElem?_append_left e] at hb
        exact (R.objs b o' hb).keep (Nat.le_succ _) (fun c hc => Z6 _ _ (hlt c hc)) (Z6 _ _ (hlt b e)) (Z6 _ _ (hlt b e)) (fun _ h => h) (fun _ _ => rfl) (fun _ _ => rfl)
      · have hb2 : b = h.length := by
          have := (List.getElem?_eq_some_iff.1 hb).1; simp only [List.length_append, List.length_singleton] at this; omega
        subst hb2; simp only [List.getElem?_append_right (Nat.le_refl _), Nat.sub_self, List.getElem?_cons_zero, Option.some.injEq] at hb; subst hb; exact ho }

def PRow (P : Program) (f : FuncId) (args : List PV) (E : TypeId) (s : Nat) (xs : List PV) : Prop :=
  AC P f (args.map .p) [] [] (fun v h' => ∃ b rk, v = .own b xs.length ∧ h'[b]? = some (.row E s xs rk) ∧ rk ≠ .raw)

theorem AC.of_row {f : FuncId} {args : List AV} {pargs xs : List PV} {E : TypeId} {s : Nat} (hf : PRow P f pargs E s xs) (hp : AV.pures args = some pargs ∨ AV.purL [] args = some pargs) :
    AC P f args h [] (fun v h' => v = .own h.length xs.length ∧ h' = h ++ [.row E s xs .lax]) := by
  refine ⟨hf.1, fun X I μ ob w cargs R hlen hargs _ => ?_⟩; have key : args.length = pargs.length ∧ ∀ i, i < args.length → PR I w (pargs.getD i default) (cargs.getD i undef) := by
    rcases hp with hp | hp
    · obtain ⟨e1, e2⟩ := AV.pures_get hp
      exact ⟨e1, fun i hi => (hargs i hi).pure1 (e2 i hi)⟩
    · obtain ⟨e1, e2⟩ := AV.purL_get hp
      refine ⟨e1, fun i hi => ?_⟩; have := (hargs i hi).pur (h := []) (ob := fun _ => none) (fun b o hb => by simp at hb) (e2 i hi); exact this.mono (fun g hg => hg.elim id (fun ⟨b, hb⟩ => by cases hb)) (fun _ _ => rfl)
  let X0 : Ctx := { B0 := w.heap.size, w0 := w, I0 := I, μ0 := fun _ => undef, n0 := 0, ks := [], fz := fun _ => False, w1 := w }
  have R0 : RepH X0 I (fun _ => undef) (fun _ => none) [] w := {
      below := Below.refl _ _, base := Nat.le_refl _, imm := R.imm, ctx := fun _ h => h, frz := fun _ h => h.elim, inew := fun _ h => .inl h, may := fun _ _ => rfl, names := Nat.zero_le _
      own := fun b g h => (by cases h), sep := fun b b' g h => (by cases h), past := fun _ _ => rfl, objs := fun b o h => (by simp at h) }
  refine (hf.2 X0 I _ _ w cargs R0 (by simp; omega) (fun i hi => by
    rw [List.length_map] at hi; rw [Z0d _ _ hi]; exact .p _ _ (key.2 i (by omega))) (by simp)).mono ?_
  rintro e w' ⟨cv, v, h', I', μ', ob', rfl, R', hv, hI, _, _, hinew, hobn, _, b, rk, rfl, hrow, hraw⟩; have hg : w.grownBy w' none := ⟨R'.below.os, R'.below.tape, R'.below.output, R'.below.size, fun k hk _ => R'.below.block k hk⟩; have hI2 : ∀ g, I' g → I g ∨ (w.heap.size ≤ g ∧ g < w'.heap.size) := fun g hg => (hinew g hg).elim .inl (fun h => h.elim (fun ⟨b, hb⟩ => by cases hb) (fun h => .inr ⟨h, R'.imm g hg⟩))
  obtain ⟨a, c, rfl, hbn, hbm⟩ := hv.own_inv; have hobj := R'.objs b _ hrow; have hfr : ∀ k, ob' b = some k → X.mine k ∧ k < w'.heap.size ∧ ¬ I' k ∧ ∀ c, ob c ≠ some k := fun k hk => by
    have h1 := R'.own b k hk; have h2 : w.heap.size ≤ k := (hobn b k hk).elim (fun ⟨c, hc⟩ => by cases hc) id; exact ⟨R.fresh h2, h1.2.2, h1.1, fun c hc => by have := (R.own c k hc).2.2; omega⟩
  have R1 := R.grow hg hI hI2; have R2 : RepH X I' (upd μ h.length (.slice a xs.length c)) (upd ob h.length (ob' b)) (h ++ [.row E s xs .lax]) w' := by
    refine R1.nameOld hfr ⟨hobj.1, ?_⟩; rcases hobj.2 with ⟨g, hg, hin⟩ | ⟨_, hn, a', h1, h2⟩
    · left
      refine ⟨g, by rw [Z9]; exact hg, ?_⟩; rw [Z9, ← hbm]; have : (rk != .raw) = true := by simpa using hraw
      rw [this] at hin; exact hin
    · right
      exact ⟨rfl, by rw [Z9]; exact hn, a', by rw [Z9, ← hbm]; exact h1, by rw [Z9, ← hbm]; exact h2⟩
  refine ⟨_, .own h.length xs.length, _, I', _, _, rfl, R2, .own _ _ _ _ (by simp) (Z9 _ _ _), hI, fun c hc _ => Z6 _ _ (by omega), by simp, fun g hg => (hI2 g hg).imp id (fun h => .inr h.1), fun c g hc => ?_, fun g hlt _ => hg.block g hlt (by simp), rfl, rfl⟩; by_cases e : c = h.length
  · subst e
    rw [Z9] at hc; exact .inr ((hobn b g hc).elim (fun ⟨c, hc⟩ => by cases hc) id)
  · rw [Z6 _ _ e] at hc; exact .inl ⟨c, hc⟩

theorem PFn.of_row {f : FuncId} {args xs : List PV} {E : TypeId} {s : Nat} (hf : PRow P f args E s xs) : PFn P f args [.sl xs] := by
  refine ⟨hf.1, fun I w cargs himm hlen hargs => ?_⟩
  let X : Ctx := { B0 := w.heap.size, w0 := w, I0 := I, μ0 := fun _ => undef, n0 := 0, ks := [], fz := fun _ => False, w1 := w }
  have R : RepH X I (fun _ => undef) (fun _ => none) [] w := {
      below := Below.refl _ _, base := Nat.le_refl _, imm := himm, ctx := fun _ h => h, frz := fun _ h => h.elim, inew := fun _ h => .inl h, may := fun _ _ => rfl, names := Nat.zero_le _
      own := fun b g h => (by cases h), sep := fun b b' g h => (by cases h), past := fun _ _ => rfl, objs := fun b o h => (by simp at h) }
  refine (hf.2 X I _ _ w cargs R (by simpa using hlen) (fun i hi => by
    rw [List.length_map] at hi; rw [Z0d _ _ hi]; exact .p _ _ (hargs i hi)) (by simp)).mono ?_
  rintro e w' ⟨cv, v, h', I', μ', ob', rfl, R', hv, hI, _, _, hinew, hobn, _, b, rk, rfl, hrow, hraw⟩; refine ⟨cv, fun g => I' g ∨ Zdo ob' g, rfl, ⟨R'.below.os, R'.below.tape, R'.below.output, R'.below.size, fun k hk _ => R'.below.block k hk⟩, fun g h => .inl (hI g h), fun g hg => ?_, .p _ _ (hv.pur R'.objs ?_)⟩
  · rcases hg with hg | ⟨b, hb⟩
    · exact (hinew g hg).elim .inl (fun h => h.elim (fun ⟨b, hb⟩ => by cases hb) (fun h => .inr ⟨h, R'.imm g hg⟩))
    · exact .inr ⟨(hobn b g hb).elim (fun ⟨c, hc⟩ => by cases hc) id, (R'.own b g hb).2.2⟩
  · show AV.pur1 h' (.own b xs.length) = _
    unfold AV.pur1; simp only [hrow]
end
end Go.AM
end

section
namespace Go.AM
open Go.RowKit

theorem Rep.adoptBox {X : Ctx} {I : Nat → Prop} {μ : Nat → Value} {ob : Nat → Option Nat} {w : World} {st : St} {a : Act} {l : List PV} (R : Rep X I μ ob st w a) (c : Nat) (E : TypeId) (s : Nat)
    (hc : st.h[c]? = some (.box [.full l])) (hs : ∀ x ∈ l, x.cells.length = s) : ∃ v, Rep X I (upd μ st.h.length v) (upd ob st.h.length none) ⟨st.tmps, st.h.set c (.box [.own st.h.length l.length]) ++ [.row E s l .lax]⟩ w a := by
  have hlt : c < st.h.length := (List.getElem?_eq_some_iff.1 hc).1; obtain ⟨g, T, cur, h1, h2, h3, h4, h5⟩ := R.objs _ _ hc; have hv := h5 0 (by simp); simp only [List.getD_cons_zero] at hv; generalize hcv : cur.getD 0 undef = cv at hv
  cases hv with
  | full _ ad h =>
    have R1 := R.toRepH.name (World.grownBy.refl w none) (v := .slice ad l.length l.length) (g := none) (o := .row E s l .lax) (by simp) ⟨hs, .inr ⟨rfl, Z9 _ _ _, ad, Z9 _ _ _, by rw [Z9]; exact h⟩⟩; have hne : c ≠ st.h.length := by omega
    have R2 := R1.write (b0 := c) (g0 := g) (o := .box [.own st.h.length l.length]) (by simp; omega) (by rw [Z6 _ _ hne]; exact h1) (World.grownBy.refl w (some g))
      ⟨g, T, cur, by rw [Z6 _ _ hne]; exact h1, by rw [Z6 _ _ hne]; exact h2, h3, by simpa using h4, fun i hi => by
        have : i = 0 := by simpa using hi
        subst this; rw [hcv]; exact .own _ _ _ _ (by simp) (Z9 _ _ _)⟩
    rw [List.set_append_left _ _ hlt] at R2; refine ⟨_, { toRepH := R2, size := R.size, tmps := fun j hj => (R.tmps j hj).mono (by simp) (fun b hb => Z6 _ _ (by omega)) (fun _ h => h) (fun _ _ => rfl), marks := ?_ }⟩; obtain ⟨rs, m1, m2, m3⟩ := R.marks; refine ⟨rs, m1, m2, fun q hq => ?_⟩; obtain ⟨e1, e2, e3, e4⟩ := m3 q hq; refine ⟨e1, e2, e3, fun b hb => ?_⟩; by_cases e : b = st.h.length
    · subst e; rw [Z9] at hb; cases hb
    · rw [Z6 _ _ e] at hb; exact e4 b hb

theorem AWp.adoptBox {E : Env} {r : Option Nat} {c : Code} {Q : Exit → St → Prop} {tm : List AV} {h : List AObj} {l : List PV} (b : Nat) (t : TypeId) (s : Nat) (hb : h[b]? = some (.box [.full l])) (hs : ∀ x ∈ l, x.cells.length = s)
    (hw : AWp E r c Q ⟨tm, h.set b (.box [.own h.length l.length]) ++ [.row t s l .lax]⟩) : AWp E r c Q ⟨tm, h⟩ := fun X I w a hE ⟨I', μ', ob', hI, R⟩ => by
  obtain ⟨v, R'⟩ := R.adoptBox b t s hb hs; exact hw X I w a hE ⟨I', _, _, hI, R'⟩

theorem Z32 {tm : List AV} : ∀ {ks : List Nat}, (∀ k ∈ ks, ∀ v ∈ tm, v.kill k = v) → Za ks tm = tm
  | [], _ => rfl
  | k :: ks, h => by
    show Za ks (tm.map (AV.kill k)) = tm; have e : tm.map (AV.kill k) = tm := by
      conv => rhs; rw [← List.map_id tm]
      exact List.map_congr_left (fun v hv => h k (by simp) v hv)
    rw [e]; exact Z32 (fun k' hk' => h k' (by simp [hk']))

theorem Zy (h : List AObj) : Z89 h h := (Weak.refl ⟨[], h⟩).2


/-! ### What is struck before an operation is struck behind it -/
def jkO : List Oper → List AV → List AV
  | [], tm => tm
  | o :: l, tm => jkO l (putD tm o.dst .junk)

theorem Zlb (tm : List AV) (d d' : Option Nat) : putD (putD tm d .junk) d' .junk = putD (putD tm d' .junk) d .junk := by
  cases d with
  | none => rfl
  | some d => cases d' with
    | none => rfl
    | some d' =>
      by_cases e : d = d'
      · subst e; rfl
      · exact List.set_comm _ _ e
theorem Z5w : ∀ (l : List Oper) (tm : List AV) (d : Option Nat), jkO l (putD tm d .junk) = putD (jkO l tm) d .junk
  | [], _, _ => rfl
  | o :: l, tm, d => by
    show jkO l (putD (putD tm d .junk) o.dst .junk) = putD (jkO l (putD tm o.dst .junk)) d .junk; rw [Zlb, Z5w l]
theorem Z5x {t : Nat} : ∀ {l : List Oper} {tm : List AV}, (∀ o ∈ l, o.dst ≠ some t) → (jkO l tm).getD t .junk = tm.getD t .junk
  | [], _, _ => rfl
  | o :: l, tm, h => by
    show (jkO l (putD tm o.dst .junk)).getD t .junk = _; rw [Z5x (fun x hx => h x (by simp [hx])), Z5q (fun x hx e => h o (by simp) (by rw [hx, e]))]
theorem Z9s (tm : List AV) (d : Option Nat) (v w : AV) : putD (putD tm d v) d w = putD tm d w := by
  cases d with
  | none => rfl
  | some d => simp [putD]
theorem Zei {tm : List AV} {d : Nat} {v : AV} (h : tm.getD d .junk = v) : putD tm (some d) v = tm := by
  apply List.ext_getElem?
  intro i; simp only [putD, List.getElem?_set]
  split
  · subst_vars
    split
    · rename_i hl
      rw [List.getD_eq_getElem?_getD, List.getElem?_eq_getElem hl]; rfl
    · rename_i hl; rw [List.getElem?_eq_none (by omega)]
  · rfl
theorem Zbm : ∀ (d : Option Nat) (tm : List AV), Zan tm (putD tm d .junk)
  | none, tm => Z4r tm
  | some _, [] => trivial
  | some 0, _ :: l => ⟨.inl rfl, Z4r l⟩
  | some (d + 1), _ :: l => ⟨.inr rfl, Zbm (some d) l⟩
theorem Z0x {tm : List AV} {d : Option Nat} {v : AV} {x : Operand} (h : ∀ t, x = .tmp t → d ≠ some t) : ev (putD tm d v) x = ev tm x := by
  cases x with
  | tmp t => exact Z5q (fun y hy e => h t rfl (by rw [hy, e]))
  | _ => rfl
theorem Z8o {f : AV → AV} (hf : f .junk = .junk) (tm : List AV) (d : Option Nat) : (putD tm d .junk).map f = putD (tm.map f) d .junk := by
  cases d with
  | none => rfl
  | some d => simp only [putD, List.map_set, hf]
theorem Z31 (d : Option Nat) : ∀ (ks : List Nat) (tm : List AV), Za ks (putD tm d .junk) = putD (Za ks tm) d .junk
  | [], _ => rfl
  | k :: ks, tm => by
    show Za ks ((putD tm d .junk).map (AV.kill k)) = putD (Za ks (tm.map (AV.kill k))) d .junk; rw [Z8o rfl, Z31 d ks]

def natO (o : Oper) : Bool := match o.op with
  | .call c => (match c.callee with | .value _ => true | .builtin .append => true | _ => false)
  | .store _ _ _ => true
  | .alloc _ => true
  | .makeSlice _ _ _ => true
  | .box _ _ => true
  | .buildSlice _ _ _ => true
  | .binOp _ _ _ _ _ => true
  | _ => false

section
variable {E : Env} {tm tm' : List AV} {h : List AObj} {K K' : St → Prop} {d j : Option Nat} {Γ : Gam} {t : TypeId}

theorem Zj4 {f : AV} {args : List AV} (hd : ∀ x, j = some x → d ≠ some x) (hk : Z37 E ⟨tm, h⟩ d f args K) : Z37 E ⟨putD tm j .junk, h⟩ d f args (fun s => ∃ s', K s' ∧ s = ⟨putD s'.tmps j .junk, s'.h⟩) := by
  unfold Z37 at hk ⊢
  split at hk
  · rcases hk with ⟨ks, R, h1, h2, h3⟩ | ⟨v, h1, h2⟩
    · exact .inl ⟨ks, R, h1, h2, fun v h' hr => ⟨_, h3 v h' hr, by simp only [Z31]; rw [Z0k _ _ hd]⟩⟩
    · exact .inr ⟨v, h1, _, h2, by simp only; rw [Z0k _ _ hd]⟩
  · obtain ⟨ks, R, h1, h2, h3⟩ := hk
    exact ⟨ks, R, h1, h2, fun v h' hr => ⟨_, h3 v h' hr, by simp only [Z31]; rw [Z0k _ _ hd]⟩⟩
  · exact hk.elim

theorem Zjh {n0 : Nat} {ks : List Nat} {x y : AV} (h1 : ∀ b v h', K ⟨putD (tm.map (AV.kill b)) d v, h'⟩ → K' ⟨putD (tm'.map (AV.kill b)) d v, h'⟩) (h2 : ∀ v h', K ⟨putD tm d v, h'⟩ → K' ⟨putD tm' d v, h'⟩)
    (hk : appK Γ n0 ks tm h d t x y K) : appK Γ n0 ks tm' h d t x y K' := by
  unfold appK at hk ⊢; obtain ⟨te, ht, hk⟩ := hk.get; rw [Zp ht]
  split at hk
  · rename_i e he
    obtain ⟨ee, hee, hk⟩ := hk.get
    try simp only [he]
    rw [Zp hee]
    split at hk
    · rename_i ys hys
      try simp only [hys]
      obtain ⟨h0, hk⟩ := hk; refine ⟨h0, ?_⟩
      split at hk
      · split at hk
        · rename_i hb
          try simp only [hb]
          exact ⟨hk.1, h1 _ _ _ hk.2⟩
        · exact hk.elim
      · exact ⟨hk.1, h2 _ _ hk.2⟩
      · exact hk.elim
    · exact hk.elim
  · exact hk.elim

theorem Zd1 {x y : AV} (h1 : ∀ h', K ⟨tm, h'⟩ → K' ⟨tm', h'⟩) (hk : Z27 Γ tm h t x y K) : Z27 Γ tm' h t x y K' := by
  unfold Z27 at hk ⊢; obtain ⟨te, ht, hk⟩ := hk.get; rw [Zp ht]
  split at hk
  · split at hk
    · rename_i hb hl
      try simp only [hb, hl]
      exact ⟨hk.1, h1 _ hk.2⟩
    · exact hk.elim
  · split at hk
    · rename_i hb hl
      try simp only [hb, hl]
      exact ⟨hk.1, h1 _ hk.2⟩
    · exact hk.elim
  · exact hk.elim

theorem Zcs {x : AV} (h2 : ∀ v h', K ⟨putD tm d v, h'⟩ → K' ⟨putD tm' d v, h'⟩) (hk : boxK tm h d x K) : boxK tm' h d x K' := by
  unfold boxK at hk ⊢
  split at hk
  · rename_i hl; (try simp only [hl]); exact h2 _ _ hk
  · exact hk.elim
theorem Zdn (h2 : ∀ v h', K ⟨putD tm d v, h'⟩ → K' ⟨putD tm' d v, h'⟩) (hk : allocK Γ tm h d t K) : allocK Γ tm' h d t K' := by
  unfold allocK at hk ⊢; obtain ⟨te, ht, hk⟩ := hk.get; rw [Zp ht]
  split at hk
  · rename_i hz; (try simp only [hz]); exact Zcs h2 hk
  · exact hk.elim
theorem Zih {l c : AV} (h2 : ∀ v h', K ⟨putD tm d v, h'⟩ → K' ⟨putD tm' d v, h'⟩) (hk : mkSK Γ tm h d t l c K) : mkSK Γ tm' h d t l c K' := by
  unfold mkSK at hk ⊢
  split at hk
  · obtain ⟨te, ht, hk⟩ := hk.get
    rw [Zp ht]
    split at hk
    · rename_i e he
      obtain ⟨ee, hee, hk⟩ := hk.get
      try simp only [he]
      rw [Zp hee]
      split at hk
      · rename_i hz; (try simp only [hz]); exact ⟨hk.1, h2 _ _ hk.2⟩
      · exact hk.elim
    · exact hk.elim
  · exact hk.elim

theorem Zr6 (v : AV) (s : St) : fz1 v ⟨putD s.tmps j .junk, s.h⟩ = ⟨putD (fz1 v s).tmps j .junk, (fz1 v s).h⟩ := by
  unfold fz1
  split
  · simp only
    split
    · simp only [Z17]; rw [Z8o rfl]
    · rfl
  · rfl
theorem Zfx : ∀ (l : List AV) (s : St), fzL l ⟨putD s.tmps j .junk, s.h⟩ = ⟨putD (fzL l s).tmps j .junk, (fzL l s).h⟩
  | [], _ => rfl
  | v :: l, s => by
    show fzL l (fz1 v _) = _; rw [Zr6, Zfx l]; rfl

theorem Z9j {s : St} {x y : Operand} {K K' : St → Prop} (hx : ∀ t, x = .tmp t → j ≠ some t) (hy : ∀ t, y = .tmp t → j ≠ some t) (h1 : ∀ h', K ⟨s.tmps, h'⟩ → K' ⟨putD s.tmps j .junk, h'⟩) (hk : Z48 Γ s t x y K) : Z48 Γ ⟨putD s.tmps j .junk, s.h⟩ t x y K' := by
  unfold Z48 at hk ⊢; simp only [Z0x hx, Z0x hy]; exact Zd1 h1 hk

theorem Z7p {neg : Bool} {x : AV} {K K' : AV → Prop} (h1 : ∀ v, K v → K' v) (hk : Z0s Γ t neg x h K) : Z0s Γ t neg x h K' := by
  unfold Z0s at hk ⊢; refine ⟨hk.1, ?_⟩; have hk := hk.2
  split at hk
  · exact h1 _ hk
  · split at hk
    · rename_i hl; (try simp only [hl]); exact h1 _ hk
    · rename_i hl; (try simp only [hl]); exact ⟨h1 _ hk.1, h1 _ hk.2⟩
    · exact hk.elim
theorem Zdl (P : Program) {op : BinOp} {x ey : AV} {y : Operand} {K K' : AV → Prop} (h1 : ∀ v, K v → K' v) (hk : Z75 Γ op t x y ey h K) : Z75 Γ op t x y ey h K' := by
  have hA : ∀ {K K' : AV → Prop}, (∀ v, K v → K' v) → binA Γ op t x ey K → binA Γ op t x ey K' := fun {K K'} h1 hk => by
    have hd := Z4w { P := P, Γ := Γ, n0 := 0, ks := [] } (.binOp op t (.tmp 0) (.tmp 1) 0) h (ev [x, ey]); obtain ⟨v, hv, hF⟩ := hd K hk; exact hF K' (h1 v hv)
  unfold Z75 at hk ⊢
  split at hk
  · exact Z7p h1 hk
  · exact Z7p h1 hk
  · exact hA h1 hk

theorem Zqa {o : Oper} (hn : natO o = true) (hd : ∀ x, j = some x → o.dst ≠ some x) (hx : ∀ x ∈ o.op.operands, ∀ t, x = .tmp t → j ≠ some t) (hk : opK E o ⟨tm, h⟩ K) :
    opK E o ⟨putD tm j .junk, h⟩ (fun s => ∃ s', K s' ∧ s = ⟨putD s'.tmps j .junk, s'.h⟩) := by
  obtain ⟨dst, op, ty, pos, after, guard⟩ := o; simp only at hd hx; have put : ∀ v h', K ⟨putD tm dst v, h'⟩ → ∃ s', K s' ∧ (⟨putD (putD tm j .junk) dst v, h'⟩ : St) = ⟨putD s'.tmps j .junk, s'.h⟩ := fun v h' hk => ⟨_, hk, by simp only; rw [Z0k _ _ hd]⟩
  cases op with
  | call c =>
    obtain ⟨callee, args, ats⟩ := c
    have ha : args.toList.map (ev (putD tm j .junk)) = args.toList.map (ev tm) := List.map_congr_left (fun x hm => Z0x (hx x (by
      simp only [Op.operands, Call.operands, Array.mem_append]; exact .inr (by simpa using hm))))
    simp only [opK, Z91] at hk ⊢
    cases callee with
    | value f =>
      simp only at hk ⊢; rw [ha, Z0x (hx f (by simp [Op.operands, Call.operands]))]; exact Zj4 hd hk
    | builtin b =>
      cases b <;> first | (simp [natO] at hn; done) | skip
      simp only at hk ⊢; rw [ha]; unfold Z62 at hk ⊢
      split at hk
      · cases ‹Builtin.append = Builtin.len›
      · rename_i x y t t' _ e1 e2
        simp only [e1, e2]; refine ⟨hk.1, Zjh (fun b v h' hk => ⟨_, hk, ?_⟩) put hk.2⟩; simp only; rw [Z8o rfl, Z0k _ _ hd]
      · cases ‹Builtin.append = Builtin.min›
      · cases ‹Builtin.append = Builtin.max›
      · exact hk.elim
    | invoke r m => exact hk.elim
  | store t x y =>
    have hx1 := hx x (by simp [Op.operands]); have hy1 := hx y (by simp [Op.operands]); simp only [opK] at hk ⊢; have e1 : ev (putD tm j .junk) x = ev tm x := Z0x hx1; have e2 : ev (putD tm j .junk) y = ev tm y := Z0x hy1; rw [e1, e2]
    split at hk
    · rename_i b s i f he
      try simp only [he]
      rw [show fzL [ev tm y] ⟨putD tm j .junk, h⟩ = ⟨putD (fzL [ev tm y] ⟨tm, h⟩).tmps j .junk, (fzL [ev tm y] ⟨tm, h⟩).h⟩ from Zfx _ ⟨tm, h⟩]; refine Z9j (K := fun st' => K ⟨putD st'.tmps dst (.tup []), st'.h⟩) hx1 hy1 (fun h' hk => ⟨_, hk, ?_⟩) hk; simp only; rw [Z0k _ _ hd]
    · rename_i hne
      have := Z9j (s := ⟨tm, h⟩) (K := fun st' => K ⟨putD st'.tmps dst (.tup []), st'.h⟩) (K' := fun st' => ∃ s', K s' ∧ (⟨putD st'.tmps dst (.tup []), st'.h⟩ : St) = ⟨putD s'.tmps j .junk, s'.h⟩) hx1 hy1 (fun h' hk => ⟨_, hk, by simp only; rw [Z0k _ _ hd]⟩) hk; exact this
  | alloc t => exact Zdn put hk
  | makeSlice t l c =>
    simp only [opK] at hk ⊢; rw [Z0x (hx l (by simp [Op.operands])), Z0x (hx c (by simp [Op.operands]))]; exact Zih put hk
  | box t x =>
    simp only [opK] at hk ⊢; rw [Z0x (hx x (by simp [Op.operands]))]; exact Zcs put hk
  | binOp op t x y u =>
    simp only [opK] at hk ⊢; rw [Z0x (hx x (by simp [Op.operands])), Z0x (hx y (by simp [Op.operands]))]; exact Zdl E.P (fun v hv => put v h hv) hk
  | buildSlice t len parts =>
    have hj : ∀ p ∈ parts.toList, ∀ x, p.2 = .tmp x → j ≠ some x := fun p hp => hx p.2 (by simp only [Op.operands, List.mem_toArray, List.mem_map]; exact ⟨p, hp, rfl⟩)
    have ha : parts.toList.map (fun p => ev (putD tm j .junk) p.2) = parts.toList.map (fun p => ev tm p.2) := List.map_congr_left (fun p hp => Z0x (hj p hp)); simp only [opK] at hk ⊢; rw [ha, show fzL (parts.toList.map fun p => ev tm p.2) ⟨putD tm j .junk, h⟩ = ⟨putD (fzL (parts.toList.map fun p => ev tm p.2) ⟨tm, h⟩).tmps j .junk, (fzL (parts.toList.map fun p => ev tm p.2) ⟨tm, h⟩).h⟩ from Zfx _ ⟨tm, h⟩]; generalize fzL (parts.toList.map fun p => ev tm p.2) ⟨tm, h⟩ = s at hk ⊢; have hb : parts.toList.map (fun p => (p.1, ev (putD s.tmps j .junk) p.2)) = parts.toList.map (fun p => (p.1, ev s.tmps p.2)) := List.map_congr_left (fun p hp => by rw [Z0x (hj p hp)]); unfold bsZ bsK at hk ⊢; simp only; rw [hb]; obtain ⟨te, ht, hk⟩ := hk.get; rw [Zp ht]
    split at hk
    · rename_i e he
      obtain ⟨ee, hee, hk⟩ := hk.get
      try simp only [he]
      rw [Zp hee]
      split at hk
      · rename_i ps hps
        try simp only [hps]
        exact ⟨hk.1, _, hk.2, by simp only; rw [Z0k _ _ hd]⟩
      · exact hk.elim
    · exact hk.elim
  | _ => simp [natO] at hn

theorem Zes {o : Oper} (hn : natO o = true) : ∀ {l : List Oper} {tm : List AV} {K : St → Prop}, (∀ x ∈ l, ∀ d, x.dst = some d → o.dst ≠ some d) → (∀ x ∈ l, ∀ y ∈ o.op.operands, ∀ t, y = .tmp t → x.dst ≠ some t) → opK E o ⟨tm, h⟩ K →
    opK E o ⟨jkO l tm, h⟩ (fun s => ∃ s', K s' ∧ s = ⟨jkO l s'.tmps, s'.h⟩)
  | [], tm, K, _, _, hk => by
    have e : (fun s : St => ∃ s' : St, K s' ∧ s = ⟨jkO [] s'.tmps, s'.h⟩) = K := by
      funext s
      apply propext
      constructor
      · rintro ⟨s', h1, rfl⟩; exact h1
      · exact fun h => ⟨s, h, rfl⟩
    rw [e]; exact hk
  | x :: l, tm, K, hd, hx, hk => by
    have h1 := Zqa (j := x.dst) hn (fun y hy => hd x (by simp) y hy) (fun y hy => hx x (by simp) y hy) hk; have h2 := Zes hn (l := l) (fun y hy => hd y (by simp [hy])) (fun y hy => hx y (by simp [hy])) h1; have e : (fun s : St => ∃ s' : St, (∃ s'' : St, K s'' ∧ s' = ⟨putD s''.tmps x.dst .junk, s''.h⟩) ∧ s = ⟨jkO l s'.tmps, s'.h⟩) = (fun s => ∃ s' : St, K s' ∧ s = ⟨jkO (x :: l) s'.tmps, s'.h⟩) := by
      funext s
      apply propext
      constructor
      · rintro ⟨s', ⟨s'', h1, rfl⟩, rfl⟩; exact ⟨s'', h1, rfl⟩
      · rintro ⟨s', h1, rfl⟩; exact ⟨_, ⟨s', h1, rfl⟩, rfl⟩
    rw [e] at h2; exact h2
end

/-! ### The chosen orders: q: it writes nothing; e: it changes the heap, then so, or else another one changes it first; s: asked again. -/
inductive PT where
  | fin | nil
  | q (i : Nat) (t : PT) | s (i : Nat) (t : PT) | e (i : Nat) (t r : PT)
  deriving Inhabited

def okV (tm : List AV) (d : Option Nat) (v : AV) : Prop := match d with
  | some d => tm.getD d .junk = v
  | none => False

def Z0l (E : Env) (ops : List Oper) : PT → St → (St → Prop) → Prop
  | .fin, st, K => K st
  | .nil, _, _ => True
  | .q i l, st, K => (match ops[i]? with
    | some o => Z09 ops o.guard st.tmps (Ze E o.op st.h (ev st.tmps) fun v => Z0l E ops l ⟨putD st.tmps o.dst v, st.h⟩ K) (Z0l E ops l ⟨putD st.tmps o.dst (.tup []), st.h⟩ K)
    | none => False)
  | .e i l r, st, K => (match ops[i]? with
    | some o => Z09 ops o.guard st.tmps (opK E o st fun st' => Z0l E ops l st' K) (Z0l E ops l ⟨putD st.tmps o.dst (.tup []), st.h⟩ K)
    | none => False) ∧ Z0l E ops r st K
  | .s i l, st, K => (match ops[i]? with
    | some o => Z09 ops o.guard st.tmps (Ze E o.op st.h (ev st.tmps) (okV st.tmps o.dst)) (okV st.tmps o.dst (.tup []))
    | none => False) ∧ Z0l E ops l st K

def Z40 (ops : List Oper) : List Nat → Bool
  | [] => true
  | i :: l => (match ops[i]? with
    | some o => (match o.dst with
      | some d => !(o.looksAt ops.toArray).contains d
      | none => false) &&
      l.all (fun j => match ops[j]? with
        | some oj => (match oj.dst with
          | some d => !(o.looksAt ops.toArray).contains d && o.dst != some d
          | none => false)
        | none => false)
    | none => false) && Z40 ops l

def PT.heads : PT → List Nat
  | .e i _ r => i :: r.heads
  | _ => []

def Z6d (ops : List Oper) (b : List (List Nat)) (D : List Nat) (i : Nat) (o : Oper) : Bool :=
  !D.contains i && (b.getD i []).all (D.contains ·) && D.all (fun j => (b.getD i []).contains j || (match ops[j]? with | some oj => oj.apart ops.toArray o && o.apart ops.toArray oj | none => false))

def opn (b : List (List Nat)) (D F : List Nat) (i : Nat) : List Nat := D.filter fun j => !(b.getD i []).contains j && !F.contains j

def goOK (ops : List Oper) (b : List (List Nat)) : Bool → List Nat → List Nat → List Nat → PT → Bool
  | false, D, _, [], .fin => Nat.beq D.length ops.length
  | true, _, _, [], .nil => true
  | false, D, F, [], .q i l => (match ops[i]? with
    | some o => Z6d ops b D i o && goOK ops b false (D ++ [i]) F [] l
    | none => false)
  | m, D, F, [], .e i l r => (m || (List.range ops.length).all fun k => D.contains k || (i :: r.heads).contains k || !(b.getD k []).all (D.contains ·)) && ((match ops[i]? with
    | some o => Z6d ops b D i o && (natO o && (Z40 ops (opn b D F i) && goOK ops b false (D ++ [i]) (F ++ [i]) (opn b D F i) l))
    | none => false) && goOK ops b true D F [] r)
  | false, D, F, p :: ex, .s i l => Nat.beq p i && goOK ops b false D F ex l
  | _, _, _, _, _ => false

def Zai (ops : List Oper) : Bool := (List.range ops.length).all fun i => match ops[i]? with
  | some o => o.after.toList.all (fun e => !Region.binds .any e || Nat.blt e.on i)
  | none => true
def Zc6 (ops : List Oper) (codes : PT) : Bool := Zai ops && goOK ops (befs ops []) false [] [] [] codes

section
variable {E : Env} {ops : List Oper} {h : List AObj} {KT KT' : List AV → Prop}

theorem Za1 : ∀ {l : List Oper} {tm : List AV}, (∀ tm', KT tm' → KT' tm') → lexR E ops h l tm KT → lexR E ops h l tm KT'
  | [], _, hi, hk => hi _ hk
  | o :: l, tm, hi, ⟨v, h1, h2⟩ => ⟨v, h1, Za1 hi h2⟩
theorem Za0 {o : Oper} : ∀ {l : List Oper} {tm : List AV}, lexR E ops h l tm (fun tm' => ∃ v, Z3o E ops h o tm' v ∧ KT (putD tm' o.dst v)) → lexR E ops h (l ++ [o]) tm KT
  | [], _, hk => hk
  | x :: l, tm, ⟨v, h1, h2⟩ => ⟨v, h1, Za0 h2⟩
theorem Zce : ∀ {l : List Oper} {tm : List AV}, lexR E ops h l tm KT → ∃ tm', KT tm' ∧ jkO l tm' = jkO l tm
  | [], tm, hk => ⟨tm, hk, rfl⟩
  | o :: l, tm, ⟨v, h1, h2⟩ => by
    obtain ⟨tm', h3, h4⟩ := Zce h2; refine ⟨tm', h3, ?_⟩; show jkO l (putD tm' o.dst .junk) = jkO l (putD tm o.dst .junk); rw [Z5w, h4, ← Z5w, Z9s]

def Zha (ops : List Oper) : List Oper → Prop
  | [] => True
  | o :: l => (∃ d, o.dst = some d ∧ d ∉ o.looksAt ops.toArray) ∧ (∀ x ∈ l, ∀ d, x.dst = some d → d ∉ o.looksAt ops.toArray ∧ o.dst ≠ some d) ∧ Zha ops l

theorem Za2 {tm : List AV} : ∀ {l : List Oper}, Zha ops l → (∀ o ∈ l, ∃ d, o.dst = some d ∧ Z3o E ops h o tm (tm.getD d .junk)) → KT tm → lexR E ops h l (jkO l tm) KT
  | [], _, _, hk => hk
  | o :: l, ⟨⟨d, hd, hself⟩, hcl, hc⟩, hs, hk => by
    obtain ⟨d', hd', hr⟩ := hs o (by simp); have : d' = d := by rw [hd] at hd'; injection hd' with h; exact h.symm
    subst this; refine ⟨tm.getD d' .junk, Z2x (fun t ht => (Z5x (l := o :: l) (fun x hx e => ?_)).symm) hr, ?_⟩
    · rcases List.mem_cons.1 hx with rfl | hx
      · rw [hd] at e; injection e with e; subst e; exact hself ht
      · exact (hcl x hx t e).1 ht
    · have e : putD (jkO (o :: l) tm) o.dst (tm.getD d' .junk) = jkO l tm := by
        show putD (jkO l (putD tm o.dst .junk)) o.dst _ = _; rw [Z5w, Z9s, hd]; exact Zei (Z5x (fun x hx e => (hcl x hx d' e).2 hd))
      rw [e]; exact Za2 hc (fun x hx => hs x (by simp [hx])) hk
end

theorem Z71 {ops : List Oper} : ∀ {P : List Nat} {pl : List (Nat × Oper)}, Z40 ops P = true → (pl.map (·.1)).Sublist P → (∀ p ∈ pl, ops[p.1]? = some p.2) → Zha ops (pl.map (·.2))
  | [], [], _, _, _ => trivial
  | [], p :: pl, _, hs, _ => by simp at hs
  | i :: P, pl, hc, hs, ho => by
    simp only [Z40, Bool.and_eq_true] at hc
    cases pl with
    | nil => trivial
    | cons p pl =>
      simp only [List.map_cons] at hs
      cases hs with
      | cons _ hs => exact Z71 (pl := p :: pl) hc.2 hs ho
      | cons_cons _ hs =>
        have hp := ho p (by simp); simp only [hp, Bool.and_eq_true] at hc; obtain ⟨⟨h1, h2⟩, h3⟩ := hc; refine ⟨?_, fun x hx d hd => ?_, Z71 h3 hs (fun q hq => ho q (by simp [hq]))⟩
        · split at h1
          · rename_i d hd; exact ⟨d, hd, by simpa using h1⟩
          · cases h1
        · obtain ⟨q, hq, rfl⟩ := List.mem_map.1 hx
          have hm : q.1 ∈ P := hs.subset (List.mem_map.2 ⟨q, hq, rfl⟩); have h4 := List.all_eq_true.1 h2 q.1 hm; simp only [ho q (by simp [hq]), hd, Bool.and_eq_true, Bool.not_eq_true', List.contains_eq_mem, decide_eq_false_iff_not, bne_iff_ne, ne_eq] at h4; exact h4

structure PSt (ops : List Oper) (b : List (List Nat)) (D : List Nat) (pl : List (Nat × Oper)) : Prop where
  nodup : D.Nodup
  lt : ∀ i ∈ D, i < ops.length
  sub : (pl.map (·.1)).Sublist D
  opr : ∀ p ∈ pl, ops[p.1]? = some p.2
  pair : D.Pairwise fun x y => x ∈ b.getD y [] ∨ ∀ ox oy, ops[x]? = some ox → ops[y]? = some oy → ox.apart ops.toArray oy = true ∧ oy.apart ops.toArray ox = true

theorem Zb7 {ops : List Oper} {b : List (List Nat)} {D : List Nat} {i : Nat} {o : Oper} (hg : Z6d ops b D i o = true) :
    i ∉ D ∧ (∀ j ∈ b.getD i [], j ∈ D) ∧ (∀ j ∈ D, j ∈ b.getD i [] ∨ ∀ oj, ops[j]? = some oj → oj.apart ops.toArray o = true ∧ o.apart ops.toArray oj = true) := by
  simp only [Z6d, Bool.and_eq_true, Bool.not_eq_true', List.contains_eq_mem, decide_eq_false_iff_not, List.all_eq_true, decide_eq_true_eq, Bool.or_eq_true] at hg; obtain ⟨⟨h1, h2⟩, h4⟩ := hg; refine ⟨h1, h2, fun j hj => (h4 j hj).imp id fun h oj hoj => ?_⟩; rw [hoj] at h
  simpa using h

theorem Z4g : ∀ {l m : List Nat}, l.Nodup → l ⊆ m → l.length ≤ m.length
  | [], _, _, _ => Nat.zero_le _
  | a :: l, m, h, hs => by
    obtain ⟨h1, h2⟩ := List.nodup_cons.1 h; have ha : a ∈ m := hs (by simp); have := Z4g (m := m.erase a) h2 (fun x hx => (List.mem_erase_of_ne (fun e : x = a => h1 (e ▸ hx))).2 (hs (by simp [hx]))); rw [List.length_erase_of_mem ha] at this; have := List.length_pos_of_mem ha; simp only [List.length_cons]; omega

theorem Zfw {E : Env} {ops : List Oper} {b : List (List Nat)} {D F : List Nat} {st : St} {K : St → Prop} {i : Nat} : ∀ {t : PT} {m : Bool}, goOK ops b m D F [] t = true → Z0l E ops t st K → i ∈ t.heads →
    ∃ o l, ops[i]? = some o ∧ Z6d ops b D i o = true ∧ natO o = true ∧ Z40 ops (opn b D F i) = true ∧ goOK ops b false (D ++ [i]) (F ++ [i]) (opn b D F i) l = true ∧
      Z09 ops o.guard st.tmps (opK E o st fun st' => Z0l E ops l st' K) (Z0l E ops l ⟨putD st.tmps o.dst (.tup []), st.h⟩ K)
  | .fin, _, _, _, hi => by simp [PT.heads] at hi
  | .nil, _, _, _, hi => by simp [PT.heads] at hi
  | .q _ _, _, _, _, hi => by simp [PT.heads] at hi
  | .s _ _, _, _, _, hi => by simp [PT.heads] at hi
  | .e k l r, m, hg, hk, hi => by
    have hg : ((m || (List.range ops.length).all fun k' => D.contains k' || (k :: r.heads).contains k' || !(b.getD k' []).all (D.contains ·)) && ((match ops[k]? with
      | some o => Z6d ops b D k o && (natO o && (Z40 ops (opn b D F k) && goOK ops b false (D ++ [k]) (F ++ [k]) (opn b D F k) l))
      | none => false) && goOK ops b true D F [] r)) = true := by cases m <;> exact hg
    simp only [Bool.and_eq_true] at hg; obtain ⟨_, h1, h2⟩ := hg; simp only [Z0l] at hk; simp only [PT.heads, List.mem_cons] at hi; rcases hi with rfl | hi
    · cases ho : ops[i]? with
      | none => rw [ho] at h1; cases h1
      | some o =>
        have hk1 := hk.1; rw [ho] at h1 hk1; simp only [Bool.and_eq_true] at h1; exact ⟨o, l, rfl, h1.1, h1.2.1, h1.2.2.1, h1.2.2.2, hk1⟩
    · exact Zfw h2 hk.2 hi

theorem Zkd {ops : List Oper} {b : List (List Nat)} {D F : List Nat} {i : Nat} {l r : PT} (hg : goOK ops b false D F [] (.e i l r) = true) : (∀ k, k < ops.length → k ∉ D → (∀ j ∈ b.getD k [], j ∈ D) → k ∈ (PT.e i l r).heads) ∧ ∃ o, ops[i]? = some o ∧ i ∉ D := by
  have hg : ((false || (List.range ops.length).all fun k' => D.contains k' || (i :: r.heads).contains k' || !(b.getD k' []).all (D.contains ·)) && ((match ops[i]? with
      | some o => Z6d ops b D i o && (natO o && (Z40 ops (opn b D F i) && goOK ops b false (D ++ [i]) (F ++ [i]) (opn b D F i) l))
      | none => false) && goOK ops b true D F [] r)) = true := hg
  simp only [Bool.and_eq_true, Bool.false_or] at hg; obtain ⟨h0, h1, _⟩ := hg
  constructor
  · intro k hk hkD hb
    have h2 := List.all_eq_true.1 h0 k (List.mem_range.2 hk); simp only [Bool.or_eq_true, List.contains_eq_mem, decide_eq_true_eq, Bool.not_eq_true'] at h2; rcases h2 with (h2 | h2) | h2
    · exact absurd h2 hkD
    · exact h2
    · exfalso
      rw [Bool.eq_false_iff] at h2; exact h2 (List.all_eq_true.2 fun j hj => by simpa using hb j hj)
  · cases ho : ops[i]? with
    | none => rw [ho] at h1; cases h1
    | some o =>
      rw [ho] at h1; simp only [Bool.and_eq_true] at h1; exact ⟨o, rfl, (Zb7 h1.1).1⟩

theorem Z7j {D : List Nat} {i : Nat} (hn : D.Nodup) (h : i ∉ D) : (D ++ [i]).Nodup :=
  List.nodup_append.2 ⟨hn, by simp, fun a ha c hc => by rw [List.mem_singleton] at hc; subst hc; exact fun e => h (e ▸ ha)⟩

theorem PSt.snoc {ops : List Oper} {b : List (List Nat)} {D : List Nat} {pl : List (Nat × Oper)} (hp : PSt ops b D pl) {i : Nat} {o : Oper} (ho : ops[i]? = some o) (hi : i ∉ D)
    (h4 : ∀ j ∈ D, j ∈ b.getD i [] ∨ ∀ oj, ops[j]? = some oj → oj.apart ops.toArray o = true ∧ o.apart ops.toArray oj = true) : PSt ops b (D ++ [i]) pl ∧ PSt ops b (D ++ [i]) (pl ++ [(i, o)]) := by
  have hpair : (D ++ [i]).Pairwise fun x y => x ∈ b.getD y [] ∨ ∀ ox oy, ops[x]? = some ox → ops[y]? = some oy → ox.apart ops.toArray oy = true ∧ oy.apart ops.toArray ox = true := by
    refine List.pairwise_append.2 ⟨hp.pair, by simp, fun x hx y hy => ?_⟩; rw [List.mem_singleton] at hy; subst hy; refine (h4 x hx).imp id fun h ox oy h1 h2 => ?_
    rw [ho] at h2; injection h2 with h2; subst h2
    exact h ox h1
  have hlt : ∀ j ∈ D ++ [i], j < ops.length := fun j hj => by
    rcases List.mem_append.1 hj with hj | hj
    · exact hp.lt j hj
    · rw [List.mem_singleton] at hj; subst hj; exact (List.getElem?_eq_some_iff.1 ho).1
  refine ⟨⟨Z7j hp.nodup hi, hlt, hp.sub.trans (List.sublist_append_left _ _), hp.opr, hpair⟩, ⟨Z7j hp.nodup hi, hlt, ?_, fun p hq => ?_, hpair⟩⟩
  · rw [List.map_append]; exact hp.sub.append (List.Sublist.refl _)
  · rcases List.mem_append.1 hq with hq | hq
    · exact hp.opr p hq
    · rw [List.mem_singleton] at hq; subst hq; exact ho

def Zlw : PT → Prop
  | .fin => True
  | .e _ _ _ => True
  | _ => False

section
variable {E : Env} {ops : List Oper} {b : List (List Nat)} {h : List AObj} {K : St → Prop}

theorem Z3t {F : List Nat} : ∀ {codes : PT} {D : List Nat} {pl : List (Nat × Oper)} {tm : List AV}, goOK ops b false D F [] codes = true → PSt ops b D pl → (∀ p ∈ pl, p.1 ∉ F) → (∀ i ∈ F, i ∈ D) →
    lexR E ops h (pl.map (·.2)) tm (fun tm' => Z0l E ops codes ⟨tm', h⟩ K) →
    ∃ D' pl' codes', Zlw codes' ∧ goOK ops b false D' F [] codes' = true ∧ PSt ops b D' pl' ∧ (∀ p ∈ pl', p.1 ∉ F) ∧ (∀ i ∈ F, i ∈ D') ∧ lexR E ops h (pl'.map (·.2)) tm (fun tm' => Z0l E ops codes' ⟨tm', h⟩ K) ∧
      (∀ i, ((∃ p ∈ pl', p.1 = i) ∨ (i < ops.length ∧ i ∉ D')) ↔ ((∃ p ∈ pl, p.1 = i) ∨ (i < ops.length ∧ i ∉ D))) ∧ pl'.length + (ops.length - D'.length) ≤ pl.length + (ops.length - D.length)
  | .fin, D, pl, tm, hg, hp, hF, hFD, hk => ⟨D, pl, .fin, trivial, hg, hp, hF, hFD, hk, fun _ => Iff.rfl, Nat.le_refl _⟩
  | .nil, D, pl, tm, hg, hp, hF, hFD, hk => by simp [goOK] at hg
  | .e i l r, D, pl, tm, hg, hp, hF, hFD, hk => ⟨D, pl, .e i l r, trivial, hg, hp, hF, hFD, hk, fun _ => Iff.rfl, Nat.le_refl _⟩
  | .s i l, D, pl, tm, hg, hp, hF, hFD, hk => by simp [goOK] at hg
  | .q i l, D, pl, tm, hg, hp, hF, hFD, hk => by
    simp only [goOK] at hg
    split at hg
    · rename_i o ho
      rw [Bool.and_eq_true] at hg; obtain ⟨hg, h5⟩ := hg; obtain ⟨h1, h2, h4⟩ := Zb7 hg; have hlt := (List.getElem?_eq_some_iff.1 ho).1; have hk2 : lexR E ops h ((pl ++ [(i, o)]).map (·.2)) tm (fun tm' => Z0l E ops l ⟨tm', h⟩ K) := by
        rw [List.map_append]; refine Za0 (o := o) (Za1 (fun tm' hk => ?_) hk); simp only [Z0l, ho] at hk; obtain ⟨v, h6, h7⟩ := Z53 (K := fun v => Z0l E ops l ⟨putD tm' o.dst v, h⟩ K) hk; exact ⟨v, h7, h6⟩
      obtain ⟨D', pl', codes', g1, g2, g3, g7, g8, g4, g5, g6⟩ := Z3t h5 (hp.snoc ho h1 h4).2 (fun p hp => by
        rcases List.mem_append.1 hp with hp | hp
        · exact hF p hp
        · rw [List.mem_singleton] at hp; subst hp; exact fun h => h1 (hFD _ h)) (fun k hk => by simp [hFD k hk]) hk2
      refine ⟨D', pl', codes', g1, g2, g3, g7, g8, g4, fun k => ?_, ?_⟩
      · rw [g5 k]
        constructor
        · rintro (⟨p, hp, rfl⟩ | ⟨h6, h7⟩)
          · rcases List.mem_append.1 hp with hp | hp
            · exact .inl ⟨p, hp, rfl⟩
            · rw [List.mem_singleton] at hp; subst hp; exact .inr ⟨hlt, h1⟩
          · exact .inr ⟨h6, fun h8 => h7 (by simp [h8])⟩
        · rintro (⟨p, hp, rfl⟩ | ⟨h6, h7⟩)
          · exact .inl ⟨p, by simp [hp], rfl⟩
          · by_cases e : k = i
            · subst e; exact .inl ⟨(k, o), by simp, rfl⟩
            · exact .inr ⟨h6, by simp [h7, e]⟩
      · have h8 : D.length < ops.length := by
          have h9 : (i :: D).Nodup := List.nodup_cons.2 ⟨h1, hp.nodup⟩; have h10 := Z4g (m := List.range ops.length) h9 (fun x hx => by
            rcases List.mem_cons.1 hx with rfl | hx
            · exact List.mem_range.2 hlt
            · exact List.mem_range.2 (hp.lt x hx))
          simp only [List.length_cons, List.length_range] at h10; omega
        simp only [List.length_append, List.length_cons, List.length_nil] at g6; omega
    · cases hg

theorem Z7n {D F : List Nat} {tm : List AV} : ∀ {ex : List Nat} {codes : PT}, goOK ops b false D F ex codes = true → Z0l E ops codes ⟨tm, h⟩ K →
    ∃ codes', goOK ops b false D F [] codes' = true ∧ Z0l E ops codes' ⟨tm, h⟩ K ∧ ∀ i ∈ ex, ∃ o, ops[i]? = some o ∧ ∃ d, o.dst = some d ∧ Z3o E ops h o tm (tm.getD d .junk)
  | [], codes, hg, hk => ⟨codes, hg, hk, by simp⟩
  | p :: ex, .fin, hg, hk => by simp [goOK] at hg
  | p :: ex, .nil, hg, hk => by simp [goOK] at hg
  | p :: ex, .q i l, hg, hk => by simp [goOK] at hg
  | p :: ex, .e i l r, hg, hk => by simp [goOK] at hg
  | p :: ex, .s i l, hg, hk => by
    simp only [goOK, Bool.and_eq_true] at hg; have e : p = i := Nat.eq_of_beq_eq_true hg.1; subst e; simp only [Z0l] at hk; obtain ⟨codes', g1, g2, g3⟩ := Z7n hg.2 hk.2; refine ⟨codes', g1, g2, fun j hj => ?_⟩; rcases List.mem_cons.1 hj with rfl | hj
    · have h1 := hk.1
      split at h1
      · rename_i o ho
        obtain ⟨v, h2, h3⟩ := Z53 (K := okV tm o.dst) h1; unfold okV at h2
        split at h2
        · rename_i d hd; exact ⟨o, ho, d, hd, by rw [h2]; exact h3⟩
        · exact h2.elim
      · exact h1.elim
    · exact g3 j hj
end

theorem Zde {ops : List Oper} {g : Option (Nat × Bool)} {tm tm' : List AV} {run run' skip skip' : Prop} (he : ∀ j w, g = some (j, w) → ∀ d, Z49 ops j = some d → tm'.getD d .junk = tm.getD d .junk) (h1 : run → run') (h2 : skip → skip')
    (hk : Z09 ops g tm run skip) : Z09 ops g tm' run' skip' := by
  unfold Z09 at hk ⊢
  split at hk
  · exact h1 hk
  · rename_i j w
    split at hk
    · rename_i d hd
      have e := he j w rfl d hd; simp only [e]
      split at hk
      · exact ⟨fun h => h1 (hk.1 h), fun h => h2 (hk.2 h)⟩
      · exact h2 hk
      · exact hk.elim
    · exact hk.elim

section
variable {E : Env} {X : Ctx} {K : St → Prop} {Q : Exit → Act → World → Prop} {r : Option Nat} {ops : Array Oper} {ds : List Deferred}

theorem Z77 (hb : Zai ops.toList = true) : ∀ (i : Nat) (o : Oper), ops.toList[i]? = some o → ∀ e ∈ o.after, Region.binds .any e = true → e.on < i := by
  intro i o ho e he hbd; have h1 := List.all_eq_true.1 hb i (List.mem_range.2 (List.getElem?_eq_some_iff.1 ho).1); simp only [ho] at h1; have h2 := List.all_eq_true.1 h1 e (by simpa using he); simp only [hbd, Bool.not_true, Bool.false_or] at h2; exact Nat.le_of_ble_eq_true h2

theorem Left.before' (hb : Zai ops.toList = true) {un : Nat → Prop} {listed : Array Bool} (L : Left ops un listed) {i j : Nat} {o : Oper} (hi : i ∈ Region.ready .any ops listed) (ho : ops[i]? = some o) (hj : j ∈ (befs ops.toList []).getD i []) : ¬ un j := by
  obtain ⟨h0, o', ho', hall⟩ := mem_ready.1 hi; rw [ho] at ho'; injection ho' with ho'; subst ho'
  refine L.not (Z95 (S := fun j => listed.getD j false = true) (Z77 hb) (fun i o ho => L.down i o (by simpa using ho)) ops.toList [] (by simp) (by simp) i o (by simpa using ho) ?_ hall j hj); have := (Array.getElem?_eq_some_iff.1 ho).1
  simpa using this

theorem Left.some' (hb : Zai ops.toList = true) {un : Nat → Prop} {listed : Array Bool} (L : Left ops un listed) {i : Nat} (hi : un i) : Region.ready .any ops listed ≠ [] := by
  have key : ∀ n i, i < n → un i → Region.ready .any ops listed ≠ [] := by
    intro n
    induction n with
    | zero => intro i h; omega
    | succ n ih =>
      intro i hin hu hr; by_cases hmin : ∀ j, j < i → ¬ un j
      · have hlt := L.lt hu
        have hm : i ∈ Region.ready .any ops listed := mem_ready.2 ⟨(L.un i).2 hu, ops[i], by simp [hlt], fun e he hbd => by
          have := Z77 hb i ops[i] (by simp [hlt]) e he hbd; exact L.li (by omega) (hmin _ this)⟩
        rw [hr] at hm; cases hm
      · have ⟨j, hj, huj⟩ : ∃ j, j < i ∧ un j := by
          apply Classical.byContradiction
          intro hno; exact hmin fun j hj hu => hno ⟨j, hj, hu⟩
        exact ih j (by omega) huj hr
  exact key (i + 1) i (by omega) hi

theorem Zi2 (hb : Zai ops.toList = true) (hΓ : Zw E.P E.Γ) (hE : E.fits X) : ∀ (fuel : Nat) {D F : List Nat} {codes : PT} {pl : List (Nat × Oper)} {listed : Array Bool} {tm : List AV} {h : List AObj} {a : Act} {w : World} {I : Nat → Prop},
    goOK ops.toList (befs ops.toList []) false D F [] codes = true → Zlw codes → PSt ops.toList (befs ops.toList []) D pl → (∀ p ∈ pl, p.1 ∉ F) → (∀ i ∈ F, i ∈ D) → Left ops (fun i => (∃ p ∈ pl, p.1 = i) ∨ (i < ops.toList.length ∧ i ∉ D)) listed → pl.length + (ops.toList.length - D.length) ≤ fuel →
    Now X I ⟨tm, h⟩ w a → a.defers = ds → lexR E ops.toList h (pl.map (·.2)) tm (fun tm' => Z0l E ops.toList codes ⟨tm', h⟩ K) → (∀ a w, Z3l X I ds K a w → Q .normal a w) → wpAnyIn (Fw r) 0 E.P .any ops Q fuel listed a w := by
  -- nothing is left
  have fin : ∀ {D F : List Nat} {codes : PT} {pl : List (Nat × Oper)} {tm : List AV} {h : List AObj} {a : Act} {w : World} {I : Nat → Prop}, goOK ops.toList (befs ops.toList []) false D F [] codes = true → Zlw codes → (∀ i, ¬ ((∃ p ∈ pl, p.1 = i) ∨ (i < ops.toList.length ∧ i ∉ D))) →
      Now X I ⟨tm, h⟩ w a → a.defers = ds → lexR E ops.toList h (pl.map (·.2)) tm (fun tm' => Z0l E ops.toList codes ⟨tm', h⟩ K) → (∀ a w, Z3l X I ds K a w → Q .normal a w) → Q .normal a w := by
    intro D F codes pl tm h a w I hg hn hno hN hd hk hQ; have hpl : pl = [] := by
      cases pl with
      | nil => rfl
      | cons p pl => exact absurd (.inl ⟨p, by simp, rfl⟩) (hno p.1)
    subst hpl
    cases codes with
    | fin => exact hQ a w ⟨⟨tm, h⟩, hN, hd, hk⟩
    | nil => exact hn.elim
    | q i l => exact hn.elim
    | s i l => exact hn.elim
    | e i l r =>
      obtain ⟨_, o, ho, hi⟩ := Zkd hg; exact absurd (.inr ⟨(List.getElem?_eq_some_iff.1 ho).1, hi⟩) (hno i)
  intro fuel
  induction fuel with
  | zero =>
    intro D F codes pl listed tm h a w I hg hn hp hF hFD L hf hN hd hk hQ; have hno : ∀ i, ¬ ((∃ p ∈ pl, p.1 = i) ∨ (i < ops.toList.length ∧ i ∉ D)) := by
      rintro i (⟨p, hp, rfl⟩ | ⟨h1, h2⟩)
      · have := List.length_pos_of_mem hp; omega
      · have h9 : (i :: D).Nodup := List.nodup_cons.2 ⟨h2, hp.nodup⟩
        have h10 := Z4g (m := List.range ops.toList.length) h9 (fun x hx => by
          rcases List.mem_cons.1 hx with rfl | hx
          · exact List.mem_range.2 h1
          · exact List.mem_range.2 (hp.lt x hx))
        simp only [List.length_cons, List.length_range] at h10; omega
    refine ⟨List.eq_nil_iff_forall_not_mem.2 fun i hi => hno i ((L.un i).1 (mem_ready.1 hi).1), fin hg hn hno hN hd hk hQ⟩
  | succ fuel ih =>
    intro D F codes pl listed tm h a w I hg hn hp hF hFD L hf hN hd hk hQ; refine ⟨fun hr => fin hg hn (fun i hu => L.some' hb hu hr) hN hd hk hQ, fun i hi => ?_⟩; obtain ⟨hu, o, ho, _⟩ := mem_ready.1 hi; have hu := (L.un i).1 hu; have ho' : ops.toList[i]? = some o := by simpa using ho
    rcases hu with ⟨p, hpm, rfl⟩ | ⟨his, hiD⟩
    · -- one that was open
      have hpo : o = p.2 := by have := hp.opr p hpm; rw [ho'] at this; injection this
      subst hpo; obtain ⟨A, B, rfl⟩ := List.append_of_mem hpm; have hsub := hp.sub; have hap : ∀ x ∈ A.map (·.2), p.2.apart ops.toList.toArray x = true := by
        intro x hx; obtain ⟨q, hq, rfl⟩ := List.mem_map.1 hx; have h1 : [q.1, p.1].Sublist D := by
          have h2 : [q.1, p.1].Sublist ((A ++ p :: B).map (·.1)) := by
            rw [List.map_append, List.map_cons]; have h3 : [q.1].Sublist (A.map (·.1)) := List.singleton_sublist.2 (List.mem_map.2 ⟨q, hq, rfl⟩); exact h3.append (List.Sublist.cons_cons _ (List.nil_sublist _))
          exact h2.trans hsub
        have h4 := (hp.pair.sublist h1); have h5 := (List.pairwise_cons.1 h4).1 p.1 (by simp); rcases h5 with h5 | h5
        · exact absurd (.inl ⟨q, by simp [hq], rfl⟩) (Left.before' hb L hi ho h5)
        · exact (h5 q.2 p.2 (hp.opr q (by simp [hq])) ho').2
      simp only [List.map_append, List.map_cons] at hk; obtain ⟨v, hv, hk⟩ := Z51 _ hk hap; refine wpOpIn_mono ?_ (Ze8 hΓ hE ho hN hd hv); rintro a' w' ⟨st', hN', hd', rfl⟩; have hnd : ∀ q ∈ A ++ B, q.1 ≠ p.1 := fun q hq e => by
        have h1 : ((A ++ p :: B).map (·.1)).Nodup := hp.nodup.sublist hsub; rw [List.map_append, List.map_cons] at h1; obtain ⟨h2, h3, h4⟩ := List.nodup_append.1 h1; rcases List.mem_append.1 hq with hq | hq
        · exact h4 q.1 (List.mem_map.2 ⟨q, hq, rfl⟩) p.1 (by simp) e
        · exact (List.nodup_cons.1 h3).1 (e ▸ List.mem_map.2 ⟨q, hq, rfl⟩)
      refine ih (pl := A ++ B) hg hn ⟨hp.nodup, hp.lt, ?_, fun q hq => hp.opr q (by simp only [List.mem_append, List.mem_cons] at hq ⊢; rcases hq with h | h <;> simp [h]), hp.pair⟩ (fun q hq => hF q (by simp only [List.mem_append, List.mem_cons] at hq ⊢; rcases hq with h | h <;> simp [h])) hFD (L.set hi fun j => ?_) ?_ hN' hd' (by simpa using hk) hQ
      · refine List.Sublist.trans ?_ hsub
        rw [List.map_append, List.map_append, List.map_cons]; exact (List.Sublist.refl _).append (List.sublist_cons_self _ _)
      · constructor
        · rintro (⟨q, hq, rfl⟩ | ⟨h1, h2⟩)
          · refine ⟨.inl ⟨q, by simp only [List.mem_append, List.mem_cons] at hq ⊢; rcases hq with h | h <;> simp [h], rfl⟩, hnd q hq⟩
          · exact ⟨.inr ⟨h1, h2⟩, fun e => h2 (e ▸ hsub.subset (by simp))⟩
        · rintro ⟨⟨q, hq, rfl⟩ | h, hne⟩
          · refine .inl ⟨q, ?_, rfl⟩
            simp only [List.mem_append, List.mem_cons] at hq ⊢; rcases hq with h | rfl | h
            · exact .inl h
            · exact absurd rfl hne
            · exact .inr h
          · exact .inr h
      · simp only [List.length_append, List.length_cons] at hf ⊢; omega
    · -- the next one that changes the heap
      have hbD : ∀ j ∈ (befs ops.toList []).getD i [], j ∈ D := fun j hj => by
        have hnu := Left.before' hb L hi ho hj; have hjl : j < ops.toList.length := Z95 (S := fun j => j < ops.toList.length) (Z77 hb) (fun i o ho hi e he hbd => by have := Z77 hb i o ho e he hbd; omega) ops.toList [] (by simp) (by simp) i o ho' (by simpa using his) (fun e he hbd => by have := Z77 hb i o ho' e he hbd; omega) j hj
        apply Classical.byContradiction
        intro hjD; exact hnu (.inr ⟨hjl, hjD⟩)
      cases codes with
      | nil => exact hn.elim
      | q k l => exact hn.elim
      | s k l => exact hn.elim
      | fin =>
        exfalso
        have hlen : D.length = ops.toList.length := Nat.eq_of_beq_eq_true (by simpa [goOK] using hg); have h9 : (i :: D).Nodup := List.nodup_cons.2 ⟨hiD, hp.nodup⟩; have h10 := Z4g (m := List.range ops.toList.length) h9 (fun x hx => by
          rcases List.mem_cons.1 hx with rfl | hx
          · exact List.mem_range.2 his
          · exact List.mem_range.2 (hp.lt x hx))
        simp only [List.length_cons, List.length_range] at h10; omega
      | e k0 l0 r0 =>
              have hhead := (Zkd hg).1 i his hiD hbD; obtain ⟨tm', hk1, hk2⟩ := Zce hk; obtain ⟨ok, l, hok, hstep, hnat, hclean, hrest, hk1⟩ := Zfw hg hk1 hhead; obtain ⟨h1, h2, h4⟩ := Zb7 hstep; have hPS := hp.snoc hok h1 h4; rw [ho'] at hok; injection hok with hok; subst hok
              have hpb : ∀ p ∈ pl, p.1 ∉ (befs ops.toList []).getD i [] := fun p hpm hmem => Left.before' hb L hi ho hmem (.inl ⟨p, hpm, rfl⟩)
              have hpD : ∀ p ∈ pl, p.1 ∈ D := fun p hpm => hp.sub.subset (List.mem_map.2 ⟨p, hpm, rfl⟩)
              have hap : ∀ p ∈ pl, p.2.apart ops.toList.toArray o = true ∧ o.apart ops.toList.toArray p.2 = true := fun p hpm => by
                rcases h4 p.1 (hpD p hpm) with h | h
                · exact absurd h (hpb p hpm)
                · exact h p.2 (hp.opr p hpm)
              have hwk : ∀ (l : List Oper) (tm : List AV) (a : Act) (w : World), Now X I ⟨tm, h⟩ w a → Now X I ⟨jkO l tm, h⟩ w a := by
                intro l
                induction l with
                | nil => exact fun _ _ _ h => h
                | cons x l ih => exact fun tm a w hN => ih _ a w (Now.weak (st := ⟨tm, h⟩) (st' := ⟨putD tm x.dst .junk, h⟩) ⟨Zbm x.dst tm, Z38 _⟩ hN)
              have hN2 := hwk (pl.map (·.2)) tm a w hN; rw [← hk2] at hN2; have hlook : ∀ x ∈ pl.map (·.2), ∀ t ∈ o.looksAt ops.toList.toArray, x.dst ≠ some t := fun x hx t ht e => by
                obtain ⟨q, hq, rfl⟩ := List.mem_map.1 hx; exact (Oper.apart_spec (hap q hq).1).1 t e ht
              have hg2 : Z09 ops.toList o.guard (jkO (pl.map (·.2)) tm') (opK E o ⟨jkO (pl.map (·.2)) tm', h⟩ (fun s => ∃ s', Z0l E ops.toList l s' K ∧ s = ⟨jkO (pl.map (·.2)) s'.tmps, s'.h⟩))
                  ((fun s : St => ∃ s' : St, Z0l E ops.toList l s' K ∧ s = ⟨jkO (pl.map (·.2)) s'.tmps, s'.h⟩) ⟨putD (jkO (pl.map (·.2)) tm') o.dst (.tup []), h⟩) := by
                refine Zde (fun j w hjw d hd => Z5x fun x hx => hlook x hx d ?_) (fun hk => ?_) (fun hk => ⟨_, hk, ?_⟩) hk1
                · simp only [Oper.looksAt, hjw, List.mem_append]
                  refine .inr ?_; have : (ops.toList.toArray[j]?).bind (·.dst) = some d := by simpa [Z49] using hd
                  rw [this]; simp
                · refine Zes hnat (fun x hx d hd => ?_) (fun x hx y hy t ht => ?_) hk
                  · obtain ⟨q, hq, rfl⟩ := List.mem_map.1 hx
                    exact (Oper.apart_spec (hap q hq).1).2.1 d hd
                  · refine hlook x hx t ?_
                    simp only [Oper.looksAt, List.mem_append, List.mem_filterMap]; exact .inl ⟨y, by simpa using hy, by rw [ht]⟩
                · have hsw : ∀ (l : List Oper) (tm : List AV), (∀ x ∈ l, ∀ d, x.dst = some d → o.dst ≠ some d) → putD (jkO l tm) o.dst (.tup []) = jkO l (putD tm o.dst (.tup [])) := by
                    intro l
                    induction l with
                    | nil => exact fun _ _ => rfl
                    | cons x l ih =>
                      intro tm hx; show putD (jkO l (putD tm x.dst .junk)) o.dst _ = jkO l (putD (putD tm o.dst (.tup [])) x.dst .junk); rw [ih _ (fun y hy => hx y (by simp [hy])), Z0k (d := x.dst) (d' := o.dst) .junk (.tup []) (fun y hy => hx x (by simp) y hy)]
                  rw [hsw _ _ (fun x hx d hd => by
                    obtain ⟨q, hq, rfl⟩ := List.mem_map.1 hx; exact (Oper.apart_spec (hap q hq).1).2.1 d hd)]
              refine wpOpIn_mono ?_ (Z5y (K := fun s => ∃ s', Z0l E ops.toList l s' K ∧ s = ⟨jkO (pl.map (·.2)) s'.tmps, s'.h⟩) hΓ hE ho hN2 hd hg2); rintro a2 w2 ⟨st2, hN3, hd3, ⟨tm2, h2'⟩, hk3, rfl⟩; obtain ⟨codes', g1, g2, g3⟩ := Z7n hrest hk3; have hsubP : (pl.map (·.1)).Sublist (opn (befs ops.toList []) D F i) := by
                have h6 := hp.sub.filter (fun j => !((befs ops.toList []).getD i []).contains j && !F.contains j)
                rwa [List.filter_eq_self.2 (fun j hj => by
                  obtain ⟨q, hq, rfl⟩ := List.mem_map.1 hj; have h7 := hpb q hq; have h8 := hF q hq; simp only [List.contains_eq_mem, Bool.and_eq_true, Bool.not_eq_true', decide_eq_false_iff_not]; exact ⟨h7, h8⟩)] at h6
              have hk4 : lexR E ops.toList h2' (pl.map (·.2)) (jkO (pl.map (·.2)) tm2) (fun tm' => Z0l E ops.toList codes' ⟨tm', h2'⟩ K) := by
                refine Za2 (Z71 hclean hsubP hp.opr) (fun x hx => ?_) g2; obtain ⟨q, hq, rfl⟩ := List.mem_map.1 hx; obtain ⟨oq, ho1, d, hd1, hr⟩ := g3 q.1 (hsubP.subset (List.mem_map.2 ⟨q, hq, rfl⟩)); rw [hp.opr q hq] at ho1; injection ho1 with ho1; subst ho1
                exact ⟨d, hd1, hr⟩
              obtain ⟨D', pl', codes2, n1, n2, n3, n7, n8, n4, n5, n6⟩ := Z3t g1 hPS.1 (fun p hpm hmem => by
                rcases List.mem_append.1 hmem with hmem | hmem
                · exact hF p hpm hmem
                · rw [List.mem_singleton] at hmem; exact h1 (hmem ▸ hpD p hpm)) (fun k hk => by
                rcases List.mem_append.1 hk with hk | hk
                · simp [hFD k hk]
                · simp [List.mem_singleton.1 hk]) hk4
              refine ih n2 n1 n3 n7 n8 (L.set hi fun j => ?_) ?_ hN3 hd3 n4 hQ
              · rw [n5 j]
                constructor
                · rintro (⟨q, hq, rfl⟩ | ⟨h6, h7⟩)
                  · exact ⟨.inl ⟨q, hq, rfl⟩, fun e => hiD (e ▸ hpD q hq)⟩
                  · exact ⟨.inr ⟨h6, fun h8 => h7 (by simp [h8])⟩, fun e => h7 (by simp [e])⟩
                · rintro ⟨⟨q, hq, rfl⟩ | ⟨h6, h7⟩, hne⟩
                  · exact .inl ⟨q, hq, rfl⟩
                  · exact .inr ⟨h6, by simp [h7, hne]⟩
              · have h8 : D.length < ops.toList.length := by
                  have h9 : (i :: D).Nodup := List.nodup_cons.2 ⟨hiD, hp.nodup⟩; have h10 := Z4g (m := List.range ops.toList.length) h9 (fun x hx => by
                    rcases List.mem_cons.1 hx with rfl | hx
                    · exact List.mem_range.2 his
                    · exact List.mem_range.2 (hp.lt x hx))
                  simp only [List.length_cons, List.length_range] at h10; omega
                simp only [List.length_append, List.length_cons, List.length_nil] at n6; omega
end

theorem AWp.plan {E : Env} {r : Option Nat} {Q : Exit → St → Prop} (codes : PT) (hΓ : Zw E.P E.Γ) (hmix : E.P.follows .mixedOrders = true) {id : Nat} {ops : List Oper} {tm : List AV} {h : List AObj} (hok : Zc6 ops codes = true)
    (hk : Z0l E ops codes ⟨tm, h⟩ (Q .normal)) : AWp E r (.region id ops.toArray true) Q ⟨tm, h⟩ := fun X I w a hE hN => by
  simp only [Zc6, Bool.and_eq_true] at hok; refine wpIn_region_any hmix ?_; obtain ⟨I', μ', ob', hI, R⟩ := hN; have R' : Rep X I' μ' ob' ⟨tm, h⟩ { w with drawn := w.drawn + 1 } a := R.grow ⟨rfl, rfl, rfl, Nat.le_refl _, fun _ _ _ => rfl⟩ (fun _ h => h) (fun _ h => .inl h); obtain ⟨D', pl', codes2, n1, n2, n3, n7, n8, n4, n5, n6⟩ := Z3t (E := E) (h := h) (K := Q .normal) (tm := tm) (pl := []) hok.2 ⟨List.nodup_nil, by simp, by simp, by simp, List.Pairwise.nil⟩ (by simp) (by simp) hk; refine Zi2 (K := Q .normal) (ops := ops.toArray) (by simpa using hok.1) hΓ hE _ (by simpa using n2) n1 (by simpa using n3) n7 n8 ⟨by simp, fun i => ?_, fun i o _ hl => ?_⟩ ?_ ⟨I', μ', ob', hI, R'⟩ rfl (by simpa using n4) (fun _ _ ⟨st', h1, _, h3⟩ => ⟨st', h1, h3⟩)
  · show _ ↔ ((∃ p ∈ pl', p.1 = i) ∨ (i < ops.toArray.toList.length ∧ i ∉ D'))
    have := n5 i; simp only [List.not_mem_nil, false_and, exists_false, not_false_eq_true, and_true, false_or] at this; simp only [this]
    constructor
    · intro hi
      rcases Nat.lt_or_ge i ops.length with h' | h'
      · exact h'
      · simp [h'] at hi
    · intro hi
      simp [hi]
  · exfalso
    rcases Nat.lt_or_ge i ops.length with h' | h'
    · simp [h'] at hl
    · simp [h'] at hl
  · simp only [List.length_nil, Nat.zero_add, Nat.sub_zero] at n6
    simp; omega
end Go.AM
end

section
namespace Go.AM
open Go.RowKit

def opQ (E : Env) (sl : List (Option Nat)) : List Oper → Nat → St → (St → Prop) → Prop
  | [], _, _, _ => False
  | o :: _, 0, st, K => (match o.guard with
    | none => Ze E o.op st.h (ev st.tmps) fun v => K ⟨putD st.tmps o.dst v, st.h⟩
    | some (j, w) => gK (Z2w (sl.getD j none) st.tmps) w (Ze E o.op st.h (ev st.tmps) fun v => K ⟨putD st.tmps o.dst v, st.h⟩) (K ⟨putD st.tmps o.dst (.tup []), st.h⟩))
  | _ :: l, i + 1, st, K => opQ E sl l i st K
def opF (E : Env) (sl : List (Option Nat)) : List Oper → Nat → St → (St → Prop) → Prop
  | [], _, _, _ => False
  | o :: _, 0, st, K => (match o.guard with
    | none => opK E o st K
    | some (j, w) => gK (Z2w (sl.getD j none) st.tmps) w (opK E o st K) (K ⟨putD st.tmps o.dst (.tup []), st.h⟩))
  | _ :: l, i + 1, st, K => opF E sl l i st K
def opS (E : Env) (sl : List (Option Nat)) : List Oper → Nat → St → Prop
  | [], _, _ => False
  | o :: _, 0, st => (match o.guard with
    | none => Ze E o.op st.h (ev st.tmps) (okV st.tmps o.dst)
    | some (j, w) => gK (Z2w (sl.getD j none) st.tmps) w (Ze E o.op st.h (ev st.tmps) (okV st.tmps o.dst)) (okV st.tmps o.dst (.tup [])))
  | _ :: l, i + 1, st => opS E sl l i st

def planL (E : Env) (ops : List Oper) (sl : List (Option Nat)) : PT → St → (St → Prop) → Prop
  | .fin, st, K => K st
  | .nil, _, _ => True
  | .q i l, st, K => opQ E sl ops i st fun st' => planL E ops sl l st' K
  | .e i l r, st, K => opF E sl ops i st (fun st' => planL E ops sl l st' K) ∧ planL E ops sl r st K
  | .s i l, st, K => opS E sl ops i st ∧ planL E ops sl l st K

section
variable {E : Env} {ops : List Oper}
theorem Zer {st : St} {K : St → Prop} : ∀ (l : List Oper) (i : Nat), opQ E (ops.map (·.dst)) l i st K = (match l[i]? with
    | some o => Z09 ops o.guard st.tmps (Ze E o.op st.h (ev st.tmps) fun v => K ⟨putD st.tmps o.dst v, st.h⟩) (K ⟨putD st.tmps o.dst (.tup []), st.h⟩)
    | none => False)
  | [], _ => rfl
  | o :: l, 0 => by
    simp only [opQ, List.getElem?_cons_zero]
    cases hg : o.guard with
    | none => rfl
    | some p => obtain ⟨j, w⟩ := p; rw [Z33]
  | o :: l, i + 1 => by
    rw [List.getElem?_cons_succ]; exact Zer l i
theorem Zet {st : St} {K : St → Prop} : ∀ (l : List Oper) (i : Nat), opF E (ops.map (·.dst)) l i st K = (match l[i]? with
    | some o => Z09 ops o.guard st.tmps (opK E o st K) (K ⟨putD st.tmps o.dst (.tup []), st.h⟩)
    | none => False)
  | [], _ => rfl
  | o :: l, 0 => by
    simp only [opF, List.getElem?_cons_zero]
    cases hg : o.guard with
    | none => rfl
    | some p => obtain ⟨j, w⟩ := p; rw [Z33]
  | o :: l, i + 1 => by
    rw [List.getElem?_cons_succ]; exact Zet l i
theorem Zeq {st : St} : ∀ (l : List Oper) (i : Nat), opS E (ops.map (·.dst)) l i st = (match l[i]? with
    | some o => Z09 ops o.guard st.tmps (Ze E o.op st.h (ev st.tmps) (okV st.tmps o.dst)) (okV st.tmps o.dst (.tup []))
    | none => False)
  | [], _ => rfl
  | o :: l, 0 => by
    simp only [opS, List.getElem?_cons_zero]
    cases hg : o.guard with
    | none => rfl
    | some p => obtain ⟨j, w⟩ := p; rw [Z33]
  | o :: l, i + 1 => by
    rw [List.getElem?_cons_succ]; exact Zeq l i

theorem Z4e : ∀ (codes : PT) (st : St) (K : St → Prop), Z0l E ops codes st K = planL E ops (ops.map (·.dst)) codes st K
  | .fin, _, _ => rfl
  | .nil, _, _ => rfl
  | .q i l, st, K => by
    have ih := Z4e l
    first
      | (simp only [Z0l, planL, Zer, ih]; done)
      | (simp only [Z0l, planL, Zer, ih]; cases ops[i]? <;> rfl)
  | .e i l r, st, K => by
    have ih := Z4e l; have ih2 := Z4e r
    first
      | (simp only [Z0l, planL, Zet, ih, ih2]; done)
      | (simp only [Z0l, planL, Zet, ih, ih2]; cases ops[i]? <;> rfl)
  | .s i l, st, K => by
    have ih := Z4e l
    first
      | (simp only [Z0l, planL, Zeq, ih]; done)
      | (simp only [Z0l, planL, Zeq, ih]; cases ops[i]? <;> rfl)
end

theorem AWp.planL {E : Env} {r : Option Nat} {Q : Exit → St → Prop} (codes : PT) (hΓ : Zw E.P E.Γ) (hmix : E.P.follows .mixedOrders = true) {id : Nat} {ops : List Oper} {tm : List AV} {h : List AObj} (hok : Zc6 ops codes = true)
    (hk : AM.planL E ops (ops.map (·.dst)) codes ⟨tm, h⟩ (Q .normal)) : AWp E r (.region id ops.toArray true) Q ⟨tm, h⟩ := AWp.plan codes hΓ hmix hok (by rw [Z4e]; exact hk)

section
variable {E : Env} {ops l : List Oper} {sl sl' : List (Option Nat)} {tm : List AV} {h : List AObj} {st st' : St} {K : St → Prop} {codes codes' : PT}
@[go_sem] theorem Zpz : planL E ops sl .fin ⟨tm, h⟩ K = K ⟨tm, h⟩ := rfl
@[go_sem] theorem planL_q (i : Nat) : planL E ops sl (.q i codes) ⟨tm, h⟩ K = opQ E sl ops i ⟨tm, h⟩ fun st' => planL E ops sl codes st' K := rfl
@[go_sem] theorem planL_e (i : Nat) : planL E ops sl (.e i codes .nil) ⟨tm, h⟩ K = opF E sl ops i ⟨tm, h⟩ fun st' => planL E ops sl codes st' K := and_true _
@[go_sem] theorem planL_e2 (i j : Nat) (l r : PT) : planL E ops sl (.e i codes (.e j l r)) ⟨tm, h⟩ K = (opF E sl ops i ⟨tm, h⟩ (fun st' => planL E ops sl codes st' K) ∧ planL E ops sl (.e j l r) ⟨tm, h⟩ K) := rfl
@[go_sem] theorem planL_s (i : Nat) : planL E ops sl (.s i codes) ⟨tm, h⟩ K = (opS E sl ops i ⟨tm, h⟩ ∧ planL E ops sl codes ⟨tm, h⟩ K) := rfl
@[go_sem] theorem opQ_succ (o : Oper) (i : Nat) : opQ E sl (o :: l) (i + 1) ⟨tm, h⟩ K = opQ E sl l i ⟨tm, h⟩ K := rfl
@[go_sem] theorem Zq4 (dst : Option Tmp) (op : Op) (ty : TypeId) (pos : String) (after : Array Edge) : opQ E sl (⟨dst, op, ty, pos, after, none⟩ :: l) 0 ⟨tm, h⟩ K = Ze E op h (ev tm) fun v => K ⟨putD tm dst v, h⟩ := rfl
@[go_sem] theorem Zq5 (dst : Option Tmp) (op : Op) (ty : TypeId) (pos : String) (after : Array Edge) (j : Nat) (w : Bool) : opQ E sl (⟨dst, op, ty, pos, after, some (j, w)⟩ :: l) 0 ⟨tm, h⟩ K =
  gK (Z2w (sl.getD j none) tm) w (Ze E op h (ev tm) fun v => K ⟨putD tm dst v, h⟩) (K ⟨putD tm dst (.tup []), h⟩) := rfl
@[go_sem] theorem opF_succ (o : Oper) (i : Nat) : opF E sl (o :: l) (i + 1) ⟨tm, h⟩ K = opF E sl l i ⟨tm, h⟩ K := rfl
@[go_sem] theorem Zqh (dst : Option Tmp) (op : Op) (ty : TypeId) (pos : String) (after : Array Edge) : opF E sl (⟨dst, op, ty, pos, after, none⟩ :: l) 0 ⟨tm, h⟩ K = opK E ⟨dst, op, ty, pos, after, none⟩ ⟨tm, h⟩ K := rfl
@[go_sem] theorem Zqi (dst : Option Tmp) (op : Op) (ty : TypeId) (pos : String) (after : Array Edge) (j : Nat) (w : Bool) : opF E sl (⟨dst, op, ty, pos, after, some (j, w)⟩ :: l) 0 ⟨tm, h⟩ K =
  gK (Z2w (sl.getD j none) tm) w (opK E ⟨dst, op, ty, pos, after, some (j, w)⟩ ⟨tm, h⟩ K) (K ⟨putD tm dst (.tup []), h⟩) := rfl
@[go_sem] theorem opS_succ (o : Oper) (i : Nat) : opS E sl (o :: l) (i + 1) ⟨tm, h⟩ = opS E sl l i ⟨tm, h⟩ := rfl
@[go_sem] theorem Zq1 (dst : Option Tmp) (op : Op) (ty : TypeId) (pos : String) (after : Array Edge) : opS E sl (⟨dst, op, ty, pos, after, none⟩ :: l) 0 ⟨tm, h⟩ = Ze E op h (ev tm) (okV tm dst) := rfl
@[go_sem] theorem Zq2 (dst : Option Tmp) (op : Op) (ty : TypeId) (pos : String) (after : Array Edge) (j : Nat) (w : Bool) : opS E sl (⟨dst, op, ty, pos, after, some (j, w)⟩ :: l) 0 ⟨tm, h⟩ =
  gK (Z2w (sl.getD j none) tm) w (Ze E op h (ev tm) (okV tm dst)) (okV tm dst (.tup [])) := rfl
@[go_sem] theorem okV_some (d : Nat) (v : AV) : okV tm (some d) v = (tm.getD d .junk = v) := rfl
@[congr] theorem Zlh (h1 : hd sl = sl') (h2 : st = st') : planL E ops sl codes st K = planL E ops sl' codes st' K := by rw [Zt] at h1; rw [h1, h2]
@[congr] theorem Zq6 {i : Nat} (h2 : hd st = st') : opQ E sl l i st K = opQ E sl l i st' K := by rw [Zt] at h2; rw [h2]
@[congr] theorem Zqj {i : Nat} (h2 : hd st = st') : opF E sl l i st K = opF E sl l i st' K := by rw [Zt] at h2; rw [h2]
@[congr] theorem Zq3 {i : Nat} (h2 : hd st = st') : opS E sl l i st = opS E sl l i st' := by rw [Zt] at h2; rw [h2]
end
end Go.AM
end

