/-
  Texts of this claim, joined.
-/
import Derived.Test.YtpljmccnfmkmfaaJ68c9dd79e829
import Derived.Handed
import Derived.JoinedOf
import Derived.ProofKit
import Derived.Test.YtpljmccnfmkmfaaJ06b5b3112412
import Derived.Test.YtpljmccnfmkmfaaJe63ed2d31e1c
import Derived.Test.YtpljmccnfmkmfaaJ4a9a1867e25f

set_option linter.unusedSimpArgs false
set_option maxRecDepth 100000
section
namespace Go.AM
open Go.RowKit Go.ChangeShapes

inductive Sh where
  | bool
  | int (k : IntKind)
  | str
  | sl (s : Sh)
  | agg (l : List Sh)
  deriving Inhabited

def Sh.cells : Sh → List Sh
  | .agg l => l
  | s => [s]

inductive Fit : Sh → PV → Prop
  | bool (b : Bool) : Fit .bool (.bool b)
  | int (k : IntKind) (n : Int) (h : InR k n) : Fit (.int k) (.int k n)
  | str (s : List UInt8) (h : s.length ≤ maxLen) : Fit .str (.str s)
  | sl (s : Sh) (l : List PV) (h : l.length ≤ maxLen) (hl : ∀ i, i < l.length → Fit s (l.getD i default)) : Fit (.sl s) (.sl l)
  | agg (ss : List Sh) (l : List PV) (h : l.length = ss.length) (hl : ∀ i, i < l.length → Fit (ss.getD i default) (l.getD i default)) : Fit (.agg ss) (.agg l)

mutual
def shB (P : Program) : Nat → TypeId → Option Sh
  | 0, _ => none
  | n + 1, t => match P.underlying t with
    | some .bool => some .bool
    | some (.int k) => some (.int k)
    | some .string => some .str
    | some (.slice e) => match shB P n e with
      | some s => if 0 < P.cellsOf e then some (.sl s) else none
      | none => none
    | some (.struct fs) => (shL P n (P.cellsOf t) fs.toList 0).map .agg
    | _ => none
def shL (P : Program) : Nat → Nat → List Field → Nat → Option (List Sh)
  | 0, _, _, _ => none
  | _ + 1, total, [], off => if off = total then some [] else none
  | n + 1, total, f :: fs, off => if f.offset = off then (match shB P n f.type, shL P n total fs (off + P.cellsOf f.type) with
    | some s, some r => some (s.cells ++ r)
    | _, _ => none) else none
end

theorem Fit.cells {s : Sh} {p : PV} (h : Fit s p) : p.cells.length = s.cells.length ∧ ∀ i, i < p.cells.length → Fit (s.cells.getD i default) (p.cells.getD i default) := by
  have one : ∀ (i : Nat) (s : Sh) (p : PV), Fit s p → i < [p].length → Fit ([s].getD i default) ([p].getD i default) := by
    intro i s p h hi; have : i = 0 := by simpa using hi
    subst this; exact h
  cases h with
  | bool b => exact ⟨rfl, fun i hi => one i _ _ (.bool b) hi⟩
  | int k n hn => exact ⟨rfl, fun i hi => one i _ _ (.int k n hn) hi⟩
  | str l hl => exact ⟨rfl, fun i hi => one i _ _ (.str l hl) hi⟩
  | sl s l h1 h2 => exact ⟨rfl, fun i hi => one i _ _ (.sl s l h1 h2) hi⟩
  | agg ss l h1 h2 => exact ⟨h1, h2⟩

theorem Z5j {α : Type} [Inhabited α] {Q : Nat → α → Prop} : ∀ (n : Nat), (∀ i, i < n → ∃ p, Q i p) → ∃ l : List α, l.length = n ∧ ∀ i, i < n → Q i (l.getD i default)
  | 0, _ => ⟨[], rfl, fun i hi => absurd hi (Nat.not_lt_zero i)⟩
  | n + 1, h => by
    obtain ⟨l, h1, h2⟩ := Z5j n (fun i hi => h i (by omega)); obtain ⟨p, hp⟩ := h n (by omega); refine ⟨l ++ [p], by simp [h1], fun i hi => ?_⟩; by_cases hn : i < n
    · have := h2 i hn
      rw [List.getD_eq_getElem?_getD] at this ⊢
      rwa [List.getElem?_append_left (by omega)]
    · have : i = n := by omega
      subst this; rw [List.getD_eq_getElem?_getD, List.getElem?_append_right (by omega)]
      simpa [h1] using hp

section
variable {H : Type} {enc : TypeId × Value → H} {P : Program} {w : World} {base : Nat} {spare : Nat → Bool} {held : Bool}

def FitC (w : World) (sh : Sh) (cs : List Value) : Prop :=
  ∃ p, Fit sh p ∧ p.cells.length = cs.length ∧ ∀ i, i < cs.length → PR (fun g => g < w.heap.size) w (p.cells.getD i default) (cs.getD i undef)

theorem FitC.one {sh : Sh} {p : PV} {v : Value} (h : Fit sh p) (hc : p.cells = [p]) (hr : PR (fun g => g < w.heap.size) w p v) : FitC w sh [v] :=
  ⟨p, h, by rw [hc]; rfl, fun i hi => by
    have : i = 0 := by simpa using hi
    subst this; rw [hc]; exact hr⟩

theorem Zd5 {k : IntKind} {n : Int} (h : (Lit.int k n).wf = true) : InR k n := by
  simp only [Lit.wf, Bool.and_eq_true, decide_eq_true_eq] at h
  cases k <;> simpa [InR, IntKind.min, IntKind.max, IntKind.signed, IntKind.bits] using h

theorem Z4k {α : Type} {cs : List α} {off k : Nat} (i : Nat) (hi : i < k) (d : α) : ((cs.drop off).take k).getD i d = cs.getD (off + i) d := by
  simp only [List.getD_eq_getElem?_getD, List.getElem?_take, hi, if_true, List.getElem?_drop]

theorem cells?_get {a : Addr} {n : Nat} {cs : List Value} (h : w.cells? base a n = some cs) : cs.length = n ∧ ∀ j, j < n → w.cell? (a.add j) = some (cs.getD j undef) := by
  unfold World.cells? at h
  split at h
  · have hl := mapM_some_length h
    rw [List.length_range] at hl; refine ⟨hl, fun j hj => ?_⟩; have := mapM_some_get h j j (by simp [hj]); rw [this, List.getD_eq_getElem?_getD, List.getElem?_eq_getElem (by omega)]; rfl
  · cases h

theorem cell?_some {a : Addr} {v : Value} (h : w.cell? a = some v) : ∃ cur E fz, w.heap[a.block]? = some (.cells cur E fz) ∧ a.spot = none ∧ cur[a.off]? = some v := by
  unfold World.cell? at h
  split at h
  · rename_i c E fz hb
    split at h
    · cases h
    · rename_i hs
      exact ⟨c, E, fz, hb, by simpa using hs, h⟩
  · cases h

theorem Z7j (a : Addr) (n : Nat) : (a.add n).off = a.off + n ∧ (a.add n).block = a.block := by
  unfold Addr.add
  split
  · subst_vars; exact ⟨rfl, rfl⟩
  · exact ⟨rfl, rfl⟩

theorem Z5s : ∀ (n : Nat), (∀ (t : TypeId) (sh : Sh), shB P n t = some sh → ∀ (fuel : Nat) (cs : List Value) (x : DataW H × List MemPlace), DataW.trod enc P w base spare held fuel t cs = some x → FitC w sh cs) ∧
    (∀ (total : Nat) (fs : List Field) (off : Nat) (ss : List Sh), shL P n total fs off = some ss → ∀ cs : List Value, cs.length = total →
      (∀ f ∈ fs, ∃ fuel x, DataW.trod enc P w base spare held fuel f.type ((cs.drop f.offset).take (P.cellsOf f.type)) = some x) →
      ∃ ps : List PV, ps.length = ss.length ∧ off + ps.length = total ∧ (∀ i, i < ps.length → Fit (ss.getD i default) (ps.getD i default)) ∧
        ∀ i, i < ps.length → PR (fun g => g < w.heap.size) w (ps.getD i default) (cs.getD (off + i) undef))
  | 0 => ⟨fun t sh h => by simp [shB] at h, fun total fs off ss h => by simp [shL] at h⟩
  | n + 1 => by
    obtain ⟨ih1, ih2⟩ := Z5s n; refine ⟨fun t sh h fuel cs x hx => ?_, fun total fs off ss h cs hcs hf => ?_⟩
    · unfold shB at h
      split at h
      · rename_i ht
        injection h with h; subst h
        obtain ⟨b, rfl, _⟩ := DataW.trod_bool ht hx; exact .one (.bool b) rfl (.bool b)
      · rename_i k ht
        injection h with h; subst h
        obtain ⟨m, rfl, _, hw⟩ := DataW.trod_int ht hx; exact .one (.int k m (Zd5 hw)) rfl (.int k m)
      · rename_i ht
        injection h with h; subst h
        obtain ⟨s, rfl, _, hs⟩ := DataW.trod_string ht hx; exact .one (.str s.data.toList (by simpa using hs)) rfl (.str s)
      · rename_i e ht
        split at h
        · rename_i s hs
          split at h
          · rename_i hpos
            injection h with h; subst h
            rcases DataW.trod_slice ht hx with ⟨rfl, _⟩ | ⟨a, len, cap, elems, rest, m, _, rfl, _, _, hl, hm, hlen, hel, _, _⟩
            · exact .one (.sl s [] (Nat.zero_le _) (fun i hi => absurd hi (Nat.not_lt_zero i))) rfl (.sl0 none 0 (fun _ => rfl))
            · have each : ∀ i, i < len → ∃ p : PV, ∃ ci, w.cells? base (a.add (i * P.cellsOf e)) (P.cellsOf e) = some ci ∧ Fit s p ∧ p.cells.length = P.cellsOf e ∧
                  ∀ j, j < P.cellsOf e → PR (fun g => g < w.heap.size) w (p.cells.getD j default) (ci.getD j undef) := by
                intro i hi; have h1 := hel i hi; rw [List.getElem?_eq_getElem (by omega), Option.bind_eq_some_iff] at h1; obtain ⟨ci, h2, h3⟩ := h1; obtain ⟨p, f1, f2, f3⟩ := ih1 e s hs m ci _ h3; have hcl := (cells?_get h2).1; exact ⟨p, ci, h2, f1, by omega, fun j hj => f3 j (by omega)⟩
              obtain ⟨l, hll, hq⟩ := Z5j len each; refine .one (.sl s l (by omega) (fun i hi => by obtain ⟨ci, _, hf, _⟩ := hq i (by omega); exact hf)) rfl ?_; rw [← hll]; by_cases hz : l = []
              · subst hz; exact .sl0 _ _ (fun h => by cases h)
              · have hpl : 0 < len := by rw [← hll]; exact List.length_pos_iff.2 hz
                have cell : ∀ i j, i < len → j < P.cellsOf e → ∃ v, w.cell? ((a.add (i * P.cellsOf e)).add j) = some v ∧ PR (fun g => g < w.heap.size) w (((l.getD i default).cells).getD j default) v := by
                  intro i j hi hj; obtain ⟨ci, h2, _, _, h3⟩ := hq i hi; exact ⟨_, (cells?_get h2).2 j hj, h3 j hj⟩
                obtain ⟨v0, hv0, _⟩ := cell 0 0 hpl hpos; rw [Nat.zero_mul] at hv0; obtain ⟨cur, E, fz, hb, hsp, _⟩ := cell?_some hv0; obtain ⟨g, off, spot⟩ := a; have hsp : spot = none := by simpa [Addr.add] using hsp
                subst hsp; have hb : w.heap[g]? = some (.cells cur E fz) := by simpa [Addr.add] using hb
                have pos : ∀ i j, i < len → j < P.cellsOf e → ∃ v, cur[off + (i * P.cellsOf e + j)]? = some v ∧ PR (fun g => g < w.heap.size) w (((l.getD i default).cells).getD j default) v := by
                  intro i j hi hj; obtain ⟨v, h1, h2⟩ := cell i j hi hj; obtain ⟨cur', E', fz', hb', _, hv⟩ := cell?_some h1; rw [(Z7j _ _).2, (Z7j _ _).2] at hb'; rw [hb] at hb'
                  injection hb' with hb'; injection hb' with hb' _ _
                  subst hb'; rw [(Z7j _ _).1, (Z7j _ _).1] at hv; exact ⟨v, by rw [← hv]; congr 1; show _ = off + _ + _; omega, h2⟩
                refine .sl l (P.cellsOf e) g off cap cur E fz (fun k => (cur[off + k]?).getD undef) hz (Array.getElem?_eq_some_iff.1 hb).1 hb (by omega) (fun x hx => ?_) (fun k hk => ?_) (fun i j hi hj => ?_)
                · obtain ⟨i, hi, rfl⟩ := List.getElem_of_mem hx
                  obtain ⟨ci, _, _, h4, _⟩ := hq i (by omega)
                  rwa [List.getD_eq_getElem?_getD, List.getElem?_eq_getElem hi] at h4
                · have hdm : k = k / P.cellsOf e * P.cellsOf e + k % P.cellsOf e := by rw [Nat.mul_comm]; exact (Nat.div_add_mod k _).symm
                  obtain ⟨v, hv, _⟩ := pos (k / P.cellsOf e) (k % P.cellsOf e) (Nat.div_lt_of_lt_mul (by rw [Nat.mul_comm, ← hll]; exact hk)) (Nat.mod_lt _ hpos); rw [← hdm] at hv; rw [hv]; rfl
                · obtain ⟨v, hv, hr⟩ := pos i j (by omega) hj
                  rw [hv]; exact hr
          · cases h
        · cases h
      · rename_i fs ht
        simp only [Option.map_eq_some_iff] at h; obtain ⟨ss, hss, rfl⟩ := h; obtain ⟨xs, m, _, _, hlen, hxl, hf⟩ := DataW.trod_struct ht hx; obtain ⟨ps, h1, h2, h3, h4⟩ := ih2 _ _ _ _ hss cs hlen (fun f hm => by
          obtain ⟨i, hi, rfl⟩ := List.getElem_of_mem hm; have := hf i fs.toList[i] (by rw [← Array.getElem?_toList, List.getElem?_eq_getElem hi]); rw [List.getElem?_eq_getElem (by rw [hxl]; simpa using hi)] at this; exact ⟨m, _, this⟩)
        refine ⟨.agg ps, .agg ss ps h1 h3, by show ps.length = _; omega, fun i hi => ?_⟩; have := h4 i (by omega)
        rwa [Nat.zero_add] at this
      · cases h
    · cases fs with
      | nil =>
        simp only [shL] at h
        split at h
        · rename_i he
          injection h with h; subst h
          exact ⟨[], rfl, by simpa using he, fun i hi => absurd hi (Nat.not_lt_zero i), fun i hi => absurd hi (Nat.not_lt_zero i)⟩
        · cases h
      | cons f fs =>
        simp only [shL] at h
        split at h
        · rename_i ho
          split at h
          · rename_i s r hs hr
            injection h with h; subst h
            obtain ⟨fuel, x, hx⟩ := hf f (by simp); rw [ho] at hx; obtain ⟨p, f1, f2, f3⟩ := ih1 _ _ hs _ _ _ hx; obtain ⟨ps, g1, g2, g3, g4⟩ := ih2 _ _ _ _ hr cs hcs (fun f' hf' => hf f' (by simp [hf'])); have hl : ((cs.drop off).take (P.cellsOf f.type)).length = P.cellsOf f.type := by simp only [List.length_take, List.length_drop]; omega
            have hpl : p.cells.length = P.cellsOf f.type := by omega
            obtain ⟨c1, c2⟩ := f1.cells; refine ⟨p.cells ++ ps, by simp [c1, g1], by simp only [List.length_append]; omega, fun i hi => ?_, fun i hi => ?_⟩
            · by_cases hlt : i < p.cells.length
              · have := c2 i hlt
                simp only [List.getD_eq_getElem?_getD] at this ⊢
                rwa [List.getElem?_append_left (by omega), List.getElem?_append_left hlt]
              · have := g3 (i - p.cells.length) (by simp only [List.length_append] at hi; omega)
                simp only [List.getD_eq_getElem?_getD] at this ⊢
                rwa [List.getElem?_append_right (by omega), List.getElem?_append_right (by omega), ← c1]
            · by_cases hlt : i < p.cells.length
              · have := f3 i (by omega)
                rw [Z4k i (by omega)] at this; rw [show (p.cells ++ ps).getD i default = p.cells.getD i default by simp only [List.getD_eq_getElem?_getD]; rw [List.getElem?_append_left hlt]]; exact this
              · have := g4 (i - p.cells.length) (by simp only [List.length_append] at hi; omega)
                rw [show (p.cells ++ ps).getD i default = ps.getD (i - p.cells.length) default by simp only [List.getD_eq_getElem?_getD]; rw [List.getElem?_append_right (by omega)]]
                rwa [show off + P.cellsOf f.type + (i - p.cells.length) = off + i by omega] at this
          · cases h
        · cases h

theorem Zbb {v : Value} (h : ∀ cs, v ≠ .agg cs) : v.cells.toList = [v] := by
  cases v <;> first | rfl | exact absurd rfl (h _)

theorem Zir {n : Nat} {t : TypeId} {sh : Sh} {v : Value} {d : DataW H} {ps : List MemPlace} {b : Nat} (hs : shB P n t = some sh) (hok : Value.okWide P w .any b t v) (h : DataW.Trod enc P w base spare held t v d ps) :
    ∃ p, Fit sh p ∧ PR (fun g => g < w.heap.size) w p v := by
  obtain ⟨fuel, h⟩ := h; obtain ⟨p, h1, h2, h3⟩ := (Z5s n).1 t sh hs fuel _ _ h; have flat : (∀ cs, v ≠ .agg cs) → p.cells = [p] → ∃ p, Fit sh p ∧ PR (fun g => g < w.heap.size) w p v := by
    intro hv hp; rw [Zbb hv, hp] at h3; exact ⟨p, h1, h3 0 (by simp)⟩
  cases n with
  | zero => simp [shB] at hs
  | succ n =>
    unfold shB at hs; unfold Value.okWide at hok
    split at hs
    · rename_i ht
      injection hs with hs; subst hs
      rw [ht] at hok; simp only [Cell.okWide, ht] at hok; exact flat (fun cs e => by subst e; simp [Cell.ok, ht] at hok) (by cases h1; rfl)
    · rename_i k ht
      injection hs with hs; subst hs
      rw [ht] at hok; simp only [Cell.okWide, ht] at hok; exact flat (fun cs e => by subst e; simp [Cell.ok, ht] at hok) (by cases h1; rfl)
    · rename_i ht
      injection hs with hs; subst hs
      rw [ht] at hok; simp only [Cell.okWide, ht] at hok; exact flat (fun cs e => by subst e; simp [Cell.ok, ht] at hok) (by cases h1; rfl)
    · rename_i e ht
      split at hs
      · split at hs
        · injection hs with hs; subst hs
          rw [ht] at hok; simp only [Cell.okWide, ht] at hok; exact flat (fun cs e => by subst e; simp [Cell.ok, ht] at hok) (by cases h1; rfl)
        · cases hs
      · cases hs
    · rename_i fs ht
      rw [ht] at hok; obtain ⟨cs, rfl, _, _⟩ := hok; simp only [Option.map_eq_some_iff] at hs; obtain ⟨ss, _, rfl⟩ := hs
      cases h1 with
      | agg _ l hl hf =>
        refine ⟨.agg l, .agg ss l hl hf, ?_⟩; obtain ⟨cs⟩ := cs; exact .agg l cs h2 (fun i hi => h3 i (by rw [← h2]; exact hi))
    · cases hs

def Fits : List Sh → List PV → Prop
  | [], [] => True
  | s :: ss, p :: ps => Fit s p ∧ Fits ss ps
  | _, _ => False

theorem Fits.zero {l : List PV} (h : Fits [] l) : l = [] := by cases l with
  | nil => rfl
  | cons p l => exact h.elim
theorem Fits.cons {s : Sh} {ss : List Sh} {l : List PV} (h : Fits (s :: ss) l) : ∃ p ps, l = p :: ps ∧ Fit s p ∧ Fits ss ps := by cases l with
  | nil => exact h.elim
  | cons p l => exact ⟨p, l, rfl, h⟩

theorem Zah {n : Nat} {b : Nat} : ∀ {ts : List TypeId} {vs : List Value} {ds : List (DataW H)} {ps : List MemPlace} {shs : List Sh}, DataW.TrodAll enc P w base spare held ts vs ds ps → ts.map (shB P n) = shs.map some →
    (∀ (j : Nat) t v, ts[j]? = some t → vs[j]? = some v → Value.okWide P w .any b t v) →
    ∃ pv : List PV, Fits shs pv ∧ pv.length = vs.length ∧ ∀ i, i < pv.length → PR (fun g => g < w.heap.size) w (pv.getD i default) (vs.getD i undef)
  | [], vs, ds, ps, shs, h, hs, _ => by
    obtain ⟨rfl, rfl, rfl⟩ := trodAll_nil h
    cases shs with
    | nil => exact ⟨[], trivial, rfl, fun i hi => absurd hi (Nat.not_lt_zero i)⟩
    | cons s ss => simp at hs
  | t :: ts, vs, ds, ps, shs, h, hs, hok => by
    obtain ⟨v, vs1, d, ds1, a, b', rfl, rfl, rfl, h1, h2⟩ := trodAll_cons h
    cases shs with
    | nil => simp at hs
    | cons s ss =>
      simp only [List.map_cons, List.cons.injEq] at hs; obtain ⟨p, f1, f2⟩ := Zir hs.1 (hok 0 t v rfl rfl) h1; obtain ⟨pv, g1, g2, g3⟩ := Zah h2 hs.2 (fun j t v hj hv => hok (j + 1) t v (by simpa using hj) (by simpa using hv)); refine ⟨p :: pv, ⟨f1, g1⟩, by simp [g2], fun i hi => ?_⟩
      cases i with
      | zero => exact f2
      | succ i => exact g3 i (by simpa using hi)

theorem Z3c {W W' : World} (hl : laidOutB P = true) (hb : Below W.heap.size W W') : ∀ {ts : List TypeId} {vs : List Value} {ds : List (DataW H)} {ps : List MemPlace}, DataW.TrodAll enc P W 0 (fun _ => true) true ts vs ds ps →
    ts.all (fun t => P.readableRec t && decide (t < P.types.size)) = true → (∀ x ∈ ps, x.block < W.heap.size) → DataW.TrodAll enc P W' 0 (fun b => decide (b < W.heap.size)) true ts vs ds ps
  | [], vs, ds, ps, h, _, _ => by
    obtain ⟨rfl, rfl, rfl⟩ := trodAll_nil h
    rfl
  | t :: ts, vs, ds, ps, h, hr, hlt => by
    obtain ⟨v, vs1, d, ds1, a, b, rfl, rfl, rfl, h1, h2⟩ := trodAll_cons h; simp only [List.all_cons, Bool.and_eq_true, decide_eq_true_eq] at hr; exact ⟨a, b, Below.trod hl hr.1.1 hr.1.2 h1 hb (fun x hx => hlt x (by simp [hx])), Z3c hl hb h2 hr.2 (fun x hx => hlt x (by simp [hx])), rfl⟩

theorem lift {C : Checked} {os : Os} {f : FuncId} {fn : Func} {s : ChangeSpec} {conds : List PathCond} {fresh handsOn : Bool} {shs : List Sh} {tb : TypeId}
    (own : ownKnob C.prog.godebug = none) (laid : laidOutB C.prog = true) (started : os.Started) (noInit : C.prog.inits.idxOf? f = none) (hfn : C.prog.funcs[f]? = some fn)
    (witness : ∃ (w : World) (tape : Tape) (i : Input), w.os = os ∧ (w.forCall tape i).Shaped C.prog ∧ i.vars = [] ∧ Input.okWide C.prog (w.forCall tape i) .any w.heap.size f i ∧
      s.pre6 enc C.prog fn conds false (w.forCall tape i).memory i.args ∧ ({} : Assume).holds C.prog (lone (Frame.enter C.prog f i.args .normal) [] (w.forCall tape i)))
    (hsh : fn.params.toList.map (shB C.prog 9) = shs.map some) (hread : fn.params.toList.all (fun t => C.prog.readableRec t && decide (t < C.prog.types.size)) = true)
    (hres : fn.resultTypes = #[tb]) (hb : C.prog.underlying tb = some .bool) (hvars : s.vars = [])
    (hs : ∀ ds : List (DataW H), ds.length = fn.params.toList.length → s.fn H (ds ++ []) = { results := [.lit (.bool true)], args := ds })
    (h : ∀ pv, Fits shs pv → PFn C.prog f pv [.bool true]) :
    ReturnsInHanded {} C os f .any (s.pre6 enc C.prog fn conds false) (s.post enc C.prog fn false fresh handsOn false) := by
  refine returnsInHanded_of_change own started noInit hfn witness ?_; intro W base args ds gs before hval hW _ _; have hW' := hW; obtain ⟨p, q, hA, hV, hpq, _, _⟩ := hW; rw [hvars] at hV; obtain ⟨rfl, rfl⟩ := trodVars_none hV; rw [List.append_nil] at hpq; subst hpq; obtain ⟨pv, k1, k2, k3⟩ := Zah (ts := fn.params.toList) hA hsh (fun j t v hj hv => hval j t v (by rw [← Array.getElem?_toList]; exact hj) (by rw [← Array.getElem?_toList]; exact hv)); have hc := (h pv k1).2 (fun g => g < W.heap.size) W args.toList (fun _ hg => hg) k2 (fun i hi => k3 i hi); refine hc.mono ?_; rintro e W' ⟨cv, I', rfl, hg, _, _, hv⟩; have hcv : cv = .bool true := by
    cases hv with
    | p _ _ h => cases h; rfl
  subst hcv; have hbel : Below W.heap.size W W' := ⟨hg.os, hg.tape, hg.output, hg.size, fun k hk => hg.block k hk (by simp)⟩; have hlen : ds.length = fn.params.toList.length := by
    have : ∀ {ts : List TypeId} {vs : List Value} {ds : List (DataW H)} {ps : List MemPlace}, DataW.TrodAll enc C.prog W 0 (fun _ => true) true ts vs ds ps → ds.length = ts.length := by
      intro ts
      induction ts with
      | nil => intro vs ds ps h; obtain ⟨rfl, rfl, rfl⟩ := trodAll_nil h; rfl
      | cons t ts ih => intro vs ds ps h; obtain ⟨v, vs1, d, ds1, a, b, rfl, rfl, rfl, _, h2⟩ := trodAll_cons h; simp [ih h2]
    exact this hA
  have hlt : ∀ x ∈ before, x.block < W.heap.size := fun x hx => hW'.lt x hx
  refine ⟨_, rfl, ds, [], before, [], before, [], hW', ?_, ?_, ?_, hbel.frame _, fun h => by cases h⟩
  · rw [hs ds hlen, hres]
    exact trodAll_mk1 (shut_bool hb true)
  · rw [hs ds hlen]
    exact Z3c laid hbel hA hread hlt
  · rw [hs ds hlen, hvars]; rfl
end
end Go.AM
end

section
namespace Go.Proofs.Ytpljmccnfmkmfaa
open Go Go.AM

theorem Valid.ne' {q : Int} {ws : List (List UInt8)} (hv : Valid q ws) : ∀ x ∈ ws, x ≠ [] := fun x hx => by
  obtain ⟨j, hj, rfl⟩ := List.getElem_of_mem hx; have := hv.ne j hj
  rwa [List.getD_eq_getElem?_getD, List.getElem?_eq_getElem hj, Option.getD_some] at this

abbrev OF := List UInt8 → Option (List UInt8)
def hitF (F : OF) (r w : List UInt8) : Prop := ∃ v, F r = some v ∧ leW v w
open Classical in
noncomputable def putF (F : OF) (r w : List UInt8) : OF := if hitF F r w then F else fun x => if x = r then some w else F x
def numW : List UInt8 → Nat
  | [] => 0
  | a :: w => (a.toNat + 1) * 257 ^ w.length + numW w
theorem Z97 : ∀ w : List UInt8, numW w < 257 ^ w.length
  | [] => by simp [numW]
  | a :: w => by
    have h1 := Z97 w; have h2 := a.toNat_lt; have h3 : (a.toNat + 1) * 257 ^ w.length ≤ 256 * 257 ^ w.length := Nat.mul_le_mul_right _ (by omega); unfold numW; rw [List.length_cons, Nat.pow_succ]; omega
theorem Zi8 (a : UInt8) (w : List UInt8) : 257 ^ w.length ≤ numW (a :: w) := by
  unfold numW; have : 1 * 257 ^ w.length ≤ (a.toNat + 1) * 257 ^ w.length := Nat.mul_le_mul_right _ (by omega); omega
theorem Za5 : ∀ {a b : List UInt8}, a.length = b.length → bLt a b = true → numW a < numW b
  | [], [], _, h => by cases h
  | x :: a, y :: b, hl, h => by
    have hl' : a.length = b.length := by simpa using hl
    unfold numW; rw [hl']; rcases (Z24 x y a b).1 h with h1 | ⟨h1, h2⟩
    · have h3 := Z97 a
      rw [hl'] at h3; have h4 : (x.toNat + 1 + 1) * 257 ^ b.length ≤ (y.toNat + 1) * 257 ^ b.length := Nat.mul_le_mul_right _ (by omega); rw [Nat.add_mul (x.toNat + 1) 1, Nat.one_mul] at h4; omega
    · have := Za5 hl' h2
      rw [h1]; omega
theorem Za4 {a b : List UInt8} (h : ltW a b) : numW a < numW b := by
  rcases h with h | ⟨h1, h2⟩
  · match b, h with
    | y :: b, h =>
      have h1 := Z97 a; have h2 := Zi8 y b; have h3 : 257 ^ a.length ≤ 257 ^ b.length := Nat.pow_le_pow_right (by omega) (by rw [List.length_cons] at h; omega); omega
  · exact Za5 h1 h2
structure FixF (ws : List (List UInt8)) (F : OF) : Prop where
  snd : ∀ x v, F x = some v → Pw ws v x
  fst : ∀ p ∈ fstL ws, hitF F p.1 p.2
  nxt : ∀ r w, F r = some w → r ≠ [] → w.length ≤ 4096 → ∀ p ∈ nxtL ws r w, hitF F p.1 p.2
theorem Zid (ws : List (List UInt8)) : (∃ w, MinP ws w) ∨ NoP ws := by
  by_cases h : ∃ v, Pw ws v [] ∧ v.length ≤ 4096
  · left
    obtain ⟨v, hv, hl⟩ := h; have key : ∀ n (v : List UInt8), numW v ≤ n → Pw ws v [] → v.length ≤ 4096 → ∃ w, MinP ws w := by
      intro n
      induction n with
      | zero =>
        intro v hn hv hl; refine ⟨v, hv, hl, fun u _ _ g => ?_⟩; have := Za4 g; omega
      | succ n ih =>
        intro v hn hv hl; by_cases hu : ∃ u, Pw ws u [] ∧ u.length ≤ 4096 ∧ ltW u v
        · obtain ⟨u, h1, h2, h3⟩ := hu
          have := Za4 h3; exact ih u (by omega) h1 h2
        · exact ⟨v, hv, hl, fun u h1 h2 g => hu ⟨u, h1, h2, g⟩⟩
    exact key _ v (Nat.le_refl _) hv hl
  · exact .inr fun v hv hl => h ⟨v, hv, hl⟩

def noAV : PV := .agg [.str [], .sl [], .sl []]
theorem r12d (q : Int) (ws : List (List UInt8)) (hc : Z6 q ws = 0) (hr : ¬ Z25 ws []) : PFn Try.prog 12 [Z08 q ws] [noAV, .bool false, .int .i64 0] := by
  have hv := Z1d hc; have e1 := t45 q ws; rw [hc] at e1; have e2 := t47 q ws hv; rw [decide_eq_false (fun h => hr (Zy.1 h))] at e2; unfold Z08 at e1 e2; refine PFn.of_body hΓ Try.func12 (by kernel_rfl) rfl (AWp.seq (Wd [] ?_)); simp -implicitDefEqProofs only [Try.ntmps12, Try.results12, Nat.reduceAdd, Nat.reduceSub, Z08, go_sem]; refine AWp.seq (Wd [] ?_); simp -implicitDefEqProofs only [go_sem]; refine Z3 e1 (.still rfl) ?_; simp -implicitDefEqProofs only [go_sem]; refine AWp.seq (Wd [] ?_); simp -implicitDefEqProofs only [go_sem]; refine Z3 e2 (.still rfl) ?_; simp -implicitDefEqProofs only [Bool.not_false, noAV, go_sem]
theorem Zc7 {q : Int} {ws : List (List UInt8)} (hc : Z6 q ws = 0) (hr : ¬ Z25 ws []) : Z0a q ws (residL ws) = 0 := by
  have hv := Z1d hc; have hl := Z2q hv; have h0 : [] ∉ residL ws := fun h => hr (Zy.1 h)
  refine Z4b hc (by omega) h0 fun u hu => ?_
  unfold Z81 at hu; rcases List.mem_append.1 hu with hu | hu
  · exact Zy.2 (.first u hu)
  · obtain ⟨r, hr, hu⟩ := List.mem_flatMap.1 hu
    rw [List.take_length] at hr; exact Zy.2 (.next r u (Zy.1 hr) (fun e => h0 (e ▸ hr)) hu)
theorem Zey {q : Int} {ws : List (List UInt8)} (hc : Z6 q ws = 0) (hr : Z25 ws []) : Z0a q ws (residL ws) = 23 := by
  have hv := Z1d hc; have hl := Z2q hv; exact Z13 hc (by omega) fun h => h.1 (Zy.2 hr)
def zL (l : List Nat) : List Int := l.map Int.ofNat
theorem Zlq (l : List Nat) : slV l = .sl ((zL l).map (.int .i64)) := by
  unfold slV zL; rw [List.map_map]
  rfl
theorem Z59 {ws : List (List UInt8)} : ∀ {l : List Nat} {w : List UInt8}, (∀ k ∈ l, k < ws.length) → spW ws l = w → Z0p ws (zL l) w = true
  | [], w, _, h => by
    have h : [] = w := h; subst h; rfl
  | k :: l, w, hk, h => by
    rw [Z4q] at h; have h1 := hk k (by simp); have ih := Z59 (ws := ws) (l := l) (fun i hi => hk i (by simp [hi])) rfl; have e : zL (k :: l) = (k : Int) :: zL l := rfl; rw [e]; unfold Z0p; rw [if_pos (by omega), Int.toNat_natCast, ← h, if_pos (by rw [List.isPrefixOf_iff_prefix]; exact List.prefix_append _ _), List.drop_left]; exact ih
theorem Zld {a b : List Nat} (h : zL a = zL b) : a = b := by
  have := congrArg (List.map Int.toNat) h; unfold zL at this
  simpa [List.map_map, Function.comp_def] using this
theorem Zo9 {q : Int} {ws : List (List UInt8)} (hc : Z6 q ws = 0) {w : List UInt8} {x y : List Nat} (hxy : x ≠ y) (hx : ∀ k ∈ x, k < ws.length) (hy : ∀ k ∈ y, k < ws.length) (ex : spW ws x = w) (ey : spW ws y = w) : Z1h q ws w (zL x) (zL y) = 0 := by
  unfold Z1h; rw [if_neg (by simp [hc]), if_neg]; rintro (h | h | h)
  · exact hxy (Zld h)
  · rw [Z59 hx ex] at h; cases h
  · rw [Z59 hy ey] at h; cases h
theorem Z5o {ws : List (List UInt8)} {q : Int} (hv : Valid q ws) (hg : Z5p ws = false) : ws.length ≤ 6 ∧ ∀ x ∈ ws, x.length ≤ 6 := by
  unfold Z5p at hg; simp only [Bool.or_eq_false_iff, Bool.and_eq_false_iff, decide_eq_false_iff_not, List.any_eq_false] at hg; refine ⟨by have := hv.len; omega, fun x hx => ?_⟩; obtain ⟨j, hj, rfl⟩ := List.getElem_of_mem hx; have h32 := hv.short j hj; rw [List.getD_eq_getElem?_getD, List.getElem?_eq_getElem hj, Option.getD_some] at h32; have := hg.1 _ hx; unfold Z12 at this; simp only [Bool.or_eq_true, Bool.and_eq_true, decide_eq_true_eq] at this; omega

theorem Z8u {ws : List (List UInt8)} (hn : ∀ x ∈ ws, x ≠ []) : ∀ {l : List Nat}, (∀ k ∈ l, k < ws.length) → l.length ≤ (spW ws l).length
  | [], _ => Nat.zero_le _
  | k :: l, h => by
    have := Z8u hn (l := l) fun i hi => h i (by simp [hi])
    have := List.length_pos_iff.2 (hn _ (Z2s (h k (by simp)))); rw [Z4q, List.length_append, List.length_cons]; omega
theorem Zjj {q : Int} {ws : List (List UInt8)} (hv : Valid q ws) (hg : Z5p ws = false) (hr : Z25 ws []) : ∃ w x y l, MinP ws w ∧ rdI ws w = x :: y :: l ∧ x ≠ y ∧ (∀ k ∈ x, k < ws.length) ∧ (∀ k ∈ y, k < ws.length) ∧ spW ws x = w ∧ spW ws y = w := by
  obtain ⟨h6, hl6⟩ := Z5o hv hg; have hb : ws.length * (6 + 1) * 6 ≤ 4096 := by
    have h3 : ws.length * (6 + 1) ≤ 6 * 7 := Nat.mul_le_mul_right _ h6; omega
  rcases Zid ws with ⟨w, hw⟩ | hn
  · obtain ⟨x, y, l, h1, h2, h3, h4, h5, h6⟩ := Zg5 hv.ne' (hw.1.amb2 hv.ne')
    exact ⟨w, x, y, l, hw, h1, fun e => Z5k x (by rw [← e] at h2; exact h2), h3, h4, h5, h6⟩
  · obtain ⟨v, hv1, hv2⟩ := Z8z (Z4g hv) hl6 hb hr
    exact absurd hv2 (hn v hv1)

theorem v4 (q : Int) (ws : List (List UInt8)) (hws : ws.length ≤ 9223372036854775807) : PFn Try.prog 4 [Z08 q ws] [.bool true] := by
  have e12 := t12 q ws hws; unfold Z08 at e12; refine PFn.of_body hΓ Try.func4 (by kernel_rfl) rfl (AWp.seq (Wd [] ?_)); simp -implicitDefEqProofs only [Try.ntmps4, Try.results4, Nat.reduceAdd, Nat.reduceSub, Z08, go_sem]; refine AWp.seq (Wd [] ?_); simp -implicitDefEqProofs only [go_sem]; refine Z3 e12 (.still rfl) ?_
  cases hf : (!Z5p ws && decide (Z6 q ws = 0))
  · simp -implicitDefEqProofs only [go_sem]
    refine Z3 Z7i (.pures rfl) ?_; simp -implicitDefEqProofs only [go_sem]
  simp only [Bool.and_eq_true, decide_eq_true_eq, Bool.not_eq_true'] at hf; have hc := hf.2; have hv := Z1d hc; obtain ⟨h6, hl6⟩ := Z5o hv hf.1; have e15 := t15 q ws; rw [if_pos hc, if_pos hc] at e15; have e14 := t14 q ws; rw [if_pos hc, if_pos hc] at e14; have hrl := Z2q hv
  have e23 := t23 q ws (residL ws) (by
    have h1 := Z2p hl6; have h2 : (residL ws).length ≤ (sufs ws).length := Zz ((Z1x ws).imp fun h e => by subst e; exact Zl _ h) fun x hx => Z2r (Z04 (Zy.1 hx))
    have h3 : ws.length * (6 + 1) ≤ 6 * 7 := Nat.mul_le_mul_right _ h6
    omega)
  have key : ∃ (b : Bool) (m : List UInt8) (x y : List Nat), PFn Try.prog 12 [Z08 q ws] [.agg [.str m, slV x, slV y], .bool b, .int .i64 0] ∧ decide ([] ∈ residL ws) = b ∧
      x.length ≤ 4096 ∧ y.length ≤ 4096 ∧ Z0a q ws (residL ws) = (if b then 23 else 0) ∧ Z1h q ws m (zL x) (zL y) = (if b then 0 else 23) := by
    by_cases hr : Z25 ws []
    · obtain ⟨w, x, y, l, hw, hxy, hne, hx, hy, ex, ey⟩ := Zjj hv hf.1 hr
      have hwl := hw.2.1; refine ⟨true, w, x, y, r12 q ws hc hr hw hxy, decide_eq_true (Zy.2 hr), ?_, ?_, Zey hc hr, Zo9 hc hne hx hy ex ey⟩
      · have := Z8u hv.ne' hx
        rw [ex] at this; omega
      · have := Z8u hv.ne' hy
        rw [ey] at this; omega
    · refine ⟨false, [], [], [], r12d q ws hc hr, decide_eq_false fun h => hr (Zy.1 h), by simp, by simp, Zc7 hc hr, ?_⟩
      unfold Z1h; rw [if_neg (by simp [hc]), if_pos (.inl rfl)]
      rfl
  obtain ⟨b, m, x, y, eA, eb, hxl, hyl, hpr, ham⟩ := key; rw [eb] at e15; rw [hpr] at e23; have e34 := t34 q ws m (zL x) (zL y) (by unfold zL; rw [List.length_map]; omega) (by unfold zL; rw [List.length_map]; omega); rw [ham] at e34; unfold ambV at e34; rw [← Zlq, ← Zlq] at e34; unfold Z08 at e14 e15 e23 e34 eA; simp -implicitDefEqProofs only [go_sem]; refine AWp.seq (Wd [] ?_); simp -implicitDefEqProofs only [go_sem]; refine Z3 e15 (.still rfl) ?_; simp -implicitDefEqProofs only [go_sem]; refine AWp.seq (Wd [] ?_); simp -implicitDefEqProofs only [go_sem]; refine Z3 e14 (.still rfl) ?_; simp -implicitDefEqProofs only [go_sem]; refine AWp.seq (Wd [] ?_); simp -implicitDefEqProofs only [go_sem]; refine Z3 eA (.still rfl) ?_; simp -implicitDefEqProofs only [go_sem]; refine ⟨rfl, ?_⟩; refine AWp.seq (Wd [] ?_)
  cases b
  · simp -implicitDefEqProofs only [Bool.not_false, show (false == true) = false from rfl, show (true == false) = false from rfl, go_sem]
    refine AWp.seq (Wd [(8, 8)] ?_); simp -implicitDefEqProofs only [go_sem]; refine Z1v e23 (.still rfl) ?_; simp -implicitDefEqProofs only [go_sem]; refine Z1v e34 (.still rfl) ?_; simp -implicitDefEqProofs only [go_sem]; refine Wd [] ?_; simp -implicitDefEqProofs only [go_sem]; refine Z3 Z7i (.pures rfl) ?_; simp -implicitDefEqProofs only [go_sem]
  · simp -implicitDefEqProofs only [Bool.not_true, show (false == true) = false from rfl, show (true == false) = false from rfl, go_sem]
    refine AWp.seq (Wd [(8, 8)] ?_); simp -implicitDefEqProofs only [go_sem]; refine Z1v e23 (.still rfl) ?_; simp -implicitDefEqProofs only [go_sem]; refine Z1v e34 (.still rfl) ?_; simp -implicitDefEqProofs only [go_sem]; refine Wd [] ?_; simp -implicitDefEqProofs only [go_sem]; refine Z3 Z7i (.pures rfl) ?_; simp -implicitDefEqProofs only [go_sem]
end Go.Proofs.Ytpljmccnfmkmfaa
end

section
namespace Go.Proofs.Ytpljmccnfmkmfaa
open Go Go.AM Go.RowKit Go.ChangeShapes

theorem own : ownKnob Try.prog.godebug = none := by kernel_rfl
theorem Zik : laidOutB Try.prog = true := by kernel_rfl

def Zgz : Sh := .agg [.int .i64, .sl .str]
theorem Zh8 {l : List PV} (h : ∀ i, i < l.length → Fit .str (l.getD i default)) : ∃ ws : List (List UInt8), l = ws.map .str ∧ ∀ w ∈ ws, w.length ≤ maxLen := by
  induction l with
  | nil => exact ⟨[], rfl, by simp⟩
  | cons x l ih =>
    obtain ⟨ws, h1, h2⟩ := ih (fun i hi => h (i + 1) (by simpa using hi)); have h0 := h 0 (by simp); simp only [List.getD_cons_zero] at h0
    cases h0 with
    | str s hs => exact ⟨s :: ws, by rw [h1]; rfl, fun w hw => by
        rcases List.mem_cons.1 hw with rfl | hw
        · exact hs
        · exact h2 w hw⟩
theorem Zee {p : PV} (h : Fit (.sl .str) p) : ∃ ws : List (List UInt8), p = .sl (ws.map .str) ∧ ws.length ≤ maxLen ∧ ∀ w ∈ ws, w.length ≤ maxLen := by
  cases h with
  | sl _ l h1 h2 =>
    obtain ⟨ws, rfl, h3⟩ := Zh8 h2; exact ⟨ws, rfl, by simpa using h1, h3⟩
theorem Zj3 {p : PV} (h : Fit Zgz p) : ∃ (q : Int) (ws : List (List UInt8)), p = Z08 q ws ∧ InR .i64 q ∧ ws.length ≤ maxLen ∧ ∀ w ∈ ws, w.length ≤ maxLen := by
  cases h with
  | agg _ l h1 h2 =>
    match l, h1 with
    | [x, y], _ =>
      have h3 := h2 0 (by simp); have h4 := h2 1 (by simp); simp only [List.getD_cons_zero, List.getD_cons_succ] at h3 h4; obtain ⟨ws, rfl, h5⟩ := Zee h4
      cases h3 with
      | int _ n hn => exact ⟨n, ws, rfl, hn, h5⟩
end Go.Proofs.Ytpljmccnfmkmfaa
end

