/-
  Texts of this claim, joined.
-/
import Derived.Test.YtnilegembmcelaaDoorJ4ab8883c603b
import Derived.Handed
import Derived.JoinedOf
import Derived.ProofKit

namespace Go.AM
open Go.RowKit Go.ChangeShapes

inductive Sh where
  | bool
  | int (k : IntKind)
  | str
  | sl (s : Sh)
  | agg (l : List Sh)
  deriving Inhabited

def Sh.cells : Sh → List Sh
  | .agg l => l
  | s => [s]

inductive Fit : Sh → PV → Prop
  | bool (b : Bool) : Fit .bool (.bool b)
  | int (k : IntKind) (n : Int) (h : InR k n) : Fit (.int k) (.int k n)
  | str (s : List UInt8) (h : s.length ≤ maxLen) : Fit .str (.str s)
  | sl (s : Sh) (l : List PV) (h : l.length ≤ maxLen) (hl : ∀ i, i < l.length → Fit s (l.getD i default)) : Fit (.sl s) (.sl l)
  | agg (ss : List Sh) (l : List PV) (h : l.length = ss.length) (hl : ∀ i, i < l.length → Fit (ss.getD i default) (l.getD i default)) : Fit (.agg ss) (.agg l)

mutual
def shB (P : Program) : Nat → TypeId → Option Sh
  | 0, _ => none
  | n + 1, t => match P.underlying t with
    | some .bool => some .bool
    | some (.int k) => some (.int k)
    | some .string => some .str
    | some (.slice e) => match shB P n e with
      | some s => if 0 < P.cellsOf e then some (.sl s) else none
      | none => none
    | some (.struct fs) => (shL P n (P.cellsOf t) fs.toList 0).map .agg
    | _ => none
def shL (P : Program) : Nat → Nat → List Field → Nat → Option (List Sh)
  | 0, _, _, _ => none
  | _ + 1, total, [], off => if off = total then some [] else none
  | n + 1, total, f :: fs, off => if f.offset = off then (match shB P n f.type, shL P n total fs (off + P.cellsOf f.type) with
    | some s, some r => some (s.cells ++ r)
    | _, _ => none) else none
end

theorem Fit.cells {s : Sh} {p : PV} (h : Fit s p) : p.cells.length = s.cells.length ∧ ∀ i, i < p.cells.length → Fit (s.cells.getD i default) (p.cells.getD i default) := by
  have one : ∀ (i : Nat) (s : Sh) (p : PV), Fit s p → i < [p].length → Fit ([s].getD i default) ([p].getD i default) := by
    intro i s p h hi; have : i = 0 := by simpa using hi
    subst this; exact h
  cases h with
  | bool b => exact ⟨rfl, fun i hi => one i _ _ (.bool b) hi⟩
  | int k n hn => exact ⟨rfl, fun i hi => one i _ _ (.int k n hn) hi⟩
  | str l hl => exact ⟨rfl, fun i hi => one i _ _ (.str l hl) hi⟩
  | sl s l h1 h2 => exact ⟨rfl, fun i hi => one i _ _ (.sl s l h1 h2) hi⟩
  | agg ss l h1 h2 => exact ⟨h1, h2⟩

theorem Z44 {α : Type} [Inhabited α] {Q : Nat → α → Prop} : ∀ (n : Nat), (∀ i, i < n → ∃ p, Q i p) → ∃ l : List α, l.length = n ∧ ∀ i, i < n → Q i (l.getD i default)
  | 0, _ => ⟨[], rfl, fun i hi => absurd hi (Nat.not_lt_zero i)⟩
  | n + 1, h => by
    obtain ⟨l, h1, h2⟩ := Z44 n (fun i hi => h i (by omega)); obtain ⟨p, hp⟩ := h n (by omega); refine ⟨l ++ [p], by simp [h1], fun i hi => ?_⟩; by_cases hn : i < n
    · have := h2 i hn
      rw [List.getD_eq_getElem?_getD] at this ⊢
      rwa [List.getElem?_append_left (by omega)]
    · have : i = n := by omega
      subst this; rw [List.getD_eq_getElem?_getD, List.getElem?_append_right (by omega)]
      simpa [h1] using hp

section
variable {H : Type} {enc : TypeId × Value → H} {P : Program} {w : World} {base : Nat} {spare : Nat → Bool} {held : Bool}

def FitC (w : World) (sh : Sh) (cs : List Value) : Prop :=
  ∃ p, Fit sh p ∧ p.cells.length = cs.length ∧ ∀ i, i < cs.length → PR (fun g => g < w.heap.size) w (p.cells.getD i default) (cs.getD i undef)

theorem FitC.one {sh : Sh} {p : PV} {v : Value} (h : Fit sh p) (hc : p.cells = [p]) (hr : PR (fun g => g < w.heap.size) w p v) : FitC w sh [v] :=
  ⟨p, h, by rw [hc]; rfl, fun i hi => by
    have : i = 0 := by simpa using hi
    subst this; rw [hc]; exact hr⟩

theorem Za7 {k : IntKind} {n : Int} (h : (Lit.int k n).wf = true) : InR k n := by
  simp only [Lit.wf, Bool.and_eq_true, decide_eq_true_eq] at h
  cases k <;> simpa [InR, IntKind.min, IntKind.max, IntKind.signed, IntKind.bits] using h

theorem Z3g {α : Type} {cs : List α} {off k : Nat} (i : Nat) (hi : i < k) (d : α) : ((cs.drop off).take k).getD i d = cs.getD (off + i) d := by
  simp only [List.getD_eq_getElem?_getD, List.getElem?_take, hi, if_true, List.getElem?_drop]

theorem cells?_get {a : Addr} {n : Nat} {cs : List Value} (h : w.cells? base a n = some cs) : cs.length = n ∧ ∀ j, j < n → w.cell? (a.add j) = some (cs.getD j undef) := by
  unfold World.cells? at h
  split at h
  · have hl := mapM_some_length h
    rw [List.length_range] at hl; refine ⟨hl, fun j hj => ?_⟩; have := mapM_some_get h j j (by simp [hj]); rw [this, List.getD_eq_getElem?_getD, List.getElem?_eq_getElem (by omega)]; rfl
  · cases h

theorem cell?_some {a : Addr} {v : Value} (h : w.cell? a = some v) : ∃ cur E fz, w.heap[a.block]? = some (.cells cur E fz) ∧ a.spot = none ∧ cur[a.off]? = some v := by
  unfold World.cell? at h
  split at h
  · rename_i c E fz hb
    split at h
    · cases h
    · rename_i hs
      exact ⟨c, E, fz, hb, by simpa using hs, h⟩
  · cases h

theorem Z5n (a : Addr) (n : Nat) : (a.add n).off = a.off + n ∧ (a.add n).block = a.block := by
  unfold Addr.add
  split
  · subst_vars; exact ⟨rfl, rfl⟩
  · exact ⟨rfl, rfl⟩

theorem Z4a : ∀ (n : Nat), (∀ (t : TypeId) (sh : Sh), shB P n t = some sh → ∀ (fuel : Nat) (cs : List Value) (x : DataW H × List MemPlace), DataW.trod enc P w base spare held fuel t cs = some x → FitC w sh cs) ∧
    (∀ (total : Nat) (fs : List Field) (off : Nat) (ss : List Sh), shL P n total fs off = some ss → ∀ cs : List Value, cs.length = total →
      (∀ f ∈ fs, ∃ fuel x, DataW.trod enc P w base spare held fuel f.type ((cs.drop f.offset).take (P.cellsOf f.type)) = some x) →
      ∃ ps : List PV, ps.length = ss.length ∧ off + ps.length = total ∧ (∀ i, i < ps.length → Fit (ss.getD i default) (ps.getD i default)) ∧
        ∀ i, i < ps.length → PR (fun g => g < w.heap.size) w (ps.getD i default) (cs.getD (off + i) undef))
  | 0 => ⟨fun t sh h => by simp [shB] at h, fun total fs off ss h => by simp [shL] at h⟩
  | n + 1 => by
    obtain ⟨ih1, ih2⟩ := Z4a n; refine ⟨fun t sh h fuel cs x hx => ?_, fun total fs off ss h cs hcs hf => ?_⟩
    · unfold shB at h
      split at h
      · rename_i ht
        injection h with h; subst h
        obtain ⟨b, rfl, _⟩ := DataW.trod_bool ht hx; exact .one (.bool b) rfl (.bool b)
      · rename_i k ht
        injection h with h; subst h
        obtain ⟨m, rfl, _, hw⟩ := DataW.trod_int ht hx; exact .one (.int k m (Za7 hw)) rfl (.int k m)
      · rename_i ht
        injection h with h; subst h
        obtain ⟨s, rfl, _, hs⟩ := DataW.trod_string ht hx; exact .one (.str s.data.toList (by simpa using hs)) rfl (.str s)
      · rename_i e ht
        split at h
        · rename_i s hs
          split at h
          · rename_i hpos
            injection h with h; subst h
            rcases DataW.trod_slice ht hx with ⟨rfl, _⟩ | ⟨a, len, cap, elems, rest, m, _, rfl, _, _, hl, hm, hlen, hel, _, _⟩
            · exact .one (.sl s [] (Nat.zero_le _) (fun i hi => absurd hi (Nat.not_lt_zero i))) rfl (.sl0 none 0 (fun _ => rfl))
            · have each : ∀ i, i < len → ∃ p : PV, ∃ ci, w.cells? base (a.add (i * P.cellsOf e)) (P.cellsOf e) = some ci ∧ Fit s p ∧ p.cells.length = P.cellsOf e ∧
                  ∀ j, j < P.cellsOf e → PR (fun g => g < w.heap.size) w (p.cells.getD j default) (ci.getD j undef) := by
                intro i hi; have h1 := hel i hi; rw [List.getElem?_eq_getElem (by omega), Option.bind_eq_some_iff] at h1; obtain ⟨ci, h2, h3⟩ := h1; obtain ⟨p, f1, f2, f3⟩ := ih1 e s hs m ci _ h3; have hcl := (cells?_get h2).1; exact ⟨p, ci, h2, f1, by omega, fun j hj => f3 j (by omega)⟩
              obtain ⟨l, hll, hq⟩ := Z44 len each; refine .one (.sl s l (by omega) (fun i hi => by obtain ⟨ci, _, hf, _⟩ := hq i (by omega); exact hf)) rfl ?_; rw [← hll]; by_cases hz : l = []
              · subst hz; exact .sl0 _ _ (fun h => by cases h)
              · have hpl : 0 < len := by rw [← hll]; exact List.length_pos_iff.2 hz
                have cell : ∀ i j, i < len → j < P.cellsOf e → ∃ v, w.cell? ((a.add (i * P.cellsOf e)).add j) = some v ∧ PR (fun g => g < w.heap.size) w (((l.getD i default).cells).getD j default) v := by
                  intro i j hi hj; obtain ⟨ci, h2, _, _, h3⟩ := hq i hi; exact ⟨_, (cells?_get h2).2 j hj, h3 j hj⟩
                obtain ⟨v0, hv0, _⟩ := cell 0 0 hpl hpos; rw [Nat.zero_mul] at hv0; obtain ⟨cur, E, fz, hb, hsp, _⟩ := cell?_some hv0; obtain ⟨g, off, spot⟩ := a; have hsp : spot = none := by simpa [Addr.add] using hsp
                subst hsp; have hb : w.heap[g]? = some (.cells cur E fz) := by simpa [Addr.add] using hb
                have pos : ∀ i j, i < len → j < P.cellsOf e → ∃ v, cur[off + (i * P.cellsOf e + j)]? = some v ∧ PR (fun g => g < w.heap.size) w (((l.getD i default).cells).getD j default) v := by
                  intro i j hi hj; obtain ⟨v, h1, h2⟩ := cell i j hi hj; obtain ⟨cur', E', fz', hb', _, hv⟩ := cell?_some h1; rw [(Z5n _ _).2, (Z5n _ _).2] at hb'; rw [hb] at hb'
                  injection hb' with hb'; injection hb' with hb' _ _
                  subst hb'; rw [(Z5n _ _).1, (Z5n _ _).1] at hv; exact ⟨v, by rw [← hv]; congr 1; show _ = off + _ + _; omega, h2⟩
                refine .sl l (P.cellsOf e) g off cap cur E fz (fun k => (cur[off + k]?).getD undef) hz (Array.getElem?_eq_some_iff.1 hb).1 hb (by omega) (fun x hx => ?_) (fun k hk => ?_) (fun i j hi hj => ?_)
                · obtain ⟨i, hi, rfl⟩ := List.getElem_of_mem hx
                  obtain ⟨ci, _, _, h4, _⟩ := hq i (by omega)
                  rwa [List.getD_eq_getElem?_getD, List.getElem?_eq_getElem hi] at h4
                · have hdm : k = k / P.cellsOf e * P.cellsOf e + k % P.cellsOf e := by rw [Nat.mul_comm]; exact (Nat.div_add_mod k _).symm
                  obtain ⟨v, hv, _⟩ := pos (k / P.cellsOf e) (k % P.cellsOf e) (Nat.div_lt_of_lt_mul (by rw [Nat.mul_comm, ← hll]; exact hk)) (Nat.mod_lt _ hpos); rw [← hdm] at hv; rw [hv]; rfl
                · obtain ⟨v, hv, hr⟩ := pos i j (by omega) hj
                  rw [hv]; exact hr
          · cases h
        · cases h
      · rename_i fs ht
        simp only [Option.map_eq_some_iff] at h; obtain ⟨ss, hss, rfl⟩ := h; obtain ⟨xs, m, _, _, hlen, hxl, hf⟩ := DataW.trod_struct ht hx; obtain ⟨ps, h1, h2, h3, h4⟩ := ih2 _ _ _ _ hss cs hlen (fun f hm => by
          obtain ⟨i, hi, rfl⟩ := List.getElem_of_mem hm; have := hf i fs.toList[i] (by rw [← Array.getElem?_toList, List.getElem?_eq_getElem hi]); rw [List.getElem?_eq_getElem (by rw [hxl]; simpa using hi)] at this; exact ⟨m, _, this⟩)
        refine ⟨.agg ps, .agg ss ps h1 h3, by show ps.length = _; omega, fun i hi => ?_⟩; have := h4 i (by omega)
        rwa [Nat.zero_add] at this
      · cases h
    · cases fs with
      | nil =>
        simp only [shL] at h
        split at h
        · rename_i he
          injection h with h; subst h
          exact ⟨[], rfl, by simpa using he, fun i hi => absurd hi (Nat.not_lt_zero i), fun i hi => absurd hi (Nat.not_lt_zero i)⟩
        · cases h
      | cons f fs =>
        simp only [shL] at h
        split at h
        · rename_i ho
          split at h
          · rename_i s r hs hr
            injection h with h; subst h
            obtain ⟨fuel, x, hx⟩ := hf f (by simp); rw [ho] at hx; obtain ⟨p, f1, f2, f3⟩ := ih1 _ _ hs _ _ _ hx; obtain ⟨ps, g1, g2, g3, g4⟩ := ih2 _ _ _ _ hr cs hcs (fun f' hf' => hf f' (by simp [hf'])); have hl : ((cs.drop off).take (P.cellsOf f.type)).length = P.cellsOf f.type := by simp only [List.length_take, List.length_drop]; omega
            have hpl : p.cells.length = P.cellsOf f.type := by omega
            obtain ⟨c1, c2⟩ := f1.cells; refine ⟨p.cells ++ ps, by simp [c1, g1], by simp only [List.length_append]; omega, fun i hi => ?_, fun i hi => ?_⟩
            · by_cases hlt : i < p.cells.length
              · have := c2 i hlt
                simp only [List.getD_eq_getElem?_getD] at this ⊢
                rwa [List.getElem?_append_left (by omega), List.getElem?_append_left hlt]
              · have := g3 (i - p.cells.length) (by simp only [List.length_append] at hi; omega)
                simp only [List.getD_eq_getElem?_getD] at this ⊢
                rwa [List.getElem?_append_right (by omega), List.getElem?_append_right (by omega), ← c1]
            · by_cases hlt : i < p.cells.length
              · have := f3 i (by omega)
                rw [Z3g i (by omega)] at this; rw [show (p.cells ++ ps).getD i default = p.cells.getD i default by simp only [List.getD_eq_getElem?_getD]; rw [List.getElem?_append_left hlt]]; exact this
              · have := g4 (i - p.cells.length) (by simp only [List.length_append] at hi; omega)
                rw [show (p.cells ++ ps).getD i default = ps.getD (i - p.cells.length) default by simp only [List.getD_eq_getElem?_getD]; rw [List.getElem?_append_right (by omega)]]
                rwa [show off + P.cellsOf f.type + (i - p.cells.length) = off + i by omega] at this
          · cases h
        · cases h

theorem Z8x {v : Value} (h : ∀ cs, v ≠ .agg cs) : v.cells.toList = [v] := by
  cases v <;> first | rfl | exact absurd rfl (h _)

theorem Ze9 {n : Nat} {t : TypeId} {sh : Sh} {v : Value} {d : DataW H} {ps : List MemPlace} {b : Nat} (hs : shB P n t = some sh) (hok : Value.okWide P w .any b t v) (h : DataW.Trod enc P w base spare held t v d ps) :
    ∃ p, Fit sh p ∧ PR (fun g => g < w.heap.size) w p v := by
  obtain ⟨fuel, h⟩ := h; obtain ⟨p, h1, h2, h3⟩ := (Z4a n).1 t sh hs fuel _ _ h; have flat : (∀ cs, v ≠ .agg cs) → p.cells = [p] → ∃ p, Fit sh p ∧ PR (fun g => g < w.heap.size) w p v := by
    intro hv hp; rw [Z8x hv, hp] at h3; exact ⟨p, h1, h3 0 (by simp)⟩
  cases n with
  | zero => simp [shB] at hs
  | succ n =>
    unfold shB at hs; unfold Value.okWide at hok
    split at hs
    · rename_i ht
      injection hs with hs; subst hs
      rw [ht] at hok; simp only [Cell.okWide, ht] at hok; exact flat (fun cs e => by subst e; simp [Cell.ok, ht] at hok) (by cases h1; rfl)
    · rename_i k ht
      injection hs with hs; subst hs
      rw [ht] at hok; simp only [Cell.okWide, ht] at hok; exact flat (fun cs e => by subst e; simp [Cell.ok, ht] at hok) (by cases h1; rfl)
    · rename_i ht
      injection hs with hs; subst hs
      rw [ht] at hok; simp only [Cell.okWide, ht] at hok; exact flat (fun cs e => by subst e; simp [Cell.ok, ht] at hok) (by cases h1; rfl)
    · rename_i e ht
      split at hs
      · split at hs
        · injection hs with hs; subst hs
          rw [ht] at hok; simp only [Cell.okWide, ht] at hok; exact flat (fun cs e => by subst e; simp [Cell.ok, ht] at hok) (by cases h1; rfl)
        · cases hs
      · cases hs
    · rename_i fs ht
      rw [ht] at hok; obtain ⟨cs, rfl, _, _⟩ := hok; simp only [Option.map_eq_some_iff] at hs; obtain ⟨ss, _, rfl⟩ := hs
      cases h1 with
      | agg _ l hl hf =>
        refine ⟨.agg l, .agg ss l hl hf, ?_⟩; obtain ⟨cs⟩ := cs; exact .agg l cs h2 (fun i hi => h3 i (by rw [← h2]; exact hi))
    · cases hs

def Fits : List Sh → List PV → Prop
  | [], [] => True
  | s :: ss, p :: ps => Fit s p ∧ Fits ss ps
  | _, _ => False

theorem Fits.zero {l : List PV} (h : Fits [] l) : l = [] := by cases l with
  | nil => rfl
  | cons p l => exact h.elim
theorem Fits.cons {s : Sh} {ss : List Sh} {l : List PV} (h : Fits (s :: ss) l) : ∃ p ps, l = p :: ps ∧ Fit s p ∧ Fits ss ps := by cases l with
  | nil => exact h.elim
  | cons p l => exact ⟨p, l, rfl, h⟩

theorem Z8c {n : Nat} {b : Nat} : ∀ {ts : List TypeId} {vs : List Value} {ds : List (DataW H)} {ps : List MemPlace} {shs : List Sh}, DataW.TrodAll enc P w base spare held ts vs ds ps → ts.map (shB P n) = shs.map some →
    (∀ (j : Nat) t v, ts[j]? = some t → vs[j]? = some v → Value.okWide P w .any b t v) →
    ∃ pv : List PV, Fits shs pv ∧ pv.length = vs.length ∧ ∀ i, i < pv.length → PR (fun g => g < w.heap.size) w (pv.getD i default) (vs.getD i undef)
  | [], vs, ds, ps, shs, h, hs, _ => by
    obtain ⟨rfl, rfl, rfl⟩ := trodAll_nil h
    cases shs with
    | nil => exact ⟨[], trivial, rfl, fun i hi => absurd hi (Nat.not_lt_zero i)⟩
    | cons s ss => simp at hs
  | t :: ts, vs, ds, ps, shs, h, hs, hok => by
    obtain ⟨v, vs1, d, ds1, a, b', rfl, rfl, rfl, h1, h2⟩ := trodAll_cons h
    cases shs with
    | nil => simp at hs
    | cons s ss =>
      simp only [List.map_cons, List.cons.injEq] at hs; obtain ⟨p, f1, f2⟩ := Ze9 hs.1 (hok 0 t v rfl rfl) h1; obtain ⟨pv, g1, g2, g3⟩ := Z8c h2 hs.2 (fun j t v hj hv => hok (j + 1) t v (by simpa using hj) (by simpa using hv)); refine ⟨p :: pv, ⟨f1, g1⟩, by simp [g2], fun i hi => ?_⟩
      cases i with
      | zero => exact f2
      | succ i => exact g3 i (by simpa using hi)

theorem Z2g {W W' : World} (hl : laidOutB P = true) (hb : Below W.heap.size W W') : ∀ {ts : List TypeId} {vs : List Value} {ds : List (DataW H)} {ps : List MemPlace}, DataW.TrodAll enc P W 0 (fun _ => true) true ts vs ds ps →
    ts.all (fun t => P.readableRec t && decide (t < P.types.size)) = true → (∀ x ∈ ps, x.block < W.heap.size) → DataW.TrodAll enc P W' 0 (fun b => decide (b < W.heap.size)) true ts vs ds ps
  | [], vs, ds, ps, h, _, _ => by
    obtain ⟨rfl, rfl, rfl⟩ := trodAll_nil h
    rfl
  | t :: ts, vs, ds, ps, h, hr, hlt => by
    obtain ⟨v, vs1, d, ds1, a, b, rfl, rfl, rfl, h1, h2⟩ := trodAll_cons h; simp only [List.all_cons, Bool.and_eq_true, decide_eq_true_eq] at hr; exact ⟨a, b, Below.trod hl hr.1.1 hr.1.2 h1 hb (fun x hx => hlt x (by simp [hx])), Z2g hl hb h2 hr.2 (fun x hx => hlt x (by simp [hx])), rfl⟩

end
end Go.AM
