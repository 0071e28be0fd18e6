/-
  Texts of this claim, joined.
-/
import Derived.Test.YtpljmccnfmkmfaaJ3ed22fa5a97d
import Derived.Handed
import Derived.JoinedOf
import Derived.ProofKit
import Derived.Test.YtpljmccnfmkmfaaJad56ffc20c8f
import Derived.Test.YtpljmccnfmkmfaaJ07696536a398
import Derived.Test.YtpljmccnfmkmfaaJ77f17533d1a8
import Derived.Test.YtpljmccnfmkmfaaJ2bb9e99bf35e

set_option linter.unusedSimpArgs false
set_option maxRecDepth 100000
section
namespace Go.AM
open Go.RowKit Go.ChangeShapes

inductive Sh where
  | bool
  | int (k : IntKind)
  | str
  | sl (s : Sh)
  | agg (l : List Sh)
  deriving Inhabited

def Sh.cells : Sh → List Sh
  | .agg l => l
  | s => [s]

inductive Fit : Sh → PV → Prop
  | bool (b : Bool) : Fit .bool (.bool b)
  | int (k : IntKind) (n : Int) (h : InR k n) : Fit (.int k) (.int k n)
  | str (s : List UInt8) (h : s.length ≤ maxLen) : Fit .str (.str s)
  | sl (s : Sh) (l : List PV) (h : l.length ≤ maxLen) (hl : ∀ i, i < l.length → Fit s (l.getD i default)) : Fit (.sl s) (.sl l)
  | agg (ss : List Sh) (l : List PV) (h : l.length = ss.length) (hl : ∀ i, i < l.length → Fit (ss.getD i default) (l.getD i default)) : Fit (.agg ss) (.agg l)

mutual
def shB (P : Program) : Nat → TypeId → Option Sh
  | 0, _ => none
  | n + 1, t => match P.underlying t with
    | some .bool => some .bool
    | some (.int k) => some (.int k)
    | some .string => some .str
    | some (.slice e) => match shB P n e with
      | some s => if 0 < P.cellsOf e then some (.sl s) else none
      | none => none
    | some (.struct fs) => (shL P n (P.cellsOf t) fs.toList 0).map .agg
    | _ => none
def shL (P : Program) : Nat → Nat → List Field → Nat → Option (List Sh)
  | 0, _, _, _ => none
  | _ + 1, total, [], off => if off = total then some [] else none
  | n + 1, total, f :: fs, off => if f.offset = off then (match shB P n f.type, shL P n total fs (off + P.cellsOf f.type) with
    | some s, some r => some (s.cells ++ r)
    | _, _ => none) else none
end

theorem Fit.cells {s : Sh} {p : PV} (h : Fit s p) : p.cells.length = s.cells.length ∧ ∀ i, i < p.cells.length → Fit (s.cells.getD i default) (p.cells.getD i default) := by
  have one : ∀ (i : Nat) (s : Sh) (p : PV), Fit s p → i < [p].length → Fit ([s].getD i default) ([p].getD i default) := by
    intro i s p h hi; have : i = 0 := by simpa using hi
    subst this; exact h
  cases h with
  | bool b => exact ⟨rfl, fun i hi => one i _ _ (.bool b) hi⟩
  | int k n hn => exact ⟨rfl, fun i hi => one i _ _ (.int k n hn) hi⟩
  | str l hl => exact ⟨rfl, fun i hi => one i _ _ (.str l hl) hi⟩
  | sl s l h1 h2 => exact ⟨rfl, fun i hi => one i _ _ (.sl s l h1 h2) hi⟩
  | agg ss l h1 h2 => exact ⟨h1, h2⟩

theorem Z5g {α : Type} [Inhabited α] {Q : Nat → α → Prop} : ∀ (n : Nat), (∀ i, i < n → ∃ p, Q i p) → ∃ l : List α, l.length = n ∧ ∀ i, i < n → Q i (l.getD i default)
  | 0, _ => ⟨[], rfl, fun i hi => absurd hi (Nat.not_lt_zero i)⟩
  | n + 1, h => by
    obtain ⟨l, h1, h2⟩ := Z5g n (fun i hi => h i (by omega)); obtain ⟨p, hp⟩ := h n (by omega); refine ⟨l ++ [p], by simp [h1], fun i hi => ?_⟩; by_cases hn : i < n
    · have := h2 i hn
      rw [List.getD_eq_getElem?_getD] at this ⊢
      rwa [List.getElem?_append_left (by omega)]
    · have : i = n := by omega
      subst this; rw [List.getD_eq_getElem?_getD, List.getElem?_append_right (by omega)]
      simpa [h1] using hp

section
variable {H : Type} {enc : TypeId × Value → H} {P : Program} {w : World} {base : Nat} {spare : Nat → Bool} {held : Bool}

def FitC (w : World) (sh : Sh) (cs : List Value) : Prop :=
  ∃ p, Fit sh p ∧ p.cells.length = cs.length ∧ ∀ i, i < cs.length → PR (fun g => g < w.heap.size) w (p.cells.getD i default) (cs.getD i undef)

theorem FitC.one {sh : Sh} {p : PV} {v : Value} (h : Fit sh p) (hc : p.cells = [p]) (hr : PR (fun g => g < w.heap.size) w p v) : FitC w sh [v] :=
  ⟨p, h, by rw [hc]; rfl, fun i hi => by
    have : i = 0 := by simpa using hi
    subst this; rw [hc]; exact hr⟩

theorem Zdo {k : IntKind} {n : Int} (h : (Lit.int k n).wf = true) : InR k n := by
  simp only [Lit.wf, Bool.and_eq_true, decide_eq_true_eq] at h
  cases k <;> simpa [InR, IntKind.min, IntKind.max, IntKind.signed, IntKind.bits] using h

theorem Z4i {α : Type} {cs : List α} {off k : Nat} (i : Nat) (hi : i < k) (d : α) : ((cs.drop off).take k).getD i d = cs.getD (off + i) d := by
  simp only [List.getD_eq_getElem?_getD, List.getElem?_take, hi, if_true, List.getElem?_drop]

theorem cells?_get {a : Addr} {n : Nat} {cs : List Value} (h : w.cells? base a n = some cs) : cs.length = n ∧ ∀ j, j < n → w.cell? (a.add j) = some (cs.getD j undef) := by
  unfold World.cells? at h
  split at h
  · have hl := mapM_some_length h
    rw [List.length_range] at hl; refine ⟨hl, fun j hj => ?_⟩; have := mapM_some_get h j j (by simp [hj]); rw [this, List.getD_eq_getElem?_getD, List.getElem?_eq_getElem (by omega)]; rfl
  · cases h

theorem cell?_some {a : Addr} {v : Value} (h : w.cell? a = some v) : ∃ cur E fz, w.heap[a.block]? = some (.cells cur E fz) ∧ a.spot = none ∧ cur[a.off]? = some v := by
  unfold World.cell? at h
  split at h
  · rename_i c E fz hb
    split at h
    · cases h
    · rename_i hs
      exact ⟨c, E, fz, hb, by simpa using hs, h⟩
  · cases h

theorem Z7k (a : Addr) (n : Nat) : (a.add n).off = a.off + n ∧ (a.add n).block = a.block := by
  unfold Addr.add
  split
  · subst_vars; exact ⟨rfl, rfl⟩
  · exact ⟨rfl, rfl⟩

theorem Z5n : ∀ (n : Nat), (∀ (t : TypeId) (sh : Sh), shB P n t = some sh → ∀ (fuel : Nat) (cs : List Value) (x : DataW H × List MemPlace), DataW.trod enc P w base spare held fuel t cs = some x → FitC w sh cs) ∧
    (∀ (total : Nat) (fs : List Field) (off : Nat) (ss : List Sh), shL P n total fs off = some ss → ∀ cs : List Value, cs.length = total →
      (∀ f ∈ fs, ∃ fuel x, DataW.trod enc P w base spare held fuel f.type ((cs.drop f.offset).take (P.cellsOf f.type)) = some x) →
      ∃ ps : List PV, ps.length = ss.length ∧ off + ps.length = total ∧ (∀ i, i < ps.length → Fit (ss.getD i default) (ps.getD i default)) ∧
        ∀ i, i < ps.length → PR (fun g => g < w.heap.size) w (ps.getD i default) (cs.getD (off + i) undef))
  | 0 => ⟨fun t sh h => by simp [shB] at h, fun total fs off ss h => by simp [shL] at h⟩
  | n + 1 => by
    obtain ⟨ih1, ih2⟩ := Z5n n; refine ⟨fun t sh h fuel cs x hx => ?_, fun total fs off ss h cs hcs hf => ?_⟩
    · unfold shB at h
      split at h
      · rename_i ht
        injection h with h; subst h
        obtain ⟨b, rfl, _⟩ := DataW.trod_bool ht hx; exact .one (.bool b) rfl (.bool b)
      · rename_i k ht
        injection h with h; subst h
        obtain ⟨m, rfl, _, hw⟩ := DataW.trod_int ht hx; exact .one (.int k m (Zdo hw)) rfl (.int k m)
      · rename_i ht
        injection h with h; subst h
        obtain ⟨s, rfl, _, hs⟩ := DataW.trod_string ht hx; exact .one (.str s.data.toList (by simpa using hs)) rfl (.str s)
      · rename_i e ht
        split at h
        · rename_i s hs
          split at h
          · rename_i hpos
            injection h with h; subst h
            rcases DataW.trod_slice ht hx with ⟨rfl, _⟩ | ⟨a, len, cap, elems, rest, m, _, rfl, _, _, hl, hm, hlen, hel, _, _⟩
            · exact .one (.sl s [] (Nat.zero_le _) (fun i hi => absurd hi (Nat.not_lt_zero i))) rfl (.sl0 none 0 (fun _ => rfl))
            · have each : ∀ i, i < len → ∃ p : PV, ∃ ci, w.cells? base (a.add (i * P.cellsOf e)) (P.cellsOf e) = some ci ∧ Fit s p ∧ p.cells.length = P.cellsOf e ∧
                  ∀ j, j < P.cellsOf e → PR (fun g => g < w.heap.size) w (p.cells.getD j default) (ci.getD j undef) := by
                intro i hi; have h1 := hel i hi; rw [List.getElem?_eq_getElem (by omega), Option.bind_eq_some_iff] at h1; obtain ⟨ci, h2, h3⟩ := h1; obtain ⟨p, f1, f2, f3⟩ := ih1 e s hs m ci _ h3; have hcl := (cells?_get h2).1; exact ⟨p, ci, h2, f1, by omega, fun j hj => f3 j (by omega)⟩
              obtain ⟨l, hll, hq⟩ := Z5g len each; refine .one (.sl s l (by omega) (fun i hi => by obtain ⟨ci, _, hf, _⟩ := hq i (by omega); exact hf)) rfl ?_; rw [← hll]; by_cases hz : l = []
              · subst hz; exact .sl0 _ _ (fun h => by cases h)
              · have hpl : 0 < len := by rw [← hll]; exact List.length_pos_iff.2 hz
                have cell : ∀ i j, i < len → j < P.cellsOf e → ∃ v, w.cell? ((a.add (i * P.cellsOf e)).add j) = some v ∧ PR (fun g => g < w.heap.size) w (((l.getD i default).cells).getD j default) v := by
                  intro i j hi hj; obtain ⟨ci, h2, _, _, h3⟩ := hq i hi; exact ⟨_, (cells?_get h2).2 j hj, h3 j hj⟩
                obtain ⟨v0, hv0, _⟩ := cell 0 0 hpl hpos; rw [Nat.zero_mul] at hv0; obtain ⟨cur, E, fz, hb, hsp, _⟩ := cell?_some hv0; obtain ⟨g, off, spot⟩ := a; have hsp : spot = none := by simpa [Addr.add] using hsp
                subst hsp; have hb : w.heap[g]? = some (.cells cur E fz) := by simpa [Addr.add] using hb
                have pos : ∀ i j, i < len → j < P.cellsOf e → ∃ v, cur[off + (i * P.cellsOf e + j)]? = some v ∧ PR (fun g => g < w.heap.size) w (((l.getD i default).cells).getD j default) v := by
                  intro i j hi hj; obtain ⟨v, h1, h2⟩ := cell i j hi hj; obtain ⟨cur', E', fz', hb', _, hv⟩ := cell?_some h1; rw [(Z7k _ _).2, (Z7k _ _).2] at hb'; rw [hb] at hb'
                  injection hb' with hb'; injection hb' with hb' _ _
                  subst hb'; rw [(Z7k _ _).1, (Z7k _ _).1] at hv; exact ⟨v, by rw [← hv]; congr 1; show _ = off + _ + _; omega, h2⟩
                refine .sl l (P.cellsOf e) g off cap cur E fz (fun k => (cur[off + k]?).getD undef) hz (Array.getElem?_eq_some_iff.1 hb).1 hb (by omega) (fun x hx => ?_) (fun k hk => ?_) (fun i j hi hj => ?_)
                · obtain ⟨i, hi, rfl⟩ := List.getElem_of_mem hx
                  obtain ⟨ci, _, _, h4, _⟩ := hq i (by omega)
                  rwa [List.getD_eq_getElem?_getD, List.getElem?_eq_getElem hi] at h4
                · have hdm : k = k / P.cellsOf e * P.cellsOf e + k % P.cellsOf e := by rw [Nat.mul_comm]; exact (Nat.div_add_mod k _).symm
                  obtain ⟨v, hv, _⟩ := pos (k / P.cellsOf e) (k % P.cellsOf e) (Nat.div_lt_of_lt_mul (by rw [Nat.mul_comm, ← hll]; exact hk)) (Nat.mod_lt _ hpos); rw [← hdm] at hv; rw [hv]; rfl
                · obtain ⟨v, hv, hr⟩ := pos i j (by omega) hj
                  rw [hv]; exact hr
          · cases h
        · cases h
      · rename_i fs ht
        simp only [Option.map_eq_some_iff] at h; obtain ⟨ss, hss, rfl⟩ := h; obtain ⟨xs, m, _, _, hlen, hxl, hf⟩ := DataW.trod_struct ht hx; obtain ⟨ps, h1, h2, h3, h4⟩ := ih2 _ _ _ _ hss cs hlen (fun f hm => by
          obtain ⟨i, hi, rfl⟩ := List.getElem_of_mem hm; have := hf i fs.toList[i] (by rw [← Array.getElem?_toList, List.getElem?_eq_getElem hi]); rw [List.getElem?_eq_getElem (by rw [hxl]; simpa using hi)] at this; exact ⟨m, _, this⟩)
        refine ⟨.agg ps, .agg ss ps h1 h3, by show ps.length = _; omega, fun i hi => ?_⟩; have := h4 i (by omega)
        rwa [Nat.zero_add] at this
      · cases h
    · cases fs with
      | nil =>
        simp only [shL] at h
        split at h
        · rename_i he
          injection h with h; subst h
          exact ⟨[], rfl, by simpa using he, fun i hi => absurd hi (Nat.not_lt_zero i), fun i hi => absurd hi (Nat.not_lt_zero i)⟩
        · cases h
      | cons f fs =>
        simp only [shL] at h
        split at h
        · rename_i ho
          split at h
          · rename_i s r hs hr
            injection h with h; subst h
            obtain ⟨fuel, x, hx⟩ := hf f (by simp); rw [ho] at hx; obtain ⟨p, f1, f2, f3⟩ := ih1 _ _ hs _ _ _ hx; obtain ⟨ps, g1, g2, g3, g4⟩ := ih2 _ _ _ _ hr cs hcs (fun f' hf' => hf f' (by simp [hf'])); have hl : ((cs.drop off).take (P.cellsOf f.type)).length = P.cellsOf f.type := by simp only [List.length_take, List.length_drop]; omega
            have hpl : p.cells.length = P.cellsOf f.type := by omega
            obtain ⟨c1, c2⟩ := f1.cells; refine ⟨p.cells ++ ps, by simp [c1, g1], by simp only [List.length_append]; omega, fun i hi => ?_, fun i hi => ?_⟩
            · by_cases hlt : i < p.cells.length
              · have := c2 i hlt
                simp only [List.getD_eq_getElem?_getD] at this ⊢
                rwa [List.getElem?_append_left (by omega), List.getElem?_append_left hlt]
              · have := g3 (i - p.cells.length) (by simp only [List.length_append] at hi; omega)
                simp only [List.getD_eq_getElem?_getD] at this ⊢
                rwa [List.getElem?_append_right (by omega), List.getElem?_append_right (by omega), ← c1]
            · by_cases hlt : i < p.cells.length
              · have := f3 i (by omega)
                rw [Z4i i (by omega)] at this; rw [show (p.cells ++ ps).getD i default = p.cells.getD i default by simp only [List.getD_eq_getElem?_getD]; rw [List.getElem?_append_left hlt]]; exact this
              · have := g4 (i - p.cells.length) (by simp only [List.length_append] at hi; omega)
                rw [show (p.cells ++ ps).getD i default = ps.getD (i - p.cells.length) default by simp only [List.getD_eq_getElem?_getD]; rw [List.getElem?_append_right (by omega)]]
                rwa [show off + P.cellsOf f.type + (i - p.cells.length) = off + i by omega] at this
          · cases h
        · cases h

theorem Zbq {v : Value} (h : ∀ cs, v ≠ .agg cs) : v.cells.toList = [v] := by
  cases v <;> first | rfl | exact absurd rfl (h _)

theorem Zjn {n : Nat} {t : TypeId} {sh : Sh} {v : Value} {d : DataW H} {ps : List MemPlace} {b : Nat} (hs : shB P n t = some sh) (hok : Value.okWide P w .any b t v) (h : DataW.Trod enc P w base spare held t v d ps) :
    ∃ p, Fit sh p ∧ PR (fun g => g < w.heap.size) w p v := by
  obtain ⟨fuel, h⟩ := h; obtain ⟨p, h1, h2, h3⟩ := (Z5n n).1 t sh hs fuel _ _ h; have flat : (∀ cs, v ≠ .agg cs) → p.cells = [p] → ∃ p, Fit sh p ∧ PR (fun g => g < w.heap.size) w p v := by
    intro hv hp; rw [Zbq hv, hp] at h3; exact ⟨p, h1, h3 0 (by simp)⟩
  cases n with
  | zero => simp [shB] at hs
  | succ n =>
    unfold shB at hs; unfold Value.okWide at hok
    split at hs
    · rename_i ht
      injection hs with hs; subst hs
      rw [ht] at hok; simp only [Cell.okWide, ht] at hok; exact flat (fun cs e => by subst e; simp [Cell.ok, ht] at hok) (by cases h1; rfl)
    · rename_i k ht
      injection hs with hs; subst hs
      rw [ht] at hok; simp only [Cell.okWide, ht] at hok; exact flat (fun cs e => by subst e; simp [Cell.ok, ht] at hok) (by cases h1; rfl)
    · rename_i ht
      injection hs with hs; subst hs
      rw [ht] at hok; simp only [Cell.okWide, ht] at hok; exact flat (fun cs e => by subst e; simp [Cell.ok, ht] at hok) (by cases h1; rfl)
    · rename_i e ht
      split at hs
      · split at hs
        · injection hs with hs; subst hs
          rw [ht] at hok; simp only [Cell.okWide, ht] at hok; exact flat (fun cs e => by subst e; simp [Cell.ok, ht] at hok) (by cases h1; rfl)
        · cases hs
      · cases hs
    · rename_i fs ht
      rw [ht] at hok; obtain ⟨cs, rfl, _, _⟩ := hok; simp only [Option.map_eq_some_iff] at hs; obtain ⟨ss, _, rfl⟩ := hs
      cases h1 with
      | agg _ l hl hf =>
        refine ⟨.agg l, .agg ss l hl hf, ?_⟩; obtain ⟨cs⟩ := cs; exact .agg l cs h2 (fun i hi => h3 i (by rw [← h2]; exact hi))
    · cases hs

def Fits : List Sh → List PV → Prop
  | [], [] => True
  | s :: ss, p :: ps => Fit s p ∧ Fits ss ps
  | _, _ => False

theorem Fits.zero {l : List PV} (h : Fits [] l) : l = [] := by cases l with
  | nil => rfl
  | cons p l => exact h.elim
theorem Fits.cons {s : Sh} {ss : List Sh} {l : List PV} (h : Fits (s :: ss) l) : ∃ p ps, l = p :: ps ∧ Fit s p ∧ Fits ss ps := by cases l with
  | nil => exact h.elim
  | cons p l => exact ⟨p, l, rfl, h⟩

theorem Zav {n : Nat} {b : Nat} : ∀ {ts : List TypeId} {vs : List Value} {ds : List (DataW H)} {ps : List MemPlace} {shs : List Sh}, DataW.TrodAll enc P w base spare held ts vs ds ps → ts.map (shB P n) = shs.map some →
    (∀ (j : Nat) t v, ts[j]? = some t → vs[j]? = some v → Value.okWide P w .any b t v) →
    ∃ pv : List PV, Fits shs pv ∧ pv.length = vs.length ∧ ∀ i, i < pv.length → PR (fun g => g < w.heap.size) w (pv.getD i default) (vs.getD i undef)
  | [], vs, ds, ps, shs, h, hs, _ => by
    obtain ⟨rfl, rfl, rfl⟩ := trodAll_nil h
    cases shs with
    | nil => exact ⟨[], trivial, rfl, fun i hi => absurd hi (Nat.not_lt_zero i)⟩
    | cons s ss => simp at hs
  | t :: ts, vs, ds, ps, shs, h, hs, hok => by
    obtain ⟨v, vs1, d, ds1, a, b', rfl, rfl, rfl, h1, h2⟩ := trodAll_cons h
    cases shs with
    | nil => simp at hs
    | cons s ss =>
      simp only [List.map_cons, List.cons.injEq] at hs; obtain ⟨p, f1, f2⟩ := Zjn hs.1 (hok 0 t v rfl rfl) h1; obtain ⟨pv, g1, g2, g3⟩ := Zav h2 hs.2 (fun j t v hj hv => hok (j + 1) t v (by simpa using hj) (by simpa using hv)); refine ⟨p :: pv, ⟨f1, g1⟩, by simp [g2], fun i hi => ?_⟩
      cases i with
      | zero => exact f2
      | succ i => exact g3 i (by simpa using hi)

theorem Z39 {W W' : World} (hl : laidOutB P = true) (hb : Below W.heap.size W W') : ∀ {ts : List TypeId} {vs : List Value} {ds : List (DataW H)} {ps : List MemPlace}, DataW.TrodAll enc P W 0 (fun _ => true) true ts vs ds ps →
    ts.all (fun t => P.readableRec t && decide (t < P.types.size)) = true → (∀ x ∈ ps, x.block < W.heap.size) → DataW.TrodAll enc P W' 0 (fun b => decide (b < W.heap.size)) true ts vs ds ps
  | [], vs, ds, ps, h, _, _ => by
    obtain ⟨rfl, rfl, rfl⟩ := trodAll_nil h
    rfl
  | t :: ts, vs, ds, ps, h, hr, hlt => by
    obtain ⟨v, vs1, d, ds1, a, b, rfl, rfl, rfl, h1, h2⟩ := trodAll_cons h; simp only [List.all_cons, Bool.and_eq_true, decide_eq_true_eq] at hr; exact ⟨a, b, Below.trod hl hr.1.1 hr.1.2 h1 hb (fun x hx => hlt x (by simp [hx])), Z39 hl hb h2 hr.2 (fun x hx => hlt x (by simp [hx])), rfl⟩

theorem lift {C : Checked} {os : Os} {f : FuncId} {fn : Func} {s : ChangeSpec} {conds : List PathCond} {fresh handsOn : Bool} {shs : List Sh} {tb : TypeId}
    (own : ownKnob C.prog.godebug = none) (laid : laidOutB C.prog = true) (started : os.Started) (noInit : C.prog.inits.idxOf? f = none) (hfn : C.prog.funcs[f]? = some fn)
    (witness : ∃ (w : World) (tape : Tape) (i : Input), w.os = os ∧ (w.forCall tape i).Shaped C.prog ∧ i.vars = [] ∧ Input.okWide C.prog (w.forCall tape i) .any w.heap.size f i ∧
      s.pre6 enc C.prog fn conds false (w.forCall tape i).memory i.args ∧ ({} : Assume).holds C.prog (lone (Frame.enter C.prog f i.args .normal) [] (w.forCall tape i)))
    (hsh : fn.params.toList.map (shB C.prog 9) = shs.map some) (hread : fn.params.toList.all (fun t => C.prog.readableRec t && decide (t < C.prog.types.size)) = true)
    (hres : fn.resultTypes = #[tb]) (hb : C.prog.underlying tb = some .bool) (hvars : s.vars = [])
    (hs : ∀ ds : List (DataW H), ds.length = fn.params.toList.length → s.fn H (ds ++ []) = { results := [.lit (.bool true)], args := ds })
    (h : ∀ pv, Fits shs pv → PFn C.prog f pv [.bool true]) :
    ReturnsInHanded {} C os f .any (s.pre6 enc C.prog fn conds false) (s.post enc C.prog fn false fresh handsOn false) := by
  refine returnsInHanded_of_change own started noInit hfn witness ?_; intro W base args ds gs before hval hW _ _; have hW' := hW; obtain ⟨p, q, hA, hV, hpq, _, _⟩ := hW; rw [hvars] at hV; obtain ⟨rfl, rfl⟩ := trodVars_none hV; rw [List.append_nil] at hpq; subst hpq; obtain ⟨pv, k1, k2, k3⟩ := Zav (ts := fn.params.toList) hA hsh (fun j t v hj hv => hval j t v (by rw [← Array.getElem?_toList]; exact hj) (by rw [← Array.getElem?_toList]; exact hv)); have hc := (h pv k1).2 (fun g => g < W.heap.size) W args.toList (fun _ hg => hg) k2 (fun i hi => k3 i hi); refine hc.mono ?_; rintro e W' ⟨cv, I', rfl, hg, _, _, hv⟩; have hcv : cv = .bool true := by
    cases hv with
    | p _ _ h => cases h; rfl
  subst hcv; have hbel : Below W.heap.size W W' := ⟨hg.os, hg.tape, hg.output, hg.size, fun k hk => hg.block k hk (by simp)⟩; have hlen : ds.length = fn.params.toList.length := by
    have : ∀ {ts : List TypeId} {vs : List Value} {ds : List (DataW H)} {ps : List MemPlace}, DataW.TrodAll enc C.prog W 0 (fun _ => true) true ts vs ds ps → ds.length = ts.length := by
      intro ts
      induction ts with
      | nil => intro vs ds ps h; obtain ⟨rfl, rfl, rfl⟩ := trodAll_nil h; rfl
      | cons t ts ih => intro vs ds ps h; obtain ⟨v, vs1, d, ds1, a, b, rfl, rfl, rfl, _, h2⟩ := trodAll_cons h; simp [ih h2]
    exact this hA
  have hlt : ∀ x ∈ before, x.block < W.heap.size := fun x hx => hW'.lt x hx
  refine ⟨_, rfl, ds, [], before, [], before, [], hW', ?_, ?_, ?_, hbel.frame _, fun h => by cases h⟩
  · rw [hs ds hlen, hres]
    exact trodAll_mk1 (shut_bool hb true)
  · rw [hs ds hlen]
    exact Z39 laid hbel hA hread hlt
  · rw [hs ds hlen, hvars]; rfl
end
end Go.AM
end

section
namespace Go.Proofs.Ytpljmccnfmkmfaa
open Go Go.AM

theorem Valid.ne' {q : Int} {ws : List (List UInt8)} (hv : Valid q ws) : ∀ x ∈ ws, x ≠ [] := fun x hx => by
  obtain ⟨j, hj, rfl⟩ := List.getElem_of_mem hx; have := hv.ne j hj
  rwa [List.getD_eq_getElem?_getD, List.getElem?_eq_getElem hj, Option.getD_some] at this

abbrev OF := List UInt8 → Option (List UInt8)
def hitF (F : OF) (r w : List UInt8) : Prop := ∃ v, F r = some v ∧ leW v w
open Classical in
noncomputable def putF (F : OF) (r w : List UInt8) : OF := if hitF F r w then F else fun x => if x = r then some w else F x
def numW : List UInt8 → Nat
  | [] => 0
  | a :: w => (a.toNat + 1) * 257 ^ w.length + numW w
theorem Z9e : ∀ w : List UInt8, numW w < 257 ^ w.length
  | [] => by simp [numW]
  | a :: w => by
    have h1 := Z9e w; have h2 := a.toNat_lt; have h3 : (a.toNat + 1) * 257 ^ w.length ≤ 256 * 257 ^ w.length := Nat.mul_le_mul_right _ (by omega); unfold numW; rw [List.length_cons, Nat.pow_succ]; omega
theorem Zj3 (a : UInt8) (w : List UInt8) : 257 ^ w.length ≤ numW (a :: w) := by
  unfold numW; have : 1 * 257 ^ w.length ≤ (a.toNat + 1) * 257 ^ w.length := Nat.mul_le_mul_right _ (by omega); omega
theorem Zai : ∀ {a b : List UInt8}, a.length = b.length → bLt a b = true → numW a < numW b
  | [], [], _, h => by cases h
  | x :: a, y :: b, hl, h => by
    have hl' : a.length = b.length := by simpa using hl
    unfold numW; rw [hl']; rcases (Z0p x y a b).1 h with h1 | ⟨h1, h2⟩
    · have h3 := Z9e a
      rw [hl'] at h3; have h4 : (x.toNat + 1 + 1) * 257 ^ b.length ≤ (y.toNat + 1) * 257 ^ b.length := Nat.mul_le_mul_right _ (by omega); rw [Nat.add_mul (x.toNat + 1) 1, Nat.one_mul] at h4; omega
    · have := Zai hl' h2
      rw [h1]; omega
theorem Zah {a b : List UInt8} (h : ltW a b) : numW a < numW b := by
  rcases h with h | ⟨h1, h2⟩
  · match b, h with
    | y :: b, h =>
      have h1 := Z9e a; have h2 := Zj3 y b; have h3 : 257 ^ a.length ≤ 257 ^ b.length := Nat.pow_le_pow_right (by omega) (by rw [List.length_cons] at h; omega); omega
  · exact Zai h1 h2
structure FixF (ws : List (List UInt8)) (F : OF) : Prop where
  snd : ∀ x v, F x = some v → Pw ws v x
  fst : ∀ p ∈ fstL ws, hitF F p.1 p.2
  nxt : ∀ r w, F r = some w → r ≠ [] → w.length ≤ 4096 → ∀ p ∈ nxtL ws r w, hitF F p.1 p.2
theorem Zj8 (ws : List (List UInt8)) : (∃ w, MinP ws w) ∨ NoP ws := by
  by_cases h : ∃ v, Pw ws v [] ∧ v.length ≤ 4096
  · left
    obtain ⟨v, hv, hl⟩ := h; have key : ∀ n (v : List UInt8), numW v ≤ n → Pw ws v [] → v.length ≤ 4096 → ∃ w, MinP ws w := by
      intro n
      induction n with
      | zero =>
        intro v hn hv hl; refine ⟨v, hv, hl, fun u _ _ g => ?_⟩; have := Zah g; omega
      | succ n ih =>
        intro v hn hv hl; by_cases hu : ∃ u, Pw ws u [] ∧ u.length ≤ 4096 ∧ ltW u v
        · obtain ⟨u, h1, h2, h3⟩ := hu
          have := Zah h3; exact ih u (by omega) h1 h2
        · exact ⟨v, hv, hl, fun u h1 h2 g => hu ⟨u, h1, h2, g⟩⟩
    exact key _ v (Nat.le_refl _) hv hl
  · exact .inr fun v hv hl => h ⟨v, hv, hl⟩

def noAV : PV := .agg [.str [], .sl [], .sl []]
theorem r12d (q : Int) (ws : List (List UInt8)) (hc : Zc q ws = 0) (hr : ¬ Z24 ws []) : PFn Try.prog 12 [Z02 q ws] [noAV, .bool false, .int .i64 0] := by
  have hv := Z38 hc; have e1 := t45 q ws; rw [hc] at e1; have e2 := t47 q ws hv; rw [decide_eq_false (fun h => hr (Z2o.1 h))] at e2; unfold Z02 at e1 e2; refine PFn.of_body hΓ Try.func12 (by kernel_rfl) rfl (AWp.seq (Wd [] ?_)); simp -implicitDefEqProofs only [Try.ntmps12, Try.results12, Nat.reduceAdd, Nat.reduceSub, Z02, go_sem]; refine AWp.seq (Wd [] ?_); simp -implicitDefEqProofs only [go_sem]; refine Z4 e1 (.still rfl) ?_; simp -implicitDefEqProofs only [go_sem]; refine AWp.seq (Wd [] ?_); simp -implicitDefEqProofs only [go_sem]; refine Z4 e2 (.still rfl) ?_; simp -implicitDefEqProofs only [Bool.not_false, noAV, go_sem]
def zL (l : List Nat) : List Int := l.map Int.ofNat
theorem slV_z (l : List Nat) : slV l = .sl ((zL l).map (.int .i64)) := by
  unfold slV zL; rw [List.map_map]
  rfl
theorem Z9q {ws : List (List UInt8)} {q : Int} (hv : Valid q ws) (hg : Z5k ws = false) : ws.length ≤ 6 ∧ ∀ x ∈ ws, x.length ≤ 6 := by
  unfold Z5k at hg; simp only [Bool.or_eq_false_iff, Bool.and_eq_false_iff, decide_eq_false_iff_not, List.any_eq_false] at hg; refine ⟨by have := hv.len; omega, fun x hx => ?_⟩; obtain ⟨j, hj, rfl⟩ := List.getElem_of_mem hx; have h32 := hv.short j hj; rw [List.getD_eq_getElem?_getD, List.getElem?_eq_getElem hj, Option.getD_some] at h32; have := hg.1 _ hx; unfold Z14 at this; simp only [Bool.or_eq_true, Bool.and_eq_true, decide_eq_true_eq] at this; omega

theorem Z70 {ws : List (List UInt8)} (hn : ∀ x ∈ ws, x ≠ []) : ∀ {l : List Nat}, (∀ k ∈ l, k < ws.length) → l.length ≤ (spW ws l).length
  | [], _ => Nat.zero_le _
  | k :: l, h => by
    have := Z70 hn (l := l) fun i hi => h i (by simp [hi])
    have := List.length_pos_iff.2 (hn _ (Z1e (h k (by simp)))); rw [Z4o, List.length_append, List.length_cons]; omega
theorem Zkj {q : Int} {ws : List (List UInt8)} (hv : Valid q ws) (hg : Z5k ws = false) (hr : Z24 ws []) : ∃ w x y l, MinP ws w ∧ rdI ws w = x :: y :: l ∧ x ≠ y ∧ (∀ k ∈ x, k < ws.length) ∧ (∀ k ∈ y, k < ws.length) ∧ spW ws x = w ∧ spW ws y = w := by
  obtain ⟨h6, hl6⟩ := Z9q hv hg; have hb : ws.length * (6 + 1) * 6 ≤ 4096 := by
    have h3 : ws.length * (6 + 1) ≤ 6 * 7 := Nat.mul_le_mul_right _ h6; omega
  rcases Zj8 ws with ⟨w, hw⟩ | hn
  · obtain ⟨x, y, l, h1, h2, h3, h4, h5, h6⟩ := Z50 hv.ne' (hw.1.amb2 hv.ne')
    exact ⟨w, x, y, l, hw, h1, fun e => Z1a x (by rw [← e] at h2; exact h2), h3, h4, h5, h6⟩
  · obtain ⟨v, hv1, hv2⟩ := Z96 (Z11 hv) hl6 hb hr
    exact absurd hv2 (hn v hv1)


def Kn.ltr (a : Nat) : UInt8 := L16.getD a 0
def Kn.Alph (q : Nat) (w : List UInt8) : Prop := ∀ b ∈ w, ∃ a, a < q ∧ b = Kn.ltr a
theorem Zfg {P : List UInt8 → Prop} (h0 : P []) (h1 : ∀ w c, P w → P (w ++ [c])) : ∀ w, P w := by
  have key : ∀ n (w : List UInt8), w.length = n → P w := by
    intro n
    induction n with
    | zero => intro w h; rw [List.eq_nil_of_length_eq_zero h]; exact h0
    | succ n ih =>
      intro w h; have hl : n < w.length := by omega
      have e : w = w.take n ++ [w[n]] := by
        have := List.take_succ_eq_append_getElem hl; rw [← this, List.take_of_length_le (by omega)]
      rw [e]; exact h1 _ _ (ih _ (by rw [List.length_take]; omega))
  exact fun w => key _ w rfl
theorem Zdm (c : UInt8) : ∀ (l : List UInt8) (n : Nat), 0 ≤ ixB c l n → ∃ k : Nat, ixB c l n = ((n + k : Nat) : Int) ∧ l.getD k 0 = c
  | [], n, h => by simp [ixB] at h
  | a :: l, n, h => by
    unfold ixB at h ⊢
    cases hb : Nat.beq a.toNat c.toNat with
    | true =>
      rw [hb] at h; exact ⟨0, by simp, by simpa using UInt8.toNat_inj.1 (Nat.eq_of_beq_eq_true hb)⟩
    | false =>
      rw [hb] at h; obtain ⟨k, h1, h2⟩ := Zdm c l (n + 1) h; exact ⟨k + 1, by simp only [h1]; omega, by simpa using h2⟩
theorem Zkl {q : Int} {w : List UInt8} (h : Zf q w = 0) : Kn.Alph q.toNat w := fun b hb => by
  have hw : okW q w = true := by
    unfold Zf at h
    split at h
    · cases h
    · split at h
      · cases h
      · split at h
        · assumption
        · cases h
  have h1 := List.all_eq_true.1 hw b hb; unfold okB at h1; simp only [Bool.and_eq_true, decide_eq_true_eq] at h1; obtain ⟨k, h3, h4⟩ := Zdm b L16 0 h1.1; exact ⟨k, by omega, h4.symm⟩
theorem Z8n {x y : List UInt8} : ∀ {a b : List UInt8}, a.length = b.length → bLt a b = true → bLt (a ++ x) (b ++ y) = true
  | [], [], _, h => by cases h
  | u :: a, v :: b, hl, h => by
    rw [List.cons_append, List.cons_append, Z0p]; rcases (Z0p u v a b).1 h with h1 | ⟨h1, h2⟩
    · exact .inl h1
    · exact .inr ⟨h1, Z8n (by simpa using hl) h2⟩
theorem Z8m {x y : List UInt8} (h : bLt x y = true) : ∀ a : List UInt8, bLt (a ++ x) (a ++ y) = true
  | [] => h
  | u :: a => by rw [List.cons_append, List.cons_append, Z0p]; exact .inr ⟨rfl, Z8m h a⟩
theorem Zj9 {a b : Nat} (hb : b < 16) (h : a < b) : (Kn.ltr a).toNat < (Kn.ltr b).toNat := by
  have key : ∀ a : Fin 16, ∀ b : Fin 16, a.val < b.val → (L16.getD a.val 0).toNat < (L16.getD b.val 0).toNat := by decide
  exact key ⟨a, by omega⟩ ⟨b, hb⟩ h
def wnF (q : Nat) : Nat → Nat → List UInt8
  | 0, _ => []
  | f + 1, v => if v = 0 then [] else wnF q f ((v - 1) / q) ++ [Kn.ltr ((v - 1) % q)]
def wn (q v : Nat) : List UInt8 := wnF q v v
theorem Zgz {q : Nat} (hq : 0 < q) : ∀ (f g v : Nat), v ≤ f → v ≤ g → wnF q f v = wnF q g v
  | 0, 0, v, _, _ => rfl
  | 0, g + 1, v, h, _ => by
    have : v = 0 := by omega
    subst this; rfl
  | f + 1, 0, v, _, h => by
    have : v = 0 := by omega
    subst this; rfl
  | f + 1, g + 1, v, h1, h2 => by
    unfold wnF
    split
    · rfl
    · have h3 : (v - 1) / q ≤ v - 1 := Nat.div_le_self _ _
      rw [Zgz hq f g ((v - 1) / q) (by omega) (by omega)]
theorem Z8x (q : Nat) : wn q 0 = [] := rfl
theorem Z52 {q : Nat} (hq : 0 < q) (u b : Nat) (hb : b < q) : wn q (u * q + b + 1) = wn q u ++ [Kn.ltr b] := by
  have h1 : (u * q + b) / q = u := by
    rw [Nat.mul_comm, Nat.mul_add_div hq, Nat.div_eq_of_lt hb, Nat.add_zero]
  have h2 : (u * q + b) % q = b := by
    rw [Nat.mul_comm, Nat.mul_add_mod, Nat.mod_eq_of_lt hb]
  have e : wn q (u * q + b + 1) = wnF q (u * q + b) ((u * q + b) / q) ++ [Kn.ltr ((u * q + b) % q)] := by
    have e0 : ∀ v, wn q (v + 1) = if v + 1 = 0 then [] else wnF q v ((v + 1 - 1) / q) ++ [Kn.ltr ((v + 1 - 1) % q)] := fun v => rfl
    rw [e0, if_neg (by omega), Nat.add_sub_cancel]
  rw [e, h1, h2]; have h3 : u ≤ u * q := Nat.le_mul_of_pos_right _ hq; rw [Zgz hq (u * q + b) u u (by omega) (Nat.le_refl _)]
  rfl
theorem Z81 {q : Nat} (hq : 0 < q) (v : Nat) : v = 0 ∨ ∃ u b, b < q ∧ v = u * q + b + 1 ∧ u < v := by
  rcases Nat.eq_zero_or_pos v with h | h
  · exact .inl h
  · refine .inr ⟨(v - 1) / q, (v - 1) % q, Nat.mod_lt _ hq, ?_, ?_⟩
    · have := Nat.div_add_mod (v - 1) q
      rw [Nat.mul_comm] at this; omega
    · have := Nat.div_le_self (v - 1) q
      omega
theorem Zhy {q : Nat} (hq : 0 < q) : ∀ w : List UInt8, (∀ b ∈ w, ∃ a, a < q ∧ b = Kn.ltr a) → ∃ v, wn q v = w := by
  refine Zfg (P := fun w => (∀ b ∈ w, ∃ a, a < q ∧ b = Kn.ltr a) → ∃ v, wn q v = w) ?_ ?_
  · intro _; exact ⟨0, rfl⟩
  · intro w c ih h
    obtain ⟨u, hu⟩ := ih fun b hb => h b (List.mem_append_left _ hb)
    obtain ⟨a, ha, rfl⟩ := h c (by simp); exact ⟨u * q + a + 1, by rw [Z52 hq u a ha, hu]⟩
theorem Zmf {q : Nat} (hq : 0 < q) (hq16 : q ≤ 16) (u : Nat) : ∀ v, v < u → ltW (wn q v) (wn q u) := by
  induction u using Nat.strongRecOn with
  | _ u ih =>
    intro v hv; rcases Z81 hq u with h | ⟨u', b, hb, rfl, hu⟩
    · omega
    rcases Z81 hq v with h | ⟨v', c, hc, rfl, hv'⟩
    · subst h
      rw [Z52 hq _ _ hb]
      left
      rw [Z8x]; simp
    · rw [Z52 hq _ _ hb, Z52 hq _ _ hc]
      rcases Nat.lt_trichotomy v' u' with e | e | e
      · rcases ih u' hu v' e with h | ⟨h1, h2⟩
        · left; simp only [List.length_append, List.length_singleton]; omega
        · right
          exact ⟨by simp only [List.length_append, List.length_singleton]; omega, Z8n h1 h2⟩
      · subst e
        right
        refine ⟨by simp, Z8m ?_ _⟩; rw [Z0p]; exact .inl (Zj9 (by omega) (by omega))
      · have h5 : (u' + 1) * q ≤ v' * q := Nat.mul_le_mul_right _ e
        rw [Nat.add_mul, Nat.one_mul] at h5; omega
theorem Zc0 {q : Nat} (hq : 0 < q) (hq16 : q ≤ 16) {v u : Nat} (h : v ≤ u) : (wn q v).length ≤ (wn q u).length := by
  rcases Nat.lt_or_ge v u with h1 | h1
  · rcases Zmf hq hq16 u v h1 with h2 | ⟨h2, _⟩
    · omega
    · omega
  · have : v = u := by omega
    subst this; exact Nat.le_refl _
theorem Zeq {q : Nat} {ws : List (List UInt8)} (hv : Valid q ws) {w : List UInt8} (h : Amb2 ws w) : ∃ v, wn q v = w := by
  have hn : ∀ x ∈ ws, x ≠ [] := fun x hx => by
    obtain ⟨i, hi, rfl⟩ := List.getElem_of_mem hx; have := hv.ne i hi
    rwa [List.getD_eq_getElem?_getD, List.getElem?_eq_getElem hi, Option.getD_some] at this
  obtain ⟨x, _, _, _, _, hx, _, ex, _⟩ := Z50 hn h; have hq := hv.q2; refine Zhy (by omega) w fun b hb => ?_
  rw [← ex] at hb; unfold spW at hb; obtain ⟨y, hy, hby⟩ := List.mem_flatten.1 hb; obtain ⟨k, hk, rfl⟩ := List.mem_map.1 hy; have := Zkl (hv.word k (hx k hk)) b hby
  simpa using this

def LeA (ws : List (List UInt8)) (q n : Nat) (o : Option Nat) : Prop := match o with
  | some v => Amb2 ws (wn q v) ∧ (wn q v).length ≤ n ∧ ∀ u, u < v → ¬ Amb2 ws (wn q u)
  | none => ∀ u, (wn q u).length ≤ n → ¬ Amb2 ws (wn q u)
theorem leA (ws : List (List UInt8)) (q n : Nat) (hq : 0 < q) (hq16 : q ≤ 16) : ∃ o, LeA ws q n o := by
  by_cases h : ∃ u, (wn q u).length ≤ n ∧ Amb2 ws (wn q u)
  · have key : ∀ u, (wn q u).length ≤ n → Amb2 ws (wn q u) → ∃ v, LeA ws q n (some v) := by
      intro u
      induction u using Nat.strongRecOn with
      | _ u ih =>
        intro h1 h2; by_cases hj : ∃ j, j < u ∧ Amb2 ws (wn q j)
        · obtain ⟨j, hj, hw⟩ := hj
          exact ih j hj (Nat.le_trans (Zc0 hq hq16 (Nat.le_of_lt hj)) h1) hw
        · exact ⟨u, h2, h1, fun j hj' g => hj ⟨j, hj', g⟩⟩
    obtain ⟨u, h1, h2⟩ := h; obtain ⟨v, hv⟩ := key u h1 h2; exact ⟨some v, hv⟩
  · exact ⟨none, fun u h1 h2 => h ⟨u, h1, h2⟩⟩
theorem LeA.hit {ws : List (List UInt8)} {q n : Nat} {o : Option Nat} (h : LeA ws q n o) {v : Nat} (h1 : Amb2 ws (wn q v)) (h2 : (wn q v).length ≤ n) (h3 : ∀ u, u < v → ¬ Amb2 ws (wn q u)) : o = some v := by
  cases o with
  | none => exact absurd h1 (h v h2)
  | some u =>
    obtain ⟨g1, g2, g3⟩ := h; rcases Nat.lt_trichotomy u v with e | e | e
    · exact absurd g1 (h3 u e)
    · rw [e]
    · exact absurd h1 (g3 v e)
theorem LeA.miss {ws : List (List UInt8)} {q n : Nat} {o : Option Nat} (h : LeA ws q n o) (h1 : ∀ u, (wn q u).length ≤ n → ¬ Amb2 ws (wn q u)) : o = none := by
  cases o with
  | none => rfl
  | some u => exact absurd h.1 (h1 u h.2.1)
theorem LeA.of_min {q : Nat} {ws : List (List UInt8)} (hv : Valid q ws) (hd : ∀ i j, i < ws.length → j < ws.length → ws.getD i [] = ws.getD j [] → i = j) {w : List UInt8} (hw : MinP ws w) {n : Nat} (hn : n ≤ 4096) {o : Option Nat} (h : LeA ws q n o) :
    (w.length ≤ n ∧ ∃ v, o = some v ∧ wn q v = w) ∨ (n < w.length ∧ o = none) := by
  have hne : ∀ x ∈ ws, x ≠ [] := fun x hx => by
    obtain ⟨i, hi, rfl⟩ := List.getElem_of_mem hx; have := hv.ne i hi
    rwa [List.getD_eq_getElem?_getD, List.getElem?_eq_getElem hi, Option.getD_some] at this
  have hq2 := hv.q2; have hq16 := hv.q16; obtain ⟨v, e⟩ := Zeq hv (hw.1.amb2 hne); rcases Nat.lt_or_ge n w.length with hl | hl
  · refine .inr ⟨hl, h.miss fun u hu g => ?_⟩
    have := (hw.least hne hd g (by omega)).len; omega
  · refine .inl ⟨hl, v, h.hit (by rw [e]; exact hw.1.amb2 hne) (by rw [e]; exact hl) fun u hu g => ?_, e⟩
    have h1 := Zmf (q := q) (by omega) (by omega) v u hu; have h2 : (wn q u).length ≤ (wn q v).length := Zc0 (by omega) (by omega) (Nat.le_of_lt hu); rw [e] at h1 h2; exact hw.least hne hd g (by have := hw.2.1; omega) h1
theorem LeA.of_none {q : Nat} {ws : List (List UInt8)} (hne : ∀ x ∈ ws, x ≠ []) (hd : ∀ i j, i < ws.length → j < ws.length → ws.getD i [] = ws.getD j [] → i = j) (hr : ¬ Z24 ws []) {n : Nat} {o : Option Nat} (h : LeA ws q n o) : o = none := by
  refine h.miss fun u _ g => ?_
  obtain ⟨v, hv, _⟩ := Zep hne hd g; exact hr hv.reach

def cLv (q : Nat) : Nat → Nat
  | 0 => 0
  | k + 1 => cLv q k * q + 1
theorem Zec (q : Nat) : ∀ k, cLv q k + q ^ k = cLv q (k + 1)
  | 0 => by simp [cLv]
  | k + 1 => by
    have ih := Zec q k; have e : cLv q (k + 1 + 1) = cLv q (k + 1) * q + 1 := rfl; rw [e, ← ih, Nat.add_mul, Nat.pow_succ]; have e2 : cLv q k * q + 1 = cLv q k + q ^ k := ih.symm; omega
theorem Z88 {q : Nat} (hq : 0 < q) (k i a : Nat) (ha : a < q) : wn q (cLv q (k + 1) + (i * q + a)) = wn q (cLv q k + i) ++ [Kn.ltr a] := by
  have e2 : cLv q (k + 1) = cLv q k * q + 1 := rfl; rw [← Z52 hq _ _ ha, e2, Nat.add_mul]
  congr 1
  omega
theorem Z9i {q : Nat} (hq : 0 < q) : ∀ (k i : Nat), i < q ^ k → (wn q (cLv q k + i)).length = k
  | 0, i, h => by
    have : i = 0 := by simpa using h
    subst this; rfl
  | k + 1, i, h => by
    have h1 := Nat.div_add_mod i q; have h2 := Nat.mod_lt i hq; have h3 : i / q < q ^ k := by
      rw [Nat.pow_succ] at h; exact Nat.div_lt_of_lt_mul (by rw [Nat.mul_comm]; exact h)
    have e : i = i / q * q + i % q := by rw [Nat.mul_comm]; exact h1.symm
    rw [e, Z88 hq _ _ _ h2, List.length_append, Z9i hq k _ h3]
    rfl
theorem Zny {q : Nat} (hq : 0 < q) (hq16 : q ≤ 16) {k u : Nat} (h : cLv q (k + 1) ≤ u) : k + 1 ≤ (wn q u).length := by
  have h1 := Zc0 hq hq16 h; have h2 := Z9i hq (k + 1) 0 (Nat.pow_pos hq); rw [Nat.add_zero] at h2; omega
def lvlW (q k : Nat) : List (List UInt8) := (List.range (q ^ k)).map fun i => wn q (cLv q k + i)
def nxtW (q k m : Nat) : List (List UInt8) := (List.range m).map fun j => wn q (cLv q (k + 1) + j)
theorem Zd4 (q k : Nat) : nxtW q k (q ^ k * q) = lvlW q (k + 1) := by
  unfold nxtW lvlW; rw [Nat.pow_succ]
theorem Zd3 (q k m : Nat) : nxtW q k (m + 1) = nxtW q k m ++ [wn q (cLv q (k + 1) + m)] := by
  unfold nxtW; rw [List.range_succ, List.map_append]
  rfl
theorem Zga {q k i : Nat} (h : i < q ^ k) : ((lvlW q k).map PV.str).getD i default = .str (wn q (cLv q k + i)) := by
  unfold lvlW; rw [List.getD_eq_getElem?_getD, List.getElem?_map, List.getElem?_map, List.getElem?_range h]
  rfl
theorem Zal (q k : Nat) : (lvlW q k).length = q ^ k := by simp [lvlW]

set_option maxHeartbeats 1000000 in
theorem o14 {q n : Nat} {ws : List (List UInt8)} (hc : Zc q ws = 0) (hn : n ≤ 12) (hpow : q ^ n ≤ 65536) {o : Option Nat} (ho : LeA ws q n o)
    (h35 : ∀ w : List UInt8, w.length ≤ 12 → PFn Try.prog 35 [Z02 q ws, .str w] [.bool (decide (2 ≤ (rdI ws w).length))]) :
    PFn Try.prog 14 [Z02 q ws, .int .i64 n] [.str (match o with | some v => wn q v | none => []), .bool o.isSome, .int .i64 0] := by
  have hv := Z38 hc; have hq2 := hv.q2; have hq16 := hv.q16; have hq0 : 0 < q := by omega
  have hp : ∀ i, i ≤ n → q ^ i ≤ 65536 := fun i hi => Nat.le_trans (Nat.pow_le_pow_right hq0 hi) hpow
  have e1 := t45 (q : Int) ws; rw [hc] at e1; unfold Z02 at e1; have i1 : ¬ (n : Int) < 0 := by omega
  have i2 : ¬ (12 : Int) < (n : Int) := by omega
  refine PFn.of_body hΓ Try.func14 (by kernel_rfl) rfl (AWp.seq (Wd [] ?_)); simp -implicitDefEqProofs only [Try.ntmps14, Try.results14, Nat.reduceAdd, Nat.reduceSub, Z02, go_sem]; refine AWp.seq (Wd [] ?_); simp -implicitDefEqProofs only [go_sem]; refine Z4 e1 (.still rfl) ?_; simp -implicitDefEqProofs only [i1, i2, go_sem]; refine AWp.seq (Wd [] ?_); simp -implicitDefEqProofs only [go_sem]; refine AWp.seq (AWp.seq (Wd [] ?_)); simp -implicitDefEqProofs only [go_sem]; refine AWp.block ?_
  refine AWp.loopI (fun i : Nat => ⟨mkF 68 [(1, .p (.int .i64 n)), (2, .ptr 0 0), (7, .p (.int .i64 ((q ^ i : Nat) : Int))), (25, .p (.int .i64 n)), (26, .p (.int .i64 i))], [Z3 q ws]⟩)
    (fun i => i ≤ n) (fun i => n - i) 0 (by simp [go_sem, Z3]) (Nat.zero_le _) ?_
  intro i hi; have eM : ((q ^ i : Nat) : Int) * (q : Int) = ((q ^ (i + 1) : Nat) : Int) := by rw [Nat.pow_succ]; exact (Int.natCast_mul _ _).symm
  by_cases hlt : i < n
  · have hlt' : (i : Int) < (n : Int) := by omega
    have hb := hp (i + 1) hlt; have hb' : ¬ (65536 : Int) < ((q ^ (i + 1) : Nat) : Int) := by omega
    simp -implicitDefEqProofs only [Z3, go_sem]; refine Wd [] ?_; generalize hP : q ^ i = P at *; generalize hQ : q ^ (i + 1) = Q at *; simp -implicitDefEqProofs only [hlt', eM, hb', go_sem]; refine ⟨by simp only [InR]; omega, by simp only [InR]; omega, i + 1, ⟨by simp [hQ], by simp [Z3]⟩, hlt, by omega⟩
  have hin : i = n := by omega
  subst hin; clear hlt eM; simp -implicitDefEqProofs only [Z3, go_sem]; refine Wd [] ?_; simp -implicitDefEqProofs only [Int.lt_irrefl, go_sem]; refine AWp.seq (Wd [] ?_); simp -implicitDefEqProofs only [go_sem]; refine ⟨⟨by simp [Zx, PV.cells], by omega⟩, ?_⟩; refine AWp.adopt (l := [.str []]) 8 9 1 rfl (by simp [PV.cells]) ?_; simp -implicitDefEqProofs only [List.set_cons_zero, List.set_cons_succ, go_sem]; refine AWp.freeze 1 rfl ?_; simp -implicitDefEqProofs only [Z1h, AV.thaw, AV.thaw.thawL, AObj.thaw, List.map_cons, List.map_nil, List.set_cons_zero, List.set_cons_succ, go_sem]; refine AWp.seq (AWp.seq (Wd [] ?_)); simp -implicitDefEqProofs only [go_sem]; refine AWp.block ?_
  refine AWp.loopJ (fun k : Nat => ⟨mkF 68 [(1, .p (.int .i64 i)), (2, .ptr 0 0), (8, .p (.sl ((lvlW q k).map .str))), (36, .p (.int .i64 i)), (37, .p (.int .i64 k))], [Z3 q ws]⟩)
    (fun k => k ≤ i ∧ ∀ u, u < cLv q (k + 1) → ¬ Amb2 ws (wn q u)) (fun k => i - k) 0 (fun k => by simp [Z2r, mkF, AV.blw, AV.blw.blwL, blwH, AObj.blw, Z3]) (by simp [go_sem, Z3, lvlW, cLv, Z8x, Z26]) ?_ ?_
  · refine ⟨Nat.zero_le _, fun u hu g => ?_⟩
    have : u = 0 := by simp only [cLv] at hu; omega
    subst this; rw [Z8x] at g; unfold Amb2 at g; rw [Z1u] at g; simp at g
  rintro k ⟨hk, hno⟩; by_cases hki : k < i
  rotate_left
  · have hki' : k = i := by omega
    subst hki'
    have hoN := ho.miss fun u hu => hno u (by
      apply Classical.byContradiction
      intro h; have := Zny hq0 (by omega) (Nat.le_of_not_lt h)
      omega)
    subst hoN; simp -implicitDefEqProofs only [Z3, go_sem]; refine Wd [] ?_; simp -implicitDefEqProofs only [Int.lt_irrefl, go_sem]; refine Wd [] ?_; simp -implicitDefEqProofs only [Option.isSome_none, go_sem]
  have hki' : (k : Int) < (i : Int) := by omega
  have hQ1 := hp (k + 1) hki; rw [Nat.pow_succ] at hQ1; simp -implicitDefEqProofs only [Z3, go_sem]; refine AWp.seq (Wd [] ?_); simp -implicitDefEqProofs only [hki', go_sem]; refine AWp.seq (Wd [] ?_); simp -implicitDefEqProofs only [go_sem]; refine AWp.seq (AWp.block (AWp.seq (Wd [] ?_))); simp -implicitDefEqProofs only [go_sem]; refine AWp.adopt (l := []) 9 9 1 rfl (by simp) ?_; simp -implicitDefEqProofs only [List.set_cons_zero, List.set_cons_succ, go_sem]; refine AWp.seq (AWp.seq (Wd [] ?_)); simp -implicitDefEqProofs only [Zal, List.length_map, go_sem]; refine AWp.block ?_
  refine AWp.loopI (fun j : Nat => ⟨mkF 68 [(1, .p (.int .i64 i)), (2, .ptr 0 0), (9, .own 1 (j * q)), (36, .p (.int .i64 i)), (37, .p (.int .i64 k)), (39, .p (.sl ((lvlW q k).map .str))), (40, .p (.int .i64 ((q ^ k : Nat) : Int))), (41, .p (.int .i64 j))], [Z3 q ws, .row 9 1 ((nxtW q k (j * q)).map .str) .lax]⟩)
    (fun j => j ≤ q ^ k ∧ ∀ u, u < cLv q (k + 1) + j * q → ¬ Amb2 ws (wn q u)) (fun j => q ^ k - j) 0 (by simp [go_sem, Z3, nxtW]) ⟨Nat.zero_le _, by simpa using hno⟩ ?_
  rintro j ⟨hj, hnj⟩; have hpk := hp k (by omega); by_cases hjk : j < q ^ k
  rotate_left
  · have hje : j = q ^ k := by omega
    subst hje; simp -implicitDefEqProofs only [Z3, go_sem]; refine Wd [] ?_; simp -implicitDefEqProofs only [Int.lt_irrefl, go_sem]; refine AWp.freeze 1 rfl ?_; simp -implicitDefEqProofs only [Z1h, AV.thaw, AV.thaw.thawL, AObj.thaw, List.map_cons, List.map_nil, List.set_cons_zero, List.set_cons_succ, go_sem]; refine Wd [] ?_; simp -implicitDefEqProofs only [go_sem]; refine Wd [] ?_; simp -implicitDefEqProofs only [go_sem]; have hc1 := Zec q (k + 1); rw [Nat.pow_succ] at hc1; refine ⟨by simp only [InR]; omega, k + 1, ⟨by simp [go_sem, Zd4], by simp [Z3, weakD, Z26]⟩, ⟨hki, fun u hu => hnj u (by omega)⟩, by omega⟩
  have hjk' : (j : Int) < ((q ^ k : Nat) : Int) := by omega
  have hg := Zga hjk; have hll := Zal q k; simp -implicitDefEqProofs only [Z3, go_sem]; refine AWp.seq (Wd [] ?_); simp -implicitDefEqProofs only [hjk', go_sem]; refine AWp.seq (Wd [] ?_); simp -implicitDefEqProofs only [go_sem]; refine AWp.seq (AWp.block (AWp.seq (Wd [] ?_))); simp -implicitDefEqProofs only [hjk, hg, hll, List.length_map, Int.toNat_natCast, go_sem]; refine AWp.seq (Wd [] ?_); simp -implicitDefEqProofs only [go_sem]; refine AWp.block ?_
  refine AWp.loopI (fun a : Nat => ⟨mkF 68 [(1, .p (.int .i64 i)), (2, .ptr 0 0), (9, .own 1 (j * q + a)), (11, .p (.str (wn q (cLv q k + j)))), (36, .p (.int .i64 i)), (37, .p (.int .i64 k)), (39, .p (.sl ((lvlW q k).map .str))), (40, .p (.int .i64 ((q ^ k : Nat) : Int))), (41, .p (.int .i64 j)), (46, .p (.int .i64 q)), (47, .p (.int .i64 a))], [Z3 q ws, .row 9 1 ((nxtW q k (j * q + a)).map .str) .lax]⟩)
    (fun a => a ≤ q ∧ ∀ u, u < cLv q (k + 1) + (j * q + a) → ¬ Amb2 ws (wn q u)) (fun a => q - a) 0 (by simp [go_sem, Z3]) ⟨Nat.zero_le _, by simpa using hnj⟩ ?_
  rintro a ⟨ha, hna⟩; have hjq : j * q + q ≤ q ^ k * q := by
    have : (j + 1) * q ≤ q ^ k * q := Nat.mul_le_mul_right _ hjk; rw [Nat.add_mul, Nat.one_mul] at this; exact this
  by_cases haq : a < q
  rotate_left
  · have hae : a = q := by omega
    subst hae; simp -implicitDefEqProofs only [Z3, go_sem]; refine Wd [] ?_; simp -implicitDefEqProofs only [Int.lt_irrefl, go_sem]; refine Wd [] ?_; simp -implicitDefEqProofs only [go_sem]; have e1 : (j + 1) * a = j * a + a := by rw [Nat.add_mul, Nat.one_mul]
    refine ⟨by simp only [InR]; omega, j + 1, ⟨by simp [go_sem, e1], by simp [Z3, e1]⟩, ⟨hjk, fun u hu => hna u (by omega)⟩, by omega⟩
  have haq' : (a : Int) < (q : Int) := by omega
  have hch := Z88 hq0 k j a haq; have hcl := Z9i hq0 k j hjk; have e35 := h35 (wn q (cLv q k + j) ++ [Kn.ltr a]) (by rw [List.length_append, hcl, List.length_singleton]; omega); unfold Z02 at e35; simp -implicitDefEqProofs only [Z3, go_sem]; refine AWp.seq (Wd [] ?_); simp -implicitDefEqProofs only [haq', go_sem]; refine AWp.seq (Wd [] ?_); simp -implicitDefEqProofs only [go_sem]; refine AWp.seq (AWp.block (AWp.seq (Wd [] ?_))); simp -implicitDefEqProofs only [go_sem]; refine AWp.seq (Wd [] ?_); simp -implicitDefEqProofs only [go_sem]; have eL : List.take (((a : Int) + 1).toNat - a) (List.drop a ([48, 49, 50, 51, 52, 53, 54, 55, 56, 57, 97, 98, 99, 100, 101, 102] : List UInt8)) = [Kn.ltr a] := by
    have key : ∀ b : Fin 16, List.take (((b.val : Int) + 1).toNat - b.val) (List.drop b.val ([48, 49, 50, 51, 52, 53, 54, 55, 56, 57, 97, 98, 99, 100, 101, 102] : List UInt8)) = [Kn.ltr b.val] := by decide
    exact key ⟨a, by omega⟩
  rw [eL]; refine ⟨by simp only [InR]; omega, ⟨by omega, by omega⟩, by rw [hcl, List.length_singleton]; omega, ?_⟩; refine AWp.seq (AWp.seq (Wd [] ?_)); simp -implicitDefEqProofs only [go_sem]; refine Z4 e35 (.still rfl) ?_; by_cases hA : 2 ≤ (rdI ws (wn q (cLv q k + j) ++ [Kn.ltr a])).length
  · have hoS := ho.hit (v := cLv q (k + 1) + (j * q + a)) (by rw [hch]; exact hA) (by rw [hch, List.length_append, hcl, List.length_singleton]; omega) hna
    subst hoS; simp -implicitDefEqProofs only [hA, go_sem]; refine Wd [] ?_; simp -implicitDefEqProofs only [Option.isSome_some, hch, go_sem]
  · simp -implicitDefEqProofs only [hA, go_sem]
    refine Wd [] ?_; simp -implicitDefEqProofs only [go_sem]; refine Wd [] ?_; simp -implicitDefEqProofs only [go_sem]; refine ⟨⟨by simp [Zx, PV.cells], by omega⟩, ⟨by simp [Zx, PV.cells], by simp [Z9c, PV.cells, PV.isAgg]⟩, ⟨.inl (by omega), by omega, by omega⟩, ?_⟩; refine Wd [] ?_; simp -implicitDefEqProofs only [go_sem]; have hsn := Zd3 q k (j * q + a); rw [hch] at hsn; refine ⟨by simp only [InR]; omega, a + 1, ⟨by simp [go_sem, Nat.add_assoc], by simp [Z3, ← Nat.add_assoc, hsn]⟩, ⟨haq, fun u hu g => ?_⟩, by omega⟩; rcases Nat.lt_or_ge u (cLv q (k + 1) + (j * q + a)) with h | h
    · exact hna u h g
    · have he : u = cLv q (k + 1) + (j * q + a) := by omega
      rw [he, hch] at g; exact hA g

def cN (ws : List (List UInt8)) (w : List UInt8) (j : Nat) : Nat := min 2 (rdI ws (w.drop j)).length
def cK (ws : List (List UInt8)) (w : List UInt8) (k : Nat) : List Nat := (List.range (w.length + 1)).map fun j => if k ≤ j then cN ws w j else 0
def cT (ws : List (List UInt8)) (w : List UInt8) (i n : Nat) : List Nat := (cK ws w (i + 1)).set i (min 2 (rdTo ws (w.drop i) n).length)
theorem Zow (ws : List (List UInt8)) (w : List UInt8) (k : Nat) : (cK ws w k).length = w.length + 1 := by simp [cK]
theorem Zeb (ws : List (List UInt8)) (w : List UInt8) (i n : Nat) : (cT ws w i n).length = w.length + 1 := by simp [cT, cK]
theorem Zk5 (ws : List (List UInt8)) (w : List UInt8) (i : Nat) : cT ws w i 0 = cK ws w (i + 1) := by
  apply List.ext_getElem
  · simp [cT]
  intro j h1 h2; simp only [cT, cK, List.getElem_set, List.getElem_map, List.getElem_range]; by_cases e : i = j
  · subst e
    rw [if_pos rfl, if_neg (by omega)]; simp [rdTo]
  · rw [if_neg e]
theorem Zk6 {ws : List (List UInt8)} {w : List UInt8} (hn : ∀ x ∈ ws, x ≠ []) {i : Nat} (hi : i < w.length) : cT ws w i ws.length = cK ws w i := by
  have hne : w.drop i ≠ [] := fun e => by
    have := congrArg List.length e; rw [List.length_drop, List.length_nil] at this; omega
  apply List.ext_getElem
  · simp [cT, cK]
  intro j h1 h2; simp only [cT, cK, List.getElem_set, List.getElem_map, List.getElem_range]; by_cases e : i = j
  · subst e
    rw [if_pos rfl, if_pos (Nat.le_refl _)]; unfold cN; rw [Z2n hn hne]
  · rw [if_neg e]
    by_cases h : i + 1 ≤ j
    · rw [if_pos h, if_pos (by omega)]
    · rw [if_neg h, if_neg (by omega)]
theorem Zov {ws : List (List UInt8)} {w : List UInt8} {i n j : Nat} (h : i < j) (hj : j ≤ w.length) : ((cT ws w i n).map ivN).getD j default = ivN (cN ws w j) := by
  have hl := Zeb ws w i n; rw [List.getD_eq_getElem?_getD, List.getElem?_eq_getElem (by rw [List.length_map]; omega), Option.getD_some, List.getElem_map]
  congr 1
  simp only [cT, cK, List.getElem_set, List.getElem_map, List.getElem_range]; rw [if_neg (by omega), if_pos (by omega)]
theorem cT_at {ws : List (List UInt8)} {w : List UInt8} {i n : Nat} (hi : i ≤ w.length) : ((cT ws w i n).map ivN).getD i default = ivN (min 2 (rdTo ws (w.drop i) n).length) := by
  have hl := Zeb ws w i n; rw [List.getD_eq_getElem?_getD, List.getElem?_eq_getElem (by rw [List.length_map]; omega), Option.getD_some, List.getElem_map]
  congr 1
  simp only [cT, List.getElem_set, if_pos]
theorem Zou {ws : List (List UInt8)} {w : List UInt8} {i n : Nat} {v : Nat} (h : v = min 2 (rdTo ws (w.drop i) (n + 1)).length) : ((cT ws w i n).map ivN).set i (ivN v) = (cT ws w i (n + 1)).map ivN := by
  unfold cT; rw [← List.map_set, List.set_set, h]
theorem Zk7 (ws : List (List UInt8)) (w : List UInt8) : (List.replicate (w.length + 1) (ivN 0)).set w.length (ivN 1) = (cK ws w w.length).map ivN := by
  apply List.ext_getElem
  · simp [cK]
  intro i h1 h2; simp only [List.length_set, List.length_replicate] at h1; simp only [cK, List.getElem_set, List.getElem_replicate, List.getElem_map, List.getElem_range]; by_cases e : w.length = i
  · subst e
    have : cN ws w w.length = 1 := by unfold cN; rw [List.drop_length, Z1u]; rfl
    simp [this]
  · rw [if_neg e, if_neg (by omega)]

theorem o35 (q : Int) (ws : List (List UInt8)) (w : List UInt8) (hn : ∀ x ∈ ws, x ≠ []) (hws : ws.length ≤ 256) (hw : w.length ≤ 4096) : PFn Try.prog 35 [Z02 q ws, .str w] [.bool (decide (2 ≤ (rdI ws w).length))] := by
  refine PFn.of_body hΓ Try.func35 (by kernel_rfl) rfl (AWp.seq (Wd [] ?_)); simp -implicitDefEqProofs only [Try.ntmps35, Try.results35, Nat.reduceAdd, Nat.reduceSub, Z02, go_sem]; have eN1 : ((w.length : Int) + 1).toNat = w.length + 1 := by omega
  refine AWp.seq (Wd [] ?_); simp -implicitDefEqProofs only [eN1, go_sem]; refine ⟨by simp only [InR]; omega, ⟨by omega, by omega, by omega⟩, ?_⟩; refine AWp.seq (Wd [] ?_); simp -implicitDefEqProofs only [Int.toNat_natCast, List.length_replicate, go_sem]; refine ⟨rfl, ?_⟩; have eLast : (PV.int .i64 0 :: List.replicate w.length (.int .i64 0)).set w.length (.int .i64 1) = (cK ws w w.length).map ivN := Zk7 ws w; rw [eLast]; refine AWp.seq (AWp.seq (Wd [] ?_)); simp -implicitDefEqProofs only [go_sem]; refine ⟨by simp only [InR]; omega, ?_⟩; refine AWp.block ?_
  refine AWp.loopI (fun k : Nat => ⟨mkF 57 [(1, .p (.str w)), (2, .ptr 0 0), (4, .p (.bool false)), (5, .own 1 (w.length + 1)), (6, .p (.int .i64 ((k : Int) - 1)))], [Z3 q ws, .row 3 1 ((cK ws w k).map ivN) .own]⟩)
    (fun k => k ≤ w.length) (fun k => k) w.length (by simp [go_sem, Z3]) (Nat.le_refl _) ?_
  intro k hk; simp -implicitDefEqProofs only [Z3, go_sem]
  cases k with
  | zero =>
    have h0 : ¬ (0 : Int) ≤ ((0 : Nat) : Int) - 1 := by omega
    refine AWp.seq (Wd [] ?_); simp -implicitDefEqProofs only [h0, go_sem]; have e0 : ((cK ws w 0).map ivN).getD 0 default = ivN (min 2 (rdI ws w).length) := by
      unfold cK; rw [List.range_succ_eq_map]; simp [cN]
    refine Wd [] ?_; simp -implicitDefEqProofs only [show Int.toNat 0 = 0 from rfl, e0, Zow, List.length_map, ivN, go_sem]; refine ⟨by omega, by omega, ?_⟩; exact decide_eq_decide.2 ⟨fun h => by omega, fun h => by omega⟩
  | succ i =>
    have ei : (((i + 1 : Nat) : Int) - 1) = (i : Int) := by omega
    have h0 : (0 : Int) ≤ (i : Int) := by omega
    rw [ei]; refine AWp.seq (Wd [] ?_); simp -implicitDefEqProofs only [h0, go_sem]; rw [← Zk5]; refine AWp.seq (AWp.block (AWp.seq (Wd [] ?_))); simp -implicitDefEqProofs only [go_sem]; refine AWp.block ?_
    refine AWp.loopI (fun n : Nat => ⟨mkF 57 [(1, .p (.str w)), (2, .ptr 0 0), (4, .p (.bool false)), (5, .own 1 (w.length + 1)), (6, .p (.int .i64 i)), (25, .p (.sl (ws.map .str))), (26, .p (.int .i64 ws.length)), (27, .p (.int .i64 n))], [Z3 q ws, .row 3 1 ((cT ws w i n).map ivN) .own]⟩)
      (fun n => n ≤ ws.length) (fun n => ws.length - n) 0 (by simp [go_sem, Z3]) (Nat.zero_le _) ?_
    intro n hn2; by_cases hlt : n < ws.length
    · have hx : ws[n] ∈ ws := List.getElem_mem hlt
      have hxn : 0 < ws[n].length := List.length_pos_iff.2 (hn _ hx); have hni : (n : Int) < ws.length := by omega
      have e55 := t69 (w.drop i) ws[n]; have hs := Z5c ws (w.drop i) n; have eAt : rdAt ws (w.drop i) n = if ws[n].isPrefixOf (w.drop i) then (rdI ws (w.drop (i + ws[n].length))).map (n :: ·) else [] := by
        unfold rdAt; rw [List.getD_eq_getElem?_getD, List.getElem?_eq_getElem hlt, Option.getD_some, List.drop_drop]
      simp -implicitDefEqProofs only [Z3, go_sem]; refine Wd [(10, 16)] ?_; simp -implicitDefEqProofs only [hlt, Z5, ↓reduceIte, List.length_map, Int.toNat_natCast, go_sem]; refine ⟨by omega, Z4 e55 (.pures rfl) ?_⟩
      cases hp : ws[n].isPrefixOf (w.drop i)
      · rw [hp] at eAt
        simp only [Bool.false_eq_true, if_false] at eAt; rw [eAt, List.append_nil] at hs; simp -implicitDefEqProofs only [go_sem]; have eT : cT ws w i (n + 1) = cT ws w i n := by unfold cT; rw [hs]
        refine ⟨by simp only [InR]; omega, n + 1, ⟨by simp, ?_⟩, hlt, by omega⟩; rw [eT]; simp [Z3]
      · rw [hp, if_pos rfl] at eAt
        have hle : i + ws[n].length ≤ w.length := by
          have := List.IsPrefix.length_le (List.isPrefixOf_iff_prefix.1 hp); rw [List.length_drop] at this; omega
        have eN : ((i : Int) + ws[n].length).toNat = i + ws[n].length := by omega
        have g1 := cT_at (ws := ws) (w := w) (i := i) (n := n) (by omega); have g2 := Zov (ws := ws) (w := w) (i := i) (n := n) (j := i + ws[n].length) (by omega) hle; have hv : min 2 (min 2 (rdTo ws (w.drop i) n).length + cN ws w (i + ws[n].length)) = min 2 (rdTo ws (w.drop i) (n + 1)).length := by
          rw [hs, List.length_append, eAt, List.length_map]; unfold cN; omega
        have g3 := Zou (ws := ws) (w := w) (i := i) (n := n) hv; have hA : min 2 (rdTo ws (w.drop i) n).length ≤ 2 := Nat.min_le_left _ _; have hB : cN ws w (i + ws[n].length) ≤ 2 := Nat.min_le_left _ _; generalize min 2 (rdTo ws (w.drop i) n).length = A at g1 g3 hA; generalize cN ws w (i + ws[n].length) = B at g2 g3 hB
        replace g1 : ((cT ws w i n).map ivN).getD i default = PV.int .i64 (A : Int) := g1
        replace g2 : ((cT ws w i n).map ivN).getD (i + ws[n].length) default = PV.int .i64 (B : Int) := g2
        simp -implicitDefEqProofs only [g1, g2, eN, Zeb, List.length_map, Int.toNat_natCast, go_sem]; have ev : PV.int .i64 (if (A : Int) + B < 2 then (A : Int) + B else 2) = ivN (min 2 (A + B)) := by
          unfold ivN
          congr 1
          split <;> omega
        rw [ev, g3]; exact ⟨by omega, by omega, by simp only [InR]; omega, ⟨by omega, by omega⟩, by omega, by simp only [InR]; omega, by omega, ⟨by omega, rfl⟩, by simp only [InR]; omega, n + 1, ⟨by simp, .inr (by simp [Z3]), by simp⟩, hlt, by omega⟩
    · have he : n = ws.length := by omega
      subst he; simp -implicitDefEqProofs only [Z3, go_sem]; refine Wd [(10, 16)] ?_; simp -implicitDefEqProofs only [Int.lt_irrefl, go_sem]; rw [Zk6 hn (by omega)]; refine Wd [] ?_; simp -implicitDefEqProofs only [go_sem]; exact ⟨by simp only [InR]; omega, i, ⟨by simp, by simp [Z3]⟩, by omega, by omega⟩
end Go.Proofs.Ytpljmccnfmkmfaa
end

