/-
  Texts of this claim, joined.
-/
import Derived.Test.YtpljmccnfmkmfaaJ4d5b75fecabd
import Derived.Handed
import Derived.JoinedOf
import Derived.ProofKit
import Derived.Test.YtpljmccnfmkmfaaJ49121bbc0e07
import Derived.Test.YtpljmccnfmkmfaaJ95ab7c36ce71
import Derived.Test.YtpljmccnfmkmfaaJff830da085a8
import Derived.Test.YtpljmccnfmkmfaaJ1f4fd6bc6bc0

set_option linter.unusedSimpArgs false
set_option maxRecDepth 100000
set_option maxHeartbeats 4000000
section
namespace Go.AM
open Go.RowKit Go.ChangeShapes

inductive Sh where
  | bool
  | int (k : IntKind)
  | str
  | sl (s : Sh)
  | agg (l : List Sh)
  deriving Inhabited

def Sh.cells : Sh → List Sh
  | .agg l => l
  | s => [s]

inductive Fit : Sh → PV → Prop
  | bool (b : Bool) : Fit .bool (.bool b)
  | int (k : IntKind) (n : Int) (h : InR k n) : Fit (.int k) (.int k n)
  | str (s : List UInt8) (h : s.length ≤ maxLen) : Fit .str (.str s)
  | sl (s : Sh) (l : List PV) (h : l.length ≤ maxLen) (hl : ∀ i, i < l.length → Fit s (l.getD i default)) : Fit (.sl s) (.sl l)
  | agg (ss : List Sh) (l : List PV) (h : l.length = ss.length) (hl : ∀ i, i < l.length → Fit (ss.getD i default) (l.getD i default)) : Fit (.agg ss) (.agg l)

mutual
def shB (P : Program) : Nat → TypeId → Option Sh
  | 0, _ => none
  | n + 1, t => match P.underlying t with
    | some .bool => some .bool
    | some (.int k) => some (.int k)
    | some .string => some .str
    | some (.slice e) => match shB P n e with
      | some s => if 0 < P.cellsOf e then some (.sl s) else none
      | none => none
    | some (.struct fs) => (shL P n (P.cellsOf t) fs.toList 0).map .agg
    | _ => none
def shL (P : Program) : Nat → Nat → List Field → Nat → Option (List Sh)
  | 0, _, _, _ => none
  | _ + 1, total, [], off => if off = total then some [] else none
  | n + 1, total, f :: fs, off => if f.offset = off then (match shB P n f.type, shL P n total fs (off + P.cellsOf f.type) with
    | some s, some r => some (s.cells ++ r)
    | _, _ => none) else none
end

theorem Fit.cells {s : Sh} {p : PV} (h : Fit s p) : p.cells.length = s.cells.length ∧ ∀ i, i < p.cells.length → Fit (s.cells.getD i default) (p.cells.getD i default) := by
  have one : ∀ (i : Nat) (s : Sh) (p : PV), Fit s p → i < [p].length → Fit ([s].getD i default) ([p].getD i default) := by
    intro i s p h hi; have : i = 0 := by simpa using hi
    subst this; exact h
  cases h with
  | bool b => exact ⟨rfl, fun i hi => one i _ _ (.bool b) hi⟩
  | int k n hn => exact ⟨rfl, fun i hi => one i _ _ (.int k n hn) hi⟩
  | str l hl => exact ⟨rfl, fun i hi => one i _ _ (.str l hl) hi⟩
  | sl s l h1 h2 => exact ⟨rfl, fun i hi => one i _ _ (.sl s l h1 h2) hi⟩
  | agg ss l h1 h2 => exact ⟨h1, h2⟩

theorem Z5y {α : Type} [Inhabited α] {Q : Nat → α → Prop} : ∀ (n : Nat), (∀ i, i < n → ∃ p, Q i p) → ∃ l : List α, l.length = n ∧ ∀ i, i < n → Q i (l.getD i default)
  | 0, _ => ⟨[], rfl, fun i hi => absurd hi (Nat.not_lt_zero i)⟩
  | n + 1, h => by
    obtain ⟨l, h1, h2⟩ := Z5y n (fun i hi => h i (by omega)); obtain ⟨p, hp⟩ := h n (by omega); refine ⟨l ++ [p], by simp [h1], fun i hi => ?_⟩; by_cases hn : i < n
    · have := h2 i hn
      rw [List.getD_eq_getElem?_getD] at this ⊢
      rwa [List.getElem?_append_left (by omega)]
    · have : i = n := by omega
      subst this; rw [List.getD_eq_getElem?_getD, List.getElem?_append_right (by omega)]
      simpa [h1] using hp

section
variable {H : Type} {enc : TypeId × Value → H} {P : Program} {w : World} {base : Nat} {spare : Nat → Bool} {held : Bool}

def FitC (w : World) (sh : Sh) (cs : List Value) : Prop :=
  ∃ p, Fit sh p ∧ p.cells.length = cs.length ∧ ∀ i, i < cs.length → PR (fun g => g < w.heap.size) w (p.cells.getD i default) (cs.getD i undef)

theorem FitC.one {sh : Sh} {p : PV} {v : Value} (h : Fit sh p) (hc : p.cells = [p]) (hr : PR (fun g => g < w.heap.size) w p v) : FitC w sh [v] :=
  ⟨p, h, by rw [hc]; rfl, fun i hi => by
    have : i = 0 := by simpa using hi
    subst this; rw [hc]; exact hr⟩

theorem Ze3 {k : IntKind} {n : Int} (h : (Lit.int k n).wf = true) : InR k n := by
  simp only [Lit.wf, Bool.and_eq_true, decide_eq_true_eq] at h
  cases k <;> simpa [InR, IntKind.min, IntKind.max, IntKind.signed, IntKind.bits] using h

theorem Z51 {α : Type} {cs : List α} {off k : Nat} (i : Nat) (hi : i < k) (d : α) : ((cs.drop off).take k).getD i d = cs.getD (off + i) d := by
  simp only [List.getD_eq_getElem?_getD, List.getElem?_take, hi, if_true, List.getElem?_drop]

theorem cells?_get {a : Addr} {n : Nat} {cs : List Value} (h : w.cells? base a n = some cs) : cs.length = n ∧ ∀ j, j < n → w.cell? (a.add j) = some (cs.getD j undef) := by
  unfold World.cells? at h
  split at h
  · have hl := mapM_some_length h
    rw [List.length_range] at hl; refine ⟨hl, fun j hj => ?_⟩; have := mapM_some_get h j j (by simp [hj]); rw [this, List.getD_eq_getElem?_getD, List.getElem?_eq_getElem (by omega)]; rfl
  · cases h

theorem cell?_some {a : Addr} {v : Value} (h : w.cell? a = some v) : ∃ cur E fz, w.heap[a.block]? = some (.cells cur E fz) ∧ a.spot = none ∧ cur[a.off]? = some v := by
  unfold World.cell? at h
  split at h
  · rename_i c E fz hb
    split at h
    · cases h
    · rename_i hs
      exact ⟨c, E, fz, hb, by simpa using hs, h⟩
  · cases h

theorem Z7z (a : Addr) (n : Nat) : (a.add n).off = a.off + n ∧ (a.add n).block = a.block := by
  unfold Addr.add
  split
  · subst_vars; exact ⟨rfl, rfl⟩
  · exact ⟨rfl, rfl⟩

theorem Z66 : ∀ (n : Nat), (∀ (t : TypeId) (sh : Sh), shB P n t = some sh → ∀ (fuel : Nat) (cs : List Value) (x : DataW H × List MemPlace), DataW.trod enc P w base spare held fuel t cs = some x → FitC w sh cs) ∧
    (∀ (total : Nat) (fs : List Field) (off : Nat) (ss : List Sh), shL P n total fs off = some ss → ∀ cs : List Value, cs.length = total →
      (∀ f ∈ fs, ∃ fuel x, DataW.trod enc P w base spare held fuel f.type ((cs.drop f.offset).take (P.cellsOf f.type)) = some x) →
      ∃ ps : List PV, ps.length = ss.length ∧ off + ps.length = total ∧ (∀ i, i < ps.length → Fit (ss.getD i default) (ps.getD i default)) ∧
        ∀ i, i < ps.length → PR (fun g => g < w.heap.size) w (ps.getD i default) (cs.getD (off + i) undef))
  | 0 => ⟨fun t sh h => by simp [shB] at h, fun total fs off ss h => by simp [shL] at h⟩
  | n + 1 => by
    obtain ⟨ih1, ih2⟩ := Z66 n; refine ⟨fun t sh h fuel cs x hx => ?_, fun total fs off ss h cs hcs hf => ?_⟩
    · unfold shB at h
      split at h
      · rename_i ht
        injection h with h; subst h
        obtain ⟨b, rfl, _⟩ := DataW.trod_bool ht hx; exact .one (.bool b) rfl (.bool b)
      · rename_i k ht
        injection h with h; subst h
        obtain ⟨m, rfl, _, hw⟩ := DataW.trod_int ht hx; exact .one (.int k m (Ze3 hw)) rfl (.int k m)
      · rename_i ht
        injection h with h; subst h
        obtain ⟨s, rfl, _, hs⟩ := DataW.trod_string ht hx; exact .one (.str s.data.toList (by simpa using hs)) rfl (.str s)
      · rename_i e ht
        split at h
        · rename_i s hs
          split at h
          · rename_i hpos
            injection h with h; subst h
            rcases DataW.trod_slice ht hx with ⟨rfl, _⟩ | ⟨a, len, cap, elems, rest, m, _, rfl, _, _, hl, hm, hlen, hel, _, _⟩
            · exact .one (.sl s [] (Nat.zero_le _) (fun i hi => absurd hi (Nat.not_lt_zero i))) rfl (.sl0 none 0 (fun _ => rfl))
            · have each : ∀ i, i < len → ∃ p : PV, ∃ ci, w.cells? base (a.add (i * P.cellsOf e)) (P.cellsOf e) = some ci ∧ Fit s p ∧ p.cells.length = P.cellsOf e ∧
                  ∀ j, j < P.cellsOf e → PR (fun g => g < w.heap.size) w (p.cells.getD j default) (ci.getD j undef) := by
                intro i hi; have h1 := hel i hi; rw [List.getElem?_eq_getElem (by omega), Option.bind_eq_some_iff] at h1; obtain ⟨ci, h2, h3⟩ := h1; obtain ⟨p, f1, f2, f3⟩ := ih1 e s hs m ci _ h3; have hcl := (cells?_get h2).1; exact ⟨p, ci, h2, f1, by omega, fun j hj => f3 j (by omega)⟩
              obtain ⟨l, hll, hq⟩ := Z5y len each; refine .one (.sl s l (by omega) (fun i hi => by obtain ⟨ci, _, hf, _⟩ := hq i (by omega); exact hf)) rfl ?_; rw [← hll]; by_cases hz : l = []
              · subst hz; exact .sl0 _ _ (fun h => by cases h)
              · have hpl : 0 < len := by rw [← hll]; exact List.length_pos_iff.2 hz
                have cell : ∀ i j, i < len → j < P.cellsOf e → ∃ v, w.cell? ((a.add (i * P.cellsOf e)).add j) = some v ∧ PR (fun g => g < w.heap.size) w (((l.getD i default).cells).getD j default) v := by
                  intro i j hi hj; obtain ⟨ci, h2, _, _, h3⟩ := hq i hi; exact ⟨_, (cells?_get h2).2 j hj, h3 j hj⟩
                obtain ⟨v0, hv0, _⟩ := cell 0 0 hpl hpos; rw [Nat.zero_mul] at hv0; obtain ⟨cur, E, fz, hb, hsp, _⟩ := cell?_some hv0; obtain ⟨g, off, spot⟩ := a; have hsp : spot = none := by simpa [Addr.add] using hsp
                subst hsp; have hb : w.heap[g]? = some (.cells cur E fz) := by simpa [Addr.add] using hb
                have pos : ∀ i j, i < len → j < P.cellsOf e → ∃ v, cur[off + (i * P.cellsOf e + j)]? = some v ∧ PR (fun g => g < w.heap.size) w (((l.getD i default).cells).getD j default) v := by
                  intro i j hi hj; obtain ⟨v, h1, h2⟩ := cell i j hi hj; obtain ⟨cur', E', fz', hb', _, hv⟩ := cell?_some h1; rw [(Z7z _ _).2, (Z7z _ _).2] at hb'; rw [hb] at hb'
                  injection hb' with hb'; injection hb' with hb' _ _
                  subst hb'; rw [(Z7z _ _).1, (Z7z _ _).1] at hv; exact ⟨v, by rw [← hv]; congr 1; show _ = off + _ + _; omega, h2⟩
                refine .sl l (P.cellsOf e) g off cap cur E fz (fun k => (cur[off + k]?).getD undef) hz (Array.getElem?_eq_some_iff.1 hb).1 hb (by omega) (fun x hx => ?_) (fun k hk => ?_) (fun i j hi hj => ?_)
                · obtain ⟨i, hi, rfl⟩ := List.getElem_of_mem hx
                  obtain ⟨ci, _, _, h4, _⟩ := hq i (by omega)
                  rwa [List.getD_eq_getElem?_getD, List.getElem?_eq_getElem hi] at h4
                · have hdm : k = k / P.cellsOf e * P.cellsOf e + k % P.cellsOf e := by rw [Nat.mul_comm]; exact (Nat.div_add_mod k _).symm
                  obtain ⟨v, hv, _⟩ := pos (k / P.cellsOf e) (k % P.cellsOf e) (Nat.div_lt_of_lt_mul (by rw [Nat.mul_comm, ← hll]; exact hk)) (Nat.mod_lt _ hpos); rw [← hdm] at hv; rw [hv]; rfl
                · obtain ⟨v, hv, hr⟩ := pos i j (by omega) hj
                  rw [hv]; exact hr
          · cases h
        · cases h
      · rename_i fs ht
        simp only [Option.map_eq_some_iff] at h; obtain ⟨ss, hss, rfl⟩ := h; obtain ⟨xs, m, _, _, hlen, hxl, hf⟩ := DataW.trod_struct ht hx; obtain ⟨ps, h1, h2, h3, h4⟩ := ih2 _ _ _ _ hss cs hlen (fun f hm => by
          obtain ⟨i, hi, rfl⟩ := List.getElem_of_mem hm; have := hf i fs.toList[i] (by rw [← Array.getElem?_toList, List.getElem?_eq_getElem hi]); rw [List.getElem?_eq_getElem (by rw [hxl]; simpa using hi)] at this; exact ⟨m, _, this⟩)
        refine ⟨.agg ps, .agg ss ps h1 h3, by show ps.length = _; omega, fun i hi => ?_⟩; have := h4 i (by omega)
        rwa [Nat.zero_add] at this
      · cases h
    · cases fs with
      | nil =>
        simp only [shL] at h
        split at h
        · rename_i he
          injection h with h; subst h
          exact ⟨[], rfl, by simpa using he, fun i hi => absurd hi (Nat.not_lt_zero i), fun i hi => absurd hi (Nat.not_lt_zero i)⟩
        · cases h
      | cons f fs =>
        simp only [shL] at h
        split at h
        · rename_i ho
          split at h
          · rename_i s r hs hr
            injection h with h; subst h
            obtain ⟨fuel, x, hx⟩ := hf f (by simp); rw [ho] at hx; obtain ⟨p, f1, f2, f3⟩ := ih1 _ _ hs _ _ _ hx; obtain ⟨ps, g1, g2, g3, g4⟩ := ih2 _ _ _ _ hr cs hcs (fun f' hf' => hf f' (by simp [hf'])); have hl : ((cs.drop off).take (P.cellsOf f.type)).length = P.cellsOf f.type := by simp only [List.length_take, List.length_drop]; omega
            have hpl : p.cells.length = P.cellsOf f.type := by omega
            obtain ⟨c1, c2⟩ := f1.cells; refine ⟨p.cells ++ ps, by simp [c1, g1], by simp only [List.length_append]; omega, fun i hi => ?_, fun i hi => ?_⟩
            · by_cases hlt : i < p.cells.length
              · have := c2 i hlt
                simp only [List.getD_eq_getElem?_getD] at this ⊢
                rwa [List.getElem?_append_left (by omega), List.getElem?_append_left hlt]
              · have := g3 (i - p.cells.length) (by simp only [List.length_append] at hi; omega)
                simp only [List.getD_eq_getElem?_getD] at this ⊢
                rwa [List.getElem?_append_right (by omega), List.getElem?_append_right (by omega), ← c1]
            · by_cases hlt : i < p.cells.length
              · have := f3 i (by omega)
                rw [Z51 i (by omega)] at this; rw [show (p.cells ++ ps).getD i default = p.cells.getD i default by simp only [List.getD_eq_getElem?_getD]; rw [List.getElem?_append_left hlt]]; exact this
              · have := g4 (i - p.cells.length) (by simp only [List.length_append] at hi; omega)
                rw [show (p.cells ++ ps).getD i default = ps.getD (i - p.cells.length) default by simp only [List.getD_eq_getElem?_getD]; rw [List.getElem?_append_right (by omega)]]
                rwa [show off + P.cellsOf f.type + (i - p.cells.length) = off + i by omega] at this
          · cases h
        · cases h

theorem Zc4 {v : Value} (h : ∀ cs, v ≠ .agg cs) : v.cells.toList = [v] := by
  cases v <;> first | rfl | exact absurd rfl (h _)

theorem Zjy {n : Nat} {t : TypeId} {sh : Sh} {v : Value} {d : DataW H} {ps : List MemPlace} {b : Nat} (hs : shB P n t = some sh) (hok : Value.okWide P w .any b t v) (h : DataW.Trod enc P w base spare held t v d ps) :
    ∃ p, Fit sh p ∧ PR (fun g => g < w.heap.size) w p v := by
  obtain ⟨fuel, h⟩ := h; obtain ⟨p, h1, h2, h3⟩ := (Z66 n).1 t sh hs fuel _ _ h; have flat : (∀ cs, v ≠ .agg cs) → p.cells = [p] → ∃ p, Fit sh p ∧ PR (fun g => g < w.heap.size) w p v := by
    intro hv hp; rw [Zc4 hv, hp] at h3; exact ⟨p, h1, h3 0 (by simp)⟩
  cases n with
  | zero => simp [shB] at hs
  | succ n =>
    unfold shB at hs; unfold Value.okWide at hok
    split at hs
    · rename_i ht
      injection hs with hs; subst hs
      rw [ht] at hok; simp only [Cell.okWide, ht] at hok; exact flat (fun cs e => by subst e; simp [Cell.ok, ht] at hok) (by cases h1; rfl)
    · rename_i k ht
      injection hs with hs; subst hs
      rw [ht] at hok; simp only [Cell.okWide, ht] at hok; exact flat (fun cs e => by subst e; simp [Cell.ok, ht] at hok) (by cases h1; rfl)
    · rename_i ht
      injection hs with hs; subst hs
      rw [ht] at hok; simp only [Cell.okWide, ht] at hok; exact flat (fun cs e => by subst e; simp [Cell.ok, ht] at hok) (by cases h1; rfl)
    · rename_i e ht
      split at hs
      · split at hs
        · injection hs with hs; subst hs
          rw [ht] at hok; simp only [Cell.okWide, ht] at hok; exact flat (fun cs e => by subst e; simp [Cell.ok, ht] at hok) (by cases h1; rfl)
        · cases hs
      · cases hs
    · rename_i fs ht
      rw [ht] at hok; obtain ⟨cs, rfl, _, _⟩ := hok; simp only [Option.map_eq_some_iff] at hs; obtain ⟨ss, _, rfl⟩ := hs
      cases h1 with
      | agg _ l hl hf =>
        refine ⟨.agg l, .agg ss l hl hf, ?_⟩; obtain ⟨cs⟩ := cs; exact .agg l cs h2 (fun i hi => h3 i (by rw [← h2]; exact hi))
    · cases hs

def Fits : List Sh → List PV → Prop
  | [], [] => True
  | s :: ss, p :: ps => Fit s p ∧ Fits ss ps
  | _, _ => False

theorem Fits.zero {l : List PV} (h : Fits [] l) : l = [] := by cases l with
  | nil => rfl
  | cons p l => exact h.elim
theorem Fits.cons {s : Sh} {ss : List Sh} {l : List PV} (h : Fits (s :: ss) l) : ∃ p ps, l = p :: ps ∧ Fit s p ∧ Fits ss ps := by cases l with
  | nil => exact h.elim
  | cons p l => exact ⟨p, l, rfl, h⟩

theorem Zb7 {n : Nat} {b : Nat} : ∀ {ts : List TypeId} {vs : List Value} {ds : List (DataW H)} {ps : List MemPlace} {shs : List Sh}, DataW.TrodAll enc P w base spare held ts vs ds ps → ts.map (shB P n) = shs.map some →
    (∀ (j : Nat) t v, ts[j]? = some t → vs[j]? = some v → Value.okWide P w .any b t v) →
    ∃ pv : List PV, Fits shs pv ∧ pv.length = vs.length ∧ ∀ i, i < pv.length → PR (fun g => g < w.heap.size) w (pv.getD i default) (vs.getD i undef)
  | [], vs, ds, ps, shs, h, hs, _ => by
    obtain ⟨rfl, rfl, rfl⟩ := trodAll_nil h
    cases shs with
    | nil => exact ⟨[], trivial, rfl, fun i hi => absurd hi (Nat.not_lt_zero i)⟩
    | cons s ss => simp at hs
  | t :: ts, vs, ds, ps, shs, h, hs, hok => by
    obtain ⟨v, vs1, d, ds1, a, b', rfl, rfl, rfl, h1, h2⟩ := trodAll_cons h
    cases shs with
    | nil => simp at hs
    | cons s ss =>
      simp only [List.map_cons, List.cons.injEq] at hs; obtain ⟨p, f1, f2⟩ := Zjy hs.1 (hok 0 t v rfl rfl) h1; obtain ⟨pv, g1, g2, g3⟩ := Zb7 h2 hs.2 (fun j t v hj hv => hok (j + 1) t v (by simpa using hj) (by simpa using hv)); refine ⟨p :: pv, ⟨f1, g1⟩, by simp [g2], fun i hi => ?_⟩
      cases i with
      | zero => exact f2
      | succ i => exact g3 i (by simpa using hi)

theorem Z3t {W W' : World} (hl : laidOutB P = true) (hb : Below W.heap.size W W') : ∀ {ts : List TypeId} {vs : List Value} {ds : List (DataW H)} {ps : List MemPlace}, DataW.TrodAll enc P W 0 (fun _ => true) true ts vs ds ps →
    ts.all (fun t => P.readableRec t && decide (t < P.types.size)) = true → (∀ x ∈ ps, x.block < W.heap.size) → DataW.TrodAll enc P W' 0 (fun b => decide (b < W.heap.size)) true ts vs ds ps
  | [], vs, ds, ps, h, _, _ => by
    obtain ⟨rfl, rfl, rfl⟩ := trodAll_nil h
    rfl
  | t :: ts, vs, ds, ps, h, hr, hlt => by
    obtain ⟨v, vs1, d, ds1, a, b, rfl, rfl, rfl, h1, h2⟩ := trodAll_cons h; simp only [List.all_cons, Bool.and_eq_true, decide_eq_true_eq] at hr; exact ⟨a, b, Below.trod hl hr.1.1 hr.1.2 h1 hb (fun x hx => hlt x (by simp [hx])), Z3t hl hb h2 hr.2 (fun x hx => hlt x (by simp [hx])), rfl⟩

theorem lift {C : Checked} {os : Os} {f : FuncId} {fn : Func} {s : ChangeSpec} {conds : List PathCond} {fresh handsOn : Bool} {shs : List Sh} {tb : TypeId}
    (own : ownKnob C.prog.godebug = none) (laid : laidOutB C.prog = true) (started : os.Started) (noInit : C.prog.inits.idxOf? f = none) (hfn : C.prog.funcs[f]? = some fn)
    (witness : ∃ (w : World) (tape : Tape) (i : Input), w.os = os ∧ (w.forCall tape i).Shaped C.prog ∧ i.vars = [] ∧ Input.okWide C.prog (w.forCall tape i) .any w.heap.size f i ∧
      s.pre6 enc C.prog fn conds false (w.forCall tape i).memory i.args ∧ ({} : Assume).holds C.prog (lone (Frame.enter C.prog f i.args .normal) [] (w.forCall tape i)))
    (hsh : fn.params.toList.map (shB C.prog 9) = shs.map some) (hread : fn.params.toList.all (fun t => C.prog.readableRec t && decide (t < C.prog.types.size)) = true)
    (hres : fn.resultTypes = #[tb]) (hb : C.prog.underlying tb = some .bool) (hvars : s.vars = [])
    (hs : ∀ ds : List (DataW H), ds.length = fn.params.toList.length → s.fn H (ds ++ []) = { results := [.lit (.bool true)], args := ds })
    (h : ∀ pv, Fits shs pv → PFn C.prog f pv [.bool true]) :
    ReturnsInHanded {} C os f .any (s.pre6 enc C.prog fn conds false) (s.post enc C.prog fn false fresh handsOn false) := by
  refine returnsInHanded_of_change own started noInit hfn witness ?_; intro W base args ds gs before hval hW _ _; have hW' := hW; obtain ⟨p, q, hA, hV, hpq, _, _⟩ := hW; rw [hvars] at hV; obtain ⟨rfl, rfl⟩ := trodVars_none hV; rw [List.append_nil] at hpq; subst hpq; obtain ⟨pv, k1, k2, k3⟩ := Zb7 (ts := fn.params.toList) hA hsh (fun j t v hj hv => hval j t v (by rw [← Array.getElem?_toList]; exact hj) (by rw [← Array.getElem?_toList]; exact hv)); have hc := (h pv k1).2 (fun g => g < W.heap.size) W args.toList (fun _ hg => hg) k2 (fun i hi => k3 i hi); refine hc.mono ?_; rintro e W' ⟨cv, I', rfl, hg, _, _, hv⟩; have hcv : cv = .bool true := by
    cases hv with
    | p _ _ h => cases h; rfl
  subst hcv; have hbel : Below W.heap.size W W' := ⟨hg.os, hg.tape, hg.output, hg.size, fun k hk => hg.block k hk (by simp)⟩; have hlen : ds.length = fn.params.toList.length := by
    have : ∀ {ts : List TypeId} {vs : List Value} {ds : List (DataW H)} {ps : List MemPlace}, DataW.TrodAll enc C.prog W 0 (fun _ => true) true ts vs ds ps → ds.length = ts.length := by
      intro ts
      induction ts with
      | nil => intro vs ds ps h; obtain ⟨rfl, rfl, rfl⟩ := trodAll_nil h; rfl
      | cons t ts ih => intro vs ds ps h; obtain ⟨v, vs1, d, ds1, a, b, rfl, rfl, rfl, _, h2⟩ := trodAll_cons h; simp [ih h2]
    exact this hA
  have hlt : ∀ x ∈ before, x.block < W.heap.size := fun x hx => hW'.lt x hx
  refine ⟨_, rfl, ds, [], before, [], before, [], hW', ?_, ?_, ?_, hbel.frame _, fun h => by cases h⟩
  · rw [hs ds hlen, hres]
    exact trodAll_mk1 (shut_bool hb true)
  · rw [hs ds hlen]
    exact Z3t laid hbel hA hread hlt
  · rw [hs ds hlen, hvars]; rfl
end
end Go.AM
end

section
namespace Go.Proofs.Ytpljmccnfmkmfaa
open Go Go.AM

def Kn.ltr (a : Nat) : UInt8 := L16.getD a 0
theorem Z90 {x y : List UInt8} : ∀ {a b : List UInt8}, a.length = b.length → bLt a b = true → bLt (a ++ x) (b ++ y) = true
  | [], [], _, h => by cases h
  | u :: a, v :: b, hl, h => by
    rw [List.cons_append, List.cons_append, Z10]; rcases (Z10 u v a b).1 h with h1 | ⟨h1, h2⟩
    · exact .inl h1
    · exact .inr ⟨h1, Z90 (by simpa using hl) h2⟩
theorem Z8z {x y : List UInt8} (h : bLt x y = true) : ∀ a : List UInt8, bLt (a ++ x) (a ++ y) = true
  | [] => h
  | u :: a => by rw [List.cons_append, List.cons_append, Z10]; exact .inr ⟨rfl, Z8z h a⟩
theorem Zji {a b : Nat} (hb : b < 16) (h : a < b) : (Kn.ltr a).toNat < (Kn.ltr b).toNat := by
  have key : ∀ a : Fin 16, ∀ b : Fin 16, a.val < b.val → (L16.getD a.val 0).toNat < (L16.getD b.val 0).toNat := by decide
  exact key ⟨a, by omega⟩ ⟨b, hb⟩ h
def wnF (q : Nat) : Nat → Nat → List UInt8
  | 0, _ => []
  | f + 1, v => if v = 0 then [] else wnF q f ((v - 1) / q) ++ [Kn.ltr ((v - 1) % q)]
def wn (q v : Nat) : List UInt8 := wnF q v v
theorem Zhb {q : Nat} (hq : 0 < q) : ∀ (f g v : Nat), v ≤ f → v ≤ g → wnF q f v = wnF q g v
  | 0, 0, v, _, _ => rfl
  | 0, g + 1, v, h, _ => by
    have : v = 0 := by omega
    subst this; rfl
  | f + 1, 0, v, _, h => by
    have : v = 0 := by omega
    subst this; rfl
  | f + 1, g + 1, v, h1, h2 => by
    unfold wnF
    split
    · rfl
    · have h3 : (v - 1) / q ≤ v - 1 := Nat.div_le_self _ _
      rw [Zhb hq f g ((v - 1) / q) (by omega) (by omega)]
theorem Z7d (q : Nat) : wn q 0 = [] := rfl
theorem Z7e {q : Nat} (hq : 0 < q) (u b : Nat) (hb : b < q) : wn q (u * q + b + 1) = wn q u ++ [Kn.ltr b] := by
  have h1 : (u * q + b) / q = u := by
    rw [Nat.mul_comm, Nat.mul_add_div hq, Nat.div_eq_of_lt hb, Nat.add_zero]
  have h2 : (u * q + b) % q = b := by
    rw [Nat.mul_comm, Nat.mul_add_mod, Nat.mod_eq_of_lt hb]
  have e : wn q (u * q + b + 1) = wnF q (u * q + b) ((u * q + b) / q) ++ [Kn.ltr ((u * q + b) % q)] := by
    have e0 : ∀ v, wn q (v + 1) = if v + 1 = 0 then [] else wnF q v ((v + 1 - 1) / q) ++ [Kn.ltr ((v + 1 - 1) % q)] := fun v => rfl
    rw [e0, if_neg (by omega), Nat.add_sub_cancel]
  rw [e, h1, h2]; have h3 : u ≤ u * q := Nat.le_mul_of_pos_right _ hq; rw [Zhb hq (u * q + b) u u (by omega) (Nat.le_refl _)]
  rfl
theorem Z8h {q : Nat} (hq : 0 < q) (v : Nat) : v = 0 ∨ ∃ u b, b < q ∧ v = u * q + b + 1 ∧ u < v := by
  rcases Nat.eq_zero_or_pos v with h | h
  · exact .inl h
  · refine .inr ⟨(v - 1) / q, (v - 1) % q, Nat.mod_lt _ hq, ?_, ?_⟩
    · have := Nat.div_add_mod (v - 1) q
      rw [Nat.mul_comm] at this; omega
    · have := Nat.div_le_self (v - 1) q
      omega
theorem wn_lt {q : Nat} (hq : 0 < q) (hq16 : q ≤ 16) (u : Nat) : ∀ v, v < u → ltW (wn q v) (wn q u) := by
  induction u using Nat.strongRecOn with
  | _ u ih =>
    intro v hv; rcases Z8h hq u with h | ⟨u', b, hb, rfl, hu⟩
    · omega
    rcases Z8h hq v with h | ⟨v', c, hc, rfl, hv'⟩
    · subst h
      rw [Z7e hq _ _ hb]
      left
      rw [Z7d]; simp
    · rw [Z7e hq _ _ hb, Z7e hq _ _ hc]
      rcases Nat.lt_trichotomy v' u' with e | e | e
      · rcases ih u' hu v' e with h | ⟨h1, h2⟩
        · left; simp only [List.length_append, List.length_singleton]; omega
        · right
          exact ⟨by simp only [List.length_append, List.length_singleton]; omega, Z90 h1 h2⟩
      · subst e
        right
        refine ⟨by simp, Z8z ?_ _⟩; rw [Z10]; exact .inl (Zji (by omega) (by omega))
      · have h5 : (u' + 1) * q ≤ v' * q := Nat.mul_le_mul_right _ e
        rw [Nat.add_mul, Nat.one_mul] at h5; omega
theorem Zha {q : Nat} (hq : 0 < q) (hq16 : q ≤ 16) {v u : Nat} (h : v ≤ u) : (wn q v).length ≤ (wn q u).length := by
  rcases Nat.lt_or_ge v u with h1 | h1
  · rcases wn_lt hq hq16 u v h1 with h2 | ⟨h2, _⟩
    · omega
    · omega
  · have : v = u := by omega
    subst this; exact Nat.le_refl _
def LeA (ws : List (List UInt8)) (q n : Nat) (o : Option Nat) : Prop := match o with
  | some v => Amb2 ws (wn q v) ∧ (wn q v).length ≤ n ∧ ∀ u, u < v → ¬ Amb2 ws (wn q u)
  | none => ∀ u, (wn q u).length ≤ n → ¬ Amb2 ws (wn q u)
theorem leA (ws : List (List UInt8)) (q n : Nat) (hq : 0 < q) (hq16 : q ≤ 16) : ∃ o, LeA ws q n o := by
  by_cases h : ∃ u, (wn q u).length ≤ n ∧ Amb2 ws (wn q u)
  · have key : ∀ u, (wn q u).length ≤ n → Amb2 ws (wn q u) → ∃ v, LeA ws q n (some v) := by
      intro u
      induction u using Nat.strongRecOn with
      | _ u ih =>
        intro h1 h2; by_cases hj : ∃ j, j < u ∧ Amb2 ws (wn q j)
        · obtain ⟨j, hj, hw⟩ := hj
          exact ih j hj (Nat.le_trans (Zha hq hq16 (Nat.le_of_lt hj)) h1) hw
        · exact ⟨u, h2, h1, fun j hj' g => hj ⟨j, hj', g⟩⟩
    obtain ⟨u, h1, h2⟩ := h; obtain ⟨v, hv⟩ := key u h1 h2; exact ⟨some v, hv⟩
  · exact ⟨none, fun u h1 h2 => h ⟨u, h1, h2⟩⟩
theorem LeA.hit {ws : List (List UInt8)} {q n : Nat} {o : Option Nat} (h : LeA ws q n o) {v : Nat} (h1 : Amb2 ws (wn q v)) (h2 : (wn q v).length ≤ n) (h3 : ∀ u, u < v → ¬ Amb2 ws (wn q u)) : o = some v := by
  cases o with
  | none => exact absurd h1 (h v h2)
  | some u =>
    obtain ⟨g1, g2, g3⟩ := h; rcases Nat.lt_trichotomy u v with e | e | e
    · exact absurd g1 (h3 u e)
    · rw [e]
    · exact absurd h1 (g3 v e)
theorem LeA.miss {ws : List (List UInt8)} {q n : Nat} {o : Option Nat} (h : LeA ws q n o) (h1 : ∀ u, (wn q u).length ≤ n → ¬ Amb2 ws (wn q u)) : o = none := by
  cases o with
  | none => rfl
  | some u => exact absurd h.1 (h1 u h.2.1)

def cLv (q : Nat) : Nat → Nat
  | 0 => 0
  | k + 1 => cLv q k * q + 1
theorem Za9 (q : Nat) : ∀ k, cLv q k + q ^ k = cLv q (k + 1)
  | 0 => by simp [cLv]
  | k + 1 => by
    have ih := Za9 q k; have e : cLv q (k + 1 + 1) = cLv q (k + 1) * q + 1 := rfl; rw [e, ← ih, Nat.add_mul, Nat.pow_succ]; have e2 : cLv q k * q + 1 = cLv q k + q ^ k := ih.symm; omega
theorem Z5x {q : Nat} (hq : 0 < q) (k i a : Nat) (ha : a < q) : wn q (cLv q (k + 1) + (i * q + a)) = wn q (cLv q k + i) ++ [Kn.ltr a] := by
  have e2 : cLv q (k + 1) = cLv q k * q + 1 := rfl; rw [← Z7e hq _ _ ha, e2, Nat.add_mul]
  congr 1
  omega
theorem Z7o {q : Nat} (hq : 0 < q) : ∀ (k i : Nat), i < q ^ k → (wn q (cLv q k + i)).length = k
  | 0, i, h => by
    have : i = 0 := by simpa using h
    subst this; rfl
  | k + 1, i, h => by
    have h1 := Nat.div_add_mod i q; have h2 := Nat.mod_lt i hq; have h3 : i / q < q ^ k := by
      rw [Nat.pow_succ] at h; exact Nat.div_lt_of_lt_mul (by rw [Nat.mul_comm]; exact h)
    have e : i = i / q * q + i % q := by rw [Nat.mul_comm]; exact h1.symm
    rw [e, Z5x hq _ _ _ h2, List.length_append, Z7o hq k _ h3]
    rfl
theorem Zhu {q : Nat} (hq : 0 < q) (hq16 : q ≤ 16) {k u : Nat} (h : cLv q (k + 1) ≤ u) : k + 1 ≤ (wn q u).length := by
  have h1 := Zha hq hq16 h; have h2 := Z7o hq (k + 1) 0 (Nat.pow_pos hq); rw [Nat.add_zero] at h2; omega
def lvlW (q k : Nat) : List (List UInt8) := (List.range (q ^ k)).map fun i => wn q (cLv q k + i)
def nxtW (q k m : Nat) : List (List UInt8) := (List.range m).map fun j => wn q (cLv q (k + 1) + j)
theorem Z8g (q k : Nat) : nxtW q k (q ^ k * q) = lvlW q (k + 1) := by
  unfold nxtW lvlW; rw [Nat.pow_succ]
theorem Z8f (q k m : Nat) : nxtW q k (m + 1) = nxtW q k m ++ [wn q (cLv q (k + 1) + m)] := by
  unfold nxtW; rw [List.range_succ, List.map_append]
  rfl
theorem Zaw {q k i : Nat} (h : i < q ^ k) : ((lvlW q k).map PV.str).getD i default = .str (wn q (cLv q k + i)) := by
  unfold lvlW; rw [List.getD_eq_getElem?_getD, List.getElem?_map, List.getElem?_map, List.getElem?_range h]
  rfl
theorem Z7p (q k : Nat) : (lvlW q k).length = q ^ k := by simp [lvlW]

set_option maxHeartbeats 1000000 in
theorem o14 {q n : Nat} {ws : List (List UInt8)} (hc : Z7 q ws = 0) (hn : n ≤ 12) (hpow : q ^ n ≤ 65536) {o : Option Nat} (ho : LeA ws q n o)
    (h35 : ∀ w : List UInt8, w.length ≤ 12 → PFn Try.prog 35 [Z9 q ws, .str w] [.bool (decide (2 ≤ (rdI ws w).length))]) :
    PFn Try.prog 14 [Z9 q ws, .int .i64 n] [.str (match o with | some v => wn q v | none => []), .bool o.isSome, .int .i64 0] := by
  have hv := valid_of hc; have hq2 := hv.q2; have hq16 := hv.q16; have hq0 : 0 < q := by omega
  have hp : ∀ i, i ≤ n → q ^ i ≤ 65536 := fun i hi => Nat.le_trans (Nat.pow_le_pow_right hq0 hi) hpow
  have e1 := t45 (q : Int) ws; rw [hc] at e1; unfold Z9 at e1; have i1 : ¬ (n : Int) < 0 := by omega
  have i2 : ¬ (12 : Int) < (n : Int) := by omega
  refine PFn.of_body hΓ Try.func14 (by kernel_rfl) rfl (AWp.seq (Wd [] ?_)); simp -implicitDefEqProofs only [Try.ntmps14, Try.results14, Nat.reduceAdd, Nat.reduceSub, Z9, go_sem]; refine AWp.seq (Wd [] ?_); simp -implicitDefEqProofs only [go_sem]; refine Z4 e1 (.still rfl) ?_; simp -implicitDefEqProofs only [i1, i2, go_sem]; refine AWp.seq (Wd [] ?_); simp -implicitDefEqProofs only [go_sem]; refine AWp.seq (AWp.seq (Wd [] ?_)); simp -implicitDefEqProofs only [go_sem]; refine AWp.block ?_
  refine AWp.loopI (fun i : Nat => ⟨mkF 68 [(1, .p (.int .i64 n)), (2, .ptr 0 0), (7, .p (.int .i64 ((q ^ i : Nat) : Int))), (25, .p (.int .i64 n)), (26, .p (.int .i64 i))], [Z0 q ws]⟩)
    (fun i => i ≤ n) (fun i => n - i) 0 (by simp [go_sem, Z0]) (Nat.zero_le _) ?_
  intro i hi; have eM : ((q ^ i : Nat) : Int) * (q : Int) = ((q ^ (i + 1) : Nat) : Int) := by rw [Nat.pow_succ]; exact (Int.natCast_mul _ _).symm
  by_cases hlt : i < n
  · have hlt' : (i : Int) < (n : Int) := by omega
    have hb := hp (i + 1) hlt; have hb' : ¬ (65536 : Int) < ((q ^ (i + 1) : Nat) : Int) := by omega
    simp -implicitDefEqProofs only [Z0, go_sem]; refine Wd [] ?_; generalize hP : q ^ i = P at *; generalize hQ : q ^ (i + 1) = Q at *; simp -implicitDefEqProofs only [hlt', eM, hb', go_sem]; refine ⟨by simp only [InR]; omega, by simp only [InR]; omega, i + 1, ⟨by simp [hQ], by simp [Z0]⟩, hlt, by omega⟩
  have hin : i = n := by omega
  subst hin; clear hlt eM; simp -implicitDefEqProofs only [Z0, go_sem]; refine Wd [] ?_; simp -implicitDefEqProofs only [Int.lt_irrefl, go_sem]; refine AWp.seq (Wd [] ?_); simp -implicitDefEqProofs only [go_sem]; refine ⟨⟨by simp [Zb, PV.cells], by omega⟩, ?_⟩; refine AWp.adopt (l := [.str []]) 8 9 1 rfl (by simp [PV.cells]) ?_; simp -implicitDefEqProofs only [List.set_cons_zero, List.set_cons_succ, go_sem]; refine AWp.freeze 1 rfl ?_; simp -implicitDefEqProofs only [Z1j, AV.thaw, AV.thaw.thawL, AObj.thaw, List.map_cons, List.map_nil, List.set_cons_zero, List.set_cons_succ, go_sem]; refine AWp.seq (AWp.seq (Wd [] ?_)); simp -implicitDefEqProofs only [go_sem]; refine AWp.block ?_
  refine AWp.loopJ (fun k : Nat => ⟨mkF 68 [(1, .p (.int .i64 i)), (2, .ptr 0 0), (8, .p (.sl ((lvlW q k).map .str))), (36, .p (.int .i64 i)), (37, .p (.int .i64 k))], [Z0 q ws]⟩)
    (fun k => k ≤ i ∧ ∀ u, u < cLv q (k + 1) → ¬ Amb2 ws (wn q u)) (fun k => i - k) 0 (fun k => by simp [Z1b, mkF, AV.blw, AV.blw.blwL, blwH, AObj.blw, Z0]) (by simp [go_sem, Z0, lvlW, cLv, Z7d, Z0l]) ?_ ?_
  · refine ⟨Nat.zero_le _, fun u hu g => ?_⟩
    have : u = 0 := by simp only [cLv] at hu; omega
    subst this; rw [Z7d] at g; unfold Amb2 at g; rw [Z1y] at g; simp at g
  rintro k ⟨hk, hno⟩; by_cases hki : k < i
  rotate_left
  · have hki' : k = i := by omega
    subst hki'
    have hoN := ho.miss fun u hu => hno u (by
      apply Classical.byContradiction
      intro h; have := Zhu hq0 (by omega) (Nat.le_of_not_lt h)
      omega)
    subst hoN; simp -implicitDefEqProofs only [Z0, go_sem]; refine Wd [] ?_; simp -implicitDefEqProofs only [Int.lt_irrefl, go_sem]; refine Wd [] ?_; simp -implicitDefEqProofs only [Option.isSome_none, go_sem]
  have hki' : (k : Int) < (i : Int) := by omega
  have hQ1 := hp (k + 1) hki; rw [Nat.pow_succ] at hQ1; simp -implicitDefEqProofs only [Z0, go_sem]; refine AWp.seq (Wd [] ?_); simp -implicitDefEqProofs only [hki', go_sem]; refine AWp.seq (Wd [] ?_); simp -implicitDefEqProofs only [go_sem]; refine AWp.seq (AWp.block (AWp.seq (Wd [] ?_))); simp -implicitDefEqProofs only [go_sem]; refine AWp.adopt (l := []) 9 9 1 rfl (by simp) ?_; simp -implicitDefEqProofs only [List.set_cons_zero, List.set_cons_succ, go_sem]; refine AWp.seq (AWp.seq (Wd [] ?_)); simp -implicitDefEqProofs only [Z7p, List.length_map, go_sem]; refine AWp.block ?_
  refine AWp.loopI (fun j : Nat => ⟨mkF 68 [(1, .p (.int .i64 i)), (2, .ptr 0 0), (9, .own 1 (j * q)), (36, .p (.int .i64 i)), (37, .p (.int .i64 k)), (39, .p (.sl ((lvlW q k).map .str))), (40, .p (.int .i64 ((q ^ k : Nat) : Int))), (41, .p (.int .i64 j))], [Z0 q ws, .row 9 1 ((nxtW q k (j * q)).map .str) .lax]⟩)
    (fun j => j ≤ q ^ k ∧ ∀ u, u < cLv q (k + 1) + j * q → ¬ Amb2 ws (wn q u)) (fun j => q ^ k - j) 0 (by simp [go_sem, Z0, nxtW]) ⟨Nat.zero_le _, by simpa using hno⟩ ?_
  rintro j ⟨hj, hnj⟩; have hpk := hp k (by omega); by_cases hjk : j < q ^ k
  rotate_left
  · have hje : j = q ^ k := by omega
    subst hje; simp -implicitDefEqProofs only [Z0, go_sem]; refine Wd [] ?_; simp -implicitDefEqProofs only [Int.lt_irrefl, go_sem]; refine AWp.freeze 1 rfl ?_; simp -implicitDefEqProofs only [Z1j, AV.thaw, AV.thaw.thawL, AObj.thaw, List.map_cons, List.map_nil, List.set_cons_zero, List.set_cons_succ, go_sem]; refine Wd [] ?_; simp -implicitDefEqProofs only [go_sem]; refine Wd [] ?_; simp -implicitDefEqProofs only [go_sem]; have hc1 := Za9 q (k + 1); rw [Nat.pow_succ] at hc1; refine ⟨by simp only [InR]; omega, k + 1, ⟨by simp [go_sem, Z8g], by simp [Z0, weakD, Z0l]⟩, ⟨hki, fun u hu => hnj u (by omega)⟩, by omega⟩
  have hjk' : (j : Int) < ((q ^ k : Nat) : Int) := by omega
  have hg := Zaw hjk; have hll := Z7p q k; simp -implicitDefEqProofs only [Z0, go_sem]; refine AWp.seq (Wd [] ?_); simp -implicitDefEqProofs only [hjk', go_sem]; refine AWp.seq (Wd [] ?_); simp -implicitDefEqProofs only [go_sem]; refine AWp.seq (AWp.block (AWp.seq (Wd [] ?_))); simp -implicitDefEqProofs only [hjk, hg, hll, List.length_map, Int.toNat_natCast, go_sem]; refine AWp.seq (Wd [] ?_); simp -implicitDefEqProofs only [go_sem]; refine AWp.block ?_
  refine AWp.loopI (fun a : Nat => ⟨mkF 68 [(1, .p (.int .i64 i)), (2, .ptr 0 0), (9, .own 1 (j * q + a)), (11, .p (.str (wn q (cLv q k + j)))), (36, .p (.int .i64 i)), (37, .p (.int .i64 k)), (39, .p (.sl ((lvlW q k).map .str))), (40, .p (.int .i64 ((q ^ k : Nat) : Int))), (41, .p (.int .i64 j)), (46, .p (.int .i64 q)), (47, .p (.int .i64 a))], [Z0 q ws, .row 9 1 ((nxtW q k (j * q + a)).map .str) .lax]⟩)
    (fun a => a ≤ q ∧ ∀ u, u < cLv q (k + 1) + (j * q + a) → ¬ Amb2 ws (wn q u)) (fun a => q - a) 0 (by simp [go_sem, Z0]) ⟨Nat.zero_le _, by simpa using hnj⟩ ?_
  rintro a ⟨ha, hna⟩; have hjq : j * q + q ≤ q ^ k * q := by
    have : (j + 1) * q ≤ q ^ k * q := Nat.mul_le_mul_right _ hjk; rw [Nat.add_mul, Nat.one_mul] at this; exact this
  by_cases haq : a < q
  rotate_left
  · have hae : a = q := by omega
    subst hae; simp -implicitDefEqProofs only [Z0, go_sem]; refine Wd [] ?_; simp -implicitDefEqProofs only [Int.lt_irrefl, go_sem]; refine Wd [] ?_; simp -implicitDefEqProofs only [go_sem]; have e1 : (j + 1) * a = j * a + a := by rw [Nat.add_mul, Nat.one_mul]
    refine ⟨by simp only [InR]; omega, j + 1, ⟨by simp [go_sem, e1], by simp [Z0, e1]⟩, ⟨hjk, fun u hu => hna u (by omega)⟩, by omega⟩
  have haq' : (a : Int) < (q : Int) := by omega
  have hch := Z5x hq0 k j a haq; have hcl := Z7o hq0 k j hjk; have e35 := h35 (wn q (cLv q k + j) ++ [Kn.ltr a]) (by rw [List.length_append, hcl, List.length_singleton]; omega); unfold Z9 at e35; simp -implicitDefEqProofs only [Z0, go_sem]; refine AWp.seq (Wd [] ?_); simp -implicitDefEqProofs only [haq', go_sem]; refine AWp.seq (Wd [] ?_); simp -implicitDefEqProofs only [go_sem]; refine AWp.seq (AWp.block (AWp.seq (Wd [] ?_))); simp -implicitDefEqProofs only [go_sem]; refine AWp.seq (Wd [] ?_); simp -implicitDefEqProofs only [go_sem]; have eL : List.take (((a : Int) + 1).toNat - a) (List.drop a ([48, 49, 50, 51, 52, 53, 54, 55, 56, 57, 97, 98, 99, 100, 101, 102] : List UInt8)) = [Kn.ltr a] := by
    have key : ∀ b : Fin 16, List.take (((b.val : Int) + 1).toNat - b.val) (List.drop b.val ([48, 49, 50, 51, 52, 53, 54, 55, 56, 57, 97, 98, 99, 100, 101, 102] : List UInt8)) = [Kn.ltr b.val] := by decide
    exact key ⟨a, by omega⟩
  rw [eL]; refine ⟨by simp only [InR]; omega, ⟨by omega, by omega⟩, by rw [hcl, List.length_singleton]; omega, ?_⟩; refine AWp.seq (AWp.seq (Wd [] ?_)); simp -implicitDefEqProofs only [go_sem]; refine Z4 e35 (.still rfl) ?_; by_cases hA : 2 ≤ (rdI ws (wn q (cLv q k + j) ++ [Kn.ltr a])).length
  · have hoS := ho.hit (v := cLv q (k + 1) + (j * q + a)) (by rw [hch]; exact hA) (by rw [hch, List.length_append, hcl, List.length_singleton]; omega) hna
    subst hoS; simp -implicitDefEqProofs only [hA, go_sem]; refine Wd [] ?_; simp -implicitDefEqProofs only [Option.isSome_some, hch, go_sem]
  · simp -implicitDefEqProofs only [hA, go_sem]
    refine Wd [] ?_; simp -implicitDefEqProofs only [go_sem]; refine Wd [] ?_; simp -implicitDefEqProofs only [go_sem]; refine ⟨⟨by simp [Zb, PV.cells], by omega⟩, ⟨by simp [Zb, PV.cells], by simp [Z2u, PV.cells, PV.isAgg]⟩, ⟨.inl (by omega), by omega, by omega⟩, ?_⟩; refine Wd [] ?_; simp -implicitDefEqProofs only [go_sem]; have hsn := Z8f q k (j * q + a); rw [hch] at hsn; refine ⟨by simp only [InR]; omega, a + 1, ⟨by simp [go_sem, Nat.add_assoc], by simp [Z0, ← Nat.add_assoc, hsn]⟩, ⟨haq, fun u hu g => ?_⟩, by omega⟩; rcases Nat.lt_or_ge u (cLv q (k + 1) + (j * q + a)) with h | h
    · exact hna u h g
    · have he : u = cLv q (k + 1) + (j * q + a) := by omega
      rw [he, hch] at g; exact hA g

def SD (ws : List (List UInt8)) (W : List UInt8) (D : List Bool) : Prop := D.length = W.length + 1 ∧ ∀ j, j ≤ W.length → D.getD j false = true → rdI ws (W.drop (W.length - j)) = []
def Still (h : List AObj) : Prop := ∀ o ∈ h, (∀ k, o.kill k = o) ∧ ∀ b xs, o.thaw b xs = o
theorem Still.kill {h : List AObj} (H : Still h) (k : Nat) : h.map (AObj.kill k) = h := by
  conv => rhs; rw [← List.map_id h]
  exact List.map_congr_left fun o ho => (H o ho).1 k
theorem Still.thaw {h : List AObj} (H : Still h) (b : Nat) (xs : List PV) : h.map (AObj.thaw b xs) = h := by
  conv => rhs; rw [← List.map_id h]
  exact List.map_congr_left fun o ho => (H o ho).2 b xs
def r34R (ws : List (List UInt8)) (W : List UInt8) (bd bl : Nat) (res : List (List Nat)) (h : List AObj) (v : AV) (h' : List AObj) : Prop :=
  ∃ D' rk', SD ws W D' ∧ rk' ≠ .raw ∧ h.length ≤ h'.length ∧ Still h' ∧ h'[bd]? = some (.row 4 1 (D'.map .bool) .own) ∧ h'[bl]? = some (.row 32 1 (res.map slV) rk') ∧ (∀ i, i < h.length → i ≠ bd → i ≠ bl → h'[i]? = h[i]?) ∧ v = .own bl res.length

theorem Zn7 {q : Int} {ws : List (List UInt8)} {W : List UInt8} {bd bl : Nat} {h : List AObj} {D : List Bool} {rk : RK} (hSD : SD ws W D) (hbd : h[bd]? = some (.row 4 1 (D.map .bool) .own)) (outs : List (List Nat)) (hb : h[bl]? = some (.row 32 1 (outs.map slV) rk)) (hrk : rk ≠ .raw) (hbb : bl ≠ bd) (hS : Still h) (path : List Nat) (hp : path.length ≤ 4096) (ho : outs.length ≤ 1) :
    AC Try.prog 34 [.agg [.p (.int .i64 q), .p (.sl (ws.map .str))], .p (.str []), .p (.sl (path.map ivN)), .own bl outs.length, .own bd (W.length + 1)] h [bl] (r34R ws W bd bl (outs ++ [path]) h) := by
  refine AC.of_bodyE hΓ Try.func34 (by kernel_rfl) rfl (AWp.mono (Q := fun e st => AM.Ends e ∧ r34R ws W bd bl (outs ++ [path]) h (st.tmps.getD 10 .junk) st.h) ?_ ?_)
  rotate_left
  · rintro e ⟨tm, h'⟩ ⟨he, h1⟩
    refine ⟨he, _, Less.refl _, ?_⟩; simp only at h1; obtain ⟨D', rk', a1, a0, a2, a3, a4, a5, a6, a7⟩ := h1; unfold Z32; simp +contextual -implicitDefEqProofs only [Try.results34, a7, go_sem]; refine ⟨h'.length, a2, .inl rfl, D', rk', a1, a0, by rw [List.take_length]; exact a2, ?_⟩; rw [List.take_length]; exact ⟨a3, a4, a5, a6, by simp⟩
  have hbl : bd < h.length := (List.getElem?_eq_some_iff.1 hbd).1; have hblt : bl < h.length := (List.getElem?_eq_some_iff.1 hb).1; obtain ⟨h1, hh1⟩ : ∃ h1, h1 = h ++ [AObj.box [.p (.int .i64 q), .p (.sl (ws.map .str))]] := ⟨_, rfl⟩; have hS1 : Still h1 := fun o ho => by
    rw [hh1] at ho; rcases List.mem_append.1 ho with ho | ho
    · exact hS o ho
    · rw [List.mem_singleton.1 ho]
      exact ⟨fun k => rfl, fun b xs => rfl⟩
  have hl1 : h1.length = h.length + 1 := by rw [hh1]; simp
  have f1 : ∀ o : AObj, (h1 ++ [o])[h1.length]? = some o := fun o => by simp
  have ft : ∀ xs (o : AObj), (List.map (AObj.thaw h1.length xs) (h1 ++ [o])).set h1.length .dead = h1 ++ [.dead] := fun xs o => by
    rw [List.map_append, hS1.thaw, List.set_append_right _ _ (Nat.le_refl _), Nat.sub_self]
    rfl
  have hne : ¬ bd = h1.length := by omega
  have keep1 : ∀ i, i < h.length → h1[i]? = h[i]? := fun i hi => by rw [hh1, List.getElem?_append_left hi]
  have hb1 : ∀ o, (h1 ++ [o])[bl]? = some (.row 32 1 (outs.map slV) rk) := fun o => by rw [List.getElem?_append_left (by omega), keep1 bl hblt]; exact hb
  have fk : ∀ k, List.map (AObj.kill k) (h1 ++ [AObj.dead]) = h1 ++ [.dead] := fun k => by rw [List.map_append, hS1.kill]; rfl
  have hne2 : ¬ bl = h1.length := by omega
  have hbb' : ¬ bl = bd := hbb; have hbb2 : ¬ bd = bl := fun e => hbb e.symm
  refine AWp.seq (Wd [] ?_); simp -implicitDefEqProofs only [Try.ntmps34, Nat.reduceAdd, Nat.reduceSub, go_sem]; rw [← hh1]; refine AWp.seq (Wd [] ?_); simp -implicitDefEqProofs only [f1, ft, hne, hne2, hb1, fk, hbb', hbb2, ↓reduceIte, go_sem]; have sz := Z2p path; have on := Zar path; refine ⟨⟨by simp [Zb], by omega⟩, ⟨sz, on⟩, ⟨by simp [Zb], by omega, by omega⟩, ⟨by simp [Zb, PV.cells], by omega⟩, ⟨by simp [Zb, PV.cells], by simp [Z2u, PV.cells, PV.isAgg]⟩, ⟨hrk, .inr (by simp), by omega, by omega⟩, ?_⟩; refine ⟨D, .own, hSD, by simp, by simp only [List.length_append, List.length_set]; omega, ?_, ?_, ?_, ?_, by simp⟩
  · intro o ho
    rcases List.mem_or_eq_of_mem_set ho with ho | ho
    · rcases List.mem_append.1 ho with ho | ho
      · exact hS1 o ho
      · rw [List.mem_singleton.1 ho]; exact ⟨fun k => rfl, fun b xs => rfl⟩
    · rw [ho]; exact ⟨fun k => rfl, fun b xs => rfl⟩
  · rw [List.getElem?_set_ne hbb, List.getElem?_append_left (by omega), keep1 bd hbl]; exact hbd
  · rw [List.getElem?_set_self (by rw [List.length_append]; omega)]
    simp [slV]
  · intro i hi _ hib
    rw [List.getElem?_set_ne (fun e => hib e.symm), List.getElem?_append_left (by omega), keep1 i hi]

theorem r34 {q : Int} {ws : List (List UInt8)} {W : List UInt8} (hn : ∀ x ∈ ws, x ≠ []) (hws : ws.length ≤ 256) (hW : W.length ≤ 4096) : ∀ (n a : Nat) (outs : List (List Nat)) (path : List Nat) (h : List AObj) (bd bl : Nat) (D : List Bool) (rk : RK),
    W.length - a ≤ n → a ≤ W.length → path.length + (W.length - a) ≤ 4096 → outs.length ≤ 1 → SD ws W D → h[bd]? = some (.row 4 1 (D.map .bool) .own) → h[bl]? = some (.row 32 1 (outs.map slV) rk) → rk ≠ .raw → bl ≠ bd → Still h →
    AC Try.prog 34 [.agg [.p (.int .i64 q), .p (.sl (ws.map .str))], .p (.str (W.drop a)), .p (.sl (path.map ivN)), .own bl outs.length, .own bd (W.length + 1)] h [bl] (r34R ws W bd bl ((outs ++ (rdI ws (W.drop a)).map (path ++ ·)).take 2) h) := by
  have atEnd : ∀ (outs : List (List Nat)) (path : List Nat) (h : List AObj) (bd bl : Nat) (D : List Bool) (rk : RK), path.length ≤ 4096 → outs.length ≤ 1 → SD ws W D → h[bd]? = some (.row 4 1 (D.map .bool) .own) → h[bl]? = some (.row 32 1 (outs.map slV) rk) → rk ≠ .raw → bl ≠ bd → Still h →
      AC Try.prog 34 [.agg [.p (.int .i64 q), .p (.sl (ws.map .str))], .p (.str (W.drop W.length)), .p (.sl (path.map ivN)), .own bl outs.length, .own bd (W.length + 1)] h [bl] (r34R ws W bd bl ((outs ++ (rdI ws (W.drop W.length)).map (path ++ ·)).take 2) h) := by
    intro outs path h bd bl D rk hp ho hSD hbd hb hrk hbb hS; have e : (rdI ws (W.drop W.length)).map (path ++ ·) = [path] := by rw [List.drop_length, Z1y]; simp
    rw [e, List.take_of_length_le (by rw [List.length_append, List.length_singleton]; omega), List.drop_length]; exact Zn7 hSD hbd outs hb hrk hbb hS path hp ho
  intro n
  induction n with
  | zero =>
    intro a outs path h bd bl D rk hna ha hpa ho hSD hbd hb hrk hbb hS; have hae : a = W.length := by omega
    subst hae; exact atEnd outs path h bd bl D rk (by omega) ho hSD hbd hb hrk hbb hS
  | succ n ih =>
    intro a outs path h bd bl D rk hna ha hpa ho hSD hbd hb hrk hbb hS; by_cases hae : a = W.length
    · subst hae
      exact atEnd outs path h bd bl D rk (by omega) ho hSD hbd hb hrk hbb hS
    have hwne : W.drop a ≠ [] := fun e => by
      have := congrArg List.length e; rw [List.length_drop, List.length_nil] at this; omega
    have eI : rdI ws (W.drop a) = rdTo ws (W.drop a) ws.length := Z2c hn hwne; rw [eI]; refine AC.of_bodyE hΓ Try.func34 (by kernel_rfl) rfl (AWp.mono (Q := fun e st => AM.Ends e ∧ r34R ws W bd bl ((outs ++ (rdTo ws (W.drop a) ws.length).map (path ++ ·)).take 2) h (st.tmps.getD 10 .junk) st.h) ?_ ?_)
    rotate_left
    · rintro e ⟨tm, h'⟩ ⟨he, h1⟩
      refine ⟨he, _, Less.refl _, ?_⟩; simp only at h1; obtain ⟨D', rk', a1, a0, a2, a3, a4, a5, a6, a7⟩ := h1; unfold Z32; simp +contextual -implicitDefEqProofs only [Try.results34, a7, go_sem]; refine ⟨h'.length, a2, .inl rfl, D', rk', a1, a0, by rw [List.take_length]; exact a2, ?_⟩; rw [List.take_length]; exact ⟨a3, a4, a5, a6, by simp⟩
    have hbl : bd < h.length := (List.getElem?_eq_some_iff.1 hbd).1; have hblt : bl < h.length := (List.getElem?_eq_some_iff.1 hb).1; refine AWp.seq (Wd [(9, 1000)] ?_); simp -implicitDefEqProofs only [Try.ntmps34, Nat.reduceAdd, Nat.reduceSub, go_sem]; refine AWp.seq (Wd [(9, 1000)] ?_); simp -implicitDefEqProofs only [hwne, go_sem]; refine AWp.seq (Wd [(9, 1000)] ?_); simp -implicitDefEqProofs only [go_sem]; obtain ⟨Lk, hLk⟩ : ∃ Lk : Nat → List (List Nat), ∀ k, Lk k = (outs ++ (rdTo ws (W.drop a) k).map (path ++ ·)).take 2 := ⟨_, fun _ => rfl⟩; have hL0 : Lk 0 = outs := by
      rw [hLk]; simp only [rdTo, List.range_zero, List.flatMap_nil, List.map_nil, List.append_nil]; exact List.take_of_length_le (by omega)
    have hLl : ∀ k, (Lk k).length ≤ 2 := fun k => by rw [hLk, List.length_take]; omega
    have hLs : ∀ k, (Lk k).length ≤ 1 → Lk (k + 1) = (Lk k ++ (rdAt ws (W.drop a) k).map (path ++ ·)).take 2 := fun k hk => by
      have e : Lk k = outs ++ (rdTo ws (W.drop a) k).map (path ++ ·) := by
        rw [hLk] at hk ⊢; rw [List.length_take] at hk; exact List.take_of_length_le (by omega)
      rw [hLk, Z3y, List.map_append, ← List.append_assoc, ← e]
    have hLe : ∀ k, k ≤ ws.length → (Lk k).length = 2 → Lk ws.length = Lk k := fun k hk h2 => by
      obtain ⟨r, hr⟩ := Zam ws (W.drop a) hk; rw [hLk, ← hr, List.map_append, ← List.append_assoc, Zmu, ← hLk]; rw [hLk, List.length_take] at h2; omega
    rw [← hLk]; refine AWp.seq (AWp.seq (Wd [(9, 1000)] ?_)); simp -implicitDefEqProofs only [go_sem]; refine AWp.block ?_
    refine AWp.loopI (fun p : Nat × List AObj => ⟨mkF 81 [(1, .p (.str (W.drop a))), (2, .p (.sl (path.map ivN))), (3, .own bl (Lk p.1).length), (4, .own bd (W.length + 1)), (5, .ptr h.length 0), (11, .p (.int .i64 outs.length)), (12, .p (.int .i64 p.1))], p.2⟩)
      (fun p => p.1 ≤ ws.length ∧ ∃ D rk, SD ws W D ∧ rk ≠ .raw ∧ h.length + 1 ≤ p.2.length ∧ Still p.2 ∧ p.2[bd]? = some (.row 4 1 (D.map .bool) .own) ∧ p.2[bl]? = some (.row 32 1 ((Lk p.1).map slV) rk) ∧ p.2[h.length]? = some (Z0 q ws) ∧ ∀ i, i < h.length → i ≠ bd → i ≠ bl → p.2[i]? = h[i]?)
      (fun p => ws.length - p.1) (0, h ++ [Z0 q ws]) (by simp [go_sem, Z0, hL0, Z03]) ?_ ?_
    · refine ⟨Nat.zero_le _, D, rk, hSD, hrk, by simp, ?_, ?_, ?_, ?_, ?_⟩
      · intro o ho
        rcases List.mem_append.1 ho with ho | ho
        · exact hS o ho
        · rw [List.mem_singleton.1 ho]; exact ⟨fun k => rfl, fun b xs => rfl⟩
      · simp only [List.getElem?_append_left hbl]; exact hbd
      · simp only [List.getElem?_append_left hblt, hL0]; exact hb
      · simp
      · intro i hi _ _
        simp only [List.getElem?_append_left hi]
    rintro ⟨k, hp⟩ ⟨hk, D1, rk1, s1, s2, s3, s4, s5, s6, s7, s8⟩; simp only at hk s1 s2 s3 s4 s5 s6 s7 s8; unfold Z0 at s7; have hN : ((W.drop a).length : Int) = (W.length : Int) - a := by rw [List.length_drop]; omega
    have hDl : D1.length = W.length + 1 := s1.1; have hdl : (W.drop a).length < W.length + 1 := by rw [List.length_drop]; omega
    have fin : Lk ws.length = Lk k → r34R ws W bd bl (Lk ws.length) h (.own bl (Lk k).length) hp := fun e => ⟨D1, rk1, s1, s2, by omega, s4, s5, by rw [e]; exact s6, s8, by rw [e]⟩
    have fin2 : Lk ws.length = Lk k → (Lk k).length = outs.length → r34R ws W bd bl (Lk ws.length) h (.own bl (Lk k).length) (hp.set bd (.row 4 1 ((D1.map PV.bool).set (W.drop a).length (.bool true)) .own)) := fun e hL => by
      have hnew : rdI ws (W.drop a) = [] := by
        rw [eI]; rw [← e, hLk, List.length_take, List.length_append, List.length_map] at hL; exact List.eq_nil_of_length_eq_zero (by omega)
      refine ⟨D1.set (W.drop a).length true, rk1, ⟨by rw [List.length_set]; exact hDl, fun j hj hd => ?_⟩, s2, by rw [List.length_set]; omega, ?_, ?_, ?_, ?_, by rw [e]⟩
      · by_cases ej : (W.drop a).length = j
        · have : W.length - j = a := by rw [List.length_drop] at ej; omega
          rw [this]; exact hnew
        · rw [List.getD_eq_getElem?_getD, List.getElem?_set_ne ej, ← List.getD_eq_getElem?_getD] at hd
          exact s1.2 j hj hd
      · intro o ho
        rcases List.mem_or_eq_of_mem_set ho with ho | ho
        · exact s4 o ho
        · rw [ho]; exact ⟨fun k => rfl, fun b xs => rfl⟩
      · rw [List.getElem?_set_self (by omega), List.map_set]
      · rw [List.getElem?_set_ne hbb.symm, e]; exact s6
      · intro i hi hib hib2
        rw [List.getElem?_set_ne (fun e => hib e.symm)]; exact s8 i hi hib hib2
    by_cases hlt : k < ws.length
    rotate_left
    · have hke : k = ws.length := by omega
      subst hke; refine AWp.seq (Wd [(9, 1000)] ?_); simp -implicitDefEqProofs only [s7, Int.lt_irrefl, List.length_map, go_sem]; refine AWp.seq (Wd [] ?_); by_cases hL : (Lk ws.length).length = outs.length
      · have hLi : ((Lk ws.length).length : Int) = (outs.length : Int) := by omega
        simp -implicitDefEqProofs only [hLi, s5, hdl, hDl, List.length_map, Int.toNat_natCast, go_sem]; refine ⟨rfl, ?_⟩; refine Wd [] ?_; simp -implicitDefEqProofs only [go_sem]; exact fin2 rfl hL
      · have hLi : ¬ ((Lk ws.length).length : Int) = (outs.length : Int) := by omega
        simp -implicitDefEqProofs only [hLi, go_sem]; refine Wd [] ?_; simp -implicitDefEqProofs only [go_sem]; exact fin rfl
    have hlt' : (k : Int) < (ws.length : Int) := by omega
    by_cases h2 : (Lk k).length = 2
    · have hn2 : ¬ ((Lk k).length : Int) < 2 := by omega
      refine AWp.seq (Wd [(9, 1000)] ?_); simp -implicitDefEqProofs only [s7, hlt', hn2, List.length_map, go_sem]; refine AWp.seq (Wd [] ?_); have hLi : ¬ ((Lk k).length : Int) = (outs.length : Int) := by omega
      simp -implicitDefEqProofs only [hLi, go_sem]; refine Wd [] ?_; simp -implicitDefEqProofs only [go_sem]; exact fin (hLe k hk h2)
    have h2' : ((Lk k).length : Int) < 2 := by have := hLl k; omega
    have h21 : (Lk k).length ≤ 1 := by omega
    have hx : ws[k] ∈ ws := List.getElem_mem hlt; have hxn : 0 < ws[k].length := List.length_pos_iff.2 (hn _ hx); have hkr : InR IntKind.i64 ((k : Int) + 1) := by simp only [InR]; omega
    have hstep := hLs k h21; have eAt : rdAt ws (W.drop a) k = if ws[k].isPrefixOf (W.drop a) then (rdI ws (W.drop (a + ws[k].length))).map (k :: ·) else [] := by
      unfold rdAt; rw [List.getD_eq_getElem?_getD, List.getElem?_eq_getElem hlt, Option.getD_some, List.drop_drop]
    have same : rdAt ws (W.drop a) k = [] → Lk (k + 1) = Lk k := fun e => by
      rw [hstep, e, List.map_nil, List.append_nil]; exact List.take_of_length_le (by omega)
    have e32 := t60 (W.drop a) ws[k]; refine AWp.seq (Wd [(9, 1000)] ?_); simp -implicitDefEqProofs only [s7, hlt', h2', List.length_map, go_sem]; refine AWp.seq (AWp.block (AWp.seq (Wd [(9, 1000)] ?_))); simp -implicitDefEqProofs only [s7, hlt, Z2, ↓reduceIte, List.length_map, go_sem]; refine AWp.seq (Wd [(9, 1000)] ?_); simp -implicitDefEqProofs only [go_sem]; refine Z4 e32 (.pures rfl) ?_
    cases hpre : ws[k].isPrefixOf (W.drop a)
    · rw [hpre] at eAt
      simp only [Bool.false_eq_true, if_false] at eAt; simp -implicitDefEqProofs only [go_sem]; refine Wd [(9, 1000)] ?_; simp -implicitDefEqProofs only [go_sem]; refine Wd [(9, 1000)] ?_; simp -implicitDefEqProofs only [go_sem]; have e1 := same eAt; exact ⟨hkr, (k + 1, hp), ⟨⟨by simp only [e1], by simp⟩, Z03 _⟩, ⟨hlt, D1, rk1, s1, s2, s3, s4, s5, by simp only [e1]; exact s6, s7, s8⟩, by simp only; omega⟩
    rw [hpre, if_pos rfl] at eAt; have hle : a + ws[k].length ≤ W.length := by
      have := List.IsPrefix.length_le (List.isPrefixOf_iff_prefix.1 hpre); rw [List.length_drop] at this; omega
    have eN : (((W.drop a).length : Int) - ws[k].length).toNat = W.length - (a + ws[k].length) := by omega
    have hjl : W.length - (a + ws[k].length) < W.length + 1 := by omega
    have hDg : (D1.map PV.bool).getD (W.length - (a + ws[k].length)) default = .bool (D1.getD (W.length - (a + ws[k].length)) false) := by
      rw [List.getD_eq_getElem?_getD, List.getElem?_map, List.getD_eq_getElem?_getD, List.getElem?_eq_getElem (by omega)]
      rfl
    cases hDb : D1.getD (W.length - (a + ws[k].length)) false
    rotate_left
    · have hnil := s1.2 _ (Nat.sub_le _ _) hDb
      rw [show W.length - (W.length - (a + ws[k].length)) = a + ws[k].length by omega] at hnil; rw [hnil, List.map_nil] at eAt; rw [hDb] at hDg; simp -implicitDefEqProofs only [s5, hDg, eN, hjl, hDl, List.length_map, go_sem]; refine ⟨by simp only [InR]; omega, ⟨by omega, by omega⟩, ?_⟩; refine Wd [(9, 1000)] ?_; simp -implicitDefEqProofs only [go_sem]; refine Wd [(9, 1000)] ?_; simp -implicitDefEqProofs only [go_sem]; have e1 := same eAt; exact ⟨hkr, (k + 1, hp), ⟨⟨by simp only [e1], by simp⟩, Z03 _⟩, ⟨hlt, D1, rk1, s1, s2, s3, s4, s5, by simp only [e1]; exact s6, s7, s8⟩, by simp only; omega⟩
    rw [hDb] at hDg; simp -implicitDefEqProofs only [s5, hDg, eN, hjl, hDl, List.length_map, go_sem]; refine ⟨by simp only [InR]; omega, ⟨by omega, by omega⟩, ?_⟩; refine Wd [(9, 1000)] ?_; simp -implicitDefEqProofs only [go_sem]; refine AWp.planL (.q 0 (.q 1 (.q 2 (.q 3 (.q 4 (.q 5 (.q 6 (.q 7 (.q 8 (.q 9 (.q 10 (.q 11 (.q 12 (.q 14 (.q 15 (.e 13 (.s 0 (.s 1 (.s 2 (.s 3 (.s 4 (.s 14 (.s 15 (.e 16 (.q 17 .fin) .nil)))))))) .nil)))))))))))))))) hΓ hmix (by kernel_rfl) ?_; have hbp : bl < hp.length := (List.getElem?_eq_some_iff.1 s6).1; have hdp : bd < hp.length := (List.getElem?_eq_some_iff.1 s5).1; have s7' : ∀ o : AObj, (hp ++ [o])[h.length]? = some (.box [.p (.int .i64 q), .p (.sl (ws.map .str))]) := fun o => by rw [List.getElem?_append_left (by omega)]; exact s7
    have eT : List.take path.length (List.map ivN path) = List.map ivN path := List.take_of_length_le (by simp); have eW : List.drop ws[k].length (List.drop a W) = W.drop (a + ws[k].length) := by rw [List.drop_drop]
    have hS2 : Still (hp ++ [AObj.dead]) := fun o ho => by
      rcases List.mem_append.1 ho with ho | ho
      · exact s4 o ho
      · rw [List.mem_singleton.1 ho]; exact ⟨fun k => rfl, fun b xs => rfl⟩
    have hcall := ih (a + ws[k].length) (Lk k) (path ++ [k]) (hp ++ [.dead]) bd bl D1 rk1 (by omega) hle (by rw [List.length_append, List.length_singleton]; omega) h21 s1
      (by rw [List.getElem?_append_left hdp]; exact s5) (by rw [List.getElem?_append_left hbp]; exact s6) s2 hbb hS2
    have hres : (Lk k ++ (rdI ws (W.drop (a + ws[k].length))).map ((path ++ [k]) ++ ·)).take 2 = Lk (k + 1) := by
      rw [hstep, eAt, List.map_map]
      congr 2
      refine List.map_congr_left fun x _ => ?_
      simp
    rw [hres] at hcall; have hgive : AC Try.prog 34 [.agg [.p (.int .i64 q), .p (.sl (ws.map .str))], .p (.str (W.drop (a + ws[k].length))), .own hp.length (path.length + 1), .own bl (Lk k).length, .own bd (W.length + 1)] (hp ++ [.row 3 1 (List.map ivN path ++ [.int .i64 k]) .own]) [bl] (r34R ws W bd bl (Lk (k + 1)) (hp ++ [.dead])) := by
      refine AC.give hp.length (E := 3) (s := 1) (xs := (path ++ [k]).map ivN) (k := .own) (by simp [ivN]) ?_; have e2 : ((hp ++ [AObj.row 3 1 (List.map ivN path ++ [.int .i64 k]) .own]).map (AObj.thaw hp.length ((path ++ [k]).map ivN))).set hp.length .dead = hp ++ [.dead] := by
        rw [List.map_append, s4.thaw, List.set_append_right _ _ (Nat.le_refl _), Nat.sub_self]
        rfl
      rw [e2]; have n1 : ¬ bl = hp.length := by omega
      have n2 : ¬ bd = hp.length := by omega
      simpa [AV.thaw, AV.thaw.thawL, n1, n2] using hcall
    have hxd : ws[k].length ≤ (W.drop a).length := by rw [List.length_drop]; omega
    simp -implicitDefEqProofs only [s7, s7', eT, eW, List.length_map, go_sem]; refine ⟨hxd, Z2p path, ⟨Z2p [k], by omega⟩, ⟨Z2p [k], Zar [k]⟩, ⟨Z2p path, by omega, by omega⟩, hxd, ?_⟩; refine Zn hgive (fun k hk => .inr hk) ?_; rintro v h' ⟨D', rk', t1, t0, t2, t3, t4, t5, t6, rfl⟩; have hbb2 : ¬ bd = bl := fun e => hbb e.symm
    simp -implicitDefEqProofs only [Z8, List.foldl, hbb2, ↓reduceIte, go_sem]; refine Wd [] ?_; simp -implicitDefEqProofs only [go_sem]; rw [List.length_append] at t2; have old : ∀ i, i < hp.length → i ≠ bd → i ≠ bl → h'[i]? = hp[i]? := fun i hi h1 h2 => by
      rw [t6 i (by rw [List.length_append]; omega) h1 h2, List.getElem?_append_left hi]
    have hnb : ¬ h.length = bl := by omega
    exact ⟨hkr, (k + 1, h'), ⟨by simp [hnb], Z03 _⟩, ⟨hlt, D', rk', t1, t0, by simp only; omega, t3, t4, t5, (old _ (by omega) (by omega) (by omega)).trans s7, fun i hi h1 h2 => (old i (by omega) h1 h2).trans (s8 i hi h1 h2)⟩, by simp only; omega⟩

def lvR (q n k : Nat) : List (List UInt8) := if k ≤ n then lvlW q k else []

theorem q15 {q n : Nat} {ws : List (List UInt8)} (hc : Z7 q ws = 0) (hn : n ≤ 12) (hpow : q ^ n ≤ 65536) {o : Option Nat} (ho : LeA ws q n o) :
    PFn Try.prog 15 [Z9 q ws, .int .i64 n] [.str (match o with | some v => wn q v | none => []), .bool o.isSome, .int .i64 0] := by
  have hv := valid_of hc; have hq2 := hv.q2; have hq16 := hv.q16; have hq0 : 0 < q := by omega
  have hne : ∀ x ∈ ws, x ≠ [] := fun x hx => by
    obtain ⟨i, hi, rfl⟩ := List.getElem_of_mem hx; have := hv.ne i hi
    rwa [List.getD_eq_getElem?_getD, List.getElem?_eq_getElem hi, Option.getD_some] at this
  have hws : ws.length ≤ 256 := by have := hv.len; omega
  have hp : ∀ i, i ≤ n → q ^ i ≤ 65536 := fun i hi => Nat.le_trans (Nat.pow_le_pow_right hq0 hi) hpow
  have e1 := t44 (q : Int) ws; rw [hc] at e1; unfold Z9 at e1; have i1 : ¬ (n : Int) < 0 := by omega
  have i2 : ¬ (12 : Int) < (n : Int) := by omega
  refine PFn.of_body hΓ Try.func15 (by kernel_rfl) rfl (AWp.seq (Wd [] ?_)); simp -implicitDefEqProofs only [Try.ntmps15, Try.results15, Nat.reduceAdd, Nat.reduceSub, Z9, go_sem]; refine AWp.seq (Wd [] ?_); simp -implicitDefEqProofs only [go_sem]; refine Z4 e1 (.still rfl) ?_; simp -implicitDefEqProofs only [go_sem]; refine AWp.seq (Wd [] ?_); simp -implicitDefEqProofs only [i1, i2, go_sem]; refine AWp.seq (Wd [] ?_); simp -implicitDefEqProofs only [go_sem]; refine AWp.seq (AWp.seq (Wd [] ?_)); simp -implicitDefEqProofs only [go_sem]; refine AWp.block ?_
  refine AWp.loopI (fun i : Nat => ⟨mkF 88 [(1, .p (.int .i64 n)), (2, .ptr 0 0), (7, .p (.int .i64 ((q ^ i : Nat) : Int))), (8, .p (.int .i64 i))], [Z0 q ws]⟩)
    (fun i => i ≤ n) (fun i => n - i) 0 (by simp [go_sem, Z0]) (Nat.zero_le _) ?_
  intro i hi; have eM : ((q ^ i : Nat) : Int) * (q : Int) = ((q ^ (i + 1) : Nat) : Int) := by rw [Nat.pow_succ]; exact (Int.natCast_mul _ _).symm
  by_cases hlt : i < n
  · have hlt' : (i : Int) < (n : Int) := by omega
    have hb := hp (i + 1) hlt; have hb' : ¬ (65536 : Int) < ((q ^ (i + 1) : Nat) : Int) := by omega
    simp -implicitDefEqProofs only [Z0, go_sem]; refine Wd [] ?_; generalize hP : q ^ i = P at *; generalize hQ : q ^ (i + 1) = Q at *; simp -implicitDefEqProofs only [hlt', eM, hb', go_sem]; refine ⟨by simp only [InR]; omega, by simp only [InR]; omega, i + 1, ⟨by simp [hQ], by simp [Z0]⟩, hlt, by omega⟩
  have hin : i = n := by omega
  subst hin; clear hlt eM; simp -implicitDefEqProofs only [Z0, go_sem]; refine Wd [] ?_; simp -implicitDefEqProofs only [Int.lt_irrefl, go_sem]; refine AWp.seq (Wd [] ?_); simp -implicitDefEqProofs only [go_sem]; refine ⟨⟨by simp [Zb, PV.cells], by omega⟩, ?_⟩; refine AWp.adopt (l := [.str []]) 9 9 1 rfl (by simp [PV.cells]) ?_; simp -implicitDefEqProofs only [List.set_cons_zero, List.set_cons_succ, go_sem]; refine AWp.freeze 1 rfl ?_; simp -implicitDefEqProofs only [Z1j, AV.thaw, AV.thaw.thawL, AObj.thaw, List.map_cons, List.map_nil, List.set_cons_zero, List.set_cons_succ, go_sem]; refine AWp.seq (AWp.seq (Wd [] ?_)); simp -implicitDefEqProofs only [go_sem]; refine AWp.block ?_
  refine AWp.loopJ (fun k : Nat => ⟨mkF 88 [(1, .p (.int .i64 i)), (2, .ptr 0 0), (9, .p (.sl ((lvR q i k).map .str))), (10, .p (.int .i64 k))], [Z0 q ws]⟩)
    (fun k => k ≤ i + 1 ∧ ∀ u, u < cLv q k → ¬ Amb2 ws (wn q u)) (fun k => i + 1 - k) 0 (fun k => by simp [Z1b, mkF, AV.blw, AV.blw.blwL, blwH, AObj.blw, Z0]) (by simp [go_sem, Z0, lvR, lvlW, cLv, Z7d, Z0l]) ⟨Nat.zero_le _, fun u hu => by simp [cLv] at hu⟩ ?_
  rintro k ⟨hk, hno⟩; by_cases hki : k ≤ i
  rotate_left
  · have hki' : k = i + 1 := by omega
    subst hki'
    have hoN := ho.miss fun u hu => hno u (by
      apply Classical.byContradiction
      intro h; have := Zhu hq0 (by omega) (Nat.le_of_not_lt h)
      omega)
    subst hoN; have hle : ¬ (((i + 1 : Nat) : Int) ≤ (i : Int)) := by omega
    simp -implicitDefEqProofs only [Z0, go_sem]; refine Wd [] ?_; simp -implicitDefEqProofs only [hle, go_sem]; refine Wd [] ?_; simp -implicitDefEqProofs only [Option.isSome_none, go_sem]
  have hki' : (k : Int) ≤ (i : Int) := by omega
  have hpk := hp k hki; have hlv : lvR q i k = lvlW q k := if_pos hki; rw [hlv]; simp -implicitDefEqProofs only [Z0, go_sem]; refine AWp.seq (Wd [] ?_); simp -implicitDefEqProofs only [hki', go_sem]; refine AWp.seq (AWp.block (AWp.seq (Wd [] ?_))); simp -implicitDefEqProofs only [go_sem]; refine ⟨⟨by simp [Zb], by omega⟩, ?_⟩; refine AWp.adopt (l := []) 11 9 1 rfl (by simp) ?_; simp -implicitDefEqProofs only [List.set_cons_zero, List.set_cons_succ, go_sem]; obtain ⟨mJ, hmJ⟩ : ∃ mJ : Nat → Nat, ∀ j, mJ j = if k < i then j * q else 0 := ⟨_, fun _ => rfl⟩
  have hmJ0 : mJ 0 = 0 := by rw [hmJ]; simp
  refine AWp.seq (AWp.seq (Wd [] ?_)); simp -implicitDefEqProofs only [go_sem]; refine AWp.block ?_
  refine AWp.loopJ (fun j : Nat => ⟨mkF 88 [(1, .p (.int .i64 i)), (2, .ptr 0 0), (9, .p (.sl ((lvlW q k).map .str))), (10, .p (.int .i64 k)), (11, .own 1 (mJ j)), (12, .p (.int .i64 j))], [Z0 q ws, .row 9 1 ((nxtW q k (mJ j)).map .str) .lax]⟩)
    (fun j => j ≤ q ^ k ∧ ∀ u, u < cLv q k + j → ¬ Amb2 ws (wn q u)) (fun j => q ^ k - j) 0 (fun j => by simp [Z1b, mkF, AV.blw, AV.blw.blwL, blwH, AObj.blw, Z0]) (by simp [go_sem, Z0, nxtW, hmJ0, Z0l]) ⟨Nat.zero_le _, by simpa using hno⟩ ?_
  rintro j ⟨hj, hnj⟩; have hll := Z7p q k; by_cases hjk : j < q ^ k
  rotate_left
  · have hje : j = q ^ k := by omega
    subst hje; have hnext : nxtW q k (mJ (q ^ k)) = lvR q i (k + 1) := by
      rw [hmJ]; unfold lvR; by_cases h : k < i
      · rw [if_pos h, if_pos (by omega), Z8g]
      · rw [if_neg h, if_neg (by omega)]; rfl
    simp -implicitDefEqProofs only [Z0, go_sem]; refine Wd [(20, 1000)] ?_; simp -implicitDefEqProofs only [hll, Int.lt_irrefl, List.length_map, go_sem]; refine AWp.freeze 1 rfl ?_; simp -implicitDefEqProofs only [Z1j, AV.thaw, AV.thaw.thawL, AObj.thaw, List.map_cons, List.map_nil, List.set_cons_zero, List.set_cons_succ, go_sem]; refine Wd [] ?_; simp -implicitDefEqProofs only [go_sem]; refine Wd [] ?_; simp -implicitDefEqProofs only [go_sem]; have hc1 := Za9 q k; refine ⟨by simp only [InR]; omega, k + 1, ⟨by simp [go_sem, hnext], by simp [Z0, weakD, Z0l]⟩, ⟨by omega, fun u hu => hnj u (by omega)⟩, by omega⟩
  have hjk' : (j : Int) < ((q ^ k : Nat) : Int) := by omega
  have hg := Zaw hjk; have hcl := Z7o hq0 k j hjk; obtain ⟨W, hW⟩ : ∃ W, W = wn q (cLv q k + j) := ⟨_, rfl⟩; rw [← hW] at hg hcl; simp -implicitDefEqProofs only [Z0, go_sem]; refine AWp.seq (Wd [] ?_); simp -implicitDefEqProofs only [hjk', hll, List.length_map, go_sem]; refine AWp.seq (AWp.block (AWp.seq (AWp.seq (Wd [(20, 1000)] ?_)))); simp -implicitDefEqProofs only [go_sem]; refine AWp.planL (.q 0 (.q 1 (.q 2 (.q 3 (.q 4 (.q 5 (.q 6 (.q 7 (.q 8 (.e 9 (.s 0 (.s 1 (.s 2 (.s 3 (.s 4 (.s 5 (.s 6 (.e 10 (.q 11 (.q 12 .fin)) .nil)))))))) .nil)))))))))) hΓ hmix (by kernel_rfl) ?_; simp -implicitDefEqProofs only [hg, hll, hjk, List.length_map, Int.toNat_natCast, go_sem]; have eN1 : ((k : Int) + 1).toNat = k + 1 := by omega
  have eD : (List.replicate (k + 1) false).map PV.bool = List.replicate (k + 1) (PV.bool false) := by simp
  have hSD : SD ws W (List.replicate (k + 1) false) := ⟨by simp [hcl], fun j hj h => by
    rw [List.getD_eq_getElem?_getD, List.getElem?_replicate] at h
    split at h <;> cases h⟩
  have hAC : AC Try.prog 34 [.agg [.p (.int .i64 q), .p (.sl (ws.map .str))], .p (.str W), .full [], .full [], .own 2 (k + 1)]
      [.box [.p (.int .i64 q), .p (.sl (ws.map .str))], .row 9 1 ((nxtW q k (mJ j)).map .str) .lax, .row 4 1 (List.replicate (k + 1) (PV.bool false)) .own] []
      (r34R ws W 2 3 ((rdI ws W).take 2) [.box [.p (.int .i64 q), .p (.sl (ws.map .str))], .row 9 1 ((nxtW q k (mJ j)).map .str) .lax, .row 4 1 (List.replicate (k + 1) (PV.bool false)) .own, .row 32 1 [] .lax]) := by
    refine AC.adopt (l := []) 3 32 1 rfl (by simp) ?_; refine AC.args (args := [.agg [.p (.int .i64 q), .p (.sl (ws.map .str))], .p (.str W), .p (.sl []), .own 3 0, .own 2 (k + 1)]) rfl (fun i => ?_) ?_
    · match i with
      | 0 => exact .inl rfl
      | 1 => exact .inl rfl
      | 2 => exact .inr ⟨[], rfl, rfl⟩
      | 3 => exact .inl rfl
      | 4 => exact .inl rfl
      | n + 5 => exact .inl (by simp)
    have := r34 (q := q) (W := W) hne hws (by omega) W.length 0 [] [] [.box [.p (.int .i64 q), .p (.sl (ws.map .str))], .row 9 1 ((nxtW q k (mJ j)).map .str) .lax, .row 4 1 (List.replicate (k + 1) (PV.bool false)) .own, .row 32 1 [] .lax] 2 3 (List.replicate (k + 1) false) .lax
      (by omega) (by omega) (by simp only [List.length_nil]; omega) (by simp) hSD (by rw [eD]; rfl) rfl (by simp) (by simp) (fun o ho => by
        simp only [List.mem_cons, List.not_mem_nil, or_false] at ho; rcases ho with rfl | rfl | rfl | rfl <;> exact ⟨fun k => rfl, fun b xs => rfl⟩)
    rw [List.drop_zero, hcl] at this
    simpa using this
  rw [eN1]; refine ⟨⟨by simp [Zb], by omega⟩, ⟨by simp [Zb], by omega⟩, by simp only [InR]; omega, ⟨by omega, by omega, by omega⟩, ⟨by simp [Zb], by omega⟩, ⟨by simp [Zb], by omega⟩, ?_⟩; refine Zn hAC (by simp) ?_; rintro v h' ⟨D', rk', t1, t0, t2, t3, t4, t5, t6, rfl⟩; have b0 : h'[0]? = some (.box [.p (.int .i64 q), .p (.sl (ws.map .str))]) := (t6 0 (by simp) (by omega) (by omega)).trans rfl; have b1 : h'[1]? = some (.row 9 1 ((nxtW q k (mJ j)).map .str) .lax) := (t6 1 (by simp) (by omega) (by omega)).trans rfl; obtain ⟨rest, rfl⟩ : ∃ rest, h' = .box [.p (.int .i64 q), .p (.sl (ws.map .str))] :: .row 9 1 ((nxtW q k (mJ j)).map .str) .lax :: rest := by
    match h', b0, b1 with
    | a :: b :: r, b0, b1 =>
      simp only [List.getElem?_cons_zero, List.getElem?_cons_succ, Option.some.injEq] at b0 b1; subst b0 b1; exact ⟨r, rfl⟩
  have hA2 : ((rdI ws W).take 2).length = min 2 (rdI ws W).length := List.length_take; by_cases hA : Amb2 ws W
  · have hA' : (1 : Int) < (((rdI ws W).take 2).length : Int) := by unfold Amb2 at hA; omega
    have hoS := ho.hit (v := cLv q k + j) (by rw [← hW]; exact hA) (by rw [← hW, hcl]; exact hki) hnj; subst hoS; simp -implicitDefEqProofs only [Z8, List.foldl, t5, List.length_map, hA', go_sem]; refine Wd [] ?_; simp -implicitDefEqProofs only [hg, hll, hjk, List.length_map, Int.toNat_natCast, Option.isSome_some, ← hW, go_sem]
  have hA' : ¬ (1 : Int) < (((rdI ws W).take 2).length : Int) := by unfold Amb2 at hA; omega
  simp -implicitDefEqProofs only [Z8, List.foldl, t5, List.length_map, hA', go_sem]; refine Wd [] ?_; simp -implicitDefEqProofs only [go_sem]; have hjq : j * q + q ≤ q ^ k * q := by
    have : (j + 1) * q ≤ q ^ k * q := Nat.mul_le_mul_right _ hjk; rw [Nat.add_mul, Nat.one_mul] at this; exact this
  obtain ⟨mA, hmA⟩ : ∃ mA : Nat → Nat, ∀ a, mA a = if k < i then j * q + a else 0 := ⟨_, fun _ => rfl⟩
  have hmA0 : mA 0 = mJ j := by rw [hmA, hmJ]; simp
  have hmAq : mA q = mJ (j + 1) := by
    rw [hmA, hmJ, Nat.add_mul, Nat.one_mul]
  refine AWp.seq (Wd [] ?_); simp -implicitDefEqProofs only [go_sem]; refine AWp.block ?_
  refine AWp.loopJ (fun a : Nat => ⟨mkF 88 [(1, .p (.int .i64 i)), (2, .ptr 0 0), (9, .p (.sl ((lvlW q k).map .str))), (10, .p (.int .i64 k)), (11, .own 1 (mA a)), (12, .p (.int .i64 j)), (13, .p (.int .i64 a))], [Z0 q ws, .row 9 1 ((nxtW q k (mA a)).map .str) .lax]⟩)
    (fun a => a ≤ q ∧ (k < i ∨ a = 0)) (fun a => q - a) 0 (fun j => by simp [Z1b, mkF, AV.blw, AV.blw.blwL, blwH, AObj.blw, Z0]) (by simp [go_sem, Z0, hmA0, Z0l]) ⟨Nat.zero_le _, .inr rfl⟩ ?_
  rintro a ⟨ha, hka⟩; have nextJ : ∀ u, u < cLv q k + (j + 1) → ¬ Amb2 ws (wn q u) := fun u hu g => by
    rcases Nat.lt_or_ge u (cLv q k + j) with h | h
    · exact hnj u h g
    · have he : u = cLv q k + j := by omega
      rw [he, ← hW] at g; exact hA g
  by_cases hcont : a < q ∧ k < i
  rotate_left
  · have hm : mA a = mJ (j + 1) := by
      by_cases h : k < i
      · have : a = q := by
          have h2 : ¬ a < q := fun g => hcont ⟨g, h⟩
          omega
        rw [this, hmAq]
      · have : a = 0 := hka.resolve_left h
        rw [this, hmA0, hmJ, hmJ, if_neg h, if_neg h]
    by_cases haq : a < q
    · have haq' : (a : Int) < (q : Int) := by omega
      have hki2 : ¬ (k : Int) < (i : Int) := by
        have : ¬ k < i := fun g => hcont ⟨haq, g⟩
        omega
      simp -implicitDefEqProofs only [Z0, go_sem]; refine Wd [(25, 1000)] ?_; simp -implicitDefEqProofs only [haq', hki2, go_sem]; refine Wd [] ?_; simp -implicitDefEqProofs only [go_sem]; exact ⟨by simp only [InR]; omega, j + 1, ⟨⟨hm.symm, by simp⟩, by simp [Z0], by simp only [hm]⟩, ⟨hjk, nextJ⟩, by omega⟩
    · have haq' : ¬ (a : Int) < (q : Int) := by omega
      simp -implicitDefEqProofs only [Z0, go_sem]; refine Wd [(25, 1000)] ?_; simp -implicitDefEqProofs only [haq', go_sem]; refine Wd [] ?_; simp -implicitDefEqProofs only [go_sem]; exact ⟨by simp only [InR]; omega, j + 1, ⟨⟨hm.symm, by simp⟩, by simp [Z0], by simp only [hm]⟩, ⟨hjk, nextJ⟩, by omega⟩
  obtain ⟨haq, hki3⟩ := hcont; have haq' : (a : Int) < (q : Int) := by omega
  have hki2 : (k : Int) < (i : Int) := by omega
  have hch := Z5x hq0 k j a haq; rw [← hW] at hch; have eL : List.take (((a : Int) + 1).toNat - a) (List.drop a ([48, 49, 50, 51, 52, 53, 54, 55, 56, 57, 97, 98, 99, 100, 101, 102] : List UInt8)) = [Kn.ltr a] := by
    have key : ∀ b : Fin 16, List.take (((b.val : Int) + 1).toNat - b.val) (List.drop b.val ([48, 49, 50, 51, 52, 53, 54, 55, 56, 57, 97, 98, 99, 100, 101, 102] : List UInt8)) = [Kn.ltr b.val] := by decide
    exact key ⟨a, by omega⟩
  have hsn := Z8f q k (mA a); have hm1 : mA a = j * q + a := by rw [hmA, if_pos hki3]
  have hm2 : mA (a + 1) = mA a + 1 := by rw [hmA, hmA, if_pos hki3, if_pos hki3]; rfl
  have hQ1 := hp (k + 1) hki3; rw [Nat.pow_succ] at hQ1; simp -implicitDefEqProofs only [Z0, go_sem]; refine AWp.seq (Wd [] ?_); simp -implicitDefEqProofs only [haq', hki2, go_sem]; refine AWp.seq (AWp.block (Wd [(25, 1000)] ?_)); simp -implicitDefEqProofs only [go_sem]; refine AWp.planL (.q 0 (.q 1 (.q 2 (.q 3 (.q 4 (.q 5 (.q 6 (.q 7 (.q 8 (.q 9 (.q 10 (.e 11 (.q 12 .fin) .nil)))))))))))) hΓ hmix (by kernel_rfl) ?_; simp -implicitDefEqProofs only [hg, hll, hjk, List.length_map, Int.toNat_natCast, eL, go_sem]; have hmb : mA a + q ≤ 65536 + q := by omega
  rw [show cLv q (k + 1) + mA a = cLv q (k + 1) + (j * q + a) by rw [hm1], hch] at hsn; refine ⟨by simp only [InR]; omega, ⟨by omega, by omega⟩, by omega, ⟨by simp [Zb, PV.cells], by omega⟩, ⟨by simp [Zb, PV.cells], by simp [Z2u, PV.cells, PV.isAgg]⟩, ⟨.inl (by omega), by omega, by omega⟩, ?_⟩; refine Wd [] ?_; simp -implicitDefEqProofs only [go_sem]; refine ⟨by simp only [InR]; omega, a + 1, ⟨by simp [go_sem, hm2], by simp [Z0, hm2, hsn, weakD, Z0l]⟩, ⟨by omega, .inl hki3⟩, by omega⟩

def cN (ws : List (List UInt8)) (w : List UInt8) (j : Nat) : Nat := min 2 (rdI ws (w.drop j)).length
def cK (ws : List (List UInt8)) (w : List UInt8) (k : Nat) : List Nat := (List.range (w.length + 1)).map fun j => if k ≤ j then cN ws w j else 0
def cT (ws : List (List UInt8)) (w : List UInt8) (i n : Nat) : List Nat := (cK ws w (i + 1)).set i (min 2 (rdTo ws (w.drop i) n).length)
theorem Zp5 (ws : List (List UInt8)) (w : List UInt8) (k : Nat) : (cK ws w k).length = w.length + 1 := by simp [cK]
theorem Zeq (ws : List (List UInt8)) (w : List UInt8) (i n : Nat) : (cT ws w i n).length = w.length + 1 := by simp [cT, cK]
theorem Zkf (ws : List (List UInt8)) (w : List UInt8) (i : Nat) : cT ws w i 0 = cK ws w (i + 1) := by
  apply List.ext_getElem
  · simp [cT]
  intro j h1 h2; simp only [cT, cK, List.getElem_set, List.getElem_map, List.getElem_range]; by_cases e : i = j
  · subst e
    rw [if_pos rfl, if_neg (by omega)]; simp [rdTo]
  · rw [if_neg e]
theorem Zkg {ws : List (List UInt8)} {w : List UInt8} (hn : ∀ x ∈ ws, x ≠ []) {i : Nat} (hi : i < w.length) : cT ws w i ws.length = cK ws w i := by
  have hne : w.drop i ≠ [] := fun e => by
    have := congrArg List.length e; rw [List.length_drop, List.length_nil] at this; omega
  apply List.ext_getElem
  · simp [cT, cK]
  intro j h1 h2; simp only [cT, cK, List.getElem_set, List.getElem_map, List.getElem_range]; by_cases e : i = j
  · subst e
    rw [if_pos rfl, if_pos (Nat.le_refl _)]; unfold cN; rw [Z2c hn hne]
  · rw [if_neg e]
    by_cases h : i + 1 ≤ j
    · rw [if_pos h, if_pos (by omega)]
    · rw [if_neg h, if_neg (by omega)]
theorem Zp4 {ws : List (List UInt8)} {w : List UInt8} {i n j : Nat} (h : i < j) (hj : j ≤ w.length) : ((cT ws w i n).map ivN).getD j default = ivN (cN ws w j) := by
  have hl := Zeq ws w i n; rw [List.getD_eq_getElem?_getD, List.getElem?_eq_getElem (by rw [List.length_map]; omega), Option.getD_some, List.getElem_map]
  congr 1
  simp only [cT, cK, List.getElem_set, List.getElem_map, List.getElem_range]; rw [if_neg (by omega), if_pos (by omega)]
theorem cT_at {ws : List (List UInt8)} {w : List UInt8} {i n : Nat} (hi : i ≤ w.length) : ((cT ws w i n).map ivN).getD i default = ivN (min 2 (rdTo ws (w.drop i) n).length) := by
  have hl := Zeq ws w i n; rw [List.getD_eq_getElem?_getD, List.getElem?_eq_getElem (by rw [List.length_map]; omega), Option.getD_some, List.getElem_map]
  congr 1
  simp only [cT, List.getElem_set, if_pos]
theorem Zp3 {ws : List (List UInt8)} {w : List UInt8} {i n : Nat} {v : Nat} (h : v = min 2 (rdTo ws (w.drop i) (n + 1)).length) : ((cT ws w i n).map ivN).set i (ivN v) = (cT ws w i (n + 1)).map ivN := by
  unfold cT; rw [← List.map_set, List.set_set, h]
theorem Zkh (ws : List (List UInt8)) (w : List UInt8) : (List.replicate (w.length + 1) (ivN 0)).set w.length (ivN 1) = (cK ws w w.length).map ivN := by
  apply List.ext_getElem
  · simp [cK]
  intro i h1 h2; simp only [List.length_set, List.length_replicate] at h1; simp only [cK, List.getElem_set, List.getElem_replicate, List.getElem_map, List.getElem_range]; by_cases e : w.length = i
  · subst e
    have : cN ws w w.length = 1 := by unfold cN; rw [List.drop_length, Z1y]; rfl
    simp [this]
  · rw [if_neg e, if_neg (by omega)]

theorem o35 (q : Int) (ws : List (List UInt8)) (w : List UInt8) (hn : ∀ x ∈ ws, x ≠ []) (hws : ws.length ≤ 256) (hw : w.length ≤ 4096) : PFn Try.prog 35 [Z9 q ws, .str w] [.bool (decide (2 ≤ (rdI ws w).length))] := by
  refine PFn.of_body hΓ Try.func35 (by kernel_rfl) rfl (AWp.seq (Wd [] ?_)); simp -implicitDefEqProofs only [Try.ntmps35, Try.results35, Nat.reduceAdd, Nat.reduceSub, Z9, go_sem]; have eN1 : ((w.length : Int) + 1).toNat = w.length + 1 := by omega
  refine AWp.seq (Wd [] ?_); simp -implicitDefEqProofs only [eN1, go_sem]; refine ⟨by simp only [InR]; omega, ⟨by omega, by omega, by omega⟩, ?_⟩; refine AWp.seq (Wd [] ?_); simp -implicitDefEqProofs only [Int.toNat_natCast, List.length_replicate, go_sem]; refine ⟨rfl, ?_⟩; have eLast : (PV.int .i64 0 :: List.replicate w.length (.int .i64 0)).set w.length (.int .i64 1) = (cK ws w w.length).map ivN := Zkh ws w; rw [eLast]; refine AWp.seq (AWp.seq (Wd [] ?_)); simp -implicitDefEqProofs only [go_sem]; refine ⟨by simp only [InR]; omega, ?_⟩; refine AWp.block ?_
  refine AWp.loopI (fun k : Nat => ⟨mkF 57 [(1, .p (.str w)), (2, .ptr 0 0), (4, .p (.bool false)), (5, .own 1 (w.length + 1)), (6, .p (.int .i64 ((k : Int) - 1)))], [Z0 q ws, .row 3 1 ((cK ws w k).map ivN) .own]⟩)
    (fun k => k ≤ w.length) (fun k => k) w.length (by simp [go_sem, Z0]) (Nat.le_refl _) ?_
  intro k hk; simp -implicitDefEqProofs only [Z0, go_sem]
  cases k with
  | zero =>
    have h0 : ¬ (0 : Int) ≤ ((0 : Nat) : Int) - 1 := by omega
    refine AWp.seq (Wd [] ?_); simp -implicitDefEqProofs only [h0, go_sem]; have e0 : ((cK ws w 0).map ivN).getD 0 default = ivN (min 2 (rdI ws w).length) := by
      unfold cK; rw [List.range_succ_eq_map]; simp [cN]
    refine Wd [] ?_; simp -implicitDefEqProofs only [show Int.toNat 0 = 0 from rfl, e0, Zp5, List.length_map, ivN, go_sem]; refine ⟨by omega, by omega, ?_⟩; exact decide_eq_decide.2 ⟨fun h => by omega, fun h => by omega⟩
  | succ i =>
    have ei : (((i + 1 : Nat) : Int) - 1) = (i : Int) := by omega
    have h0 : (0 : Int) ≤ (i : Int) := by omega
    rw [ei]; refine AWp.seq (Wd [] ?_); simp -implicitDefEqProofs only [h0, go_sem]; rw [← Zkf]; refine AWp.seq (AWp.block (AWp.seq (Wd [] ?_))); simp -implicitDefEqProofs only [go_sem]; refine AWp.block ?_
    refine AWp.loopI (fun n : Nat => ⟨mkF 57 [(1, .p (.str w)), (2, .ptr 0 0), (4, .p (.bool false)), (5, .own 1 (w.length + 1)), (6, .p (.int .i64 i)), (25, .p (.sl (ws.map .str))), (26, .p (.int .i64 ws.length)), (27, .p (.int .i64 n))], [Z0 q ws, .row 3 1 ((cT ws w i n).map ivN) .own]⟩)
      (fun n => n ≤ ws.length) (fun n => ws.length - n) 0 (by simp [go_sem, Z0]) (Nat.zero_le _) ?_
    intro n hn2; by_cases hlt : n < ws.length
    · have hx : ws[n] ∈ ws := List.getElem_mem hlt
      have hxn : 0 < ws[n].length := List.length_pos_iff.2 (hn _ hx); have hni : (n : Int) < ws.length := by omega
      have e55 := t69 (w.drop i) ws[n]; have hs := Z3y ws (w.drop i) n; have eAt : rdAt ws (w.drop i) n = if ws[n].isPrefixOf (w.drop i) then (rdI ws (w.drop (i + ws[n].length))).map (n :: ·) else [] := by
        unfold rdAt; rw [List.getD_eq_getElem?_getD, List.getElem?_eq_getElem hlt, Option.getD_some, List.drop_drop]
      simp -implicitDefEqProofs only [Z0, go_sem]; refine Wd [(10, 16)] ?_; simp -implicitDefEqProofs only [hlt, Z2, ↓reduceIte, List.length_map, Int.toNat_natCast, go_sem]; refine ⟨by omega, Z4 e55 (.pures rfl) ?_⟩
      cases hp : ws[n].isPrefixOf (w.drop i)
      · rw [hp] at eAt
        simp only [Bool.false_eq_true, if_false] at eAt; rw [eAt, List.append_nil] at hs; simp -implicitDefEqProofs only [go_sem]; have eT : cT ws w i (n + 1) = cT ws w i n := by unfold cT; rw [hs]
        refine ⟨by simp only [InR]; omega, n + 1, ⟨by simp, ?_⟩, hlt, by omega⟩; rw [eT]; simp [Z0]
      · rw [hp, if_pos rfl] at eAt
        have hle : i + ws[n].length ≤ w.length := by
          have := List.IsPrefix.length_le (List.isPrefixOf_iff_prefix.1 hp); rw [List.length_drop] at this; omega
        have eN : ((i : Int) + ws[n].length).toNat = i + ws[n].length := by omega
        have g1 := cT_at (ws := ws) (w := w) (i := i) (n := n) (by omega); have g2 := Zp4 (ws := ws) (w := w) (i := i) (n := n) (j := i + ws[n].length) (by omega) hle; have hv : min 2 (min 2 (rdTo ws (w.drop i) n).length + cN ws w (i + ws[n].length)) = min 2 (rdTo ws (w.drop i) (n + 1)).length := by
          rw [hs, List.length_append, eAt, List.length_map]; unfold cN; omega
        have g3 := Zp3 (ws := ws) (w := w) (i := i) (n := n) hv; have hA : min 2 (rdTo ws (w.drop i) n).length ≤ 2 := Nat.min_le_left _ _; have hB : cN ws w (i + ws[n].length) ≤ 2 := Nat.min_le_left _ _; generalize min 2 (rdTo ws (w.drop i) n).length = A at g1 g3 hA; generalize cN ws w (i + ws[n].length) = B at g2 g3 hB
        replace g1 : ((cT ws w i n).map ivN).getD i default = PV.int .i64 (A : Int) := g1
        replace g2 : ((cT ws w i n).map ivN).getD (i + ws[n].length) default = PV.int .i64 (B : Int) := g2
        simp -implicitDefEqProofs only [g1, g2, eN, Zeq, List.length_map, Int.toNat_natCast, go_sem]; have ev : PV.int .i64 (if (A : Int) + B < 2 then (A : Int) + B else 2) = ivN (min 2 (A + B)) := by
          unfold ivN
          congr 1
          split <;> omega
        rw [ev, g3]; exact ⟨by omega, by omega, by simp only [InR]; omega, ⟨by omega, by omega⟩, by omega, by simp only [InR]; omega, by omega, ⟨by omega, rfl⟩, by simp only [InR]; omega, n + 1, ⟨by simp, .inr (by simp [Z0]), by simp⟩, hlt, by omega⟩
    · have he : n = ws.length := by omega
      subst he; simp -implicitDefEqProofs only [Z0, go_sem]; refine Wd [(10, 16)] ?_; simp -implicitDefEqProofs only [Int.lt_irrefl, go_sem]; rw [Zkg hn (by omega)]; refine Wd [] ?_; simp -implicitDefEqProofs only [go_sem]; exact ⟨by simp only [InR]; omega, i, ⟨by simp, by simp [Z0]⟩, by omega, by omega⟩

abbrev OF := List UInt8 → Option (List UInt8)
def hitF (F : OF) (r w : List UInt8) : Prop := ∃ v, F r = some v ∧ leW v w
open Classical in
noncomputable def putF (F : OF) (r w : List UInt8) : OF := if hitF F r w then F else fun x => if x = r then some w else F x
theorem Zgp (F : OF) (r w : List UInt8) : hitF (putF F r w) r w := by
  unfold putF
  split
  · assumption
  · exact ⟨w, if_pos rfl, leW.refl w⟩
theorem Zju {F : OF} {r w v : List UInt8} (h : hitF F r w) (hl : leW w v) : hitF F r v := by
  obtain ⟨u, h1, h2⟩ := h; exact ⟨u, h1, h2.trans hl⟩
theorem Z63 {F : OF} {r w x v : List UInt8} (h : hitF F x v) : hitF (putF F r w) x v := by
  unfold putF
  split
  · assumption
  · rename_i hn
    by_cases e : x = r
    · subst e
      refine ⟨w, if_pos rfl, ?_⟩; obtain ⟨u, h1, h2⟩ := h; have h3 : ¬ leW u w := fun g => hn ⟨u, h1, g⟩
      exact (leW.of_lt (Classical.not_not.1 h3)).trans h2
    · obtain ⟨u, h1, h2⟩ := h
      exact ⟨u, (if_neg e).trans h1, h2⟩
theorem Z6r {ws : List (List UInt8)} {F : OF} {r w : List UInt8} (h : ∀ x v, F x = some v → Pw ws v x) (hw : Pw ws w r) : ∀ x v, putF F r w x = some v → Pw ws v x := by
  intro x v hx; unfold putF at hx
  split at hx
  · exact h x v hx
  · by_cases e : x = r
    · subst e
      simp only [↓reduceIte, Option.some.injEq] at hx; rw [← hx]; exact hw
    · simp only [e, ↓reduceIte] at hx
      exact h x v hx

/-! ### It comes to an end -/
def numW : List UInt8 → Nat
  | [] => 0
  | a :: w => (a.toNat + 1) * 257 ^ w.length + numW w
theorem Z7k : ∀ w : List UInt8, numW w < 257 ^ w.length
  | [] => by simp [numW]
  | a :: w => by
    have h1 := Z7k w; have h2 := a.toNat_lt; have h3 : (a.toNat + 1) * 257 ^ w.length ≤ 256 * 257 ^ w.length := Nat.mul_le_mul_right _ (by omega); unfold numW; rw [List.length_cons, Nat.pow_succ]; omega
theorem Zjc (a : UInt8) (w : List UInt8) : 257 ^ w.length ≤ numW (a :: w) := by
  unfold numW; have : 1 * 257 ^ w.length ≤ (a.toNat + 1) * 257 ^ w.length := Nat.mul_le_mul_right _ (by omega); omega
theorem Zat : ∀ {a b : List UInt8}, a.length = b.length → bLt a b = true → numW a < numW b
  | [], [], _, h => by cases h
  | x :: a, y :: b, hl, h => by
    have hl' : a.length = b.length := by simpa using hl
    unfold numW; rw [hl']; rcases (Z10 x y a b).1 h with h1 | ⟨h1, h2⟩
    · have h3 := Z7k a
      rw [hl'] at h3; have h4 : (x.toNat + 1 + 1) * 257 ^ b.length ≤ (y.toNat + 1) * 257 ^ b.length := Nat.mul_le_mul_right _ (by omega); rw [Nat.add_mul (x.toNat + 1) 1, Nat.one_mul] at h4; omega
    · have := Zat hl' h2
      rw [h1]; omega
theorem Z58 {a b : List UInt8} (h : ltW a b) : numW a < numW b := by
  rcases h with h | ⟨h1, h2⟩
  · match b, h with
    | y :: b, h =>
      have h1 := Z7k a; have h2 := Zjc y b; have h3 : 257 ^ a.length ≤ 257 ^ b.length := Nat.pow_le_pow_right (by omega) (by rw [List.length_cons] at h; omega); omega
  · exact Zat h1 h2
def Zio (M : Nat) (F : OF) (r : List UInt8) : Nat := match F r with
  | none => M
  | some w => numW w
def sumF (M : Nat) (F : OF) (all : List (List UInt8)) : Nat := (all.map (Zio M F)).sum
theorem Zhf {f g : List UInt8 → Nat} : ∀ {l : List (List UInt8)} {r : List UInt8}, (∀ x ∈ l, f x ≤ g x) → r ∈ l → f r < g r → (l.map f).sum < (l.map g).sum
  | a :: l, r, h, hr, hlt => by
    have h0 : ∀ l : List (List UInt8), (∀ x ∈ l, f x ≤ g x) → (l.map f).sum ≤ (l.map g).sum := by
      intro l
      induction l with
      | nil => intro _; exact Nat.le_refl _
      | cons b l ih =>
        intro h; simp only [List.map_cons, List.sum_cons]; have := ih fun x hx => h x (by simp [hx])
        have := h b (by simp); omega
    simp only [List.map_cons, List.sum_cons]; rcases List.mem_cons.1 hr with e | e
    · subst e
      have := h0 l fun x hx => h x (by simp [hx])
      omega
    · have := Zhf (fun x hx => h x (by simp [hx])) e hlt
      have := h a (by simp); omega
theorem Zap {M : Nat} {F : OF} {all : List (List UInt8)} {r w : List UInt8} (hr : r ∈ all) (hw : numW w < M) (h : ¬ hitF F r w) : sumF M (putF F r w) all < sumF M F all := by
  have e : putF F r w = fun x => if x = r then some w else F x := if_neg h
  refine Zhf (r := r) (fun x _ => ?_) hr ?_
  · unfold Zio
    rw [e]; by_cases hx : x = r
    · subst hx
      simp only [↓reduceIte]
      cases hF : F x with
      | none => exact Nat.le_of_lt hw
      | some u =>
        refine Nat.le_of_lt (Z58 ?_); have h3 : ¬ leW u w := fun g => h ⟨u, hF, g⟩
        exact Classical.not_not.1 h3
    · simp only [if_neg hx]
      exact Nat.le_refl _
  · unfold Zio
    rw [e]; simp only [↓reduceIte]
    cases hF : F r with
    | none => exact hw
    | some u =>
      refine Z58 ?_; have h3 : ¬ leW u w := fun g => h ⟨u, hF, g⟩
      exact Classical.not_not.1 h3
theorem Zbs {L : Nat} {w : List UInt8} (h : w.length ≤ L) : numW w < 257 ^ L := Nat.lt_of_lt_of_le (Z7k w) (Nat.pow_le_pow_right (by omega) h)

/-! ### What stands at the end -/
structure FixF (ws : List (List UInt8)) (F : OF) : Prop where
  snd : ∀ x v, F x = some v → Pw ws v x
  fst : ∀ p ∈ fstL ws, hitF F p.1 p.2
  nxt : ∀ r w, F r = some w → r ≠ [] → w.length ≤ 4096 → ∀ p ∈ nxtL ws r w, hitF F p.1 p.2
theorem FixF.cover {ws : List (List UInt8)} {F : OF} (h : FixF ws F) {w r : List UInt8} (hp : Pw ws w r) : w.length ≤ 4096 → hitF F r w := by
  induction hp with
  | first y u hy => intro _; exact h.fst (u, y) (List.mem_map.2 ⟨(y, u), hy, rfl⟩)
  | next w r u n hp hne hn ih =>
    intro hl; have hl2 : w.length ≤ 4096 := by rw [List.length_append] at hl; omega
    obtain ⟨v, h1, h2⟩ := ih hl2; have h3 := h.nxt r v h1 hne (Nat.le_trans h2.len hl2) (u, v ++ u.drop (u.length - n)) (List.mem_map.2 ⟨(u, n), hn, rfl⟩); exact Zju h3 (h2.app _)
theorem FixF.min {ws : List (List UInt8)} {F : OF} (h : FixF ws F) {w : List UInt8} (hw : MinP ws w) : F [] = some w := by
  obtain ⟨v, h1, h2⟩ := h.cover hw.1 hw.2.1; have h3 := hw.2.2 v (h.snd _ _ h1) (Nat.le_trans h2.len hw.2.1); rw [h1, leW.anti h2 h3]
theorem FixF.none {ws : List (List UInt8)} {F : OF} (h : FixF ws F) (hn : NoP ws) {w : List UInt8} (hw : F [] = some w) : 4096 < w.length := by
  have := hn w (h.snd _ _ hw); omega
theorem Zjh (ws : List (List UInt8)) : (∃ w, MinP ws w) ∨ NoP ws := by
  by_cases h : ∃ v, Pw ws v [] ∧ v.length ≤ 4096
  · left
    obtain ⟨v, hv, hl⟩ := h; have key : ∀ n (v : List UInt8), numW v ≤ n → Pw ws v [] → v.length ≤ 4096 → ∃ w, MinP ws w := by
      intro n
      induction n with
      | zero =>
        intro v hn hv hl; refine ⟨v, hv, hl, fun u _ _ g => ?_⟩; have := Z58 g; omega
      | succ n ih =>
        intro v hn hv hl; by_cases hu : ∃ u, Pw ws u [] ∧ u.length ≤ 4096 ∧ ltW u v
        · obtain ⟨u, h1, h2, h3⟩ := hu
          have := Z58 h3; exact ih u (by omega) h1 h2
        · exact ⟨v, hv, hl, fun u h1 h2 g => hu ⟨u, h1, h2, g⟩⟩
    exact key _ v (Nat.le_refl _) hv hl
  · exact .inr fun v hv hl => h ⟨v, hv, hl⟩

theorem Z8q (a b : List UInt8) : (decide (a.length < b.length) || (decide (a.length = b.length) && Op.bytesLess a b)) = true ↔ ltW a b := by
  unfold ltW; rw [← Zbh, Bool.or_eq_true, Bool.and_eq_true, decide_eq_true_iff, decide_eq_true_iff]
def Z1g (all : List (List UInt8)) (F : OF) : List PV := all.map fun r => .str ((F r).getD [])
def Z1i (all : List (List UInt8)) (F : OF) : List PV := all.map fun r => .bool (F r).isSome
def Z00 (q : Int) (ws all : List (List UInt8)) (F : OF) : List AObj :=
  [Z0 q ws, .box [.p (.str []), .full [], .full []], .row 9 1 (Z1g all F) .own, .row 4 1 (Z1i all F) .own]
theorem Zw (all : List (List UInt8)) (F : OF) : (Z1g all F).length = all.length := by simp [Z1g]
theorem Z0e (all : List (List UInt8)) (F : OF) : (Z1i all F).length = all.length := by simp [Z1i]
theorem Z36 {all : List (List UInt8)} {F : OF} {i : Nat} (h : i < all.length) : (Z1g all F).getD i default = .str ((F all[i]).getD []) := by
  unfold Z1g; rw [List.getD_eq_getElem?_getD, List.getElem?_map, List.getElem?_eq_getElem h]
  rfl
theorem Z38 {all : List (List UInt8)} {F : OF} {i : Nat} (h : i < all.length) : (Z1i all F).getD i default = .bool (F all[i]).isSome := by
  unfold Z1i; rw [List.getD_eq_getElem?_getD, List.getElem?_map, List.getElem?_eq_getElem h]
  rfl
theorem Zcz {F : OF} {r w x : List UInt8} (h : ¬ hitF F r w) : putF F r w x = if x = r then some w else F x := by
  unfold putF; rw [if_neg h]
theorem Z6w {all : List (List UInt8)} {F : OF} {i : Nat} {w : List UInt8} (hn : all.Nodup) (hi : i < all.length) (h : ¬ hitF F all[i] w) : (Z1g all F).set i (.str w) = Z1g all (putF F all[i] w) := by
  apply List.ext_getElem
  · simp [Z1g]
  intro j h1 h2; have hj : j < all.length := by simpa [Z1g] using h2
  simp only [Z1g, List.getElem_set, List.getElem_map]; rw [Zcz h]; by_cases e : i = j
  · subst e
    rw [if_pos rfl, if_pos rfl]
    rfl
  · rw [if_neg e, if_neg fun e2 => e ((List.getElem_inj hn).1 e2.symm)]
theorem Z71 {all : List (List UInt8)} {F : OF} {i : Nat} {w : List UInt8} (hn : all.Nodup) (hi : i < all.length) (h : ¬ hitF F all[i] w) : (Z1i all F).set i (.bool true) = Z1i all (putF F all[i] w) := by
  apply List.ext_getElem
  · simp [Z1i]
  intro j h1 h2; have hj : j < all.length := by simpa [Z1i] using h2
  simp only [Z1i, List.getElem_set, List.getElem_map]; rw [Zcz h]; by_cases e : i = j
  · subst e
    rw [if_pos rfl, if_pos rfl]
    rfl
  · rw [if_neg e, if_neg fun e2 => e ((List.getElem_inj hn).1 e2.symm)]

open Classical in
theorem c33 {q : Int} {ws all : List (List UInt8)} (hn : all.Nodup) (hl : all.length ≤ 100000) (F : OF) {r : List UInt8} (w : List UInt8) (hr : r ∈ all) :
    AC Try.prog 33 [.p (.sl (all.map .str)), .own 2 all.length, .own 3 all.length, .p (.str r), .p (.str w)] (Z00 q ws all F) [] (fun v h' => v = .p (.bool (decide (¬ hitF F r w))) ∧ h' = Z00 q ws all (putF F r w)) := by
  refine AC.of_bodyE hΓ Try.func33 (by kernel_rfl) rfl (AWp.mono (Q := fun e st => AM.Ends e ∧ st.tmps.getD 10 .junk = .p (.bool (decide (¬ hitF F r w))) ∧ st.h = Z00 q ws all (putF F r w)) ?_ ?_)
  rotate_left
  · rintro e ⟨tm, h'⟩ ⟨he, h1, h2⟩
    simp only at h1 h2; subst h2; refine ⟨he, _, Less.refl _, ?_⟩; unfold Z32; simp +contextual -implicitDefEqProofs only [Try.results33, h1, go_sem]; exact ⟨_, by simp [Z00], .inl rfl, List.take_length⟩
  refine AWp.seq (Wd [] ?_); simp -implicitDefEqProofs only [Try.ntmps33, Nat.reduceAdd, Nat.reduceSub, Z00, Z0, go_sem]; refine AWp.seq (AWp.seq (Wd [] ?_)); simp -implicitDefEqProofs only [go_sem]; refine AWp.block ?_
  refine AWp.loopI (fun i : Nat => ⟨mkF 46 [(0, .p (.sl (all.map .str))), (1, .own 2 all.length), (2, .own 3 all.length), (3, .p (.str r)), (4, .p (.str w)), (10, .p (.bool false)), (11, .p (.int .i64 i))], Z00 q ws all F⟩)
    (fun i => i ≤ all.length ∧ ∀ j (hj : j < all.length), j < i → all[j] = r → hitF F r w) (fun i => all.length - i) 0 (by simp [go_sem, Z00, Z0]) ⟨Nat.zero_le _, fun j _ h => absurd h (Nat.not_lt_zero j)⟩ ?_
  rintro i ⟨hi, hno⟩; unfold Z00; simp -implicitDefEqProofs only [Z0, go_sem]; by_cases hlt : i < all.length
  rotate_left
  · have hie : i = all.length := by omega
    subst hie; have hh : hitF F r w := by
      obtain ⟨j, hj, e⟩ := List.getElem_of_mem hr; exact hno j hj hj e
    have hp : putF F r w = F := if_pos hh; refine Wd [] ?_; simp -implicitDefEqProofs only [Int.lt_irrefl, List.length_map, go_sem]; refine Wd [] ?_; simp -implicitDefEqProofs only [go_sem]; rw [hp]; exact ⟨by simp [hh], rfl, rfl⟩
  have hlt' : (i : Int) < (all.length : Int) := by omega
  have g1 := Z36 (F := F) hlt; have g2 := Z38 (F := F) hlt; refine AWp.seq (Wd [] ?_); simp -implicitDefEqProofs only [hlt', List.length_map, go_sem]; have hkr : InR IntKind.i64 ((i : Int) + 1) := by simp only [InR]; omega
  have next : (all[i] = r → hitF F r w) → ∃ y : Nat, (y = i + 1) ∧ (y ≤ all.length ∧ ∀ j (hj : j < all.length), j < y → all[j] = r → hitF F r w) ∧ all.length - y < all.length - i := fun hyp => ⟨i + 1, rfl, ⟨hlt, fun j hj hji e => by
    rcases Nat.lt_or_ge j i with h | h
    · exact hno j hj h e
    · have : j = i := by omega
      subst this; exact hyp e⟩, by omega⟩
  by_cases e : all[i] = r
  rotate_left
  · refine AWp.seq (Wd [] ?_)
    simp -implicitDefEqProofs only [hlt, Z2, ↓reduceIte, e, go_sem]; refine Wd [] ?_; simp -implicitDefEqProofs only [go_sem]; obtain ⟨y, rfl, h1, h2⟩ := next fun h => absurd h e
    refine ⟨hkr, i + 1, ?_, h1, h2⟩; simp [Z0]
  subst e
  cases hF : F all[i] with
  | none =>
    have hnh : ¬ hitF F all[i] w := fun ⟨v, h, _⟩ => by rw [hF] at h; cases h
    rw [hF] at g1 g2; have s1 := Z6w (w := w) hn hlt hnh; have s2 := Z71 (w := w) hn hlt hnh; refine AWp.seq (Wd [] ?_); simp -implicitDefEqProofs only [hlt, Z2, ↓reduceIte, g2, Z0e, Zw, Int.toNat_natCast, Option.isSome_none, s1, s2, go_sem]; exact ⟨rfl, rfl, by simp [hnh]⟩
  | some v =>
    rw [hF] at g1 g2; simp only [Option.getD_some, Option.isSome_some] at g1 g2; refine AWp.seq (Wd [] ?_); simp -implicitDefEqProofs only [hlt, Z2, ↓reduceIte, g1, g2, Z0e, Zw, Int.toNat_natCast, go_sem]; refine Z4 (t57 w v) (.pures rfl) ?_; by_cases hlw : ltW w v
    · have hnh : ¬ hitF F all[i] w := fun ⟨u, h, h2⟩ => by
        rw [hF] at h
        injection h with h
        subst h; exact h2 hlw
      rw [(Z8q w v).2 hlw]; have s1 := Z6w (w := w) hn hlt hnh; have s2 := Z71 (w := w) hn hlt hnh; simp -implicitDefEqProofs only [s1, s2, Zw, Z0e, Int.toNat_natCast, go_sem]; exact ⟨hlt, ⟨hlt, rfl⟩, hlt, ⟨hlt, rfl⟩, by simp [hnh]⟩
    · have hb : (decide (w.length < v.length) || (decide (w.length = v.length) && Op.bytesLess w v)) = false := by
        rw [← Bool.not_eq_true]; exact fun h => hlw ((Z8q w v).1 h)
      rw [hb]; simp -implicitDefEqProofs only [go_sem]; refine Wd [] ?_; simp -implicitDefEqProofs only [go_sem]; obtain ⟨y, rfl, h1, h2⟩ := next fun _ => ⟨v, hF, hlw⟩
      refine ⟨hkr, i + 1, ?_, h1, h2⟩; simp [Z0]
end Go.Proofs.Ytpljmccnfmkmfaa
end

section
namespace Go.Proofs.Ytpljmccnfmkmfaa.Dc
open Go Go.AM

def rkOf (l : List (List UInt8)) : RK := if l = [] then .lax else .own
theorem Z5r (l : List (List UInt8)) (x : List UInt8) : rkOf (l ++ [x]) = .own := by unfold rkOf; rw [if_neg (by simp)]
theorem r54o (q : Int) (ws : List (List UInt8)) (hl : ws.length ≤ 1000) (hne : Z0f ws ≠ []) : PRowO Try.prog 25 [Z9 q ws] 9 1 ((Z0f ws).map .str) := by
  refine AC.of_body 2 hΓ Try.func25 (by kernel_rfl) rfl (by simp) (AWp.seq (Wd [] ?_)); simp -implicitDefEqProofs only [Try.ntmps25, Try.results25, Nat.reduceAdd, Nat.reduceSub, Z9, List.map_cons, List.map_nil, go_sem]; refine AWp.seq (Wd [] ?_); simp -implicitDefEqProofs only [go_sem]; refine ⟨⟨fun x h => (by cases h), by omega⟩, ?_⟩; refine AWp.adopt (l := []) 3 9 1 (by rfl) (by simp) ?_; simp -implicitDefEqProofs only [go_sem]; refine AWp.seq (AWp.seq (Wd [] ?_)); simp -implicitDefEqProofs only [go_sem]; refine AWp.block ?_
  refine AWp.loopI (fun i : Nat => ⟨mkF 53 [(1, .ptr 0 0), (3, .own 1 (Z0a ws i).length), (4, .p (.int .i64 i))], [.box [.p (.int .i64 q), .p (.sl (ws.map .str))], .row 9 1 ((Z0a ws i).map .str) (rkOf (Z0a ws i))]⟩)
    (fun i => i ≤ ws.length) (fun i => ws.length - i) 0 (by simp [go_sem, Z0a, rkOf]) (by simp) ?_
  intro i hi; refine Wd [] ?_; by_cases hlt : i < ws.length
  rotate_left
  · have hlt' : ¬ (i : Int) < (ws.length : Int) := by omega
    have hii : i = ws.length := by omega
    subst hii; have hk : rkOf (Z0f ws) = .own := if_neg hne; have hF : Z0a ws ws.length = Z0f ws := rfl; rw [hF, hk]; simp -implicitDefEqProofs only [hlt', Int.lt_irrefl, List.length_map, go_sem]; refine Wd [] ?_; simp -implicitDefEqProofs only [go_sem]; exact ⟨rfl, 1, rfl, rfl⟩
  have hlt' : (i : Int) < (ws.length : Int) := by omega
  simp -implicitDefEqProofs only [hlt', List.length_map, go_sem]
  refine AWp.loopI (fun k : Nat => ⟨mkF 53 [(1, .ptr 0 0), (3, .own 1 (Z0a ws i ++ Zk ws i k).length), (4, .p (.int .i64 i)), (5, .p (.int .i64 k))], [.box [.p (.int .i64 q), .p (.sl (ws.map .str))], .row 9 1 ((Z0a ws i ++ Zk ws i k).map .str) (rkOf (Z0a ws i ++ Zk ws i k))]⟩)
    (fun k => k ≤ ws.length) (fun k => ws.length - k) 0 (by simp [go_sem, Zk]) (by simp) ?_
  intro k hk; refine Wd [(8, 16), (9, 14)] ?_; by_cases hkl : k < ws.length
  rotate_left
  · have hkl' : ¬ (k : Int) < (ws.length : Int) := by omega
    have : Z0a ws (i + 1) = Z0a ws i ++ Zk ws i k := by rw [Z3p, show k = ws.length by omega]
    simp -implicitDefEqProofs only [hkl', List.length_map, go_sem]; exact ⟨by simp only [InR]; omega, i + 1, ⟨⟨by rw [this], by simp⟩, by rw [this]; exact .inl ⟨rfl, rfl⟩⟩, hlt, by omega⟩
  have hkl' : (k : Int) < (ws.length : Int) := by omega
  have hwi : ws.getD i [] = ws[i] := by rw [List.getD_eq_getElem?_getD, List.getElem?_eq_getElem hlt, Option.getD_some]
  have hwk : ws.getD k [] = ws[k] := by rw [List.getD_eq_getElem?_getD, List.getElem?_eq_getElem hkl, Option.getD_some]
  have hgi : (ws.map PV.str).getD i default = .str ws[i] := Z2 _ _ _ _ hlt; have hgk : (ws.map PV.str).getD k default = .str ws[k] := Z2 _ _ _ _ hkl; by_cases hik : i = k
  · subst hik
    have : Zk ws i (i + 1) = Zk ws i i := by rw [Z0g]; unfold Z1u; rw [if_neg (by simp)]; simp
    simp -implicitDefEqProofs only [hkl', List.length_map, go_sem]; exact ⟨by simp only [InR]; omega, i + 1, ⟨⟨by rw [this], by simp⟩, by rw [this]; exact .inl ⟨rfl, rfl⟩⟩, hkl, by omega⟩
  have hik' : ¬ (i : Int) = (k : Int) := by omega
  cases hp : ws[k].isPrefixOf ws[i] with
  | false =>
    have : Zk ws i (k + 1) = Zk ws i k := by rw [Z0g]; unfold Z1u; rw [hwi, hwk, if_neg (by simp [hp])]; simp
    simp -implicitDefEqProofs only [hkl', hik', hgi, hgk, Int.toNat_natCast, List.length_map, go_sem]; refine ⟨hlt, Z1o (t60 ws[i] ws[k]) (.pures rfl) ?_⟩; rw [hp]; simp -implicitDefEqProofs only [go_sem]; exact ⟨by simp only [InR]; omega, k + 1, ⟨⟨by rw [this], by simp⟩, by rw [this]; exact .inl ⟨rfl, rfl⟩⟩, hkl, by omega⟩
  | true =>
    have this : Zk ws i (k + 1) = Zk ws i k ++ [ws[i].drop ws[k].length] := by rw [Z0g]; unfold Z1u; rw [hwi, hwk, if_pos ⟨hik, hp⟩]
    have h1 := Z39 ws i; have h2 := Z2b ws i k; have h3 : i * ws.length ≤ 1000 * 1000 := Nat.mul_le_mul (by omega) hl; have hpl := (List.isPrefixOf_iff_prefix.1 hp).length_le; have hpl' : (ws[k].length : Int) ≤ (ws[i].length : Int) := by omega
    have hs1 : Zb [PV.str (ws[i].drop ws[k].length)] 1 := by simp [Zb, PV.cells]
    have ho1 : Z2u [PV.str (ws[i].drop ws[k].length)] := by simp [Z2u, PV.cells, PV.isAgg]
    simp -implicitDefEqProofs only [hkl', hik', hgi, hgk, Int.toNat_natCast, List.length_map, go_sem]; refine ⟨hlt, Z1o (t60 ws[i] ws[k]) (.pures rfl) ?_⟩; rw [hp]; simp -implicitDefEqProofs only [hkl', hik', hgi, hgk, Int.toNat_natCast, List.length_map, hpl', go_sem]
    refine ⟨hlt, ⟨hs1, by omega⟩, ⟨hs1, ho1⟩, ⟨by unfold rkOf; split <;> simp, by simp, by simp only [List.length_append]; omega, by simp only [List.length_append]; omega⟩, by simp only [InR]; omega, k + 1,
      ⟨⟨by rw [this]; simp; omega, by simp⟩, .inl ⟨by rw [this]; simp, by rw [this, ← List.append_assoc, Z5r]; rfl⟩⟩, hkl, by omega⟩

theorem Z4i {α : Type} [DecidableEq α] : ∀ {l m : List α}, l.Nodup → (∀ a ∈ l, a ∈ m) → l.length ≤ m.length
  | [], _, _, _ => by simp
  | a :: l, m, h, hs => by
    rw [List.nodup_cons] at h; have ha : a ∈ m := hs a (by simp); have h2 := Z4i (l := l) (m := m.erase a) h.2 (fun b hb => by
      have hne : b ≠ a := fun e => h.1 (e ▸ hb)
      exact (List.mem_erase_of_ne hne).2 (hs b (by simp [hb])))
    have h3 := List.length_erase_of_mem ha; have h4 : 0 < m.length := List.length_pos_of_mem ha
    simp; omega
structure RefR (ws out l : List (List UInt8)) : Prop where
  nd : out.Nodup
  mem : ∀ x ∈ out, Z1e ws x
  lmem : ∀ x ∈ l, Z1e ws x
  fst : ∀ x ∈ Z0f ws, x ∈ out ∨ x ∈ l
  clo : ∀ r ∈ out, r ≠ [] → ∀ u ∈ Z13 ws r, u ∈ out ∨ u ∈ l
theorem RefR.start (ws : List (List UInt8)) : RefR ws [] (Z0f ws) where
  nd := List.nodup_nil
  mem := fun x h => by cases h
  lmem := fun x h => .first x h
  fst := fun x h => .inr h
  clo := fun r h => by cases h
theorem RefR.skip {ws out l : List (List UInt8)} {r : List UInt8} (R : RefR ws out (r :: l)) (h : r ∈ out) : RefR ws out l where
  nd := R.nd
  mem := R.mem
  lmem := fun x hx => R.lmem x (List.mem_cons_of_mem _ hx)
  fst := fun x hx => (R.fst x hx).elim .inl fun h2 => (List.mem_cons.1 h2).elim (fun e => .inl (e ▸ h)) .inr
  clo := fun y hy hne u hu => (R.clo y hy hne u hu).elim .inl fun h2 => (List.mem_cons.1 h2).elim (fun e => .inl (e ▸ h)) .inr
theorem RefR.add {ws out l m : List (List UInt8)} {r : List UInt8} (R : RefR ws out (r :: l)) (h : r ∉ out) (h0 : r = [] → m = l) (h1 : r ≠ [] → m = l ++ Z13 ws r) : RefR ws (out ++ [r]) m := by
  have hlm : ∀ x ∈ l, x ∈ m := fun x hx => by
    by_cases e : r = []
    · rw [h0 e]; exact hx
    · rw [h1 e]; exact List.mem_append_left _ hx
  exact {
    nd := List.nodup_append.2 ⟨R.nd, by simp, fun a ha b hb e => h (by rw [List.mem_singleton.1 hb] at e; exact e ▸ ha)⟩
    mem := fun x hx => (List.mem_append.1 hx).elim (R.mem x) fun h2 => by rw [List.mem_singleton.1 h2]; exact R.lmem r (by simp)
    lmem := fun x hx => by
      by_cases e : r = []
      · rw [h0 e] at hx; exact R.lmem x (List.mem_cons_of_mem _ hx)
      · rw [h1 e] at hx
        exact (List.mem_append.1 hx).elim (fun h2 => R.lmem x (List.mem_cons_of_mem _ h2)) fun h2 => .next r x (R.lmem r (by simp)) e h2
    fst := fun x hx => (R.fst x hx).elim (fun h2 => .inl (List.mem_append_left _ h2)) fun h2 => (List.mem_cons.1 h2).elim (fun e => .inl (by rw [e]; simp)) fun h3 => .inr (hlm x h3)
    clo := fun y hy hne u hu => by
      rcases List.mem_append.1 hy with hy | hy
      · exact (R.clo y hy hne u hu).elim (fun h2 => .inl (List.mem_append_left _ h2)) fun h2 => (List.mem_cons.1 h2).elim (fun e => .inl (by rw [e]; simp)) fun h3 => .inr (hlm u h3)
      · rw [List.mem_singleton.1 hy] at hne hu
        rw [h1 hne]; exact .inr (List.mem_append_right _ hu) }
theorem RefR.done {ws out : List (List UInt8)} (R : RefR ws out []) (x : List UInt8) : x ∈ out ↔ Z1e ws x := by
  refine ⟨R.mem x, fun h => ?_⟩
  induction h with
  | first u h => exact (R.fst u h).resolve_right (by simp)
  | next r u hr hne h ih => exact (R.clo r ih hne u h).resolve_right (by simp)
theorem RefR.len {ws out l : List (List UInt8)} (R : RefR ws out l) : out.length ≤ (sufs ws).length :=
  Z4i R.nd fun x hx => Z2h (Zu (R.mem x hx))
end Go.Proofs.Ytpljmccnfmkmfaa.Dc
end

