/-
  Texts of this claim, joined.
-/
import Derived.Test.YtpljmccnfmkmfaaJ1f4fd6bc6bc0
import Derived.Test.YtpljmccnfmkmfaaJ95ab7c36ce71
import Derived.Test.YtpljmccnfmkmfaaJff830da085a8

set_option linter.unusedSimpArgs false
set_option maxRecDepth 100000
section
namespace Go.Proofs.Ytpljmccnfmkmfaa
open Go Go.AM

def rdF (ws : List (List UInt8)) : Nat → List UInt8 → List (List Nat)
  | 0, w => if w = [] then [[]] else []
  | f + 1, w => if w = [] then [[]] else (List.range ws.length).flatMap fun k => if (ws.getD k []).isPrefixOf w then (rdF ws f (w.drop (ws.getD k []).length)).map (k :: ·) else []
def rdI (ws : List (List UInt8)) (w : List UInt8) : List (List Nat) := rdF ws w.length w

theorem Z37 {ws : List (List UInt8)} {k : Nat} (hk : k < ws.length) : ws.getD k [] ∈ ws := by
  rw [List.getD_eq_getElem?_getD, List.getElem?_eq_getElem hk, Option.getD_some]; exact List.getElem_mem hk
theorem Zfs {ws : List (List UInt8)} (hn : ∀ x ∈ ws, x ≠ []) : ∀ (f : Nat) (w : List UInt8), w.length ≤ f → rdF ws f w = rdI ws w := by
  intro f
  induction f using Nat.strongRecOn with
  | _ f ih =>
    intro w hw
    cases w with
    | nil => cases f <;> simp [rdI, rdF]
    | cons b w =>
      cases f with
      | zero => simp at hw
      | succ f =>
        have e1 : rdI ws (b :: w) = rdF ws (w.length + 1) (b :: w) := rfl; rw [e1]; unfold rdF; rw [if_neg (by simp), if_neg (by simp)]; rw [List.flatMap_def, List.flatMap_def]
        congr 1
        apply List.map_congr_left
        intro k hk; have hk' : k < ws.length := List.mem_range.1 hk; have hx := Z37 hk'
        split
        · have hxl : 0 < (ws.getD k []).length := List.length_pos_iff.2 (hn _ hx)
          have hd : ((b :: w).drop (ws.getD k []).length).length ≤ w.length := by rw [List.length_drop, List.length_cons]; omega
          have hd2 : ((b :: w).drop (ws.getD k []).length).length ≤ f := by rw [List.length_cons] at hw; rw [List.length_drop, List.length_cons]; omega
          rw [ih f (by omega) _ hd2]; by_cases hwf : w.length < f + 1
          · rw [ih w.length hwf _ hd]
          · simp at hw; omega
        · rfl
def rdAt (ws : List (List UInt8)) (w : List UInt8) (k : Nat) : List (List Nat) := if (ws.getD k []).isPrefixOf w then (rdI ws (w.drop (ws.getD k []).length)).map (k :: ·) else []
def rdTo (ws : List (List UInt8)) (w : List UInt8) (n : Nat) : List (List Nat) := (List.range n).flatMap (rdAt ws w)
theorem Z3y (ws : List (List UInt8)) (w : List UInt8) (n : Nat) : rdTo ws w (n + 1) = rdTo ws w n ++ rdAt ws w n := by
  unfold rdTo; rw [List.range_succ, List.flatMap_append]; simp
theorem Z1y (ws : List (List UInt8)) : rdI ws [] = [[]] := rfl
theorem Z2c {ws : List (List UInt8)} (hn : ∀ x ∈ ws, x ≠ []) {w : List UInt8} (hw : w ≠ []) : rdI ws w = rdTo ws w ws.length := by
  cases w with
  | nil => exact absurd rfl hw
  | cons b w =>
    have e1 : rdI ws (b :: w) = rdF ws (w.length + 1) (b :: w) := rfl; rw [e1]; unfold rdF rdTo; rw [if_neg (by simp), List.flatMap_def, List.flatMap_def]
    congr 1
    apply List.map_congr_left
    intro k hk; have hk' : k < ws.length := List.mem_range.1 hk; have hxl : 0 < (ws.getD k []).length := List.length_pos_iff.2 (hn _ (Z37 hk')); unfold rdAt
    split
    · rw [Zfs hn _ _ (by rw [List.length_drop, List.length_cons]; omega)]
    · rfl
theorem Zam (ws : List (List UInt8)) (w : List UInt8) {k n : Nat} (h : k ≤ n) : ∃ l, rdTo ws w k ++ l = rdTo ws w n := by
  induction n with
  | zero => rw [show k = 0 by omega]; exact ⟨[], by simp⟩
  | succ n ih =>
    by_cases e : k = n + 1
    · subst e; exact ⟨[], by simp⟩
    · obtain ⟨l, hl⟩ := ih (by omega)
      exact ⟨l ++ rdAt ws w n, by rw [Z3y, ← hl, List.append_assoc]⟩

def spW (ws : List (List UInt8)) (l : List Nat) : List UInt8 := (l.map fun k => ws.getD k []).flatten
theorem Z7h (ws : List (List UInt8)) (k : Nat) (l : List Nat) : spW ws (k :: l) = ws.getD k [] ++ spW ws l := rfl
theorem Z4k {ws : List (List UInt8)} (hn : ∀ x ∈ ws, x ≠ []) : ∀ (l : List Nat) (w : List UInt8), l ∈ rdI ws w ↔ (∀ k ∈ l, k < ws.length) ∧ spW ws l = w
  | [], w => by
    by_cases hw : w = []
    · subst hw; simp [Z1y, spW]
    · rw [Z2c hn hw]
      unfold rdTo rdAt
      constructor
      · intro h
        obtain ⟨k, _, h⟩ := List.mem_flatMap.1 h
        split at h
        · simp at h
        · cases h
      · rintro ⟨_, h⟩
        exact absurd h.symm hw
  | k :: l, w => by
    by_cases hw : w = []
    · subst hw
      rw [Z1y, Z7h]
      constructor
      · intro h; simp at h
      · rintro ⟨h1, h2⟩
        exact absurd (List.append_eq_nil_iff.1 h2).1 (hn _ (Z37 (h1 k (by simp))))
    · rw [Z2c hn hw, Z7h]
      unfold rdTo rdAt
      constructor
      · intro h
        obtain ⟨i, hi, h⟩ := List.mem_flatMap.1 h
        split at h
        · rename_i hp
          obtain ⟨l', hl, e⟩ := List.mem_map.1 h
          injection e with e1 e2
          rw [e2] at hl; rw [← e1]; obtain ⟨h1, h2⟩ := (Z4k hn l _).1 hl; refine ⟨fun x hx => ?_, by rw [h2]; exact (Z35 hp).symm⟩; rcases List.mem_cons.1 hx with hx | hx
          · rw [hx]; exact List.mem_range.1 hi
          · exact h1 x hx
        · cases h
      · rintro ⟨h1, h2⟩
        refine List.mem_flatMap.2 ⟨k, List.mem_range.2 (h1 k (by simp)), ?_⟩; rw [if_pos (by rw [← h2, List.isPrefixOf_iff_prefix]; exact List.prefix_append _ _)]; refine List.mem_map.2 ⟨l, (Z4k hn l _).2 ⟨fun x hx => h1 x (by simp [hx]), ?_⟩, rfl⟩; rw [← h2, List.drop_left]

def lexL : List Nat → List Nat → Prop
  | a :: x, b :: y => a < b ∨ (a = b ∧ lexL x y)
  | _, _ => False
theorem Z5z : ∀ l, ¬ lexL l l
  | [] => fun h => h
  | a :: l => by
    rintro (h | ⟨_, h⟩)
    · omega
    · exact Z5z l h
theorem Zcx {ws : List (List UInt8)} (hn : ∀ x ∈ ws, x ≠ []) : ∀ (n : Nat) (w : List UInt8), w.length ≤ n → (rdI ws w).Pairwise lexL
  | 0, w, h => by
    have : w = [] := List.length_eq_zero_iff.1 (by omega); subst this; simp [Z1y]
  | n + 1, w, h => by
    by_cases hw : w = []
    · subst hw; simp [Z1y]
    · rw [Z2c hn hw]
      unfold rdTo; refine List.pairwise_flatMap.2 ⟨fun k hk => ?_, ?_⟩
      · have hk' : k < ws.length := List.mem_range.1 hk
        have hxl : 0 < (ws.getD k []).length := List.length_pos_iff.2 (hn _ (Z37 hk')); have hwl : 0 < w.length := List.length_pos_iff.2 hw; unfold rdAt
        split
        · refine List.pairwise_map.2 ((Zcx hn n _ (by rw [List.length_drop]; omega)).imp ?_)
          intro a b hab; exact .inr ⟨rfl, hab⟩
        · exact List.Pairwise.nil
      · refine List.pairwise_lt_range.imp ?_
        intro a b hab x hx y hy; unfold rdAt at hx hy
        split at hx
        · split at hy
          · obtain ⟨x', _, rfl⟩ := List.mem_map.1 hx
            obtain ⟨y', _, rfl⟩ := List.mem_map.1 hy; exact .inl hab
          · cases hy
        · cases hx
theorem Zfq {ws : List (List UInt8)} (hn : ∀ x ∈ ws, x ≠ []) (w : List UInt8) : (rdI ws w).Pairwise lexL := Zcx hn _ w (Nat.le_refl _)
theorem Zms {α : Type} {L : List α} {a b : α} (ha : a ∈ L) (hb : b ∈ L) (h : a ≠ b) : ∃ x y l, L = x :: y :: l := by
  match L, ha, hb with
  | [x], ha, hb => exact absurd ((List.mem_singleton.1 ha).trans (List.mem_singleton.1 hb).symm) h
  | x :: y :: l, _, _ => exact ⟨x, y, l, rfl⟩

theorem Ze4 {ws : List (List UInt8)} : ∀ {A : List (List UInt8)}, (∀ x ∈ A, x ∈ ws) → ∃ l : List Nat, (∀ k ∈ l, k < ws.length) ∧ l.map (fun k => ws.getD k []) = A
  | [], _ => ⟨[], by simp, rfl⟩
  | x :: A, h => by
    obtain ⟨l, h1, h2⟩ := Ze4 (ws := ws) (A := A) fun y hy => h y (by simp [hy])
    obtain ⟨k, hk, rfl⟩ := List.getElem_of_mem (h x (by simp)); refine ⟨k :: l, fun i hi => ?_, ?_⟩
    · rcases List.mem_cons.1 hi with rfl | hi
      · exact hk
      · exact h1 i hi
    · rw [List.map_cons, h2, List.getD_eq_getElem?_getD, List.getElem?_eq_getElem hk, Option.getD_some]
def Amb2 (ws : List (List UInt8)) (w : List UInt8) : Prop := 2 ≤ (rdI ws w).length
theorem Zku {ws : List (List UInt8)} (hn : ∀ x ∈ ws, x ≠ []) {A B : List (List UInt8)} (hA : ∀ x ∈ A, x ∈ ws) (hB : ∀ x ∈ B, x ∈ ws) (hne : A ≠ B) {w : List UInt8} (eA : A.flatten = w) (eB : B.flatten = w) : Amb2 ws w := by
  obtain ⟨a, ha, ea⟩ := Ze4 hA; obtain ⟨b, hb, eb⟩ := Ze4 hB; have h1 : a ∈ rdI ws w := (Z4k hn a w).2 ⟨ha, by unfold spW; rw [ea, eA]⟩; have h2 : b ∈ rdI ws w := (Z4k hn b w).2 ⟨hb, by unfold spW; rw [eb, eB]⟩; obtain ⟨x, y, l, e⟩ := Zms h1 h2 fun e => hne (by rw [← ea, ← eb, e])
  unfold Amb2; rw [e]; simp
theorem Zbi {ws : List (List UInt8)} (hn : ∀ x ∈ ws, x ≠ []) {w : List UInt8} (h : Amb2 ws w) : ∃ x y l, rdI ws w = x :: y :: l ∧ lexL x y ∧ (∀ k ∈ x, k < ws.length) ∧ (∀ k ∈ y, k < ws.length) ∧ spW ws x = w ∧ spW ws y = w := by
  unfold Amb2 at h
  match e : rdI ws w, h with
  | x :: y :: l, _ =>
    have hp := Zfq hn w; rw [e] at hp; have hx := (Z4k hn x w).1 (by rw [e]; simp); have hy := (Z4k hn y w).1 (by rw [e]; simp); exact ⟨x, y, l, rfl, (List.pairwise_cons.1 hp).1 y (by simp), hx.1, hy.1, hx.2, hy.2⟩
theorem Pw.amb2 {ws : List (List UInt8)} (hn : ∀ x ∈ ws, x ≠ []) {w : List UInt8} (h : Pw ws w []) : Amb2 ws w := by
  obtain ⟨A, B, hA, hB, eA, eB, _, _, hh⟩ := h.sp; rw [List.append_nil] at eB; exact Zku hn hA hB (fun e => hh (by rw [e])) eA eB

/-! ### The other way -/
theorem Zg0 {ws : List (List UInt8)} {x y u : List UInt8} (hx : x ∈ ws) (hy : y ∈ ws) (e : y = x ++ u) (hu : u ≠ []) : (y, u) ∈ Z0w ws := by
  obtain ⟨i, hi, rfl⟩ := List.getElem_of_mem hx; unfold Z0w Z1v Z1c; refine List.mem_flatMap.2 ⟨i, List.mem_range.2 hi, List.mem_flatMap.2 ⟨y, by rw [List.take_length]; exact hy, ?_⟩⟩; have eg : ws.getD i [] = ws[i] := by rw [List.getD_eq_getElem?_getD, List.getElem?_eq_getElem hi, Option.getD_some]
  have ed : y.drop (ws.getD i []).length = u := by rw [eg, e, List.drop_left]
  unfold Z1f; rw [if_pos ⟨by rw [eg, e, List.isPrefixOf_iff_prefix]; exact List.prefix_append _ _, by rw [ed]; exact hu⟩, ed]; simp
theorem Zdn {ws : List (List UInt8)} {r x : List UInt8} {p : List UInt8 × Nat} (hx : x ∈ ws) (h : p ∈ Z1k r x) : p ∈ Zo ws r := List.mem_flatMap.2 ⟨x, hx, h⟩

def ivN (k : Nat) : PV := .int .i64 (k : Int)
def slV (l : List Nat) : PV := .sl (l.map ivN)
theorem Z2p (l : List Nat) : Zb (l.map ivN) 1 := fun x hx => by
  obtain ⟨b, _, rfl⟩ := List.mem_map.1 hx
  rfl
theorem Zar (l : List Nat) : Z2u (l.map ivN) := fun x hx c hc => by
  obtain ⟨b, _, rfl⟩ := List.mem_map.1 hx; have : c = ivN b := by simpa [PV.cells, ivN] using hc
  subst this; rfl

theorem c57 {h : List AObj} {b : Nat} {rk0 : RK} (l : List Nat) (hb : h[b]? = some (.row 3 1 (l.map ivN) rk0)) (hl : l.length ≤ 1000000) :
    AC Try.prog 57 [.own b l.length] h [] (fun v h' => (l = [] ∧ v = .full [] ∧ h' = h) ∨ (∃ rk, rk ≠ .raw ∧ v = .own h.length l.length ∧ h' = h ++ [.row 3 1 (l.map ivN) rk])) := by
  refine AC.of_bodyE hΓ Try.func57 (by kernel_rfl) rfl (AWp.mono (Q := fun e st => AM.Ends e ∧ ((l = [] ∧ st.tmps.getD 2 .junk = .full [] ∧ st.h = h) ∨ (∃ rk, rk ≠ .raw ∧ st.tmps.getD 2 .junk = .own h.length l.length ∧ st.h = h ++ [.row 3 1 (l.map ivN) rk]))) ?_ ?_)
  rotate_left
  · rintro e ⟨tm, h'⟩ ⟨he, ⟨hw, h1, h2⟩ | ⟨rk, hr, h1, h2⟩⟩
    · simp only at h1 h2
      subst h2; refine ⟨he, _, Less.refl _, ?_⟩; unfold Z32; simp +contextual -implicitDefEqProofs only [Try.results57, h1, go_sem]; exact ⟨_, Nat.le_refl _, .inl rfl, .inl ⟨hw, List.take_length⟩⟩
    · simp only at h1 h2
      subst h2; refine ⟨he, _, Less.refl _, ?_⟩; unfold Z32; simp +contextual -implicitDefEqProofs only [Try.results57, h1, go_sem]; exact ⟨h.length + 1, by omega, .inl (by simp), .inr ⟨rk, hr, List.take_of_length_le (by simp)⟩⟩
  refine Wd [] ?_
  cases l with
  | nil =>
    simp -implicitDefEqProofs only [Try.ntmps57, Nat.reduceAdd, Nat.reduceSub, hb, go_sem]; exact ⟨⟨by simp [Zb], by omega⟩, ⟨by simp [Zb], by simp [Z2u]⟩, ⟨by simp [Zb], by omega, by omega⟩, .inr ⟨.lax, by simp, rfl⟩⟩
  | cons x l =>
    simp -implicitDefEqProofs only [Try.ntmps57, Nat.reduceAdd, Nat.reduceSub, hb, go_sem]; have h1 := Z2p (x :: l); have h2 := Zar (x :: l); simp only [List.map_cons] at h1 h2; simp only [List.length_cons] at hl; exact ⟨⟨by simp [Zb], by omega⟩, ⟨h1, h2⟩, ⟨by simp [Zb], by omega, by omega⟩, .inr ⟨.own, by simp, rfl⟩⟩

theorem RepH.weak {X : Ctx} {I : Nat → Prop} {μ : Nat → Value} {ob : Nat → Option Nat} {h h' : List AObj} {w : World} (hw : weakH h h') (R : RepH X I μ ob h w) : RepH X I μ ob h' w := by
  obtain ⟨h1, h2⟩ := Z3s hw; refine { below := R.below, base := R.base, imm := R.imm, ctx := R.ctx, frz := R.frz, inew := R.inew, may := R.may, names := by rw [h1]; exact R.names, own := R.own, sep := R.sep, past := fun b hb => R.past b (by rw [← h1]; exact hb), objs := fun b o ho => ?_ }; rcases h2 b o ho with h | h | ⟨x, h, hx⟩
  · subst h; trivial
  · rw [h1]; exact R.objs b o h
  · rw [h1]
    have hO := R.objs b x h; unfold Z9t at hx
    split at hx
    · rcases hx with hx | hx <;> subst hx <;> obtain ⟨q1, q2⟩ := hO <;> refine ⟨q1, ?_⟩ <;> rcases q2 with q2 | ⟨q2, _⟩
      · exact .inl q2
      · cases q2
      · exact .inl q2
      · cases q2
    · exact hx.elim
theorem AC.weakH {P : Program} {f : FuncId} {args : List AV} {h h' : List AObj} {ks : List Nat} {R : AV → List AObj → Prop} (hf : AC P f args h' ks R) (hw : weakH h h') : AC P f args h ks R := by
  obtain ⟨hl, _⟩ := Z3s hw; exact ⟨hf.1, fun X I μ ob w cargs hR hlen harg hks => by rw [← hl] at harg ⊢; exact hf.2 X I μ ob w cargs (RepH.weak hw hR) hlen harg hks⟩
theorem YC.weakH {P : Program} {b : Nat} {args : List AV} {h h' : List AObj} {ks : List Nat} {R : AV → List AObj → Prop} (hf : YC P b args h' ks R) (hw : weakH h h') : YC P b args h ks R := by
  obtain ⟨hl, _⟩ := Z3s hw; exact fun X I μ ob w cargs hR hlen harg hks => by rw [← hl] at harg ⊢; exact hf X I μ ob w cargs (RepH.weak hw hR) hlen harg hks

def pk {α : Type} (path : List α) : RK := if path.isEmpty then .lax else .own
theorem Zd5 {α : Type} (path : List α) (k : α) : pk (path ++ [k]) = .own := by simp [pk]
theorem Znh {α : Type} (path : List α) : pk path ≠ .raw := by unfold pk; split <;> simp
def okAt (ws : List (List UInt8)) (w : List UInt8) (j : Nat) : Bool := !(rdI ws (w.drop j)).isEmpty
def okL (ws : List (List UInt8)) (w : List UInt8) : List Bool := (List.range (w.length + 1)).map (okAt ws w)
theorem Zdg {ws : List (List UInt8)} {w : List UInt8} {j : Nat} (h : j ≤ w.length) : ((okL ws w).map PV.bool).getD j default = .bool (okAt ws w j) := by
  unfold okL; rw [List.getD_eq_getElem?_getD, List.getElem?_map, List.getElem?_map, List.getElem?_range (by omega)]
  rfl
theorem Z9o (ws : List (List UInt8)) (w : List UInt8) : (okL ws w).length = w.length + 1 := by simp [okL]
theorem Zbr {ws : List (List UInt8)} {w : List UInt8} {j : Nat} (h : okAt ws w j = false) : rdI ws (w.drop j) = [] := by
  unfold okAt at h
  simpa using h

def fO (outs : List (List Nat)) (i : Nat) : AV := match outs[i]? with
  | some l => .p (slV l)
  | none => .full []
def rdC : List AV := [.ptr 5 0, .ptr 7 0, .ptr 10 0, .ptr 4 0, .ptr 9 0, .ptr 11 0]
def rdA (q : Int) (ws : List (List UInt8)) (w : List UInt8) (R : List (List Nat) → AObj) (outs : List (List Nat)) : List AObj :=
  [Z0 q ws, .box [.p (.str []), .full [], .full []], .box [.p (.str w), fO outs 0, fO outs 1], .box [.p (.int .i64 outs.length)], Z0 q ws, .box [.p (.str w)], R outs]
def rdH (q : Int) (ws : List (List UInt8)) (w : List UInt8) (R : List (List Nat) → AObj) (outs : List (List Nat)) (path : List Nat) (m : Nat) : List AObj :=
  Z0 q ws :: .box [.p (.str []), .full [], .full []] :: .box [.p (.str w), fO outs 0, fO outs 1] :: .box [.p (.int .i64 outs.length)] :: Z0 q ws :: .box [.p (.str w)] :: R outs ::
    .box [.yld 6] :: .row 4 1 ((okL ws w).map PV.bool) .own :: .box [.own 8 (w.length + 1)] :: .box [.own 12 path.length] :: .box [.fn 56 rdC] :: .row 3 1 (path.map ivN) (pk path) :: List.replicate m .dead
theorem Z2d (q : Int) (ws : List (List UInt8)) (w : List UInt8) (R : List (List Nat) → AObj) (outs : List (List Nat)) (path : List Nat) (m : Nat) : (rdH q ws w R outs path m).length = m + 13 := by simp [rdH]
def Zbk (q : Int) (ws : List (List UInt8)) (w : List UInt8) (R : List (List Nat) → AObj) : Prop := ∀ (outs : List (List Nat)) (path : List Nat) (m : Nat) (rk : RK), outs.length ≤ 1 → rk ≠ .raw → path.length ≤ 4096 →
  YC Try.prog 6 [.own ((List.replicate m AObj.dead).length + 1 + 1 + 1 + 1 + 1 + 1 + 1 + 1 + 1 + 1 + 1 + 1 + 1) path.length] (rdH q ws w R outs path m ++ [.row 3 1 (path.map ivN) rk]) []
    (fun v h' => v = .p (.bool (decide (outs.length = 0))) ∧ h' = rdH q ws w R (outs ++ [path]) path (m + 1))
theorem Z7r (outs : List (List Nat)) (i k : Nat) : (fO outs i).kill k = fO outs i := by
  unfold fO
  split
  · rfl
  · rfl

theorem Zmo {q : Int} {ws : List (List UInt8)} {w : List UInt8} {R : List (List Nat) → AObj} (hround : Zbk q ws w R)
    (outs : List (List Nat)) (path : List Nat) (m : Nat) (hpn : path ≠ []) (hp : path.length ≤ 4096) (ho : outs.length ≤ 1) :
    AC Try.prog 56 (.p (.int .i64 w.length) :: rdC) (rdH q ws w R outs path m) [12] (fun v h' => ∃ m', m ≤ m' ∧ v = .p (.bool (decide (outs.length = 0))) ∧ h' = rdH q ws w R (outs ++ [path]) path m') := by
  refine AC.of_bodyE hΓ Try.func56 (by kernel_rfl) rfl (AWp.mono (Q := fun e st => AM.Ends e ∧ st.tmps.getD 8 .junk = .p (.bool (decide (outs.length = 0))) ∧ ∃ m', m ≤ m' ∧ st.h = rdH q ws w R (outs ++ [path]) path m') ?_ ?_)
  rotate_left
  · rintro e ⟨tm, h'⟩ ⟨he, h1, m', hm, h2⟩
    simp only at h1 h2; subst h2; refine ⟨he, _, Less.refl _, ?_⟩; unfold Z32; simp +contextual -implicitDefEqProofs only [Try.results56, h1, go_sem]; exact ⟨_, by rw [Z2d, Z2d]; omega, .inl rfl, m', hm, List.take_length⟩
  refine AWp.seq (Wd [(2, 1000)] ?_); simp -implicitDefEqProofs only [Try.ntmps56, Nat.reduceAdd, Nat.reduceSub, rdC, rdH, go_sem]; refine AWp.seq (Wd [(2, 1000)] ?_); simp -implicitDefEqProofs only [go_sem]; refine AWp.planL (.q 0 (.q 1 (.e 2 (.s 0 (.e 3 (.q 4 .fin) .nil)) .nil))) hΓ hmix (by kernel_rfl) ?_; simp -implicitDefEqProofs only [go_sem]; refine Zn (c57 (rk0 := pk path) path rfl (by omega)) (by simp) ?_; rintro v h' (⟨hpe, rfl, rfl⟩ | ⟨rk, hrk, rfl, rfl⟩)
  · exact absurd hpe hpn
  · simp -implicitDefEqProofs only [Z8, List.foldl, go_sem]
    refine Z5h (hround outs path m rk ho hrk hp) (by simp) ?_; rintro v h' ⟨rfl, rfl⟩; simp -implicitDefEqProofs only [Z8, List.foldl, go_sem]; exact ⟨m + 1, by omega, rfl⟩

theorem AC.mono {P : Program} {f : FuncId} {args : List AV} {h : List AObj} {ks : List Nat} {R R' : AV → List AObj → Prop} (hf : AC P f args h ks R) (hi : ∀ v h', R v h' → R' v h') : AC P f args h ks R' :=
  ⟨hf.1, fun X I μ ob w cargs a b c d => (hf.2 X I μ ob w cargs a b c d).mono fun _ _ ⟨cv, v, h', I', μ', ob', x1, x2, x3, x4, x5, x6, x7, x8, x9, x10⟩ => ⟨cv, v, h', I', μ', ob', x1, x2, x3, x4, x5, x6, x7, x8, x9, hi _ _ x10⟩⟩

theorem Zmu {α : Type} {A B : List α} (h : 2 ≤ A.length) : (A ++ B).take 2 = A.take 2 := List.take_append_of_le_length h

theorem v56 {q : Int} {ws : List (List UInt8)} {w : List UInt8} {R : List (List Nat) → AObj} (hn : ∀ x ∈ ws, x ≠ []) (hws : ws.length ≤ 256) (hw : w.length ≤ 4096) (hR : ∀ outs, (R outs).kill 12 = R outs) (hround : Zbk q ws w R) :
    ∀ (n a : Nat) (outs : List (List Nat)) (path : List Nat) (m : Nat), w.length - a ≤ n → a ≤ w.length → (path = [] → a < w.length) → path.length + (w.length - a) ≤ 4096 → outs.length ≤ 1 →
    AC Try.prog 56 (.p (.int .i64 a) :: rdC) (rdH q ws w R outs path m) [12] (fun v h' => ∃ m' p', m ≤ m' ∧ v = .p (.bool (decide ((outs ++ (rdI ws (w.drop a)).map (path ++ ·)).length ≤ 1))) ∧
      h' = rdH q ws w R ((outs ++ (rdI ws (w.drop a)).map (path ++ ·)).take 2) p' m' ∧ ((outs ++ (rdI ws (w.drop a)).map (path ++ ·)).length ≤ 1 → p' = path)) := by
  have atEnd : ∀ (outs : List (List Nat)) (path : List Nat) (m : Nat), path ≠ [] → path.length ≤ 4096 → outs.length ≤ 1 → AC Try.prog 56 (.p (.int .i64 w.length) :: rdC) (rdH q ws w R outs path m) [12] (fun v h' => ∃ m' p', m ≤ m' ∧ v = .p (.bool (decide ((outs ++ (rdI ws (w.drop w.length)).map (path ++ ·)).length ≤ 1))) ∧
      h' = rdH q ws w R ((outs ++ (rdI ws (w.drop w.length)).map (path ++ ·)).take 2) p' m' ∧ ((outs ++ (rdI ws (w.drop w.length)).map (path ++ ·)).length ≤ 1 → p' = path)) := by
    intro outs path m hpn hp ho; have e : (rdI ws (w.drop w.length)).map (path ++ ·) = [path] := by rw [List.drop_length, Z1y]; simp
    rw [e]; refine AC.mono (Zmo hround outs path m hpn hp ho) ?_; rintro v h' ⟨m', hm, rfl, rfl⟩; refine ⟨m', path, hm, ?_, ?_, fun _ => rfl⟩
    · congr 3
      rw [List.length_append, List.length_singleton]; exact propext ⟨fun h => by omega, fun h => by omega⟩
    · rw [List.take_of_length_le (by rw [List.length_append, List.length_singleton]; omega)]
  intro n
  induction n with
  | zero =>
    intro a outs path m hna ha hpn hp ho; have hae : a = w.length := by omega
    subst hae; exact atEnd outs path m (fun e => by have := hpn e; omega) (by omega) ho
  | succ n ih =>
    intro a outs path m hna ha hpn hp ho; by_cases hae : a = w.length
    · subst hae
      exact atEnd outs path m (fun e => by have := hpn e; omega) (by omega) ho
    have eI : rdI ws (w.drop a) = rdTo ws (w.drop a) ws.length := Z2c hn (fun e => by
      have := congrArg List.length e; rw [List.length_drop, List.length_nil] at this; omega)
    rw [eI]
    refine AC.of_bodyE hΓ Try.func56 (by kernel_rfl) rfl (AWp.mono (Q := fun e st => AM.Ends e ∧ ∃ m' p', m ≤ m' ∧ st.tmps.getD 8 .junk = .p (.bool (decide ((outs ++ (rdTo ws (w.drop a) ws.length).map (path ++ ·)).length ≤ 1))) ∧
      st.h = rdH q ws w R ((outs ++ (rdTo ws (w.drop a) ws.length).map (path ++ ·)).take 2) p' m' ∧ ((outs ++ (rdTo ws (w.drop a) ws.length).map (path ++ ·)).length ≤ 1 → p' = path)) ?_ ?_)
    rotate_left
    · rintro e ⟨tm, h'⟩ ⟨he, m', p', hm, h1, h2, h3⟩
      simp only at h1 h2; subst h2; refine ⟨he, _, Less.refl _, ?_⟩; unfold Z32; simp +contextual -implicitDefEqProofs only [Try.results56, h1, go_sem]; exact ⟨_, by rw [Z2d, Z2d]; omega, .inl rfl, m', p', hm, List.take_length, h3⟩
    have hai : ¬ (a : Int) = w.length := by omega
    refine AWp.seq (Wd [(2, 1000)] ?_); simp -implicitDefEqProofs only [Try.ntmps56, Nat.reduceAdd, Nat.reduceSub, rdC, rdH, go_sem]; refine AWp.seq (Wd [(2, 1000)] ?_); simp -implicitDefEqProofs only [hai, go_sem]; refine AWp.seq (Wd [] ?_); simp -implicitDefEqProofs only [Z0, go_sem]
    refine AWp.loopI (fun p : Nat × Nat => ⟨mkF 60 [(0, .p (.int .i64 a)), (1, .ptr 5 0), (2, .ptr 7 0), (3, .ptr 10 0), (4, .ptr 4 0), (5, .ptr 9 0), (6, .ptr 11 0), (8, .p (.bool false)), (20, .p (.sl (ws.map .str))), (21, .p (.int .i64 ws.length)), (22, .p (.int .i64 p.1))], rdH q ws w R (outs ++ (rdTo ws (w.drop a) p.1).map (path ++ ·)) path p.2⟩)
      (fun p => p.1 ≤ ws.length ∧ m ≤ p.2 ∧ (outs ++ (rdTo ws (w.drop a) p.1).map (path ++ ·)).length ≤ 1) (fun p => ws.length - p.1) (0, m) (by simp [go_sem, rdH, Z0, rdTo, rdC, Z03]) ⟨by omega, Nat.le_refl _, by simpa [rdTo] using ho⟩ ?_
    rintro ⟨k, m1⟩ ⟨hk, hm1, hO1⟩; simp only at hk hm1 hO1; generalize hO : outs ++ (rdTo ws (w.drop a) k).map (path ++ ·) = O at *; simp -implicitDefEqProofs only [rdH, Z0, hO, go_sem]; by_cases hlt : k < ws.length
    · have hki : (k : Int) < ws.length := by omega
      have hx : ws[k] ∈ ws := List.getElem_mem hlt; have hxn : 0 < ws[k].length := List.length_pos_iff.2 (hn _ hx); refine Wd [] ?_; simp -implicitDefEqProofs only [hlt, Z2, ↓reduceIte, go_sem]; have hkr : InR IntKind.i64 ((k : Int) + 1) := by simp only [InR]; omega
      refine ⟨ha, Z4 (t69 (w.drop a) ws[k]) (.pures rfl) ?_⟩; have eAt : rdAt ws (w.drop a) k = if ws[k].isPrefixOf (w.drop a) then (rdI ws (w.drop (a + ws[k].length))).map (k :: ·) else [] := by
        unfold rdAt; rw [List.getD_eq_getElem?_getD, List.getElem?_eq_getElem hlt, Option.getD_some, List.drop_drop]
      have eO : outs ++ List.map (fun x => path ++ x) (rdTo ws (List.drop a w) (k + 1)) = O ++ (rdAt ws (w.drop a) k).map (path ++ ·) := by
        rw [Z3y, List.map_append, ← List.append_assoc, hO]
      have next : rdAt ws (w.drop a) k = [] → outs ++ List.map (fun x => path ++ x) (rdTo ws (List.drop a w) (k + 1)) = O := fun e => by rw [eO, e]; simp
      by_cases hpre : ws[k].isPrefixOf (w.drop a) = true
      · rw [if_pos hpre] at eAt
        have hle : a + ws[k].length ≤ w.length := by
          have := List.IsPrefix.length_le (List.isPrefixOf_iff_prefix.1 hpre); rw [List.length_drop] at this; omega
        have eN : ((a : Int) + ws[k].length).toNat = a + ws[k].length := by omega
        have eC := Zdg (ws := ws) hle
        cases hc : okAt ws w (a + ws[k].length)
        · rw [hc] at eC
          simp -implicitDefEqProofs only [hpre, eN, eC, Z9o, List.length_map, go_sem]; refine ⟨by simp only [InR]; omega, ⟨by omega, by omega⟩, ?_⟩; rw [Zbr hc, List.map_nil] at eAt; exact ⟨by omega, hkr, (k + 1, m1), ⟨by simp, by simp only [next eAt]; exact Z03 _⟩, ⟨hlt, hm1, by simp only; rw [next eAt]; exact hO1⟩, by simp only; omega⟩
        · rw [hc] at eC
          simp -implicitDefEqProofs only [hpre, eN, eC, Z9o, List.length_map, go_sem]; have hS : O ++ (rdI ws (w.drop (a + ws[k].length))).map ((path ++ [k]) ++ ·) = outs ++ List.map (fun x => path ++ x) (rdTo ws (List.drop a w) (k + 1)) := by
            rw [eO, eAt, List.map_map]
            congr 2
            funext x
            simp
          have hcall := ih (a + ws[k].length) O (path ++ [k]) m1 (by omega) hle (by simp) (by rw [List.length_append, List.length_singleton]; omega) hO1; rw [hS] at hcall; obtain ⟨rest, hrest⟩ := Zam ws (w.drop a) (k := k + 1) (n := ws.length) hlt; have hTot : outs ++ List.map (fun x => path ++ x) (rdTo ws (List.drop a w) ws.length) = (outs ++ List.map (fun x => path ++ x) (rdTo ws (List.drop a w) (k + 1))) ++ rest.map (path ++ ·) := by rw [← hrest, List.map_append, List.append_assoc]
          generalize hSd : outs ++ List.map (fun x => path ++ x) (rdTo ws (List.drop a w) (k + 1)) = S at *; have hkr12 := hR O; unfold AObj.kill at hkr12; rw [hkr12, Z7r, Z7r, show AV.kill.killL 12 rdC = rdC from rfl, show List.map (AObj.kill 12) (List.replicate m1 .dead) = List.replicate m1 .dead by rw [List.map_replicate]; rfl]; rw [show ((a + ws[k].length : Nat) : Int) = (a : Int) + ws[k].length from by omega] at hcall; refine ⟨by simp only [InR]; omega, ⟨by omega, by omega⟩, by omega, ⟨Z2p [k], by omega⟩, ⟨Z2p [k], Zar [k]⟩, ⟨Znh path, .inr (by simp), by omega, by omega⟩, by simp only [InR]; omega, ?_⟩; refine Zn (AC.weakH (h' := rdH q ws w R O (path ++ [k]) m1) hcall ?_) (fun k hk => .inr hk) ?_
          · simp [rdH, Z0, weakH, Z9t, Z03, ivN, Zd5]
          rintro v h' ⟨m2, p2, hm2, rfl, rfl, hp2⟩; by_cases hS1 : S.length ≤ 1
          · have hp2 := hp2 hS1
            subst hp2; rw [List.take_of_length_le (show S.length ≤ 2 by omega), decide_eq_true hS1]; simp -implicitDefEqProofs only [Z8, List.foldl, rdH, Z0, Zd5, go_sem]; have hkS := hR S; unfold AObj.kill at hkS; have eL : ((path ++ [k]).length : Int) - 1 = path.length := by rw [List.length_append, List.length_singleton]; omega
            have eT : List.take path.length (List.map ivN (path ++ [k])) = List.map ivN path := by rw [List.map_append]; exact List.take_left' (by simp)
            rw [eL, Z7r, Z7r, hkS, Int.toNat_natCast, eT]; refine ⟨by simp only [InR]; omega, ⟨.inr (by simp), by omega, by rw [List.length_append, List.length_singleton]; omega⟩, hkr, (k + 1, m2), ⟨by simp, ?_⟩, ⟨hlt, by simp only; omega, by simp only; rw [hSd]; exact hS1⟩, by simp only; omega⟩; simp only [hSd]; have hpp : pk path = .own ∨ pk path = .lax := by unfold pk; split <;> simp
            refine ⟨⟨trivial, trivial⟩, trivial, .inr (.inl trivial), trivial, rfl, ?_, ?_⟩
            · rcases hpp with h | h <;> simp [h]
            · rw [List.map_replicate]; exact Z03 _
          · rw [decide_eq_false hS1]
            simp -implicitDefEqProofs only [Z8, List.foldl, rdH, Z0, go_sem]; have h2 : 2 ≤ S.length := by omega
            refine ⟨m2, p2, by omega, ?_, ?_, fun h => ?_⟩
            · rw [hTot, decide_eq_false]
              rw [List.length_append]; omega
            · rw [hTot, Zmu h2]
              simp [rdC]
            · rw [hTot, List.length_append] at h; omega
      · rw [if_neg hpre] at eAt
        simp -implicitDefEqProofs only [hpre, go_sem]; exact ⟨hkr, (k + 1, m1), ⟨by simp, by simp only [next eAt]; exact Z03 _⟩, ⟨hlt, hm1, by simp only; rw [next eAt]; exact hO1⟩, by simp only; omega⟩
    · refine Wd [] ?_
      have he : k = ws.length := by omega
      simp -implicitDefEqProofs only [he, Nat.lt_irrefl, go_sem]; refine Wd [] ?_; simp -implicitDefEqProofs only [go_sem]; subst he; rw [hO]; refine ⟨m1, path, hm1, by rw [decide_eq_true hO1], ?_, fun _ => rfl⟩; rw [List.take_of_length_le (show O.length ≤ 2 by omega)]; simp [rdC]

theorem Zdi {ws : List (List UInt8)} (hn : ∀ x ∈ ws, x ≠ []) {w : List UInt8} {i : Nat} (hi : i < w.length) : okAt ws w i = ws.any fun x => x.isPrefixOf (w.drop i) && okAt ws w (i + x.length) := by
  have hne : w.drop i ≠ [] := fun e => by
    have := congrArg List.length e; rw [List.length_drop, List.length_nil] at this; omega
  rw [Bool.eq_iff_iff, List.any_eq_true]; unfold okAt; rw [Z2c hn hne]
  constructor
  · intro h
    have h1 : rdTo ws (w.drop i) ws.length ≠ [] := fun e => by rw [e] at h; cases h
    obtain ⟨l, hl⟩ := List.exists_mem_of_ne_nil _ h1; unfold rdTo at hl; obtain ⟨k, hk, hl⟩ := List.mem_flatMap.1 hl; have hk := List.mem_range.1 hk; refine ⟨ws.getD k [], Z37 hk, ?_⟩; unfold rdAt at hl
    split at hl
    · rename_i hp
      rw [hp, Bool.true_and, Bool.not_eq_true']; obtain ⟨x, hx, _⟩ := List.mem_map.1 hl; rw [List.drop_drop] at hx; rw [List.isEmpty_eq_false_iff]; exact List.ne_nil_of_mem hx
    · cases hl
  · rintro ⟨x, hx, h⟩
    rw [Bool.and_eq_true, Bool.not_eq_true', List.isEmpty_eq_false_iff] at h; obtain ⟨k, hk, rfl⟩ := List.getElem_of_mem hx; obtain ⟨l, hl⟩ := List.exists_mem_of_ne_nil _ h.2; rw [Bool.not_eq_true', List.isEmpty_eq_false_iff]; refine List.ne_nil_of_mem (a := k :: l) ?_; unfold rdTo; refine List.mem_flatMap.2 ⟨k, List.mem_range.2 hk, ?_⟩; unfold rdAt; have eg : ws.getD k [] = ws[k] := by rw [List.getD_eq_getElem?_getD, List.getElem?_eq_getElem hk, Option.getD_some]
    rw [eg, if_pos h.1, List.drop_drop]; exact List.mem_map.2 ⟨l, hl, rfl⟩
def okK (ws : List (List UInt8)) (w : List UInt8) (k : Nat) : List Bool := (List.range (w.length + 1)).map fun j => decide (k ≤ j) && okAt ws w j
theorem Zdh (ws : List (List UInt8)) (w : List UInt8) (k : Nat) : (okK ws w k).length = w.length + 1 := by simp [okK]
theorem Zg6 (ws : List (List UInt8)) (w : List UInt8) : okK ws w 0 = okL ws w := by
  unfold okK okL; refine List.map_congr_left fun j _ => ?_
  simp
theorem Zja {ws : List (List UInt8)} {w : List UInt8} {k j : Nat} (h : j ≤ w.length) : ((okK ws w k).map PV.bool).getD j default = .bool (decide (k ≤ j) && okAt ws w j) := by
  unfold okK; rw [List.getD_eq_getElem?_getD, List.getElem?_map, List.getElem?_map, List.getElem?_range (by omega)]
  rfl
theorem Zg8 (ws : List (List UInt8)) (w : List UInt8) : (List.replicate (w.length + 1) (PV.bool false)).set w.length (.bool true) = (okK ws w w.length).map PV.bool := by
  apply List.ext_getElem
  · simp [okK]
  intro i h1 h2; simp only [List.length_set, List.length_replicate] at h1; simp only [okK, List.getElem_set, List.getElem_replicate, List.getElem_map, List.getElem_range]; by_cases e : w.length = i
  · subst e
    have : okAt ws w w.length = true := by unfold okAt; rw [List.drop_length, Z1y]; rfl
    simp [this]
  · rw [if_neg e, decide_eq_false (by omega)]
    rfl
theorem Zg7 {ws : List (List UInt8)} {w : List UInt8} {i : Nat} {b : Bool} (hb : b = okAt ws w i) : ((okK ws w (i + 1)).map PV.bool).set i (.bool b) = (okK ws w i).map PV.bool := by
  apply List.ext_getElem
  · simp [okK]
  intro j h1 h2; simp only [okK, List.getElem_set, List.getElem_map, List.getElem_range]; by_cases e : i = j
  · subst e
    simp [hb]
  · rw [if_neg e]
    congr 2
    by_cases h : i + 1 ≤ j
    · rw [decide_eq_true h, decide_eq_true (by omega)]
    · rw [decide_eq_false h, decide_eq_false (by omega)]

theorem v54 {w : List UInt8} {h : List AObj} {ib i k : Nat} {ws : List (List UInt8)} (hw : h[5]? = some (.box [.p (.str w)])) (hi : h[ib]? = some (.box [.p (.int .i64 i)])) (h9 : h[9]? = some (.box [.own 8 (w.length + 1)]))
    (h8 : h[8]? = some (.row 4 1 ((okK ws w k).map PV.bool) .own)) (hil : i < w.length) (hl : w.length ≤ 4096) (x : List UInt8) :
    AC Try.prog 54 [.p (.str x), .ptr 5 0, .ptr ib 0, .ptr 9 0] h [] (fun v h' => v = .p (.bool (x.isPrefixOf (w.drop i) && (decide (k ≤ i + x.length) && okAt ws w (i + x.length)))) ∧ h' = h) := by
  refine AC.of_bodyE hΓ Try.func54 (by kernel_rfl) rfl (AWp.mono (Q := fun e st => AM.Ends e ∧ st.tmps.getD 5 .junk = .p (.bool (x.isPrefixOf (w.drop i) && (decide (k ≤ i + x.length) && okAt ws w (i + x.length)))) ∧ st.h = h) ?_ ?_)
  rotate_left
  · rintro e ⟨tm, h'⟩ ⟨he, h1, h2⟩
    simp only at h1 h2; subst h2; refine ⟨he, _, Less.refl _, ?_⟩; unfold Z32; simp +contextual -implicitDefEqProofs only [Try.results54, h1, go_sem]; exact ⟨_, Nat.le_refl _, .inl rfl, List.take_length⟩
  have e69 := t69 (w.drop i) x; refine Wd [] ?_; simp -implicitDefEqProofs only [Try.ntmps54, Nat.reduceAdd, Nat.reduceSub, hw, hi, h9, h8, Int.toNat_natCast, go_sem]; refine ⟨by omega, Z4 e69 (.pures rfl) ?_⟩; by_cases hp : x.isPrefixOf (w.drop i) = true
  · have hle : i + x.length ≤ w.length := by
      have := List.IsPrefix.length_le (List.isPrefixOf_iff_prefix.1 hp); rw [List.length_drop] at this; omega
    have eN : ((i : Int) + x.length).toNat = i + x.length := by omega
    have eC := Zja (ws := ws) (k := k) hle; simp -implicitDefEqProofs only [hp, hi, h9, h8, eN, eC, Zdh, List.length_map, Bool.true_and, go_sem]; exact ⟨by simp only [InR]; omega, ⟨by omega, by omega⟩, by omega⟩
  · rw [Bool.not_eq_true] at hp
    simp -implicitDefEqProofs only [hp, Bool.false_and, go_sem]

theorem Zmp {q : Int} {ws : List (List UInt8)} {w : List UInt8} {R : List (List Nat) → AObj} {outs : List (List Nat)} {p : List Nat} {m : Nat} (h : AObj.under 7 (R outs) = true) : ((rdH q ws w R outs p m).take 7).all (AObj.under 7) = true := by
  have e : ∀ i, AV.under 7 (fO outs i) = true := fun i => by
    unfold fO
    split <;> rfl
  unfold rdH; simp only [List.take_succ_cons, List.take_zero, List.all_cons, List.all_nil, h]; simp [AObj.under, Z0, e, AV.under]
def rdP (q : Int) (ws : List (List UInt8)) (w : List UInt8) (R : List (List Nat) → AObj) (k : Nat) : List AObj :=
  Z0 q ws :: .box [.p (.str []), .full [], .full []] :: .box [.p (.str w), .full [], .full []] :: .box [.p (.int .i64 0)] :: Z0 q ws :: .box [.p (.str w)] :: R [] ::
    .box [.yld 6] :: .row 4 1 ((okK ws w k).map PV.bool) .own :: .box [.own 8 (w.length + 1)] :: [.box [.p (.int .i64 ((k : Int) - 1))]]
theorem v52 {q : Int} {ws : List (List UInt8)} {w : List UInt8} {R : List (List Nat) → AObj} (hn : ∀ x ∈ ws, x ≠ []) (hws : ws.length ≤ 256) (hw : w.length ≤ 4096) (hw0 : w ≠ []) (h2 : Amb2 ws w) (hR : ∀ outs, (R outs).kill 12 = R outs) (hB : ∀ n, 7 ≤ n → AObj.blw n (R []) = true) (hS : (R []).sw 10 11 = R []) (hU : ∀ outs, AObj.under 7 (R outs) = true) (hround : Zbk q ws w R) :
    AC Try.prog 52 [.yld 6, .ptr 5 0, .ptr 4 0] (rdA q ws w R []) [] (fun _ h' => h' = rdA q ws w R ((rdI ws w).take 2)) := by
  refine AC.of_bodyE hΓ Try.func52 (by kernel_rfl) rfl (AWp.mono (Q := fun e st => AM.Ends e ∧ ∃ p' m', st.h = rdH q ws w R ((rdI ws w).take 2) p' m') ?_ ?_)
  rotate_left
  · rintro e ⟨tm, h'⟩ ⟨he, p', m', h2⟩
    simp only at h2; subst h2; refine ⟨he, _, Less.refl _, ?_⟩; unfold Z32; simp +contextual -implicitDefEqProofs only [Try.results52, go_sem]; exact ⟨7, by simp [rdA], .inr ⟨rfl, Zmp (hU _), by rw [Z2d]; omega⟩, rfl⟩
  refine AWp.seq (Wd [] ?_); simp -implicitDefEqProofs only [Try.ntmps52, Nat.reduceAdd, Nat.reduceSub, rdA, Z0, go_sem]; refine AWp.seq (Wd [] ?_); simp -implicitDefEqProofs only [go_sem]; have hwp : 0 < w.length := List.length_pos_iff.2 hw0; refine ⟨by simp only [InR]; omega, ⟨by omega, by omega, by omega⟩, ?_⟩; have eN1 : ((w.length : Int) + 1).toNat = w.length + 1 := by omega
  refine AWp.seq (Wd [] ?_); simp -implicitDefEqProofs only [eN1, Int.toNat_natCast, List.length_replicate, go_sem]; refine ⟨rfl, ?_⟩; have eLast : (PV.bool false :: List.replicate w.length (PV.bool false)).set w.length (.bool true) = (okK ws w w.length).map PV.bool := Zg8 ws w; rw [eLast]; refine AWp.seq (AWp.seq (Wd [] ?_)); simp -implicitDefEqProofs only [go_sem]; refine ⟨by simp only [InR]; omega, ?_⟩; refine AWp.block ?_; have hB11 := hB 11 (by omega); unfold AObj.blw at hB11
  refine AWp.loopJ (fun k : Nat => ⟨mkF 37 [(1, .ptr 5 0), (2, .ptr 4 0), (3, .ptr 7 0), (4, .ptr 9 0), (5, .ptr 10 0)], rdP q ws w R k⟩)
    (fun k => k ≤ w.length) (fun k => k) w.length (fun k => by simp [Z1b, mkF, AV.blw, AV.blw.blwL, blwH, AObj.blw, rdP, Z0, hB11]) (by simp [go_sem, rdP, Z0, fO]) (Nat.le_refl _) ?_
  intro k hk; unfold rdP; simp -implicitDefEqProofs only [Z0, go_sem]
  cases k with
  | zero =>
    have h0 : ¬ (0 : Int) ≤ ((0 : Nat) : Int) - 1 := by omega
    refine AWp.seq (Wd [] ?_); simp -implicitDefEqProofs only [h0, go_sem]; rw [Zg6]
    refine AWp.weakD (st' := ⟨mkF 37 [(1, .ptr 5 0), (2, .ptr 4 0), (3, .ptr 7 0), (4, .ptr 9 0)], Z0 q ws :: .box [.p (.str []), .full [], .full []] :: .box [.p (.str w), fO [] 0, fO [] 1] :: .box [.p (.int .i64 0)] :: Z0 q ws :: .box [.p (.str w)] :: R [] ::
      .box [.yld 6] :: .row 4 1 ((okL ws w).map PV.bool) .own :: [.box [.own 8 (w.length + 1)]]⟩) (by simp [go_sem, Z0, fO, Z0l]) (by have hB10 := hB 10 (by omega); unfold AObj.blw at hB10; simp [Z1b, mkF, AV.blw, AV.blw.blwL, blwH, AObj.blw, Z0, fO, hB10]) ?_
    refine AWp.seq (Wd [] ?_); simp -implicitDefEqProofs only [Z0, go_sem]; refine AWp.seq (Wd [] ?_); simp -implicitDefEqProofs only [go_sem]; refine AWp.adoptBox (l := []) 10 3 1 rfl (by simp) ?_; simp -implicitDefEqProofs only [List.set_cons_zero, List.set_cons_succ, go_sem]; refine AWp.seq (Wd [] ?_); simp -implicitDefEqProofs only [go_sem]; have e0 := Zdg (ws := ws) (w := w) (j := 0) (by omega); have e1 : okAt ws w 0 = true := by
      unfold okAt; rw [List.drop_zero]; unfold Amb2 at h2
      cases h : rdI ws w with
      | nil => rw [h] at h2; simp at h2
      | cons a l => rfl
    rw [e1] at e0; refine Wd [] ?_; simp -implicitDefEqProofs only [Z9o, List.length_map, e0, show Int.toNat 0 = 0 from rfl, go_sem]; have hcall := v56 hn hws hw hR hround w.length 0 [] [] 0 (by omega) (by omega) (fun _ => hwp) (by simpa using hw) (by simp); rw [List.drop_zero, List.nil_append, show (rdI ws w).map (([] : List Nat) ++ ·) = rdI ws w by simp] at hcall; refine ⟨by omega, by omega, ?_⟩; refine Zn (ks := [12]) hcall (by simp) ?_; rintro v h' ⟨m', p', _, rfl, rfl, _⟩; simp -implicitDefEqProofs only [Z8, List.foldl, go_sem]; exact ⟨p', m', rfl⟩
  | succ i =>
    have ei : (((i + 1 : Nat) : Int) - 1) = (i : Int) := by omega
    have h0 : (0 : Int) ≤ (i : Int) := by omega
    rw [ei]; refine AWp.seq (Wd [] ?_); simp -implicitDefEqProofs only [h0, go_sem]; refine AWp.seq (Wd [(6, 7)] ?_); simp -implicitDefEqProofs only [go_sem]; have eA : (ws.any fun x => x.isPrefixOf (w.drop i) && (decide (i + 1 ≤ i + x.length) && okAt ws w (i + x.length))) = okAt ws w i := by
      rw [Zdi hn (by omega), Bool.eq_iff_iff, List.any_eq_true, List.any_eq_true]; have hx : ∀ x ∈ ws, decide (i + 1 ≤ i + x.length) = true := fun x hx => by
        have := List.length_pos_iff.2 (hn x hx); rw [decide_eq_true]; omega
      exact ⟨fun ⟨x, h1, h2⟩ => ⟨x, h1, by rw [hx x h1, Bool.true_and] at h2; exact h2⟩, fun ⟨x, h1, h2⟩ => ⟨x, h1, by rw [hx x h1, Bool.true_and]; exact h2⟩⟩
    have e17 := c17 (h := [.box [.p (.int .i64 q), .p (.sl (ws.map .str))], .box [.p (.str []), .full [], .full []], .box [.p (.str w), .full [], .full []], .box [.p (.int .i64 0)], .box [.p (.int .i64 q), .p (.sl (ws.map .str))], .box [.p (.str w)], R [],
      .box [.yld 6], .row 4 1 ((okK ws w (i + 1)).map PV.bool) .own, .box [.own 8 (w.length + 1)], .box [.p (.int .i64 i)]]) ws (by omega) (pr := fun x => x.isPrefixOf (w.drop i) && (decide (i + 1 ≤ i + x.length) && okAt ws w (i + x.length))) (fun x _ => v54 (k := i + 1) (ib := 10) rfl rfl rfl rfl (by omega) hw x)
    rw [eA] at e17; refine .inr (.inr ⟨_, e17, ?_⟩); simp -implicitDefEqProofs only [Z8, List.foldl, Zdh, List.length_map, Int.toNat_natCast, go_sem]; refine ⟨by omega, ⟨by omega, rfl⟩, ?_⟩; rw [Zg7 (b := okAt ws w i) rfl]; refine AWp.seq (AWp.seq (Wd [] ?_)); simp -implicitDefEqProofs only [go_sem]; refine Wd [] ?_; simp -implicitDefEqProofs only [go_sem]; have hRs : (R []).sw 10 11 = R [] := hS; unfold AObj.sw swN at hRs; refine AWp.swap 10 11 rfl rfl (by simp) (by simp) ?_; simp -implicitDefEqProofs only [List.map_cons, List.map_nil, AV.sw, AV.sw.swL, AObj.sw, swN, List.set_cons_zero, List.set_cons_succ, go_sem]; rw [hRs]; refine Wd [] ?_; simp -implicitDefEqProofs only [go_sem]; refine ⟨by simp only [InR]; omega, i, ?_, by omega, by omega⟩; simp [Z0, weakD, Z0l]

theorem c31 {h : List AObj} (q : Int) (ws : List (List UInt8)) (w : List UInt8) :
    AC Try.prog 31 [.agg [.p (.int .i64 q), .p (.sl (ws.map .str))], .p (.str w)] h [] (fun v h' => v = .fn 52 [.ptr (h.length + 1) 0, .ptr h.length 0] ∧ h' = h ++ [Z0 q ws, .box [.p (.str w)]]) := by
  refine AC.of_bodyE hΓ Try.func31 (by kernel_rfl) rfl (AWp.mono (Q := fun e st => AM.Ends e ∧ st.tmps.getD 4 .junk = .fn 52 [.ptr (h.length + 1) 0, .ptr h.length 0] ∧ st.h = h ++ [Z0 q ws, .box [.p (.str w)]]) ?_ ?_)
  rotate_left
  · rintro e ⟨tm, h'⟩ ⟨he, h1, h2⟩
    simp only at h1 h2; subst h2; refine ⟨he, _, Less.refl _, ?_⟩; unfold Z32; simp +contextual -implicitDefEqProofs only [Try.results31, h1, go_sem]; exact ⟨_, by simp, .inl rfl, List.take_length⟩
  refine AWp.of_awpD [] hΓ hmix (by kernel_rfl) ?_; simp -implicitDefEqProofs only [Try.ntmps31, Nat.reduceAdd, Nat.reduceSub, Z0, go_sem]; refine ⟨by simp, by simp⟩

theorem Zfr {q : Int} {ws : List (List UInt8)} {w : List UInt8} {R : List (List Nat) → AObj} {o : AObj} {outs : List (List Nat)} {path : List Nat} {m nm : Nat} {xs : List PV} (hr : (R outs).thaw nm xs = R outs) (hnm : nm = m + 13) :
    ((rdH q ws w R outs path m ++ [o]).map (AObj.thaw nm xs)).set nm .dead = rdH q ws w R outs path (m + 1) := by
  have h8 : ¬ 8 = nm := by omega
  have h12 : ¬ 12 = nm := by omega
  have hf : ∀ i, AV.thaw nm xs (fO outs i) = fO outs i := fun i => by
    unfold fO
    split <;> rfl
  have e : (rdH q ws w R outs path m).map (AObj.thaw nm xs) = rdH q ws w R outs path m := by
    unfold rdH; simp only [List.map_cons, hr]; simp [Z0, AObj.thaw, AV.thaw, AV.thaw.thawL, rdC, h8, h12, hf]
  rw [List.map_append, e, List.set_append_right _ _ (by rw [Z2d]; omega), Z2d, hnm, Nat.sub_self]; simp only [List.map_cons, List.set_cons_zero, List.map_nil]; unfold rdH; rw [List.replicate_succ']
  rfl

def recO (tm : List AV) (ps : List Nat) (assign body : Code) (outs : List (List Nat)) : AObj := .lp tm ps assign body (if outs.length ≤ 1 then .ready else .left (.exit 0))
def tm12 : List AV := mkF 40 [(1, .ptr 0 0), (2, .ptr 1 0), (7, .ptr 2 0), (8, .ptr 3 0), (29, .fn 52 [.ptr 5 0, .ptr 4 0])]
theorem Zip {E : Env} (hP : E.P = Try.prog) (hn0 : E.n0 = 0) {Q : Exit → St → Prop} {f : Operand} {ps : List Nat} {assign body : Code} {q : Int} {ws : List (List UInt8)} {w : List UInt8}
    (hn : ∀ x ∈ ws, x ≠ []) (hws : ws.length ≤ 256) (hw : w.length ≤ 4096) (hw0 : w ≠ []) {x y : List Nat} {l : List (List Nat)} (hxy : rdI ws w = x :: y :: l)
    (hf : ev tm12 f = .fn 52 [.ptr 5 0, .ptr 4 0]) (hround : Zbk q ws w (recO tm12 ps assign body))
    (h1 : Q (.exit 0) ⟨tm12, [Z0 q ws, .box [.p (.str []), .full [], .full []], .box [.p (.str w), .p (slV x), .p (slV y)], .box [.p (.int .i64 2)], Z0 q ws, .box [.p (.str w)], .dead]⟩) :
    AWp E none (.rangeFunc f ps.toArray assign body) Q ⟨tm12, [Z0 q ws, .box [.p (.str []), .full [], .full []], .box [.p (.str w), .full [], .full []], .box [.p (.int .i64 0)], Z0 q ws, .box [.p (.str w)]]⟩ := by
  have h2 : Amb2 ws w := by unfold Amb2; rw [hxy]; simp
  have hac := v52 (R := recO tm12 ps assign body) hn hws hw hw0 h2 (fun outs => by simp [recO, tm12, mkF, AObj.kill, AV.kill, AV.kill.killL]) (fun n hn => by
    have : ∀ k, k < 7 → k < n := fun k hk => by omega
    simp [recO, tm12, mkF, AObj.blw, AV.blw, AV.blw.blwL, this]) (by simp [recO, tm12, mkF, AObj.sw, AV.sw, AV.sw.swL, swN]) (fun outs => rfl) hround
  obtain ⟨P, Γ', n0, ks⟩ := E; simp only at hP hn0; subst hP hn0; refine AWp.rangeFunc (h := [Z0 q ws, .box [.p (.str []), .full [], .full []], .box [.p (.str w), .full [], .full []], .box [.p (.int .i64 0)], Z0 q ws, .box [.p (.str w)]]) (ks := []) hf hac (by simp) (by simp) ?_; rintro v h' rfl; rw [hxy]; unfold Z50; exact h1

theorem r12 (q : Int) (ws : List (List UInt8)) (hc : Z7 q ws = 0) (hr : Z1e ws []) {w : List UInt8} (ho : OP ws (some w)) {x y : List Nat} {l : List (List Nat)} (hxy : rdI ws w = x :: y :: l) :
    PFn Try.prog 12 [Z9 q ws] [.agg [.str w, slV x, slV y], .bool true, .int .i64 0] := by
  have hv := valid_of hc; have e1 := t45 q ws; rw [hc] at e1; have e3 := r30 q ws hv ho; simp only [Option.getD_some, Option.isSome_some] at e3; refine PFn.of_body hΓ Try.func12 (by kernel_rfl) rfl (AWp.seq (AWp.of_awpD [] hΓ hmix (by kernel_rfl) ?_)); simp -implicitDefEqProofs only [Try.ntmps12, Try.results12, Nat.reduceAdd, Nat.reduceSub, Z9, go_sem]; have e2 := t47 q ws hv; rw [decide_eq_true (Z09.2 hr)] at e2; unfold Z9 at e1 e2 e3; refine AWp.seq (AWp.of_awpD [] hΓ hmix (by kernel_rfl) ?_); simp -implicitDefEqProofs only [go_sem]; refine Z4 e1 (.still rfl) ?_; simp -implicitDefEqProofs only [go_sem]; refine AWp.seq (AWp.of_awpD [] hΓ hmix (by kernel_rfl) ?_); simp -implicitDefEqProofs only [go_sem]; refine Z4 e2 (.still rfl) ?_; simp -implicitDefEqProofs only [Bool.not_true, go_sem]; refine AWp.seq (AWp.of_awpD [] hΓ hmix (by kernel_rfl) ?_); simp -implicitDefEqProofs only [go_sem]; refine Z4 e3 (.still rfl) ?_; simp -implicitDefEqProofs only [go_sem]; refine AWp.seq (AWp.of_awpD [] hΓ hmix (by kernel_rfl) ?_); simp -implicitDefEqProofs only [go_sem]; refine AWp.seq (AWp.of_awpD [] hΓ hmix (by kernel_rfl) ?_); simp -implicitDefEqProofs only [go_sem]; refine ⟨by omega, ?_⟩; refine AWp.seq (AWp.of_awpD [] hΓ hmix (by kernel_rfl) ?_); simp -implicitDefEqProofs only [go_sem]; refine AWp.seq (AWp.of_awpD [] hΓ hmix (by kernel_rfl) ?_); simp -implicitDefEqProofs only [go_sem]; refine Zn (c31 q ws w) (by simp) ?_; rintro v h' ⟨rfl, rfl⟩; simp -implicitDefEqProofs only [Z8, List.foldl, Z0, List.cons_append, List.nil_append, go_sem]; rw [show (#[30] : Array Nat) = [30].toArray from rfl]; have hn : ∀ x ∈ ws, x ≠ [] := fun x hx => by
    obtain ⟨i, hi, rfl⟩ := List.getElem_of_mem hx; have := hv.ne i hi
    rwa [List.getD_eq_getElem?_getD, List.getElem?_eq_getElem hi, Option.getD_some] at this
  have hws : ws.length ≤ 256 := by have := hv.len; omega
  have hm : MinP ws w := ho; have h2 : Amb2 ws w := hm.1.amb2 hn; have hw0 : w ≠ [] := fun e => by
    rw [e, Z1y] at hxy
    cases hxy
  refine AWp.weak (st' := ⟨tm12, [Z0 q ws, .box [.p (.str []), .full [], .full []], .box [.p (.str w), .full [], .full []], .box [.p (.int .i64 0)], Z0 q ws, .box [.p (.str w)]]⟩) (by simp [go_sem, Z0, tm12]) ?_; refine Zip rfl rfl hn hws hm.2.1 hw0 hxy rfl ?_ ?_
  · intro outs path m rk ho hrk hp
    refine YC.of_body (Γ := Γ) (tm := tm12) (ps := [30]) (show some (recO tm12 [30] _ _ outs) = _ by unfold recO; rw [if_pos ho]) rfl (by simp) ?_; intro rr; generalize hnm : (List.replicate m AObj.dead).length + 1 + 1 + 1 + 1 + 1 + 1 + 1 + 1 + 1 + 1 + 1 + 1 + 1 = nm; have hnm2 : nm = m + 13 := by rw [← hnm, List.length_replicate]
    refine AWp.freeze nm (E := 3) (s := 1) (xs := path.map ivN) (k := rk) (by
      show (rdH _ _ _ _ _ _ _ ++ [_])[nm]? = _; rw [List.getElem?_append_right (by rw [Z2d]; omega), Z2d, hnm2, Nat.sub_self]; rfl) ?_
    unfold Z1j; simp only; rw [Zfr (by simp [recO, tm12, mkF, AObj.thaw, AV.thaw, AV.thaw.thawL]) hnm2]; refine AWp.of_awpD [] hΓ hmix (by kernel_rfl) ?_; simp -implicitDefEqProofs only [setP, AV.thaw, AV.thaw.thawL, List.map_cons, List.map_nil, rdH, tm12, go_sem]; have erec : ∀ (a b : Code), recO tm12 [30] a b outs = .lp tm12 [30] a b .ready := fun a b => by unfold recO; rw [if_pos ho]
    unfold Z7c; refine ⟨rfl, ?_⟩
    match outs, ho with
    | [], _ =>
      simp -implicitDefEqProofs only [Z0, erec, tm12, fO, go_sem]; refine AWp.of_awpD [] hΓ hmix (by kernel_rfl) ?_; simp -implicitDefEqProofs only [go_sem]; refine ⟨by simp only [InR]; omega, fun _ => ⟨by omega, ?_⟩, fun h => absurd (by omega) h⟩; unfold Z6i; simp -implicitDefEqProofs only [go_sem]; refine ⟨_, ?_, .inl rfl, ?_⟩
      rotate_left
      · rw [List.take_length]
        simp [Z0, recO, fO, slV]
      · simp
    | [z], _ =>
      simp -implicitDefEqProofs only [Z0, erec, tm12, fO, go_sem]; refine AWp.of_awpD [] hΓ hmix (by kernel_rfl) ?_; simp -implicitDefEqProofs only [go_sem]; refine ⟨by simp only [InR]; omega, fun h => absurd h (by omega), fun _ => ?_⟩; unfold Z6i; simp -implicitDefEqProofs only [go_sem]; refine ⟨_, ?_, .inl rfl, ?_⟩
      rotate_left
      · rw [List.take_length]
        simp [Z0, recO, fO, slV]
      · simp
  · simp -implicitDefEqProofs only [tm12, go_sem]
    refine AWp.of_awpD [] hΓ hmix (by kernel_rfl) ?_; simp -implicitDefEqProofs only [slV, go_sem]
end Go.Proofs.Ytpljmccnfmkmfaa
end

