/-
  Texts of this claim, joined.
-/
import Derived.Shelf.Strings.OnBuilder
import Derived.Test.YtpljmccnfmkmfaaGreatJe01266d4e944
import Derived.Test.YtpljmccnfmkmfaaGreatJ7cb4b7e9e247
import Derived.Test.YtpljmccnfmkmfaaGreatJb14288946cc8
import Derived.Test.YtpljmccnfmkmfaaGreatJf8d55e4b0b9b

set_option linter.unusedSimpArgs false
set_option linter.unusedVariables false
set_option maxRecDepth 100000
set_option maxHeartbeats 4000000
section
namespace Go.Proofs
open Go.Shelf
def Tryz.lays156_ren : Go.Shelf.Ren := ⟨fun | 156 => 195 | 165 => 239 | 166 => 120 | 169 => 121 | 240 => 180 | 241 => 265 | 276 => 225 | 277 => 277 | n => n, fun | 0 => 0 | 3 => 3 | 4 => 4 | 5 => 5 | 9 => 9 | 20 => 20 | 31 => 22 | 37 => 65 | 70 => 116 | 72 => 118 | 75 => 120 | 76 => 121 | 80 => 123 | 127 => 160 | 164 => 191 | n => n, fun | n => n⟩
theorem Tryz.lays156 : Go.Proofs.Lays.n156 Tryz.prog Tryz.lays156_ren := {
  mixed := by kernel_rfl
  f156 := Tryz.func195.trans (congrArg some (by kernel_rfl))
  f165 := Tryz.func239.trans (congrArg some (by kernel_rfl))
  f166 := Tryz.func120.trans (congrArg some (by kernel_rfl))
  f169 := Tryz.func121.trans (congrArg some (by kernel_rfl))
  f240 := Tryz.func180.trans (congrArg some (by kernel_rfl))
  f241 := Tryz.func265.trans (congrArg some (by kernel_rfl))
  f276 := Tryz.func225.trans (congrArg some (by kernel_rfl))
  f277 := Tryz.func277.trans (congrArg some (by kernel_rfl))
  t0 := Tryz.underlying0
  a0 := Tryz.isAgg0
  z0 := Tryz.sizeOf0
  v0 := Tryz.zeroValue0
  t3 := Tryz.underlying3
  a3 := Tryz.isAgg3
  z3 := Tryz.sizeOf3
  v3 := Tryz.zeroValue3
  t4 := Tryz.underlying4
  a4 := Tryz.isAgg4
  z4 := Tryz.sizeOf4
  v4 := Tryz.zeroValue4
  t9 := Tryz.underlying9
  a9 := Tryz.isAgg9
  z9 := Tryz.sizeOf9
  v9 := Tryz.zeroValue9
  t20 := Tryz.underlying20
  a20 := Tryz.isAgg20
  z20 := Tryz.sizeOf20
  v20 := Tryz.zeroValue20
  t31 := Tryz.underlying22
  a31 := Tryz.isAgg22
  z31 := Tryz.sizeOf22
  v31 := Tryz.zeroValue22
  t37 := Tryz.underlying65
  a37 := Tryz.isAgg65
  z37 := Tryz.sizeOf65
  v37 := Tryz.zeroValue65
  t70 := Tryz.underlying116
  a70 := Tryz.isAgg116
  z70 := Tryz.sizeOf116
  v70 := Tryz.zeroValue116
  t72 := Tryz.underlying118
  a72 := Tryz.isAgg118
  z72 := Tryz.sizeOf118
  v72 := Tryz.zeroValue118
  t75 := Tryz.underlying120
  a75 := Tryz.isAgg120
  z75 := Tryz.sizeOf120
  v75 := Tryz.zeroValue120
  t76 := Tryz.underlying121
  a76 := Tryz.isAgg121
  z76 := Tryz.sizeOf121
  v76 := Tryz.zeroValue121
  t127 := Tryz.underlying160
  a127 := Tryz.isAgg160
  z127 := Tryz.sizeOf160
  v127 := Tryz.zeroValue160
  t164 := Tryz.underlying191
  a164 := Tryz.isAgg191
  z164 := Tryz.sizeOf191
  v164 := Tryz.zeroValue191 }
theorem Tryz.Builder_Extra_156 : Builder.Extra Tryz.prog Tryz.lays156_ren := {
  sizeBuilder := by kernel_rfl
  liesBuilder := by kernel_rfl
  t5 := Tryz.underlying5
  a5 := Tryz.isAgg5
  z5 := Tryz.sizeOf5
  v5 := Tryz.zeroValue5
  infoByte := by kernel_rfl
  cellsByte := by kernel_rfl
  sizeByte := by kernel_rfl
  neB5 := by decide }
end Go.Proofs
namespace Go.Proofs.YtpljmccnfmkmfaaGreat
open Go Go.AM Go.Shelf Go.RowKit
theorem Zmh (xs : List (List UInt8)) (sep : List UInt8) (hN : xs.length ≤ 140737488355328) (hlen : (Lib.join xs sep).length ≤ 140737488355328) : PFn Tryz.prog 195 [.sl (xs.map .str), .str sep] [.str (Lib.join xs sep)] := by
  refine ⟨Z05 Tryz.func195 (by kernel_rfl) rfl, fun I w cargs himm hl hargs => ?_⟩; obtain ⟨a, b, rfl⟩ : ∃ a b, cargs = [a, b] := by
    match cargs, hl with
    | [a, b], _ => exact ⟨a, b, rfl⟩
  have h0 := hargs 0 (by simp); have h1 := hargs 1 (by simp); simp only [List.getD_cons_zero, List.getD_cons_succ] at h0 h1; obtain ⟨s, rfl, rfl⟩ : ∃ s : ByteArray, b = .string s ∧ sep = s.data.toList := by
    cases h1 with
    | str s => exact ⟨s, rfl, rfl⟩
  have fin : ∀ (e : Ending) (w' : World), e = .returned (.string ⟨(Lib.join xs s.data.toList).toArray⟩) ∧ Below w.heap.size w w' → ∃ cv I', e = .returned cv ∧ w.grownBy w' none ∧ (∀ g, I g → I' g) ∧ (∀ g, I' g → I g ∨ (w.heap.size ≤ g ∧ g < w'.heap.size)) ∧
      VR 0 (fun _ => undef) I' w' (Z06 ([PV.str (Lib.join xs s.data.toList)].map .p)) cv := by
    rintro e w' ⟨rfl, hB⟩; exact ⟨_, I, rfl, Z0m hB, fun _ h => h, fun g h => .inl h, .p _ _ (.str ⟨(Lib.join xs s.data.toList).toArray⟩)⟩
  by_cases hx : xs = []
  · subst hx
    obtain ⟨ad, c, rfl⟩ : ∃ ad c, a = .slice ad 0 c := by
      cases h0 with
      | sl0 ad c _ => exact ⟨ad, c, rfl⟩
      | sl l s2 g off cap cur E fz vs hl2 _ _ _ _ _ _ => exact absurd rfl hl2
    refine Calls.mono (P := Tryz.prog) (Any.strings_Join_none (ρ := Tryz.lays156_ren) Tryz.lays156 Tryz.Builder_Extra_156 ad c s w) ?_; rintro e w' ⟨rfl, rfl⟩; exact fin _ _ ⟨rfl, Below.refl _ _⟩
  · obtain ⟨_, g, off, cap, cur, E, fz, vs, rfl, hI, hw, hc, hs, hv, hr⟩ : ∃ (s2 g off cap : Nat) (cur : Array Value) (E : TypeId) (fz : Nat × Nat) (vs : Nat → Value), a = .slice (some ⟨g, off, none⟩) xs.length cap ∧ I g ∧ w.heap[g]? = some (.cells cur E fz) ∧ xs.length ≤ cap ∧ s2 = 1 ∧
        (∀ j, j < xs.length → cur[off + j]? = some (vs j)) ∧ ∀ j, (hj : j < xs.length) → PR I w (.str xs[j]) (vs j) := by
      generalize hxl : xs.map PV.str = l at h0
      cases h0 with
      | sl0 ad c _ => exact absurd (List.map_eq_nil_iff.1 hxl) hx
      | sl l s2 g off cap cur E fz vs hl2 hI hw hc hs hv hr =>
        subst hxl; have h1 : s2 = 1 := by
          cases xs with
          | nil => exact absurd rfl hx
          | cons x xs => exact (hs (.str x) (by simp)).symm
        subst h1; simp only [List.length_map, Nat.mul_one] at hv hr hc; refine ⟨1, g, off, cap, cur, E, fz, vs, by rw [List.length_map], hI, hw, hc, rfl, hv, fun j hj => ?_⟩; have := hr j 0 hj (by omega); rw [Z5 _ _ _ _ hj] at this; exact this
    have key := Any.strings_Join (ρ := Tryz.lays156_ren) Tryz.lays156 Tryz.Builder_Extra_156 g off cap (xs.map fun x => (⟨x.toArray⟩ : ByteArray)) s w (fun j x hj => by
      rw [List.getElem?_map] at hj; have hjl : j < xs.length := by
        rcases Nat.lt_or_ge j xs.length with h | h
        · exact h
        · rw [List.getElem?_eq_none h] at hj; cases hj
      rw [List.getElem?_eq_getElem hjl] at hj
      injection hj with hj
      subst hj; rw [cell_of_row w g _ cur E fz hw, hv j hjl]; have := hr j hjl; generalize vs j = v at this; generalize xs[j] = y at this
      cases this with
      | str b => rfl) (himm g hI) (by simpa using hN) (by simpa using hc) (by rw [List.map_map]; simpa [Function.comp_def] using hlen)
    have e2 : (xs.map fun x => (⟨x.toArray⟩ : ByteArray)).map (·.data.toList) = xs := by rw [List.map_map]; simp [Function.comp_def]
    rw [e2, List.length_map] at key; exact Calls.mono (P := Tryz.prog) key fin
end Go.Proofs.YtpljmccnfmkmfaaGreat
end

section
namespace Go.Proofs.YtpljmccnfmkmfaaGreat
open Go Go.AM

theorem c148 {h : List AObj} (w : List UInt8) :
    AC Tryz.prog 148 [.p (.str w)] h [] (fun v h' => v = .fn 196 [.ptr h.length 0] ∧ h' = h ++ [.box [.p (.str w)]]) := by
  refine AC.of_bodyE hΓ Tryz.func148 (by kernel_rfl) rfl (AWp.mono (Q := fun e st => AM.Ends e ∧ st.tmps.getD 2 .junk = .fn 196 [.ptr h.length 0] ∧ st.h = h ++ [.box [.p (.str w)]]) ?_ ?_)
  rotate_left
  · rintro e ⟨tm, h'⟩ ⟨he, h1, h2⟩
    simp only at h1 h2; subst h2; refine ⟨he, _, Less.refl _, ?_⟩; unfold Z4q; simp +contextual -implicitDefEqProofs only [Tryz.results148, h1, go_sem]; exact ⟨_, by simp, .inl rfl, List.take_length⟩
  refine Wd [] ?_; simp -implicitDefEqProofs only [Tryz.ntmps148, Nat.reduceAdd, Nat.reduceSub, go_sem]
  try simp

theorem c196 {b cw : Nat} {ks : List Nat} (hbk : b ∉ ks) (hwk : cw ∉ ks) (w : List UInt8) (hwl : w.length ≤ 100000)
    (H : Nat → List AObj) (N M : Nat) (hlen : (H 0).length ≤ (H M).length) (hbw : ∀ n, n ≤ N → (H n)[cw]? = some (.box [.p (.str w)]))
    (hround : ∀ n, n < N → n ≤ w.length → YC Tryz.prog b [.p (.str (w.drop n))] (H n) ks (fun v h' => v = .p (.bool true) ∧ h' = H (n + 1)))
    (hstop : (N = w.length + 1 ∧ M = N) ∨ (N ≤ w.length ∧ YC Tryz.prog b [.p (.str (w.drop N))] (H N) ks (fun v h' => v = .p (.bool false) ∧ h' = H M))) :
    AC Tryz.prog 196 [.yld b, .ptr cw 0] (H 0) ks (fun _ h' => h' = H M) := by
  have nb : ∀ {k}, k ∈ ks → b ≠ k := fun h e => hbk (e ▸ h)
  have nw : ∀ {k}, k ∈ ks → cw ≠ k := fun h e => hwk (e ▸ h)
  refine AC.of_bodyE hΓ Tryz.func196 (by kernel_rfl) rfl (AWp.mono (Q := fun e st => AM.Ends e ∧ st.h = H M) ?_ ?_)
  rotate_left
  · rintro e ⟨tm, h'⟩ ⟨he, h2⟩
    simp only at h2; subst h2; refine ⟨he, _, Less.refl _, ?_⟩; unfold Z4q; simp +contextual -implicitDefEqProofs only [Tryz.results196, go_sem]; exact ⟨_, hlen, .inl rfl, List.take_length⟩
  refine Wd [] ?_; have hb0 := hbw 0 (Nat.zero_le _); simp -implicitDefEqProofs only [Tryz.ntmps196, Nat.reduceAdd, Nat.reduceSub, hb0, go_sem]; refine ⟨by simp only [InR]; omega, ?_⟩
  refine AWp.loopI (fun i : Nat => ⟨mkF 17 [(0, .yld b), (1, .ptr cw 0), (6, .p (.int .i64 (w.length + 1))), (7, .p (.int .i64 i))], H i⟩)
    (fun i => i ≤ N ∧ i ≤ w.length + 1) (fun i => w.length + 1 - i) 0 (by simp [go_sem, Zy]) (by simp) ?_
  rintro i ⟨hiN, hi⟩; simp -implicitDefEqProofs only [go_sem]; refine Wd [] ?_; have hbi := hbw i hiN; by_cases hlt : i < w.length + 1
  · have hlt' : (i : Int) < (w.length : Int) + 1 := by omega
    have hle : (i : Int) ≤ (w.length : Int) := by omega
    by_cases hin : i < N
    · have hr := hround i hin (by omega)
      simp -implicitDefEqProofs only [hlt', hbi, hle, Int.toNat_natCast, go_sem]; refine Z60 hr (fun k hk => .inr hk) ?_; rintro v h' ⟨rfl, rfl⟩; rw [Z32 (fun k hk => by simp [AV.kill, AV.kill.killL, nb hk, nw hk])]; simp -implicitDefEqProofs only [go_sem]; exact ⟨by simp only [InR]; omega, i + 1, ⟨by simp, Z38 _⟩, ⟨by omega, by omega⟩, by omega⟩
    · have hiN : i = N := by omega
      subst hiN; rcases hstop with ⟨h1, _⟩ | ⟨_, hr⟩
      · omega
      simp -implicitDefEqProofs only [hlt', hbi, hle, Int.toNat_natCast, go_sem]; refine Z60 hr (fun k hk => .inr hk) ?_; rintro v h' ⟨rfl, rfl⟩; rw [Z32 (fun k hk => by simp [AV.kill, AV.kill.killL, nb hk, nw hk])]; simp -implicitDefEqProofs only [go_sem]
  · have hlt' : ¬ (i : Int) < (w.length : Int) + 1 := by omega
    have hi2 : i = w.length + 1 := by omega
    rcases hstop with ⟨h1, h2⟩ | ⟨h1, _⟩
    · simp -implicitDefEqProofs only [hlt', go_sem]
      rw [h2, h1, hi2]
    · omega
end Go.Proofs.YtpljmccnfmkmfaaGreat
end

section
namespace Go.Proofs.YtpljmccnfmkmfaaGreat
open Go Go.AM Go.RowKit

def rkOf (l : List (List UInt8)) : RK := if l = [] then .lax else .own
theorem Z9p (l : List (List UInt8)) (x : List UInt8) : rkOf (l ++ [x]) = .own := by unfold rkOf; rw [if_neg (by simp)]
end Go.Proofs.YtpljmccnfmkmfaaGreat
end

section
namespace Go.Mc

abbrev W := List UInt8

def tl1 (b : UInt8) : W → List W
  | [] => []
  | c :: y => if c = b then [y] else []
theorem Zbq (b c : UInt8) (y : W) : tl1 b (c :: y) = if c = b then [y] else [] := rfl
def Z1y (b : UInt8) (l : List W) : List W := l.flatMap (tl1 b)
end Go.Mc
end

section
namespace Go.Mc

end Go.Mc
end

section
namespace Go.Mc

def ends (w : W) : List W := (List.range (w.length + 1)).map fun k => w.drop k
def begL (X : List W) : List W := X.flatMap ends
def rdS (X S : List W) (c : UInt8) : List W := Z1y c S ++ if [] ∈ S then Z1y c X else []
end Go.Mc
end

section
namespace Go.Proofs.YtpljmccnfmkmfaaGreat
open Go Go.AM Go.Mc

theorem Zg7 {w : List UInt8} {n : Nat} (hn : n ≤ w.length) : (ends w).take (n + 1) = (ends w).take n ++ [w.drop n] := by
  have hl : n < (ends w).length := by unfold ends; simp; omega
  have e : (ends w)[n] = w.drop n := by
    have h : (ends w)[n]? = some (w.drop n) := by unfold ends; rw [List.getElem?_map, List.getElem?_range (by omega)]; rfl
    rw [List.getElem?_eq_getElem hl] at h; exact Option.some.inj h
  rw [List.take_succ_eq_append_getElem hl, e]
theorem Z5z (w : List UInt8) : (ends w).length = w.length + 1 := by unfold ends; simp
def apH (q : Int) (ws l : List (List UInt8)) (w : List UInt8) (n : Nat) (rec : AObj) : List AObj :=
  [.box [.p (.int .i64 q), .p (.sl (ws.map .str))], .row 9 1 ((l ++ (ends w).take n).map .str) (rkOf (l ++ (ends w).take n)), .box [.p (.str w)], .box [.own 1 (l ++ (ends w).take n).length], rec]
theorem c196m {q : Int} {ws l : List (List UInt8)} {w : List UInt8} (hwl : w.length ≤ 100000) {tm : List AV} {ps : List Nat} {cs bd : Code}
    (hround : ∀ n, n < w.length + 1 → n ≤ w.length → YC Tryz.prog 4 [.p (.str (w.drop n))] (apH q ws l w n (.lp tm ps cs bd .ready)) [1] (fun v h' => v = .p (.bool true) ∧ h' = apH q ws l w (n + 1) (.lp tm ps cs bd .ready))) :
    AC Tryz.prog 196 [.yld 4, .ptr 2 0] (apH q ws l w 0 (.lp tm ps cs bd .ready)) [1] (fun _ h' => h' = apH q ws l w (w.length + 1) (.lp tm ps cs bd .ready)) :=
  c196 (by simp) (by simp) w hwl (fun n => apH q ws l w n (.lp tm ps cs bd .ready)) (w.length + 1) (w.length + 1) (by simp [apH]) (fun n _ => rfl) hround (.inl ⟨rfl, rfl⟩)
theorem c147 (q : Int) (ws l : List (List UInt8)) (w : List UInt8) (hw : w.length ≤ 1000) (hl : l.length ≤ 1000000) :
    AC Tryz.prog 147 [.own 1 l.length, .fn 196 [.ptr 2 0]] [.box [.p (.int .i64 q), .p (.sl (ws.map .str))], .row 9 1 (l.map .str) (rkOf l), .box [.p (.str w)]] [1]
      (fun v h' => v = .own 1 (l ++ ends w).length ∧ h' = [.box [.p (.int .i64 q), .p (.sl (ws.map .str))], .row 9 1 ((l ++ ends w).map .str) .own, .box [.p (.str w)]]) := by
  refine AC.of_bodyE hΓ Tryz.func147 (by kernel_rfl) rfl (AWp.mono (Q := fun e st => AM.Ends e ∧ st.tmps.getD 4 .junk = .own 1 (l ++ ends w).length ∧ st.h = [.box [.p (.int .i64 q), .p (.sl (ws.map .str))], .row 9 1 ((l ++ ends w).map .str) .own, .box [.p (.str w)], .box [.own 1 (l ++ ends w).length], .dead]) ?_ ?_)
  rotate_left
  · rintro e ⟨tm, h'⟩ ⟨he, h1, h2⟩
    simp only at h1 h2; subst h2; refine ⟨he, _, Less.refl _, ?_⟩; unfold Z4q; simp +contextual -implicitDefEqProofs only [Tryz.results147, h1, go_sem]; refine ⟨3, by simp, .inr ?_, ?_⟩
    · simp [AV.under, AObj.under, AV.under.underL]
    · simp
  refine AWp.seq (Wd [] ?_); simp -implicitDefEqProofs only [Tryz.ntmps147, Nat.reduceAdd, Nat.reduceSub, go_sem]; refine AWp.seq (AWp.seq (Wd [] ?_)); simp -implicitDefEqProofs only [go_sem]; refine AWp.block ?_; refine AWp.weak (st' := ⟨mkF 13 [(2, .ptr 3 0), (6, .fn 196 [.ptr 2 0])], [.box [.p (.int .i64 q), .p (.sl (ws.map .str))], .row 9 1 ((l ++ (ends w).take 0).map .str) (rkOf (l ++ (ends w).take 0)), .box [.p (.str w)], .box [.own 1 (l ++ (ends w).take 0).length]]⟩) (by simp [go_sem, Zy]) ?_; rw [show (#[7] : Array Nat) = [7].toArray from rfl]; refine AWp.rangeFunc (ks := [1]) rfl (c196m (q := q) (ws := ws) (l := l) (w := w) (by omega) ?_) (by simp) (by simp) ?_
  · intro n hn hnx
    have hsuc := Zg7 (w := w) hnx; have htl : ((ends w).take n).length ≤ n := by rw [List.length_take]; omega
    unfold apH; rw [hsuc, ← List.append_assoc]; generalize hoe : l ++ (ends w).take n = out at *; have hol : out.length ≤ l.length + 1001 := by rw [← hoe, List.length_append]; omega
    refine YC.of_body (Γ := Γ) rfl rfl (by simp) ?_; intro rr; refine Wd [] ?_; simp -implicitDefEqProofs only [setP, go_sem]; unfold Zcy; refine ⟨rfl, ?_⟩; simp -implicitDefEqProofs only [go_sem]; refine Wd [] ?_; have hs1 : Zu [PV.str (w.drop n)] 1 := by simp [Zu, PV.cells]
    have ho1 : Z4z [PV.str (w.drop n)] := by simp [Z4z, PV.cells, PV.isAgg]
    simp -implicitDefEqProofs only [go_sem]; refine ⟨⟨hs1, by omega⟩, ⟨hs1, ho1⟩, ⟨by unfold rkOf; split <;> simp, .inr (by simp), by omega, by omega⟩, ?_⟩; unfold Z87; simp -implicitDefEqProofs only [Za, List.foldl, AObj.kill, AV.kill, AV.kill.killL, go_sem]; refine ⟨_, ?_, .inl rfl, ?_⟩
    rotate_left
    · rw [List.take_length, Z9p]
      simp
      try omega
    · simp
  · rintro v h' rfl
    unfold apH Z88; simp -implicitDefEqProofs only [Za, List.foldl, go_sem]; have ht : (ends w).take (w.length + 1) = ends w := List.take_of_length_le (by rw [Z5z]; exact Nat.le_refl _); have hr : rkOf (l ++ ends w) = .own := by
      unfold rkOf; rw [if_neg]; intro e; have := congrArg List.length e; rw [List.length_append, Z5z] at this; simp at this
    rw [ht, hr]; refine Wd [] ?_; simp -implicitDefEqProofs only [go_sem]
end Go.Proofs.YtpljmccnfmkmfaaGreat
end

