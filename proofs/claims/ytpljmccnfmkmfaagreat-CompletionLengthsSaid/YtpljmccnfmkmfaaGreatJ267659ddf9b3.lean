/-
  Texts of this claim, joined.
-/
import Derived.Shelf.Spec.SlicesGrow
import Derived.Shelf.SlGeneric
import Derived.Ground.Names8Prog
import Derived.Test.YtpljmccnfmkmfaaGreatProg
import Derived.Test.YtpljmccnfmkmfaaGreatJ4aec13ead61c
import Derived.Test.YtpljmccnfmkmfaaGreatJcb200eee83a0
import Derived.Test.YtpljmccnfmkmfaaGreatJ70b46f4d4eb2
import Derived.Test.YtpljmccnfmkmfaaGreatJe1e9c79f8448
import Derived.Test.YtpljmccnfmkmfaaGreatJab3ee42939f9

set_option linter.unusedSimpArgs false
set_option maxRecDepth 100000
set_option maxHeartbeats 4000000
section
namespace Go.Proofs
open Go.Shelf
def Tryz.growS_ren : Go.Shelf.Ren := ⟨fun | 4 => 133 | n => n, fun | 22 => 22 | 25 => 9 | 3 => 3 | 4 => 4 | 9 => 9 | 20 => 20 | 0 => 0 | n => n, fun | n => n⟩
theorem Tryz.growS : Go.Proofs.Lays8.n4 Tryz.prog Tryz.growS_ren := {
  mixed := by kernel_rfl
  f4 := ⟨Tryz.f133.name, by decide, Tryz.func133.trans (congrArg some (by kernel_rfl))⟩
  t0 := Tryz.underlying0
  a0 := Tryz.isAgg0
  z0 := Tryz.sizeOf0
  v0 := Tryz.zeroValue0
  t3 := Tryz.underlying3
  a3 := Tryz.isAgg3
  z3 := Tryz.sizeOf3
  v3 := Tryz.zeroValue3
  t4 := Tryz.underlying4
  a4 := Tryz.isAgg4
  z4 := Tryz.sizeOf4
  v4 := Tryz.zeroValue4
  t9 := Tryz.underlying9
  a9 := Tryz.isAgg9
  z9 := Tryz.sizeOf9
  v9 := Tryz.zeroValue9
  t20 := Tryz.underlying20
  a20 := Tryz.isAgg20
  z20 := Tryz.sizeOf20
  v20 := Tryz.zeroValue20
  t22 := Tryz.underlying22
  a22 := Tryz.isAgg22
  z22 := Tryz.sizeOf22
  v22 := Tryz.zeroValue22 }
end Go.Proofs
end

section
namespace Go.Proofs.YtpljmccnfmkmfaaGreat
open Go Go.AM Go.RowKit

theorem c61 {h : List AObj} (n : Nat) (hn : 0 < n) (hn2 : n ≤ 1000000) : AC Tryz.prog 133 [.full [], .p (.int .i64 n)] h [] (fun v h' => v = .own h.length 0 ∧ h' = h ++ [.row 9 1 [] .own]) := by
  refine ⟨Zu Tryz.func133 (by kernel_rfl) rfl, fun X I μ ob w cargs R hlen hargs _ => ?_⟩; obtain ⟨a0, b0, rfl⟩ : ∃ a b, cargs = [a, b] := by
    match cargs, hlen with
    | [a, b], _ => exact ⟨a, b, rfl⟩
  have g0 := hargs 0 (by simp); have g1 := hargs 1 (by simp); simp only [List.getD_cons_zero, List.getD_cons_succ] at g0 g1; obtain ⟨a, rfl⟩ : ∃ a, a0 = .slice a 0 0 := by
    cases g0 with
    | full l a hp => exact ⟨a, rfl⟩
  rw [g1.int_inv]; obtain ⟨i0, hi0, hisz, hib, hz⟩ := (hΓ 9 _ rfl).info; obtain ⟨zv, hz1, _, hsz⟩ := hz _ rfl; simp only at hisz hib hsz; have hc := Any8.slices_Grow_grow (ρ := Tryz.growS_ren) Tryz.growS i0 zv hi0 hz1 (by omega) a 0 0 n [] w (by omega) (by omega) (by rw [hib]; omega) (by omega) (by simp) (fun _ => rfl) (fun _ _ j v hj => by simp at hj); refine Calls.mono (P := Tryz.prog) hc ?_; rintro e w' ⟨rfl, rfl⟩; have hg := Z06 w (.cells ((#[] : Array Value) ++ Builtin.zeroCells zv.cells (0 + n - 0) ++ Builtin.zeroCells zv.cells (grownCap w (0 + n) 0 9 - (0 + n))) 9); have hcg : 0 + n ≤ grownCap w (0 + n) 0 9 := grownCap_ge w _ _ _; have hcm : grownCap w (0 + n) 0 9 ≤ maxLen := grownCap_le_maxLen w _ _ _ (by simp only [maxLen]; omega); have ez : zv.cells.size = 1 := hsz; have hC : ∃ C : Array Value, C = (#[] : Array Value) ++ Builtin.zeroCells zv.cells (0 + n - 0) ++ Builtin.zeroCells zv.cells (grownCap w (0 + n) 0 9 - (0 + n)) ∧ C.size = grownCap w (0 + n) 0 9 := ⟨_, rfl, by
    simp only [Array.size_append, List.size_toArray, List.length_nil, size_zeroCells, ez]; omega⟩
  obtain ⟨C, eC, hCs⟩ := hC; have ht : Tryz.growS_ren.t 25 = 9 := rfl; rw [ht, ← eC]; rw [← eC] at hg; generalize grownCap w (0 + n) 0 9 = cap at hcg hcm hCs; have hnew : (w.drew.alloc (.cells C 9)).heap[w.heap.size]? = some (.cells C 9) := heap_alloc_new w.drew _
  have R1 := R.name (v := .slice (some ⟨w.heap.size, 0, none⟩) 0 cap) (g := some w.heap.size) (o := .row 9 1 [] .own) hg (fun k e => by injection e with e; subst e; exact ⟨Nat.le_refl _, by simp⟩) (by
    refine ⟨fun x hx => (by cases hx), .inl ⟨w.heap.size, by simp, 0, cap, C, (0, 0), [], by simp, hnew, fun _ => rfl, fun j hj => by simp, by simp, hcm, by rw [hCs]; simp, by simp, by simp, fun j hj => by simp at hj⟩⟩)
  exact ⟨_, .own h.length 0, _, I, _, _, rfl, R1, .own _ _ _ _ (by simp) (by simp), fun _ h => h, fun b hb _ => Z5 _ _ (by omega), by simp, fun g hg => .inl hg,
    fun k g2 hk => by
      by_cases e : k = h.length
      · subst e; rw [Z9] at hk; injection hk with hk; subst hk; exact .inr (Nat.le_refl _)
      · rw [Z5 _ _ e] at hk; exact .inl ⟨k, hk⟩,
    fun k hk _ => Below.heap_alloc w.drew _ k hk, rfl, rfl⟩
end Go.Proofs.YtpljmccnfmkmfaaGreat
end

section
namespace Go.Proofs.YtpljmccnfmkmfaaGreat
open Go Go.AM

def wsV (l : List (List UInt8)) : PV := .sl (l.map .str)
def wssV (wss : List (List (List UInt8))) : List PV := wss.map wsV

theorem c29 {h : List AObj} (hK : h.map (AObj.kill h.length) = h) (wss : List (List (List UInt8))) (hn : 0 < wss.flatten.length) (hn2 : wss.flatten.length ≤ 1000000) (hw : wss.length ≤ 1000000) :
    AC Tryz.prog 66 [.p (.sl (wssV wss))] h [] (fun v h' => v = .own h.length wss.flatten.length ∧ h' = h ++ [.row 9 1 (wss.flatten.map .str) .own]) := by
  refine AC.of_bodyE hΓ Tryz.func66 (by kernel_rfl) rfl (AWp.mono (Q := fun e st => AM.Ends e ∧ st.tmps.getD 2 .junk = .own h.length wss.flatten.length ∧ st.h = h ++ [.row 9 1 (wss.flatten.map .str) .own]) ?_ ?_)
  rotate_left
  · rintro e ⟨tm, h'⟩ ⟨he, h1, h2⟩
    simp only at h1 h2; subst h2; refine ⟨he, _, Less.refl _, ?_⟩; unfold Z1i; simp +contextual -implicitDefEqProofs only [Tryz.results66, h1, go_sem]; exact ⟨h.length + 1, by omega, .inl (by simp), List.take_of_length_le (by simp)⟩
  have gL : ∀ o : AObj, (h ++ [o])[h.length]? = some o := fun o => by simp
  have sL : ∀ o o' : AObj, (h ++ [o]).set h.length o' = h ++ [o'] := fun o o' => by simp
  have hwl : (wssV wss).length = wss.length := by simp [wssV]
  have hget : ∀ k (hk : k < wss.length), (wssV wss).getD k default = .sl (wss[k].map .str) := fun k hk => by unfold wssV; rw [Z3 _ _ _ _ hk]; rfl
  have hflat : ∀ k (hk : k < wss.length), (wss.take (k + 1)).flatten = (wss.take k).flatten ++ wss[k] := fun k hk => by rw [List.take_succ_eq_append_getElem hk, List.flatten_append]; simp
  have hle : ∀ k, (wss.take k).flatten.length ≤ wss.flatten.length := fun k => by
    conv => rhs; rw [← List.take_append_drop k wss, List.flatten_append, List.length_append]
    omega
  refine Wd [] ?_; simp -implicitDefEqProofs only [Tryz.ntmps66, Nat.reduceAdd, Nat.reduceSub, hwl, go_sem]
  refine AWp.loopI (fun k : Nat => ⟨mkF 36 [(0, .p (.sl (wssV wss))), (2, .full []), (3, .p (.int .i64 (wss.take k).flatten.length)), (9, .p (.sl (wssV wss))), (10, .p (.int .i64 wss.length)), (11, .p (.int .i64 k))], h⟩)
    (fun k => k ≤ wss.length) (fun k => wss.length - k) 0 (by simp [go_sem, Zb]) (by omega) ?_
  intro k hk; refine Wd [] ?_; by_cases hlt : k < wss.length
  · have h5 := hle (k + 1)
    rw [hflat k hlt, List.length_append] at h5; have h6 : ¬ ((wss.take k).flatten.length : Int) + (wss[k].length : Int) < 0 := by omega
    simp -implicitDefEqProofs only [hlt, hwl, hget k hlt, h6, ↓reduceIte, go_sem]; exact ⟨by simp only [InR]; omega, by simp only [InR]; omega, k + 1, ⟨⟨by rw [hflat k hlt, List.length_append]; omega, by omega⟩, Zb _⟩, hlt, by omega⟩
  · simp -implicitDefEqProofs only [hlt, hwl, go_sem]
    have hfull : wss.take k = wss := List.take_of_length_le (by omega); rw [hfull]; refine Zg (c61 (h := h) wss.flatten.length hn hn2) (by simp) ?_; rintro v h' ⟨rfl, rfl⟩; simp -implicitDefEqProofs only [Z8, List.foldl, hwl, go_sem]
    refine AWp.loopI (fun j : Nat => ⟨mkF 36 [(0, .p (.sl (wssV wss))), (6, .own h.length (wss.take j).flatten.length), (25, .p (.sl (wssV wss))), (26, .p (.int .i64 wss.length)), (27, .p (.int .i64 j))], h ++ [.row 9 1 ((wss.take j).flatten.map .str) .own]⟩)
      (fun j => j ≤ wss.length) (fun j => wss.length - j) 0 (by simp [go_sem, Zb]) (by omega) ?_
    intro j hj; refine Wd [] ?_; by_cases hlt2 : j < wss.length
    · have h5 := hle (j + 1)
      rw [hflat j hlt2, List.length_append] at h5; simp -implicitDefEqProofs only [hlt2, hwl, hget j hlt2, gL, sL, hK, List.map_append, ↓reduceIte, go_sem]; refine ⟨⟨Zm _, Z29 _⟩, ⟨by omega, by omega⟩, by simp only [InR]; omega, j + 1, ⟨⟨?_, by omega⟩, ?_⟩, hlt2, by omega⟩
      · rw [hflat j hlt2, List.length_append]
      · rw [hflat j hlt2, List.map_append]
        simp only [ite_self]; exact Zb _
    · have hfull2 : wss.take j = wss := List.take_of_length_le (by omega)
      simp -implicitDefEqProofs only [hlt2, hwl, hfull2, go_sem]

theorem Z6m {E : Env} {tm : List AV} {h : List AObj} {KS : St → Prop} {d : Option Nat} {b : Nat} {args : List AV} {ks : List Nat} {R : AV → List AObj → Prop} (hf : YC E.P b args h ks R) (hks : ∀ k ∈ ks, E.n0 ≤ k ∨ k ∈ E.ks)
    (hk : ∀ v h', R v h' → KS ⟨putD (Z8 ks tm) d v, h'⟩) : Z3j E ⟨tm, h⟩ d (.yld b) args KS := ⟨ks, R, hf, hks, hk⟩

theorem c73 {h : List AObj} (w : List UInt8) :
    AC Tryz.prog 125 [.p (.str w)] h [] (fun v h' => v = .fn 182 [.ptr h.length 0] ∧ h' = h ++ [.box [.p (.str w)]]) := by
  refine AC.of_bodyE hΓ Tryz.func125 (by kernel_rfl) rfl (AWp.mono (Q := fun e st => AM.Ends e ∧ st.tmps.getD 2 .junk = .fn 182 [.ptr h.length 0] ∧ st.h = h ++ [.box [.p (.str w)]]) ?_ ?_)
  rotate_left
  · rintro e ⟨tm, h'⟩ ⟨he, h1, h2⟩
    simp only at h1 h2; subst h2; refine ⟨he, _, Less.refl _, ?_⟩; unfold Z1i; simp +contextual -implicitDefEqProofs only [Tryz.results125, h1, go_sem]; exact ⟨_, by simp, .inl rfl, List.take_length⟩
  refine Wd [] ?_; simp -implicitDefEqProofs only [Tryz.ntmps125, Nat.reduceAdd, Nat.reduceSub, go_sem]
  try simp

theorem c116 {b cw : Nat} {ks : List Nat} (hbk : b ∉ ks) (hwk : cw ∉ ks) (w : List UInt8) (hwl : w.length ≤ 100000)
    (H : Nat → List AObj) (N M : Nat) (hlen : (H 0).length ≤ (H M).length) (hbw : ∀ n, n ≤ N → (H n)[cw]? = some (.box [.p (.str w)]))
    (hround : ∀ n, n < N → n ≤ w.length → YC Tryz.prog b [.p (.str (w.take n))] (H n) ks (fun v h' => v = .p (.bool true) ∧ h' = H (n + 1)))
    (hstop : (N = w.length + 1 ∧ M = N) ∨ (N ≤ w.length ∧ YC Tryz.prog b [.p (.str (w.take N))] (H N) ks (fun v h' => v = .p (.bool false) ∧ h' = H M))) :
    AC Tryz.prog 182 [.yld b, .ptr cw 0] (H 0) ks (fun _ h' => h' = H M) := by
  have nb : ∀ {k}, k ∈ ks → b ≠ k := fun h e => hbk (e ▸ h)
  have nw : ∀ {k}, k ∈ ks → cw ≠ k := fun h e => hwk (e ▸ h)
  refine AC.of_bodyE hΓ Tryz.func182 (by kernel_rfl) rfl (AWp.mono (Q := fun e st => AM.Ends e ∧ st.h = H M) ?_ ?_)
  rotate_left
  · rintro e ⟨tm, h'⟩ ⟨he, h2⟩
    simp only at h2; subst h2; refine ⟨he, _, Less.refl _, ?_⟩; unfold Z1i; simp +contextual -implicitDefEqProofs only [Tryz.results182, go_sem]; exact ⟨_, hlen, .inl rfl, List.take_length⟩
  refine Wd [] ?_; have hb0 := hbw 0 (Nat.zero_le _); simp -implicitDefEqProofs only [Tryz.ntmps182, Nat.reduceAdd, Nat.reduceSub, hb0, go_sem]; refine ⟨by simp only [InR]; omega, ?_⟩
  refine AWp.loopI (fun i : Nat => ⟨mkF 17 [(0, .yld b), (1, .ptr cw 0), (6, .p (.int .i64 (w.length + 1))), (7, .p (.int .i64 i))], H i⟩)
    (fun i => i ≤ N ∧ i ≤ w.length + 1) (fun i => w.length + 1 - i) 0 (by simp [go_sem, Zb]) (by simp) ?_
  rintro i ⟨hiN, hi⟩; simp -implicitDefEqProofs only [go_sem]; refine Wd [] ?_; have hbi := hbw i hiN; by_cases hlt : i < w.length + 1
  · have hlt' : (i : Int) < (w.length : Int) + 1 := by omega
    have hle : (i : Int) ≤ (w.length : Int) := by omega
    by_cases hin : i < N
    · have hr := hround i hin (by omega)
      simp -implicitDefEqProofs only [hlt', hbi, hle, Int.toNat_natCast, go_sem]; refine Z6m hr (fun k hk => .inr hk) ?_; rintro v h' ⟨rfl, rfl⟩; rw [Z3e (fun k hk => by simp [AV.kill, AV.kill.killL, nb hk, nw hk])]; simp -implicitDefEqProofs only [go_sem]; exact ⟨by simp only [InR]; omega, i + 1, ⟨by simp, Z01 _⟩, ⟨by omega, by omega⟩, by omega⟩
    · have hiN : i = N := by omega
      subst hiN; rcases hstop with ⟨h1, _⟩ | ⟨_, hr⟩
      · omega
      simp -implicitDefEqProofs only [hlt', hbi, hle, Int.toNat_natCast, go_sem]; refine Z6m hr (fun k hk => .inr hk) ?_; rintro v h' ⟨rfl, rfl⟩; rw [Z3e (fun k hk => by simp [AV.kill, AV.kill.killL, nb hk, nw hk])]; simp -implicitDefEqProofs only [go_sem]
  · have hlt' : ¬ (i : Int) < (w.length : Int) + 1 := by omega
    have hi2 : i = w.length + 1 := by omega
    rcases hstop with ⟨h1, h2⟩ | ⟨h1, _⟩
    · simp -implicitDefEqProofs only [hlt', go_sem]
      rw [h2, h1, hi2]
    · omega
end Go.Proofs.YtpljmccnfmkmfaaGreat
end

section
namespace Go.Proofs.YtpljmccnfmkmfaaGreat
end Go.Proofs.YtpljmccnfmkmfaaGreat
end

section
namespace Go.Proofs.YtpljmccnfmkmfaaGreat
open Go Go.AM


end Go.Proofs.YtpljmccnfmkmfaaGreat
end

