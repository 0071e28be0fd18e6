/-
  Texts of this claim, joined.
-/
import Derived.Shelf.SlicesG.In.CompactS
import Derived.Shelf.SlGeneric
import Derived.Ground.SlgnProg
import Derived.Test.YtpljmccnfmkmfaaGreatProg
import Derived.Test.YtpljmccnfmkmfaaGreatJbadf20336eae
import Derived.Test.YtpljmccnfmkmfaaGreatJ70b46f4d4eb2
import Derived.Test.YtpljmccnfmkmfaaGreatJe1e9c79f8448

set_option linter.unusedSimpArgs false
set_option maxRecDepth 100000
section
namespace Go.Proofs
open Go.Shelf
def Tryz.compS_ren : Go.Shelf.Ren := ⟨fun | 44 => 129 | n => n, fun | 25 => 22 | 26 => 9 | 3 => 3 | 4 => 4 | 0 => 0 | n => n, fun | n => n⟩
theorem Tryz.compS : Go.Proofs.SlLaysN.n44 Tryz.prog Tryz.compS_ren := {
  mixed := by kernel_rfl
  f44 := ⟨Tryz.f129.name, by decide, Tryz.func129.trans (congrArg some (by kernel_rfl))⟩
  t0 := Tryz.underlying0
  a0 := Tryz.isAgg0
  z0 := Tryz.sizeOf0
  v0 := Tryz.zeroValue0
  t3 := Tryz.underlying3
  a3 := Tryz.isAgg3
  z3 := Tryz.sizeOf3
  v3 := Tryz.zeroValue3
  t4 := Tryz.underlying4
  a4 := Tryz.isAgg4
  z4 := Tryz.sizeOf4
  v4 := Tryz.zeroValue4
  t25 := Tryz.underlying22
  a25 := Tryz.isAgg22
  z25 := Tryz.sizeOf22
  v25 := Tryz.zeroValue22
  t26 := Tryz.underlying9
  a26 := Tryz.isAgg9
  z26 := Tryz.sizeOf9
  v26 := Tryz.zeroValue9
  i26 := by kernel_rfl }
end Go.Proofs
end

section
namespace Go.Proofs.YtpljmccnfmkmfaaGreat
open Go Go.AM Go.RowKit

theorem Z8v (l : List (List UInt8)) : (Lib.compact l).length ≤ l.length := by
  unfold Lib.compact Lib.compactUpTo; rw [List.length_map]; exact Nat.le_trans (List.length_filter_le _ _) (by simp)

theorem c107 {h : List AObj} {b : Nat} (l : List (List UInt8)) (hb : h[b]? = some (.row 9 1 (l.map .str) .own)) (hsz : l.length ≤ 1000000) :
    AC Tryz.prog 129 [.own b l.length] h [b] (fun v h' => v = .own b (Lib.compact l).length ∧ h' = (h.map (AObj.kill b)).set b (.row 9 1 ((Lib.compact l).map .str) .own)) := by
  refine ⟨Zu Tryz.func129 (by kernel_rfl) rfl, fun X I μ ob w cargs R hlen hargs hmay => ?_⟩; obtain ⟨a0, rfl⟩ : ∃ a, cargs = [a] := by
    match cargs, hlen with
    | [a], _ => exact ⟨a, rfl⟩
  have g0 := hargs 0 (by simp); simp only [List.getD_cons_zero] at g0; obtain ⟨a, c, rfl, hbn, hbm⟩ := g0.own_inv; obtain ⟨hall, hrow⟩ := R.objs _ _ hb; rcases hrow with ⟨g, hg, off, cap, cur, fr, vs, e1, e2, e3, e4, e5, e6, e7, e8, e9, e10⟩ | ⟨hk, _⟩
  rotate_left
  · cases hk
  rw [hbm] at e1; simp only [List.length_map] at e1 e5 e7 e8 e9 e10
  injection e1 with e1a _ e1c
  subst e1a e1c; have hfr := e3 rfl; subst hfr; have hgl := (R.own b g hg).2.2; have cell : ∀ j (hj : j < l.length), cur[off + j]? = some (encW l[j]) := fun j hj => by
    have h1 := e10 j (by omega); rw [Z52, Z3 _ _ _ _ hj] at h1; have h2 := Zht h1; have h3 : cur.toList[off + j]? = some (vs.getD j undef) := by
      have : vs[j]? = some (vs.getD j undef) := by rw [List.getD_eq_getElem?_getD, List.getElem?_eq_getElem (by omega)]; rfl
      rw [← e8, List.getElem?_take_of_lt (by omega), List.getElem?_drop] at this; exact this.trans (by rw [e8])
    rw [Array.getElem?_toList, h2] at h3; exact h3
  have hH : Sort.Holds encW w g off l.toArray := fun j hj => by
    have hj' : j < l.length := by simpa using hj
    refine ⟨?_, ?_⟩
    · unfold World.cell?
      simp only [e2]; rw [cell j hj', getElem!_pos l.toArray j hj]; simp
    · unfold World.frozen?
      simp only [e2]; simp
  have hc : Calls Tryz.prog 129 #[.slice (some ⟨g, off, none⟩) l.length c] w fun e w' => e = .returned (.slice (some ⟨g, off, none⟩) (Lib.compact l).length c) ∧ ∃ q, w' = Sort.putRow encW (Sort.ahead w q) g off (Lib.compact l ++ List.replicate (l.length - (Lib.compact l).length) []).toArray :=
    AnyG.slices_Compact_string (ρ := Tryz.compS_ren) Tryz.compS g off c l w hH (by omega) e5
  refine Calls.mono (P := Tryz.prog) hc ?_; rintro e w' ⟨rfl, n, rfl⟩; have hcl := Z8v l; generalize hlf : Lib.compact l ++ List.replicate (l.length - (Lib.compact l).length) [] = lf; have hsl : lf.toArray.size = l.length := by rw [← hlf]; simp; omega
  have hlfl : lf.length = l.length := by simpa using hsl
  -- the world that is left
  have hnew : (Sort.putRow encW (Sort.ahead w n) g off lf.toArray).heap[g]? = some (.cells (Sort.putCells encW off lf.toArray cur) 9 (0, 0)) := by
    show (w.heap.modify g _)[g]? = _; rw [Array.getElem?_modify, if_pos rfl, e2]; rfl
  have hold : ∀ k, k < w.heap.size → k ≠ g → (Sort.putRow encW (Sort.ahead w n) g off lf.toArray).heap[k]? = w.heap[k]? := fun k hk hne => by
    show (w.heap.modify g _)[k]? = _; rw [Array.getElem?_modify, if_neg (fun e => hne e.symm)]
  have hsize : (Sort.putRow encW (Sort.ahead w n) g off lf.toArray).heap.size = w.heap.size := by
    show (w.heap.modify g _).size = _; simp
  have hgrow : w.grownBy (Sort.putRow encW (Sort.ahead w n) g off lf.toArray) (ob b) := ⟨rfl, rfl, rfl, by rw [hsize]; exact Nat.le_refl _, fun k hk hk2 => hold k hk (fun e => hk2 (by rw [e, hg]))⟩; have hput : ∀ j, j < (Lib.compact l).length → (Sort.putCells encW off lf.toArray cur)[off + j]? = some (encW ((Lib.compact l).getD j [])) := fun j hj => by
    have hj2 : j < l.length := by omega
    unfold Sort.putCells; rw [Array.getElem?_mapIdx, cell j hj2]; simp only [Option.map_some]; rw [if_pos ⟨Nat.le_add_right _ _, by rw [hsl]; omega⟩, Nat.add_sub_cancel_left, getElem!_pos lf.toArray j (by rw [hsl]; exact hj2)]; have : lf[j]'(by omega) = (Lib.compact l).getD j [] := by
      subst hlf; rw [List.getElem_append_left hj, List.getD_eq_getElem?_getD, List.getElem?_eq_getElem hj]; rfl
    simp only [List.getElem_toArray, this]
  have hps : (Sort.putCells encW off lf.toArray cur).size = cur.size := by unfold Sort.putCells; rw [Array.size_mapIdx]
  have hpl : (((Sort.putCells encW off lf.toArray cur).toList.drop off).take (Lib.compact l).length).length = (Lib.compact l).length := by
    have h1 : (Sort.putCells encW off lf.toArray cur).toList.length = cur.size := by simpa using hps
    rw [List.length_take, List.length_drop, h1]; omega
  have R2 := R.move (b0 := b) (v := .slice (some ⟨g, off, none⟩) (Lib.compact l).length c) (g := some g) (o := .row 9 1 ((Lib.compact l).map .str) .own) hbn (hmay b (by simp)) hgrow
    (fun k e => by injection e with e; subst e; exact ⟨.inl hg, by rw [hsize]; exact hgl⟩) ⟨fun x hx => by
      obtain ⟨u, _, rfl⟩ := List.mem_map.1 hx; rfl, .inl ⟨g, by simp, off, c, Sort.putCells encW off lf.toArray cur, (0, 0), ((Sort.putCells encW off lf.toArray cur).toList.drop off).take (Lib.compact l).length, by rw [Z9, List.length_map], hnew, fun _ => rfl, by simp,
        by rw [List.length_map]; omega, e6, by rw [hps]; exact e7, by rw [List.length_map, Nat.mul_one], by
          rw [List.length_map, hpl, Nat.mul_one], fun j hj => ?_⟩⟩
  · exact ⟨_, .own b (Lib.compact l).length, _, I, upd μ b (.slice (some ⟨g, off, none⟩) (Lib.compact l).length c), upd ob b (some g), rfl, R2, .own _ _ _ _ (by simpa using hbn) (by simp), fun _ h => h, fun k _ hk => Z5 _ _ (by simpa using hk), by simp, fun g hg => .inl hg,
      fun k g2 hk => by
        by_cases e : k = b
        · subst e; rw [Z9] at hk; injection hk with hk; subst hk; exact .inl ⟨k, hg⟩
        · rw [Z5 _ _ e] at hk; exact .inl ⟨k, hk⟩,
      fun k hk hno => hold k hk (fun e => hno b (by rw [e]; exact hg)), rfl, rfl⟩
  · rw [List.length_map, Nat.mul_one] at hj
    rw [Z52, Z3 _ _ _ _ hj]; have : (((Sort.putCells encW off lf.toArray cur).toList.drop off).take (Lib.compact l).length).getD j undef = encW ((Lib.compact l).getD j []) := by
      rw [List.getD_eq_getElem?_getD, List.getElem?_take_of_lt hj, List.getElem?_drop, Array.getElem?_toList, hput j hj]; rfl
    rw [this, List.getD_eq_getElem?_getD, List.getElem?_eq_getElem hj]; exact Zg7 _

theorem c107n {h : List AObj} {b : Nat} : AC Tryz.prog 129 [.own b 0] h [] (fun v h' => v = .own b 0 ∧ h' = h) := by
  refine ⟨Zu Tryz.func129 (by kernel_rfl) rfl, fun X I μ ob w cargs R hlen hargs _ => ?_⟩; obtain ⟨a0, rfl⟩ : ∃ a, cargs = [a] := by
    match cargs, hlen with
    | [a], _ => exact ⟨a, rfl⟩
  have g0 := hargs 0 (by simp); simp only [List.getD_cons_zero] at g0; obtain ⟨a, c, rfl, hbn, hbm⟩ := g0.own_inv; have hc : Calls Tryz.prog 129 #[.slice a 0 c] w fun e w' => e = .returned (.slice a 0 c) ∧ w' = w := AnyG.slices_Compact_string_empty (ρ := Tryz.compS_ren) Tryz.compS a c w
  refine Calls.mono (P := Tryz.prog) hc ?_; rintro e w' ⟨rfl, rfl⟩; exact ⟨_, .own b 0, _, I, μ, ob, rfl, R, .own _ _ _ _ hbn hbm, fun _ h => h, fun _ _ _ => rfl, Nat.le_refl _, fun g hg => .inl hg, fun b g hb => .inl ⟨b, hb⟩, fun k hk hno => rfl, rfl, rfl⟩
end Go.Proofs.YtpljmccnfmkmfaaGreat
end

section
namespace Go.Proofs.YtpljmccnfmkmfaaGreat
open Go Go.AM

/-! ### Sorted lists -/
theorem Zec (l : List (List UInt8)) : (Z11 l).Perm l := List.mergeSort_perm l _
theorem Zgo (l : List (List UInt8)) (x : List UInt8) : x ∈ Z11 l ↔ x ∈ l := (Zec l).mem_iff
theorem Z5o (l : List (List UInt8)) : (Z11 l).Pairwise fun a b => ¬ ltW b a := by
  have h := List.pairwise_mergeSort (le := fun x y => !(ltOf cmpK) y x) (fun a b c h1 h2 => by
    simp only [Bool.not_eq_true', Z17] at *; intro h; by_cases hbc : ltW b c
    · exact h1 (by
        by_cases hab : ltW a b
        · exact absurd (Z14 hab (Z14 hbc h)) (Z0h a)
        · have := Z1u hab h1
          subst this; exact absurd (Z14 hbc h) (Z0h _))
    · have := Z1u hbc h2
      subst this; exact h1 h) (fun a b => by
    simp only [Bool.or_eq_true, Bool.not_eq_true', Z17]; by_cases hab : ltW b a
    · exact .inr (fun h => Z0h a (Z14 h hab))
    · exact .inl hab) l
  refine h.imp ?_; intro a b hab
  simpa [Z17] using hab
theorem Z4o : ∀ {l m : List (List UInt8)}, l.Pairwise ltW → m.Pairwise ltW → (∀ x, x ∈ l ↔ x ∈ m) → l = m
  | [], [], _, _, _ => rfl
  | [], b :: m, _, _, h => absurd ((h b).2 (by simp)) (by simp)
  | a :: l, [], _, _, h => absurd ((h a).1 (by simp)) (by simp)
  | a :: l, b :: m, hl, hm, h => by
    obtain ⟨ha, hl2⟩ := List.pairwise_cons.1 hl; obtain ⟨hb, hm2⟩ := List.pairwise_cons.1 hm; have e : a = b := by
      rcases List.mem_cons.1 ((h a).1 (by simp)) with e | e
      · exact e
      · rcases List.mem_cons.1 ((h b).2 (by simp)) with e2 | e2
        · exact e2.symm
        · exact absurd (Z14 (ha b e2) (hb a e)) (Z0h a)
    subst e; refine congrArg (List.cons a) (Z4o hl2 hm2 (fun x => ⟨fun hx => ?_, fun hx => ?_⟩))
    · rcases List.mem_cons.1 ((h x).1 (by simp [hx])) with e | e
      · subst e; exact absurd (ha x hx) (Z0h x)
      · exact e
    · rcases List.mem_cons.1 ((h x).2 (by simp [hx])) with e | e
      · subst e; exact absurd (hb x hx) (Z0h x)
      · exact e



theorem Zm (l : List (List UInt8)) : Zc (l.map .str) 1 := fun x hx => by
  obtain ⟨b, _, rfl⟩ := List.mem_map.1 hx
  rfl
theorem Z29 (l : List (List UInt8)) : Z0y (l.map .str) := fun x hx c hc => by
  obtain ⟨b, _, rfl⟩ := List.mem_map.1 hx; have : c = .str b := by simpa [PV.cells] using hc
  subst this; rfl

theorem c22 {h : List AObj} (ws : List (List UInt8)) (hl : ws.length ≤ 1000000) :
    AC Tryz.prog 68 [.p (.sl (ws.map .str))] h [] (fun v h' => (ws = [] ∧ v = .full [] ∧ h' = h) ∨ (∃ rk, rk ≠ .raw ∧ (ws ≠ [] → rk = .own) ∧ v = .own h.length ws.length ∧ h' = h ++ [.row 9 1 (ws.map .str) rk])) := by
  refine AC.of_bodyE hΓ Tryz.func68 (by kernel_rfl) rfl (AWp.mono (Q := fun e st => AM.Ends e ∧ ((ws = [] ∧ st.tmps.getD 2 .junk = .full [] ∧ st.h = h) ∨ (∃ rk, rk ≠ .raw ∧ (ws ≠ [] → rk = .own) ∧ st.tmps.getD 2 .junk = .own h.length ws.length ∧ st.h = h ++ [.row 9 1 (ws.map .str) rk]))) ?_ ?_)
  rotate_left
  · rintro e ⟨tm, h'⟩ ⟨he, ⟨hw, h1, h2⟩ | ⟨rk, hr, hr2, h1, h2⟩⟩
    · simp only at h1 h2
      subst h2; refine ⟨he, _, Less.refl _, ?_⟩; unfold Z1i; simp +contextual -implicitDefEqProofs only [Tryz.results68, h1, go_sem]; exact ⟨_, Nat.le_refl _, .inl rfl, .inl ⟨hw, List.take_length⟩⟩
    · simp only at h1 h2
      subst h2; refine ⟨he, _, Less.refl _, ?_⟩; unfold Z1i; simp +contextual -implicitDefEqProofs only [Tryz.results68, h1, go_sem]; exact ⟨h.length + 1, by omega, .inl (by simp), .inr ⟨rk, hr, hr2, List.take_of_length_le (by simp)⟩⟩
  refine Wd [] ?_
  cases ws with
  | nil =>
    simp -implicitDefEqProofs only [Tryz.ntmps68, Nat.reduceAdd, Nat.reduceSub, go_sem]; exact ⟨⟨by simp [Zc], by omega⟩, ⟨by simp [Zc], by simp [Z0y]⟩, ⟨by simp [Zc], by omega, by omega⟩, .inr ⟨.lax, by simp, rfl⟩⟩
  | cons x l =>
    simp -implicitDefEqProofs only [Tryz.ntmps68, Nat.reduceAdd, Nat.reduceSub, go_sem]; have h1 := Zm (x :: l); have h2 := Z29 (x :: l); simp only [List.map_cons] at h1 h2; simp only [List.length_cons] at hl; exact ⟨⟨by simp [Zc], by omega⟩, ⟨h1, h2⟩, ⟨by simp [Zc], by omega, by omega⟩, .inr ⟨.own, by simp, rfl, rfl⟩⟩

def made (l : List (List UInt8)) : List (List UInt8) := Lib.compact (Z11 l)
theorem Zgs (l : List (List UInt8)) : (made l).length ≤ l.length := by
  have := Z8v (Z11 l); rw [Zw] at this; exact this

theorem Z9n : made [] = [] := by
  have := Zgs []; exact List.length_eq_zero_iff.1 (by simpa using this)

theorem c83f {g : FuncId} {h : List AObj} : AC Tryz.prog 127 [.full [], .fn g []] h [] (fun v h' => v = .tup [] ∧ h' = h) := by
  refine ⟨Zu Tryz.func127 (by kernel_rfl) rfl, fun X I μ ob w cargs R hlen hargs _ => ?_⟩; obtain ⟨a0, f0, rfl⟩ : ∃ a f, cargs = [a, f] := by
    match cargs, hlen with
    | [a, f], _ => exact ⟨a, f, rfl⟩
  have g0 := hargs 0 (by simp); simp only [List.getD_cons_zero] at g0; obtain ⟨a, rfl⟩ : ∃ a, a0 = .slice a 0 0 := by
    cases g0 with
    | full l a hp => exact ⟨a, rfl⟩
  have hc : Calls Tryz.prog 127 #[.slice a 0 0, f0] w fun e w' => e = .returned (.tuple #[]) ∧ w' = w := AnyF.slices_SortFunc_none (ρ := Tryz.sortS_ren) { Tryz.sortS with } a 0 f0 w
  refine Calls.mono (P := Tryz.prog) hc ?_; rintro e w' ⟨rfl, rfl⟩; exact ⟨_, .tup [], _, I, μ, ob, rfl, R, .tup [] [] rfl (by simp), fun _ h => h, fun _ _ _ => rfl, Nat.le_refl _, fun g hg => .inl hg, fun b g hb => .inl ⟨b, hb⟩, fun k hk hno => rfl, rfl, rfl⟩
theorem c107f {h : List AObj} : AC Tryz.prog 129 [.full []] h [] (fun v h' => v = .full [] ∧ h' = h) := by
  refine ⟨Zu Tryz.func129 (by kernel_rfl) rfl, fun X I μ ob w cargs R hlen hargs _ => ?_⟩; obtain ⟨a0, rfl⟩ : ∃ a, cargs = [a] := by
    match cargs, hlen with
    | [a], _ => exact ⟨a, rfl⟩
  have g0 := hargs 0 (by simp); simp only [List.getD_cons_zero] at g0; have g1 := g0; obtain ⟨a, rfl⟩ : ∃ a, a0 = .slice a 0 0 := by
    cases g0 with
    | full l a hp => exact ⟨a, rfl⟩
  have hc : Calls Tryz.prog 129 #[.slice a 0 0] w fun e w' => e = .returned (.slice a 0 0) ∧ w' = w := AnyG.slices_Compact_string_empty (ρ := Tryz.compS_ren) Tryz.compS a 0 w
  refine Calls.mono (P := Tryz.prog) hc ?_; rintro e w' ⟨rfl, rfl⟩; exact ⟨_, .full [], _, I, μ, ob, rfl, R, g1, fun _ h => h, fun _ _ _ => rfl, Nat.le_refl _, fun g hg => .inl hg, fun b g hb => .inl ⟨b, hb⟩, fun k hk hno => rfl, rfl, rfl⟩

theorem c94 {h : List AObj} (hK : h.map (AObj.kill h.length) = h) (ws : List (List UInt8)) (hl : ws.length ≤ 1000000) :
    AC Tryz.prog 101 [.p (.sl (ws.map .str)), .fn 102 []] h [] (fun v h' => (ws = [] ∧ v = .full [] ∧ h' = h) ∨ (∃ rk, rk ≠ .raw ∧ v = .own h.length (made ws).length ∧ h' = h ++ [.row 9 1 ((made ws).map .str) rk])) := by
  refine AC.of_bodyE hΓ Tryz.func101 (by kernel_rfl) rfl (AWp.mono (Q := fun e st => AM.Ends e ∧ ((ws = [] ∧ st.tmps.getD 4 .junk = .full [] ∧ st.h = h) ∨ (∃ rk, rk ≠ .raw ∧ st.tmps.getD 4 .junk = .own h.length (made ws).length ∧ st.h = h ++ [.row 9 1 ((made ws).map .str) rk]))) ?_ ?_)
  rotate_left
  · rintro e ⟨tm, h'⟩ ⟨he, ⟨hw, h1, h2⟩ | ⟨rk, hr, h1, h2⟩⟩
    · simp only at h1 h2
      subst h2; refine ⟨he, _, Less.refl _, ?_⟩; unfold Z1i; simp +contextual -implicitDefEqProofs only [Tryz.results101, h1, go_sem]; exact ⟨_, Nat.le_refl _, .inl rfl, .inl ⟨hw, List.take_length⟩⟩
    · simp only at h1 h2
      subst h2; refine ⟨he, _, Less.refl _, ?_⟩; unfold Z1i; simp +contextual -implicitDefEqProofs only [Tryz.results101, h1, go_sem]; exact ⟨h.length + 1, by omega, .inl (by simp), .inr ⟨rk, hr, List.take_of_length_le (by simp)⟩⟩
  refine Wd [] ?_; simp -implicitDefEqProofs only [Tryz.ntmps101, Nat.reduceAdd, Nat.reduceSub, go_sem]; refine Zg (c22 ws hl) (by simp) ?_; have gL : ∀ o : AObj, (h ++ [o])[h.length]? = some o := fun o => by simp
  rintro v h' (⟨rfl, rfl, rfl⟩ | ⟨rk, hr, hr2, rfl, rfl⟩)
  · simp -implicitDefEqProofs only [Z8, List.foldl, go_sem]
    refine Zg c83f (by simp) ?_; rintro v h' ⟨rfl, rfl⟩; simp -implicitDefEqProofs only [Z8, List.foldl, go_sem]; refine Zg c107f (by simp) ?_; rintro v h' ⟨rfl, rfl⟩; simp -implicitDefEqProofs only [Z8, List.foldl, go_sem]
  · simp -implicitDefEqProofs only [Z8, List.foldl, go_sem]
    by_cases h0 : ws = []
    · subst h0
      refine Zg (c83n (b := h.length)) (by simp) ?_; rintro v h' ⟨rfl, rfl⟩; simp -implicitDefEqProofs only [Z8, List.foldl, go_sem]; refine Zg (c107n (b := h.length)) (by simp) ?_; rintro v h' ⟨rfl, rfl⟩; simp -implicitDefEqProofs only [Z8, List.foldl, go_sem]; exact .inr ⟨rk, hr, by rw [Z9n]; rfl, by rw [Z9n]; rfl⟩
    · have hrk := hr2 h0
      subst hrk; have sL : ∀ o o' : AObj, (h ++ [o]).set h.length o' = h ++ [o'] := fun o o' => by simp
      refine Zg (c83b ws (gL _) hl) (by simp) ?_; rintro v h' ⟨rfl, rfl⟩; simp -implicitDefEqProofs only [Z8, List.foldl, sL, go_sem]; have hsl := Zw ws; rw [← hsl]; refine Zg (c107 (Z11 ws) (gL _) (by omega)) (by simp) ?_; rintro v h' ⟨rfl, rfl⟩; simp -implicitDefEqProofs only [Z8, List.foldl, sL, go_sem]; exact .inr ⟨.own, by simp, rfl, by rw [List.map_append, hK]; simp [AObj.kill, made]⟩

theorem t71 (q : Int) (ws : List (List UInt8)) (hl : ws.length ≤ 1000000) : PFn Tryz.prog 48 [.int .i64 q, .sl (ws.map .str)] [if Z6 q (made ws) = 0 then Za q (made ws) else Za 0 [], .int .i64 (Z6 q (made ws))] := by
  refine PFn.of_body hΓ Tryz.func48 (by kernel_rfl) rfl (Wd [] ?_); simp +contextual -implicitDefEqProofs only [Za, Tryz.ntmps48, Tryz.results48, Nat.reduceAdd, Nat.reduceSub, go_sem]; refine Zg (c94 rfl ws hl) (by simp) ?_; rintro v h' (⟨rfl, rfl, rfl⟩ | ⟨rk, hr, rfl, rfl⟩)
  · rw [Z9n]
    simp -implicitDefEqProofs only [Z8, List.foldl, go_sem]; refine ⟨by omega, ?_⟩; refine Z0 (t45 q []) (.still rfl) ?_; by_cases hc : Z6 q [] = 0
    · rw [hc]
      simp -implicitDefEqProofs only [go_sem]
    · simp -implicitDefEqProofs only [hc, go_sem]
  · simp -implicitDefEqProofs only [Z8, List.foldl, go_sem]
    refine ⟨by omega, ?_⟩; refine Z0 (t45 q (made ws)) (.owned rfl rfl) ?_; by_cases hc : Z6 q (made ws) = 0
    · rw [hc]
      simp -implicitDefEqProofs only [go_sem]
    · simp -implicitDefEqProofs only [hc, go_sem]

def revs (ws : List (List UInt8)) : List (List UInt8) := ws.map List.reverse

def Z3k (pr : List UInt8 → List UInt8 → Bool) (ws : List (List UInt8)) (i n : Nat) : Bool := (List.range n).all fun k => decide (i = k) || !pr (ws.getD i []) (ws.getD k [])
def Z7x (pr : List UInt8 → List UInt8 → Bool) (ws : List (List UInt8)) (n : Nat) : Bool := (List.range n).all fun i => Z3k pr ws i ws.length
def Z46 (pr : List UInt8 → List UInt8 → Bool) (ws : List (List UInt8)) : Bool := Z7x pr ws ws.length

theorem Z5x (pr : List UInt8 → List UInt8 → Bool) (ws : List (List UInt8)) (i n : Nat) : Z3k pr ws i (n + 1) = (Z3k pr ws i n && (decide (i = n) || !pr (ws.getD i []) (ws.getD n []))) := by
  unfold Z3k; rw [List.range_succ, List.all_append]; simp
theorem Zcq (pr : List UInt8 → List UInt8 → Bool) (ws : List (List UInt8)) (n : Nat) : Z7x pr ws (n + 1) = (Z7x pr ws n && Z3k pr ws n ws.length) := by
  unfold Z7x; rw [List.range_succ, List.all_append]; simp
theorem Zip {pr : List UInt8 → List UInt8 → Bool} {ws : List (List UInt8)} {i k : Nat} (hi : i < ws.length) (hk : k < ws.length) (hne : i ≠ k) (hp : pr (ws.getD i []) (ws.getD k []) = true) : Z46 pr ws = false := by
  unfold Z46 Z7x Z3k; rw [Bool.eq_false_iff]; intro h; have h1 := List.all_eq_true.1 h i (List.mem_range.2 hi); have h2 := List.all_eq_true.1 h1 k (List.mem_range.2 hk); rw [hp] at h2; simp [hne] at h2

theorem c68 {g : FuncId} {pr : List UInt8 → List UInt8 → Bool} (q : Int) (ws : List (List UInt8)) (hg : ∀ x y : List UInt8, x.length ≤ 9223372036854775807 → PFn Tryz.prog g [.str x, .str y] [.bool (pr x y)]) :
    AC Tryz.prog 95 [.agg [.p (.int .i64 q), .p (.sl (ws.map .str))], .fn g []] [Zy q ws] [] (fun v h' => v = .tup [.p (.bool (if Z6 q ws = 0 then Z46 pr ws else false)), .p (.int .i64 (if Z6 q ws = 0 then 0 else 1))] ∧ h' = [Zy q ws]) := by
  refine AC.of_bodyE hΓ Tryz.func95 (by kernel_rfl) rfl (AWp.mono (Q := fun e st => AM.Ends e ∧ st.tmps.getD 4 .junk = .p (.bool (if Z6 q ws = 0 then Z46 pr ws else false)) ∧ st.tmps.getD 5 .junk = .p (.int .i64 (if Z6 q ws = 0 then 0 else 1)) ∧ st.h = [Zy q ws, Zy q ws]) ?_ ?_)
  rotate_left
  · rintro e ⟨tm, h'⟩ ⟨he, h1, h2, h3⟩
    simp only at h1 h2 h3; subst h3; refine ⟨he, _, Less.refl _, ?_⟩; unfold Z1i; simp +contextual -implicitDefEqProofs only [Tryz.results95, h1, h2, go_sem]; exact ⟨1, by omega, .inr ⟨rfl, rfl, by simp⟩, rfl⟩
  refine Wd [] ?_; simp -implicitDefEqProofs only [Tryz.ntmps95, Nat.reduceAdd, Nat.reduceSub, Zy, go_sem]; refine Z0 (t45 q ws) (.still rfl) ?_; by_cases h : Z6 q ws = 0
  · have hv := Z0e h
    have hws := hv.len; rw [h]; simp -implicitDefEqProofs only [go_sem]
    refine AWp.loopI (fun i : Nat => ⟨mkF 40 [(1, .fn g []), (2, .ptr 1 0), (14, .p (.sl (ws.map .str))), (15, .p (.int .i64 ws.length)), (16, .p (.int .i64 i))], [Zy q ws, Zy q ws]⟩)
      (fun i => i ≤ ws.length ∧ Z7x pr ws i = true) (fun i => ws.length - i) 0 (by simp [go_sem, Zy]) ⟨by omega, rfl⟩ ?_
    rintro i ⟨hi, hal⟩; refine Wd [] ?_; by_cases hlt : i < ws.length
    · simp -implicitDefEqProofs only [hlt, Z3, ↓reduceIte, Zy, go_sem]
      refine AWp.loopI (fun k : Nat => ⟨mkF 40 [(1, .fn g []), (2, .ptr 1 0), (6, .p (.int .i64 i)), (7, .p (.str ws[i])), (14, .p (.sl (ws.map .str))), (15, .p (.int .i64 ws.length)), (16, .p (.int .i64 i)), (22, .p (.sl (ws.map .str))), (23, .p (.int .i64 ws.length)), (24, .p (.int .i64 k))], [Zy q ws, Zy q ws]⟩)
        (fun k => k ≤ ws.length ∧ Z3k pr ws i k = true) (fun k => ws.length - k) 0 (by simp [go_sem, Zy]) ⟨by omega, rfl⟩ ?_
      rintro k ⟨hk, hal2⟩; refine Wd [] ?_; have hwi : ws.getD i [] = ws[i] := by rw [List.getD_eq_getElem?_getD, List.getElem?_eq_getElem hlt, Option.getD_some]
      by_cases hlt2 : k < ws.length
      · have hwk : ws.getD k [] = ws[k] := by rw [List.getD_eq_getElem?_getD, List.getElem?_eq_getElem hlt2, Option.getD_some]
        by_cases he : (i : Int) = k
        · simp -implicitDefEqProofs only [hlt2, he, Z3, ↓reduceIte, Zy, go_sem]
          refine ⟨by simp only [InR]; omega, k + 1, by omega, ⟨hlt2, ?_⟩, by omega⟩; rw [Z5x, hal2, decide_eq_true (by omega)]; rfl
        · simp -implicitDefEqProofs only [hlt2, he, Z3, ↓reduceIte, Zy, go_sem]
          refine Z0 (hg ws[i] ws[k] (by have := hv.short i hlt; rw [hwi] at this; omega)) (.pures rfl) ?_
          cases hp : pr ws[i] ws[k]
          · simp -implicitDefEqProofs only [go_sem]
            refine ⟨by simp only [InR]; omega, k + 1, by omega, ⟨hlt2, ?_⟩, by omega⟩; rw [Z5x, hal2, hwi, hwk, hp]; simp
          · simp -implicitDefEqProofs only [go_sem]
            rw [Zip hlt hlt2 (by omega) (by rw [hwi, hwk]; exact hp)]
      · simp -implicitDefEqProofs only [hlt2, Zy, go_sem]
        refine ⟨by simp only [InR]; omega, i + 1, by omega, ⟨hlt, ?_⟩, by omega⟩; rw [Zcq, hal, show ws.length = k by omega, hal2]; rfl
    · simp -implicitDefEqProofs only [hlt, Zy, go_sem]
      rw [show i = ws.length by omega] at hal; exact hal.symm
  · simp -implicitDefEqProofs only [h, go_sem]

theorem t38 (q : Int) (ws : List (List UInt8)) : PFn Tryz.prog 45 [Za q ws] [.bool (if Z6 q ws = 0 then Z46 (fun w x => x.isPrefixOf w) ws else false), .int .i64 (if Z6 q ws = 0 then 0 else 1)] := by
  refine PFn.of_body hΓ Tryz.func45 (by kernel_rfl) rfl (Wd [] ?_); simp +contextual -implicitDefEqProofs only [Za, Tryz.ntmps45, Tryz.results45, Nat.reduceAdd, Nat.reduceSub, go_sem]; refine Zg (c68 q ws fun x y _ => t69 x y) (by simp) ?_; rintro v h' ⟨rfl, rfl⟩; simp -implicitDefEqProofs only [Z8, List.foldl, Zy, go_sem]

theorem Z1j {d : List (List UInt8)} (hs : d.Pairwise fun a b => ¬ ltW b a) : ∀ m, m ≤ d.length →
    (Lib.compactUpTo d.toArray m).Pairwise ltW ∧ (∀ x, x ∈ Lib.compactUpTo d.toArray m ↔ x ∈ d.take m)
  | 0, _ => by simp [Lib.compactUpTo]
  | m + 1, hm => by
    obtain ⟨h1, h2⟩ := Z1j hs m (by omega); have hml : m < d.length := hm; have get : ∀ j (h : j < d.length), d.toArray[j]! = d[j] := fun j h => by rw [getElem!_pos d.toArray j (by simpa using h)]; simp
    have hle : ∀ i j (hi : i < d.length) (hj : j < d.length), i ≤ j → ¬ ltW d[j] d[i] := fun i j hi hj hij => by
      by_cases e : i = j
      · subst e; exact Z0h _
      · exact List.pairwise_iff_getElem.1 hs i j hi hj (by omega)
    rw [Lib.compactUpTo_succ, List.take_succ_eq_append_getElem hml, get m hml]; by_cases hk : Lib.keeps d.toArray m = true
    · rw [if_pos hk]
      refine ⟨List.pairwise_append.2 ⟨h1, by simp, fun x hx y hy => ?_⟩, fun x => ?_⟩
      · rw [List.mem_singleton] at hy; subst hy
        obtain ⟨j, hj, rfl⟩ := List.mem_take_iff_getElem.1 ((h2 x).1 hx); have hjm : j < m := by omega
        apply Classical.byContradiction
        intro hno; have e : d[j] = d[m] := Z1u hno (hle j m (by omega) hml (by omega)); have e2 : d[m - 1] = d[m] := Z1u (by rw [← e]; exact hle j (m - 1) (by omega) (by omega) (by omega)) (hle (m - 1) m (by omega) hml (by omega)); have := Lib.keeps_neg (d := d.toArray) (m := m) (by omega) (by rw [get m hml, get (m - 1) (by omega), e2]); rw [this] at hk; cases hk
      · simp only [List.mem_append, h2 x]
    · rw [if_neg hk, List.append_nil]
      refine ⟨h1, fun x => ?_⟩; simp only [List.mem_append, h2 x, List.mem_singleton]; refine ⟨.inl, fun h => h.elim id fun e => ?_⟩; subst e; have hm0 : 0 < m := by
        rcases Nat.eq_zero_or_pos m with h | h
        · subst h; exact absurd (Lib.keeps_lt_one _ 0 (by omega)) hk
        · exact h
      have e : d[m] = d[m - 1] := by
        apply Classical.byContradiction
        intro hne; exact hk (Lib.keeps_pos (by rw [get m hml, get (m - 1) (by omega)]; exact hne))
      rw [e]; exact List.mem_take_iff_getElem.2 ⟨m - 1, by omega, rfl⟩

theorem Z7d (l : List (List UInt8)) : (made l).Pairwise ltW := by
  have := (Z1j (Z5o l) (Z11 l).length (Nat.le_refl _)).1; exact this
theorem mem_made {l : List (List UInt8)} {x : List UInt8} : x ∈ made l ↔ x ∈ l := by
  have := (Z1j (Z5o l) (Z11 l).length (Nat.le_refl _)).2 x; rw [List.take_length, Zgo] at this; exact this
theorem Zc4 {l m : List (List UInt8)} (hm : m.Pairwise ltW) (h : ∀ x, x ∈ l ↔ x ∈ m) : made l = m := Z4o (Z7d l) hm fun x => mem_made.trans (h x)

theorem Zdv {q : Int} {vs : List (List UInt8)} (h2 : 2 ≤ q) (h16 : q ≤ 16) (hne : vs ≠ []) (hlen : vs.length ≤ 64) (hw : ∀ x ∈ vs, x ≠ [] ∧ x.length ≤ 32 ∧ Zi q x = 0) (hs : vs.Pairwise ltW) : Z6 q vs = 0 := by
  refine Z4f (by omega) (fun h => hne (List.length_eq_zero_iff.1 h)) (by omega) fun j hj => ?_
  obtain ⟨h3, h4, h5⟩ := hw _ (Zoq hj); unfold Zn; simp only; rw [if_neg h3, if_neg (by omega), if_neg (by simpa using h5), if_neg]; rintro ⟨hj0, hc⟩; have h6 : ltW (vs.getD (j - 1) []) (vs.getD j []) := by
    have := List.pairwise_iff_getElem.1 hs (j - 1) j (by omega) hj (by omega)
    rwa [List.getD_eq_getElem?_getD, List.getElem?_eq_getElem (by omega), Option.getD_some, List.getD_eq_getElem?_getD, List.getElem?_eq_getElem hj, Option.getD_some]
  have := (Z3c _ _).2 h6; omega

theorem Valid.words {q : Int} {ws : List (List UInt8)} (hv : Valid q ws) : ∀ x ∈ ws, x ≠ [] ∧ x.length ≤ 32 ∧ Zi q x = 0 := fun x hx => by
  obtain ⟨j, hj, rfl⟩ := List.getElem_of_mem hx; have h1 := hv.ne j hj; have h2 := hv.short j hj; have h3 := hv.word j hj; rw [List.getD_eq_getElem?_getD, List.getElem?_eq_getElem hj, Option.getD_some] at h1 h2 h3; exact ⟨h1, h2, h3⟩

theorem Zj5 {q : Int} {w : List UInt8} : Zi q w.reverse = Zi q w := by
  unfold Zi okW; rw [List.length_reverse, List.all_reverse]

theorem Z74 {q : Int} {ws : List (List UInt8)} (hv : Valid q ws) : Z6 q (made (revs ws)) = 0 := by
  have hl := Zgs (revs ws); have hrl : (revs ws).length = ws.length := by simp [revs]
  have hlen := hv.len; refine Zdv hv.q2 hv.q16 (fun e => ?_) (by omega) (fun x hx => ?_) (Z7d _)
  · have hp := hv.pos
    have : ws[0].reverse ∈ made (revs ws) := mem_made.2 (List.mem_map.2 ⟨_, List.getElem_mem hp, rfl⟩); rw [e] at this; cases this
  · obtain ⟨w, hw, rfl⟩ := List.mem_map.1 (mem_made.1 hx)
    obtain ⟨h1, h2, h3⟩ := hv.words w hw; exact ⟨by simpa using h1, by simpa using h2, by rw [Zj5]; exact h3⟩


theorem c119 {h : List AObj} {g : FuncId} {caps : List AV} {pr : List UInt8 → Bool} (ws : List (List UInt8)) (hl : ws.length ≤ 9223372036854775807)
    (hg : ∀ w ∈ ws, AC Tryz.prog g (.p (.str w) :: caps) h [] (fun v h' => v = .p (.bool (pr w)) ∧ h' = h)) :
    AC Tryz.prog 226 [.p (.sl (ws.map .str)), .fn g caps] h [] (fun v h' => (∃ i : Int, v = .p (.int .i64 i) ∧ decide (0 ≤ i) = ws.any pr) ∧ h' = h) := by
  refine AC.of_bodyE hΓ Tryz.func226 (by kernel_rfl) rfl (AWp.mono (Q := fun e st => AM.Ends e ∧ (∃ i : Int, st.tmps.getD 4 .junk = .p (.int .i64 i) ∧ decide (0 ≤ i) = ws.any pr) ∧ st.h = h) ?_ ?_)
  rotate_left
  · rintro e ⟨tm, h'⟩ ⟨he, ⟨i, h1, h3⟩, h2⟩
    simp only at h1 h2; subst h2; refine ⟨he, _, Less.refl _, ?_⟩; unfold Z1i; simp +contextual -implicitDefEqProofs only [Tryz.results226, h1, go_sem]; exact ⟨_, Nat.le_refl _, .inl rfl, ⟨i, rfl, h3⟩, List.take_length⟩
  refine Wd [] ?_; simp +contextual -implicitDefEqProofs only [Tryz.ntmps226, Nat.reduceAdd, Nat.reduceSub, go_sem]
  refine AWp.loopI (fun k : Nat => ⟨mkF 19 [(0, .p (.sl (ws.map .str))), (1, .fn g caps), (7, .p (.int .i64 ws.length)), (8, .p (.int .i64 k))], h⟩)
    (fun k => k ≤ ws.length ∧ (ws.take k).any pr = false) (fun k => ws.length - k) 0 (by simp [go_sem, Zb]) (by simp) ?_
  rintro k ⟨hk, h0⟩; refine Wd [] ?_; by_cases hlt : k < ws.length
  · have hgk : (ws.map PV.str).getD k default = .str ws[k] := Z3 _ _ _ _ hlt
    simp -implicitDefEqProofs only [List.length_map, hlt, hgk, Int.toNat_natCast, go_sem]; refine Zg (hg ws[k] (List.getElem_mem hlt)) (by simp) ?_; rintro v h' ⟨rfl, rfl⟩
    cases hp : pr ws[k]
    · simp -implicitDefEqProofs only [Z8, List.foldl, go_sem]
      refine ⟨by simp only [InR]; omega, k + 1, by simp [Zb], ⟨hlt, ?_⟩, by omega⟩; rw [List.take_succ_eq_append_getElem hlt, List.any_append, h0]; simp [hp]
    · simp -implicitDefEqProofs only [Z8, List.foldl, go_sem]
      refine ⟨k, rfl, ?_⟩; rw [List.any_eq_true.2 ⟨_, List.getElem_mem hlt, hp⟩]; simp
  · simp -implicitDefEqProofs only [hlt, go_sem]
    exact ⟨-1, rfl, by rw [List.take_of_length_le (by omega)] at h0; rw [h0]; rfl⟩

theorem c77 {h : List AObj} {g : FuncId} {caps : List AV} {pr : List UInt8 → Bool} (ws : List (List UInt8)) (hl : ws.length ≤ 9223372036854775807)
    (hg : ∀ w ∈ ws, AC Tryz.prog g (.p (.str w) :: caps) h [] (fun v h' => v = .p (.bool (pr w)) ∧ h' = h)) :
    AC Tryz.prog 183 [.p (.sl (ws.map .str)), .fn g caps] h [] (fun v h' => v = .p (.bool (ws.any pr)) ∧ h' = h) := by
  refine AC.of_bodyE hΓ Tryz.func183 (by kernel_rfl) rfl (AWp.mono (Q := fun e st => AM.Ends e ∧ st.tmps.getD 4 .junk = .p (.bool (ws.any pr)) ∧ st.h = h) ?_ ?_)
  rotate_left
  · rintro e ⟨tm, h'⟩ ⟨he, h1, h2⟩
    simp only at h1 h2; subst h2; refine ⟨he, _, Less.refl _, ?_⟩; unfold Z1i; simp +contextual -implicitDefEqProofs only [Tryz.results183, h1, go_sem]; exact ⟨_, Nat.le_refl _, .inl rfl, List.take_length⟩
  refine Wd [] ?_; simp +contextual -implicitDefEqProofs only [Tryz.ntmps183, Nat.reduceAdd, Nat.reduceSub, go_sem]; refine Zg (c119 ws hl hg) (by simp) ?_; rintro v h' ⟨⟨i, rfl, hi⟩, rfl⟩; simp -implicitDefEqProofs only [Z8, List.foldl, go_sem]; exact hi

def preP (ws : List (List UInt8)) : Bool := Z46 (fun w x => x.isPrefixOf w) ws
def chE (q : Int) (ws : List (List UInt8)) : Int := if Z6 q ws = 0 then (if preP ws = true then 0 else 8) else 1
theorem cm61 (q : Int) (ws : List (List UInt8)) : PFn Tryz.prog 62 [Za q ws] [.int .i64 (chE q ws)] := by
  have e := t38 q ws; unfold chE preP; refine PFn.of_body hΓ Tryz.func62 (by kernel_rfl) rfl (Wd [] ?_); simp -implicitDefEqProofs only [Tryz.ntmps62, Tryz.results62, Nat.reduceAdd, Nat.reduceSub, Za, go_sem]; refine Z0 e (.still rfl) ?_; by_cases hc : Z6 q ws = 0
  · cases hp : Z46 (fun w x => x.isPrefixOf w) ws
    · simp -implicitDefEqProofs only [hc, hp, go_sem]
      try trivial
    · simp -implicitDefEqProofs only [hc, hp, go_sem]
      try trivial
  · simp -implicitDefEqProofs only [hc, go_sem]
    try trivial

theorem c117 {h : List AObj} {b : Nat} (w x : List UInt8) (hb : h[b]? = some (.box [.p (.str w)])) :
    AC Tryz.prog 184 [.p (.str x), .ptr b 0] h [] (fun v h' => v = .p (.bool (w.isPrefixOf x)) ∧ h' = h) := by
  refine AC.of_bodyE hΓ Tryz.func184 (by kernel_rfl) rfl (AWp.mono (Q := fun e st => AM.Ends e ∧ st.tmps.getD 3 .junk = .p (.bool (w.isPrefixOf x)) ∧ st.h = h) ?_ ?_)
  rotate_left
  · rintro e ⟨tm, h'⟩ ⟨he, h1, h2⟩
    simp only at h1 h2; subst h2; refine ⟨he, _, Less.refl _, ?_⟩; unfold Z1i; simp +contextual -implicitDefEqProofs only [Tryz.results184, h1, go_sem]; exact ⟨_, Nat.le_refl _, .inl rfl, List.take_length⟩
  refine Wd [] ?_; simp -implicitDefEqProofs only [Tryz.ntmps184, Nat.reduceAdd, Nat.reduceSub, hb, go_sem]; refine Z0 (t69 x w) (.pures rfl) ?_; simp -implicitDefEqProofs only [go_sem]
theorem cm74 (ws : List (List UInt8)) (w : List UInt8) (hl : ws.length ≤ 9223372036854775807) : PFn Tryz.prog 126 [.sl (ws.map .str), .str w] [.bool (ws.any fun x => w.isPrefixOf x)] := by
  refine PFn.of_body hΓ Tryz.func126 (by kernel_rfl) rfl (Wd [] ?_); simp -implicitDefEqProofs only [Tryz.ntmps126, Tryz.results126, Nat.reduceAdd, Nat.reduceSub, go_sem]; refine Zg (c77 ws hl fun x _ => c117 w x rfl) (by simp) ?_; rintro v h' ⟨rfl, rfl⟩; simp -implicitDefEqProofs only [Z8, List.foldl, go_sem]
end Go.Proofs.YtpljmccnfmkmfaaGreat
end

