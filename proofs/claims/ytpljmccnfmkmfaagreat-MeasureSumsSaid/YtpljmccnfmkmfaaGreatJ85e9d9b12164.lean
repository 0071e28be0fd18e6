/-
  Texts of this claim, joined.
-/
import Derived.Shelf.SlicesG.In.CompactS
import Derived.Shelf.SlGeneric
import Derived.Ground.SlgnProg
import Derived.Test.YtpljmccnfmkmfaaGreatProg
import Derived.Test.YtpljmccnfmkmfaaGreatJ314b3bde5c70
import Derived.Test.YtpljmccnfmkmfaaGreatJd16cf1e4a705
import Derived.Test.YtpljmccnfmkmfaaGreatJ7cb4b7e9e247

set_option linter.unusedSimpArgs false
set_option maxRecDepth 100000
section
namespace Go.Proofs
open Go.Shelf
def Tryz.compS_ren : Go.Shelf.Ren := ⟨fun | 44 => 129 | n => n, fun | 25 => 22 | 26 => 9 | 3 => 3 | 4 => 4 | 0 => 0 | n => n, fun | n => n⟩
theorem Tryz.compS : Go.Proofs.SlLaysN.n44 Tryz.prog Tryz.compS_ren := {
  mixed := by kernel_rfl
  f44 := ⟨Tryz.f129.name, by decide, Tryz.func129.trans (congrArg some (by kernel_rfl))⟩
  t0 := Tryz.underlying0
  a0 := Tryz.isAgg0
  z0 := Tryz.sizeOf0
  v0 := Tryz.zeroValue0
  t3 := Tryz.underlying3
  a3 := Tryz.isAgg3
  z3 := Tryz.sizeOf3
  v3 := Tryz.zeroValue3
  t4 := Tryz.underlying4
  a4 := Tryz.isAgg4
  z4 := Tryz.sizeOf4
  v4 := Tryz.zeroValue4
  t25 := Tryz.underlying22
  a25 := Tryz.isAgg22
  z25 := Tryz.sizeOf22
  v25 := Tryz.zeroValue22
  t26 := Tryz.underlying9
  a26 := Tryz.isAgg9
  z26 := Tryz.sizeOf9
  v26 := Tryz.zeroValue9
  i26 := by kernel_rfl }
end Go.Proofs
end

section
namespace Go.Proofs.YtpljmccnfmkmfaaGreat
open Go Go.AM Go.RowKit

theorem Z81 (l : List (List UInt8)) : (Lib.compact l).length ≤ l.length := by
  unfold Lib.compact Lib.compactUpTo; rw [List.length_map]; exact Nat.le_trans (List.length_filter_le _ _) (by simp)

theorem c107 {h : List AObj} {b : Nat} (l : List (List UInt8)) (hb : h[b]? = some (.row 9 1 (l.map .str) .own)) (hsz : l.length ≤ 1000000) :
    AC Tryz.prog 129 [.own b l.length] h [b] (fun v h' => v = .own b (Lib.compact l).length ∧ h' = (h.map (AObj.kill b)).set b (.row 9 1 ((Lib.compact l).map .str) .own)) := by
  refine ⟨Z05 Tryz.func129 (by kernel_rfl) rfl, fun X I μ ob w cargs R hlen hargs hmay => ?_⟩; obtain ⟨a0, rfl⟩ : ∃ a, cargs = [a] := by
    match cargs, hlen with
    | [a], _ => exact ⟨a, rfl⟩
  have g0 := hargs 0 (by simp); simp only [List.getD_cons_zero] at g0; obtain ⟨a, c, rfl, hbn, hbm⟩ := g0.own_inv; obtain ⟨hall, hrow⟩ := R.objs _ _ hb; rcases hrow with ⟨g, hg, off, cap, cur, fr, vs, e1, e2, e3, e4, e5, e6, e7, e8, e9, e10⟩ | ⟨hk, _⟩
  rotate_left
  · cases hk
  rw [hbm] at e1; simp only [List.length_map] at e1 e5 e7 e8 e9 e10
  injection e1 with e1a _ e1c
  subst e1a e1c; have hfr := e3 rfl; subst hfr; have hgl := (R.own b g hg).2.2; have cell : ∀ j (hj : j < l.length), cur[off + j]? = some (encW l[j]) := fun j hj => by
    have h1 := e10 j (by omega); rw [Z4l, Z5 _ _ _ _ hj] at h1; have h2 := Zg9 h1; have h3 : cur.toList[off + j]? = some (vs.getD j undef) := by
      have : vs[j]? = some (vs.getD j undef) := by rw [List.getD_eq_getElem?_getD, List.getElem?_eq_getElem (by omega)]; rfl
      rw [← e8, List.getElem?_take_of_lt (by omega), List.getElem?_drop] at this; exact this.trans (by rw [e8])
    rw [Array.getElem?_toList, h2] at h3; exact h3
  have hH : Sort.Holds encW w g off l.toArray := fun j hj => by
    have hj' : j < l.length := by simpa using hj
    refine ⟨?_, ?_⟩
    · unfold World.cell?
      simp only [e2]; rw [cell j hj', getElem!_pos l.toArray j hj]; simp
    · unfold World.frozen?
      simp only [e2]; simp
  have hc : Calls Tryz.prog 129 #[.slice (some ⟨g, off, none⟩) l.length c] w fun e w' => e = .returned (.slice (some ⟨g, off, none⟩) (Lib.compact l).length c) ∧ ∃ q, w' = Sort.putRow encW (Sort.ahead w q) g off (Lib.compact l ++ List.replicate (l.length - (Lib.compact l).length) []).toArray :=
    AnyG.slices_Compact_string (ρ := Tryz.compS_ren) Tryz.compS g off c l w hH (by omega) e5
  refine Calls.mono (P := Tryz.prog) hc ?_; rintro e w' ⟨rfl, n, rfl⟩; have hcl := Z81 l; generalize hlf : Lib.compact l ++ List.replicate (l.length - (Lib.compact l).length) [] = lf; have hsl : lf.toArray.size = l.length := by rw [← hlf]; simp; omega
  have hlfl : lf.length = l.length := by simpa using hsl
  -- the world that is left
  have hnew : (Sort.putRow encW (Sort.ahead w n) g off lf.toArray).heap[g]? = some (.cells (Sort.putCells encW off lf.toArray cur) 9 (0, 0)) := by
    show (w.heap.modify g _)[g]? = _; rw [Array.getElem?_modify, if_pos rfl, e2]; rfl
  have hold : ∀ k, k < w.heap.size → k ≠ g → (Sort.putRow encW (Sort.ahead w n) g off lf.toArray).heap[k]? = w.heap[k]? := fun k hk hne => by
    show (w.heap.modify g _)[k]? = _; rw [Array.getElem?_modify, if_neg (fun e => hne e.symm)]
  have hsize : (Sort.putRow encW (Sort.ahead w n) g off lf.toArray).heap.size = w.heap.size := by
    show (w.heap.modify g _).size = _; simp
  have hgrow : w.grownBy (Sort.putRow encW (Sort.ahead w n) g off lf.toArray) (ob b) := ⟨rfl, rfl, rfl, by rw [hsize]; exact Nat.le_refl _, fun k hk hk2 => hold k hk (fun e => hk2 (by rw [e, hg]))⟩; have hput : ∀ j, j < (Lib.compact l).length → (Sort.putCells encW off lf.toArray cur)[off + j]? = some (encW ((Lib.compact l).getD j [])) := fun j hj => by
    have hj2 : j < l.length := by omega
    unfold Sort.putCells; rw [Array.getElem?_mapIdx, cell j hj2]; simp only [Option.map_some]; rw [if_pos ⟨Nat.le_add_right _ _, by rw [hsl]; omega⟩, Nat.add_sub_cancel_left, getElem!_pos lf.toArray j (by rw [hsl]; exact hj2)]; have : lf[j]'(by omega) = (Lib.compact l).getD j [] := by
      subst hlf; rw [List.getElem_append_left hj, List.getD_eq_getElem?_getD, List.getElem?_eq_getElem hj]; rfl
    simp only [List.getElem_toArray, this]
  have hps : (Sort.putCells encW off lf.toArray cur).size = cur.size := by unfold Sort.putCells; rw [Array.size_mapIdx]
  have hpl : (((Sort.putCells encW off lf.toArray cur).toList.drop off).take (Lib.compact l).length).length = (Lib.compact l).length := by
    have h1 : (Sort.putCells encW off lf.toArray cur).toList.length = cur.size := by simpa using hps
    rw [List.length_take, List.length_drop, h1]; omega
  have R2 := R.move (b0 := b) (v := .slice (some ⟨g, off, none⟩) (Lib.compact l).length c) (g := some g) (o := .row 9 1 ((Lib.compact l).map .str) .own) hbn (hmay b (by simp)) hgrow
    (fun k e => by injection e with e; subst e; exact ⟨.inl hg, by rw [hsize]; exact hgl⟩) ⟨fun x hx => by
      obtain ⟨u, _, rfl⟩ := List.mem_map.1 hx; rfl, .inl ⟨g, by simp, off, c, Sort.putCells encW off lf.toArray cur, (0, 0), ((Sort.putCells encW off lf.toArray cur).toList.drop off).take (Lib.compact l).length, by rw [Z9, List.length_map], hnew, fun _ => rfl, by simp,
        by rw [List.length_map]; omega, e6, by rw [hps]; exact e7, by rw [List.length_map, Nat.mul_one], by
          rw [List.length_map, hpl, Nat.mul_one], fun j hj => ?_⟩⟩
  · exact ⟨_, .own b (Lib.compact l).length, _, I, upd μ b (.slice (some ⟨g, off, none⟩) (Lib.compact l).length c), upd ob b (some g), rfl, R2, .own _ _ _ _ (by simpa using hbn) (by simp), fun _ h => h, fun k _ hk => Z6 _ _ (by simpa using hk), by simp, fun g hg => .inl hg,
      fun k g2 hk => by
        by_cases e : k = b
        · subst e; rw [Z9] at hk; injection hk with hk; subst hk; exact .inl ⟨k, hg⟩
        · rw [Z6 _ _ e] at hk; exact .inl ⟨k, hk⟩,
      fun k hk hno => hold k hk (fun e => hno b (by rw [e]; exact hg)), rfl, rfl⟩
  · rw [List.length_map, Nat.mul_one] at hj
    rw [Z4l, Z5 _ _ _ _ hj]; have : (((Sort.putCells encW off lf.toArray cur).toList.drop off).take (Lib.compact l).length).getD j undef = encW ((Lib.compact l).getD j []) := by
      rw [List.getD_eq_getElem?_getD, List.getElem?_take_of_lt hj, List.getElem?_drop, Array.getElem?_toList, hput j hj]; rfl
    rw [this, List.getD_eq_getElem?_getD, List.getElem?_eq_getElem hj]; exact Zem _

theorem c107n {h : List AObj} {b : Nat} : AC Tryz.prog 129 [.own b 0] h [] (fun v h' => v = .own b 0 ∧ h' = h) := by
  refine ⟨Z05 Tryz.func129 (by kernel_rfl) rfl, fun X I μ ob w cargs R hlen hargs _ => ?_⟩; obtain ⟨a0, rfl⟩ : ∃ a, cargs = [a] := by
    match cargs, hlen with
    | [a], _ => exact ⟨a, rfl⟩
  have g0 := hargs 0 (by simp); simp only [List.getD_cons_zero] at g0; obtain ⟨a, c, rfl, hbn, hbm⟩ := g0.own_inv; have hc : Calls Tryz.prog 129 #[.slice a 0 c] w fun e w' => e = .returned (.slice a 0 c) ∧ w' = w := AnyG.slices_Compact_string_empty (ρ := Tryz.compS_ren) Tryz.compS a c w
  refine Calls.mono (P := Tryz.prog) hc ?_; rintro e w' ⟨rfl, rfl⟩; exact ⟨_, .own b 0, _, I, μ, ob, rfl, R, .own _ _ _ _ hbn hbm, fun _ h => h, fun _ _ _ => rfl, Nat.le_refl _, fun g hg => .inl hg, fun b g hb => .inl ⟨b, hb⟩, fun k hk hno => rfl, rfl, rfl⟩
end Go.Proofs.YtpljmccnfmkmfaaGreat
end

section
namespace Go.Proofs.YtpljmccnfmkmfaaGreat
open Go Go.AM

/-! ### Sorted lists -/






theorem Valid.words {q : Int} {ws : List (List UInt8)} (hv : Valid q ws) : ∀ x ∈ ws, x ≠ [] ∧ x.length ≤ 32 ∧ Zj q x = 0 := fun x hx => by
  obtain ⟨j, hj, rfl⟩ := List.getElem_of_mem hx; have h1 := hv.ne j hj; have h2 := hv.short j hj; have h3 := hv.word j hj; rw [List.getD_eq_getElem?_getD, List.getElem?_eq_getElem hj, Option.getD_some] at h1 h2 h3; exact ⟨h1, h2, h3⟩


end Go.Proofs.YtpljmccnfmkmfaaGreat
end

