/-
  Texts of this claim, joined.
-/
import Derived.Shelf.SlSortCmp.NoneTotal
import Derived.Shelf.SlGeneric
import Derived.Ground.SlsfProg
import Derived.Test.YtpljmccnfmkmfaaGreatProg
import Derived.Test.YtpljmccnfmkmfaaGreatJ3c1379c0e8e6
import Derived.Test.YtpljmccnfmkmfaaGreatJ969e22690bb3

set_option linter.unusedSimpArgs false
set_option maxRecDepth 100000
section
namespace Go.Proofs
open Go.Shelf
def Tryz.sortS_ren : Go.Shelf.Ren := ⟨fun | 6 => 127 | 15 => 186 | 14 => 185 | 28 => 202 | 29 => 235 | 20 => 227 | 21 => 228 | 22 => 229 | 23 => 230 | 24 => 231 | 25 => 232 | 26 => 233 | 27 => 234 | 46 => 255 | 47 => 256 | 48 => 257 | 49 => 258 | 50 => 259 | 57 => 276 | n => n, fun | 22 => 22 | 24 => 9 | 25 => 107 | 3 => 3 | 39 => 137 | 0 => 0 | 53 => 136 | 55 => 134 | 4 => 4 | 46 => 196 | 45 => 195 | 50 => 200 | 5 => 5 | 9 => 9 | 66 => 217 | 70 => 221 | 76 => 232 | 77 => 233 | n => n, fun | n => n⟩
theorem Tryz.sortS : Go.Proofs.SlLaysF.n6 Tryz.prog Tryz.sortS_ren := {
  mixed := by kernel_rfl
  f6 := ⟨Tryz.f127.name, by decide, Tryz.func127.trans (congrArg some (by kernel_rfl))⟩
  f14 := ⟨Tryz.f185.name, by decide, Tryz.func185.trans (congrArg some (by kernel_rfl))⟩
  f15 := Tryz.func186.trans (congrArg some (by kernel_rfl))
  f20 := ⟨Tryz.f227.name, by decide, Tryz.func227.trans (congrArg some (by kernel_rfl))⟩
  f21 := ⟨Tryz.f228.name, by decide, Tryz.func228.trans (congrArg some (by kernel_rfl))⟩
  f22 := ⟨Tryz.f229.name, by decide, Tryz.func229.trans (congrArg some (by kernel_rfl))⟩
  f23 := ⟨Tryz.f230.name, by decide, Tryz.func230.trans (congrArg some (by kernel_rfl))⟩
  f24 := ⟨Tryz.f231.name, by decide, Tryz.func231.trans (congrArg some (by kernel_rfl))⟩
  f25 := ⟨Tryz.f232.name, by decide, Tryz.func232.trans (congrArg some (by kernel_rfl))⟩
  f26 := ⟨Tryz.f233.name, by decide, Tryz.func233.trans (congrArg some (by kernel_rfl))⟩
  f27 := ⟨Tryz.f234.name, by decide, Tryz.func234.trans (congrArg some (by kernel_rfl))⟩
  f28 := Tryz.func202.trans (congrArg some (by kernel_rfl))
  f29 := Tryz.func235.trans (congrArg some (by kernel_rfl))
  f46 := ⟨Tryz.f255.name, by decide, Tryz.func255.trans (congrArg some (by kernel_rfl))⟩
  f47 := Tryz.func256.trans (congrArg some (by kernel_rfl))
  f48 := Tryz.func257.trans (congrArg some (by kernel_rfl))
  f49 := ⟨Tryz.f258.name, by decide, Tryz.func258.trans (congrArg some (by kernel_rfl))⟩
  f50 := ⟨Tryz.f259.name, by decide, Tryz.func259.trans (congrArg some (by kernel_rfl))⟩
  f57 := ⟨Tryz.f276.name, by decide, Tryz.func276.trans (congrArg some (by kernel_rfl))⟩
  t0 := Tryz.underlying0
  a0 := Tryz.isAgg0
  z0 := Tryz.sizeOf0
  v0 := Tryz.zeroValue0
  t3 := Tryz.underlying3
  a3 := Tryz.isAgg3
  z3 := Tryz.sizeOf3
  v3 := Tryz.zeroValue3
  t4 := Tryz.underlying4
  a4 := Tryz.isAgg4
  z4 := Tryz.sizeOf4
  v4 := Tryz.zeroValue4
  t5 := Tryz.underlying5
  a5 := Tryz.isAgg5
  z5 := Tryz.sizeOf5
  v5 := Tryz.zeroValue5
  t9 := Tryz.underlying9
  a9 := Tryz.isAgg9
  z9 := Tryz.sizeOf9
  v9 := Tryz.zeroValue9
  t22 := Tryz.underlying22
  a22 := Tryz.isAgg22
  z22 := Tryz.sizeOf22
  v22 := Tryz.zeroValue22
  a24 := Tryz.isAgg9
  z24 := Tryz.sizeOf9
  t25 := Tryz.underlying107
  a25 := Tryz.isAgg107
  z25 := Tryz.sizeOf107
  v25 := Tryz.zeroValue107
  t39 := Tryz.underlying137
  a39 := Tryz.isAgg137
  z39 := Tryz.sizeOf137
  v39 := Tryz.zeroValue137
  t45 := Tryz.underlying195
  a45 := Tryz.isAgg195
  z45 := Tryz.sizeOf195
  v45 := Tryz.zeroValue195
  t46 := Tryz.underlying196
  a46 := Tryz.isAgg196
  z46 := Tryz.sizeOf196
  v46 := Tryz.zeroValue196
  t50 := Tryz.underlying200
  a50 := Tryz.isAgg200
  z50 := Tryz.sizeOf200
  v50 := Tryz.zeroValue200
  t53 := Tryz.underlying136
  a53 := Tryz.isAgg136
  z53 := Tryz.sizeOf136
  v53 := Tryz.zeroValue136
  t55 := Tryz.underlying134
  a55 := Tryz.isAgg134
  z55 := Tryz.sizeOf134
  v55 := Tryz.zeroValue134
  t66 := Tryz.underlying217
  a66 := Tryz.isAgg217
  z66 := Tryz.sizeOf217
  v66 := Tryz.zeroValue217
  t70 := Tryz.underlying221
  a70 := Tryz.isAgg221
  z70 := Tryz.sizeOf221
  v70 := Tryz.zeroValue221
  t76 := Tryz.underlying232
  a76 := Tryz.isAgg232
  z76 := Tryz.sizeOf232
  v76 := Tryz.zeroValue232
  t77 := Tryz.underlying233
  a77 := Tryz.isAgg233
  z77 := Tryz.sizeOf233
  v77 := Tryz.zeroValue233 }
end Go.Proofs
end

section
namespace Go.Proofs.YtpljmccnfmkmfaaGreat
open Go Go.AM

theorem Zp8 (a b : List UInt8) : cmpK a b = cmpW a b := by
  unfold cmpK cmpW; by_cases h1 : a.length < b.length
  · rw [if_pos h1, if_pos (show (a.length : Int) < b.length by omega)]; rfl
  · by_cases h2 : b.length < a.length
    · rw [if_neg h1, if_pos h2, if_neg (show ¬ (a.length : Int) < b.length by omega), if_pos (show (b.length : Int) < a.length by omega)]; rfl
    · rw [if_neg h1, if_neg h2, if_neg (show ¬ (a.length : Int) < b.length by omega), if_neg (show ¬ (b.length : Int) < a.length by omega), if_pos rfl, Zcn]

theorem Zbh : ∀ {a b : List UInt8}, bLt a b = false → bLt b a = false → a = b
  | [], [], _, _ => rfl
  | [], _ :: _, h, _ => by cases h
  | _ :: _, [], _, h => by cases h
  | x :: a, y :: b, h1, h2 => by
    have n1 := mt (Z1m x y a b).2 (by rw [h1]; simp); have n2 := mt (Z1m y x b a).2 (by rw [h2]; simp); simp only [not_or, not_and, Bool.not_eq_true] at n1 n2; have e : x.toNat = y.toNat := by omega
    rw [UInt8.toNat_inj.1 e, Zbh (n1.2 e) (n2.2 e.symm)]
theorem Z1u {a b : List UInt8} (h1 : ¬ ltW a b) (h2 : ¬ ltW b a) : a = b := by
  unfold ltW at h1 h2; simp only [not_or, not_and, Bool.not_eq_true] at h1 h2; have e : a.length = b.length := by omega
  exact Zbh (h1.2 e) (h2.2 e.symm)

theorem Z6d (a b : List UInt8) : ltOf cmpK a b = true ↔ ltW a b := by
  unfold ltOf; rw [decide_eq_true_eq, Zp8]; exact Z3c a b
theorem Z17 (a b : List UInt8) : ltOf cmpK a b = false ↔ ¬ ltW a b := by
  rw [← Z6d]; simp

theorem swoW : Sort.SWO (ltOf cmpK) where
  irrefl x := (Z17 x x).2 (Z0h x)
  trans x y z h1 h2 := (Z6d x z).2 (Z14 ((Z6d x y).1 h1) ((Z6d y z).1 h2))
  ntrans x y z h1 h2 := by
    rw [Z17] at *; intro h; by_cases hyz : ltW z y
    · exact h1 (Z14 h hyz)
    · have := Z1u h2 hyz
      subst this; exact h1 h

def encW (x : List UInt8) : Value := .string ⟨x.toArray⟩
def Z11 (l : List (List UInt8)) : List (List UInt8) := l.mergeSort fun x y => !(ltOf cmpK) y x

end Go.Proofs.YtpljmccnfmkmfaaGreat
end

section
namespace Go.Proofs.YtpljmccnfmkmfaaGreat
open Go Go.AM Go.RowKit

theorem Z52 (l : List (List UInt8)) : Z04 (l.map .str) = l.map .str := by
  induction l with
  | nil => rfl
  | cons x l ih =>
    have e : Z04 ((x :: l).map PV.str) = PV.str x :: Z04 (l.map .str) := rfl; rw [e, ih]; rfl
theorem Zw (l : List (List UInt8)) : (Z11 l).length = l.length := by unfold Z11; simp
theorem Zht {I : Nat → Prop} {w : World} {x : List UInt8} {v : Value} (h : PR I w (.str x) v) : v = encW x := by
  cases h with | str s => rfl
theorem Zg7 {I : Nat → Prop} {w : World} (x : List UInt8) : PR I w (.str x) (encW x) := .mkStr (by simp)

def Zpq (g : FuncId) : Prop := ∀ (d : List (List UInt8)) (blk off cap : Nat) (w : World), Sort.Holds encW w blk off d.toArray → blk < w.heap.size → d.length < 4611686018427387904 →
    Calls Tryz.prog 127 #[.slice (some ⟨blk, off, none⟩) d.length cap, .func (.func g) #[] #[]] w fun e w' => e = .returned (.tuple #[]) ∧ ∃ n os, w' = sortWorld encW w blk off n (Z11 d).toArray os

theorem Zu0 {g : FuncId} (hs : Zpq g) {h : List AObj} {b : Nat} (l : List (List UInt8)) (hb : h[b]? = some (.row 9 1 (l.map .str) .own)) (hsz : l.length ≤ 1000000) :
    AC Tryz.prog 127 [.own b l.length, .fn g []] h [] (fun v h' => v = .tup [] ∧ h' = h.set b (.row 9 1 ((Z11 l).map .str) .own)) := by
  refine ⟨Zu Tryz.func127 (by kernel_rfl) rfl, fun X I μ ob w cargs R hlen hargs _ => ?_⟩; obtain ⟨a0, f0, rfl⟩ : ∃ a f, cargs = [a, f] := by
    match cargs, hlen with
    | [a, f], _ => exact ⟨a, f, rfl⟩
  have g0 := hargs 0 (by simp); have g1 := hargs 1 (by simp); simp only [List.getD_cons_zero, List.getD_cons_succ] at g0 g1; obtain ⟨a, c, rfl, hbn, hbm⟩ := g0.own_inv; obtain ⟨cs, rfl, hcl, _⟩ := g1.fn_inv; have hcs : cs = [] := by simpa using hcl.symm
  subst hcs; obtain ⟨hall, hrow⟩ := R.objs _ _ hb; rcases hrow with ⟨g, hg, off, cap, cur, fr, vs, e1, e2, e3, e4, e5, e6, e7, e8, e9, e10⟩ | ⟨hk, _⟩
  rotate_left
  · cases hk
  rw [hbm] at e1; simp only [List.length_map] at e1 e5 e7 e8 e9 e10
  injection e1 with e1a _ e1c
  subst e1a e1c; have hfr := e3 rfl; subst hfr; have hgl := (R.own b g hg).2.2; have cell : ∀ j (hj : j < l.length), cur[off + j]? = some (encW l[j]) := fun j hj => by
    have h1 := e10 j (by omega); rw [Z52, Z3 _ _ _ _ hj] at h1; have h2 := Zht h1; have h3 : cur.toList[off + j]? = some (vs.getD j undef) := by
      have : vs[j]? = some (vs.getD j undef) := by rw [List.getD_eq_getElem?_getD, List.getElem?_eq_getElem (by omega)]; rfl
      rw [← e8, List.getElem?_take_of_lt (by omega), List.getElem?_drop] at this; exact this.trans (by rw [e8])
    rw [Array.getElem?_toList, h2] at h3; exact h3
  have hH : Sort.Holds encW w g off l.toArray := fun j hj => by
    have hj' : j < l.length := by simpa using hj
    refine ⟨?_, ?_⟩
    · unfold World.cell?
      simp only [e2]; rw [cell j hj', getElem!_pos l.toArray j hj]; simp
    · unfold World.frozen?
      simp only [e2]; simp
  have hc := hs l g off c w hH hgl (by omega); refine Calls.mono (P := Tryz.prog) hc ?_; rintro e w' ⟨rfl, n, os, rfl⟩; have hsl : (Z11 l).toArray.size = l.length := by simp [Zw]
  -- the world that is left
  have hnew : (sortWorld encW w g off n (Z11 l).toArray os).heap[g]? = some (.cells (Sort.putCells encW off (Z11 l).toArray cur) 9 (0, 0)) := by
    unfold sortWorld; rw [Sort.heap_grow_old _ _ (by simp [Sort.ahead]; exact hgl)]; show (w.heap.modify g _)[g]? = _; rw [Array.getElem?_modify, if_pos rfl, e2]; rfl
  have hold : ∀ k, k < w.heap.size → k ≠ g → (sortWorld encW w g off n (Z11 l).toArray os).heap[k]? = w.heap[k]? := fun k hk hne => by
    unfold sortWorld; rw [Sort.heap_grow_old _ _ (by simp [Sort.ahead]; exact hk)]; show (w.heap.modify g _)[k]? = _; rw [Array.getElem?_modify, if_neg (fun e => hne e.symm)]
  have hgrow : w.grownBy (sortWorld encW w g off n (Z11 l).toArray os) (some g) := ⟨rfl, rfl, rfl, by simp [sortWorld, Sort.ahead], fun k hk hk2 => hold k hk (fun e => hk2 (by rw [e]))⟩; have hput : ∀ j, j < l.length → (Sort.putCells encW off (Z11 l).toArray cur)[off + j]? = some (encW ((Z11 l).getD j [])) := fun j hj => by
    unfold Sort.putCells; rw [Array.getElem?_mapIdx, cell j hj]; simp only [Option.map_some]; rw [if_pos ⟨Nat.le_add_right _ _, by rw [hsl]; omega⟩, Nat.add_sub_cancel_left, getElem!_pos (Z11 l).toArray j (by rw [hsl]; exact hj), List.getD_eq_getElem?_getD, List.getElem?_eq_getElem (by rw [Zw]; exact hj)]; simp
  have hps : (Sort.putCells encW off (Z11 l).toArray cur).size = cur.size := by unfold Sort.putCells; rw [Array.size_mapIdx]
  have hpl : (((Sort.putCells encW off (Z11 l).toArray cur).toList.drop off).take l.length).length = l.length := by
    have h1 : (Sort.putCells encW off (Z11 l).toArray cur).toList.length = cur.size := by simpa using hps
    rw [List.length_take, List.length_drop, h1]; omega
  have R2 := R.write (b0 := b) (g0 := g) (o := .row 9 1 ((Z11 l).map .str) .own) hbn hg hgrow ⟨fun x hx => by
      obtain ⟨u, _, rfl⟩ := List.mem_map.1 hx; rfl, .inl ⟨g, hg, off, c, Sort.putCells encW off (Z11 l).toArray cur, (0, 0), ((Sort.putCells encW off (Z11 l).toArray cur).toList.drop off).take l.length, by rw [hbm, List.length_map, Zw], hnew, fun _ => rfl, by simp,
        by rw [List.length_map, Zw]; exact e5, e6, by rw [hps]; exact e7, by rw [List.length_map, Zw, Nat.mul_one], by
          rw [List.length_map, Zw, hpl, Nat.mul_one], fun j hj => ?_⟩⟩
  · exact ⟨_, .tup [], _, I, μ, ob, rfl, R2, .tup [] [] rfl (by simp), fun _ h => h, fun _ _ _ => rfl, by simp, fun g hg => .inl hg, fun b g hb => .inl ⟨b, hb⟩, fun k hk hno => hold k hk (fun e => hno b (by rw [e]; exact hg)), rfl, rfl⟩
  · rw [List.length_map, Zw, Nat.mul_one] at hj
    rw [Z52, Z3 _ _ _ _ (by rw [Zw]; exact hj)]; have : (((Sort.putCells encW off (Z11 l).toArray cur).toList.drop off).take l.length).getD j undef = encW ((Z11 l).getD j []) := by
      rw [List.getD_eq_getElem?_getD, List.getElem?_take_of_lt hj, List.getElem?_drop, Array.getElem?_toList, hput j hj]; rfl
    rw [this, List.getD_eq_getElem?_getD, List.getElem?_eq_getElem (by rw [Zw]; exact hj)]; exact Zg7 _

theorem c83n {g : FuncId} {h : List AObj} {b : Nat} : AC Tryz.prog 127 [.own b 0, .fn g []] h [] (fun v h' => v = .tup [] ∧ h' = h) := by
  refine ⟨Zu Tryz.func127 (by kernel_rfl) rfl, fun X I μ ob w cargs R hlen hargs _ => ?_⟩; obtain ⟨a0, f0, rfl⟩ : ∃ a f, cargs = [a, f] := by
    match cargs, hlen with
    | [a, f], _ => exact ⟨a, f, rfl⟩
  have g0 := hargs 0 (by simp); simp only [List.getD_cons_zero] at g0; obtain ⟨a, c, rfl, hbn, hbm⟩ := g0.own_inv; have hc : Calls Tryz.prog 127 #[.slice a 0 c, f0] w fun e w' => e = .returned (.tuple #[]) ∧ w' = w := AnyF.slices_SortFunc_none (ρ := Tryz.sortS_ren) { Tryz.sortS with } a c f0 w
  refine Calls.mono (P := Tryz.prog) hc ?_; rintro e w' ⟨rfl, rfl⟩; exact ⟨_, .tup [], _, I, μ, ob, rfl, R, .tup [] [] rfl (by simp), fun _ h => h, fun _ _ _ => rfl, Nat.le_refl _, fun g hg => .inl hg, fun b g hb => .inl ⟨b, hb⟩, fun k hk hno => rfl, rfl, rfl⟩

theorem k81 (a b : ByteArray) (w : World) : Calls Tryz.prog 102 #[.string a, .string b] w fun e w' => e = .returned (.int .i64 (cmpK a.data.toList b.data.toList)) ∧ ∃ q os, w' = Sort.grow (w.drewN q) os := by
  have hc1 := k103; have hc2 := k104; have hc3 := k102
  go_enter Tryz.func102, Tryz.ntmps102
  go_wp2_with (first | (go_at_call 76; refine (hc1 _ _ _).mono ?_; rintro e w' ⟨rfl, rfl⟩) | (go_at_call 163; refine (hc2 _ _ _).mono ?_; rintro e w' ⟨rfl, rfl⟩) | (go_at_call 162; refine (hc3 _ _ _ _ _ (Zdg _ _ _ _ _ rfl) (Zdg _ _ _ _ _ rfl)).mono ?_; rintro e w' ⟨rfl, rfl⟩))
  all_goals go_ret
  all_goals have e1 : ∀ x : ByteArray, x.data.toList.length = x.size := fun x => by simp
  · refine ⟨congrArg (fun n => Ending.returned (Value.int .i64 n)) ?_, 0, #[_], by rw [Sort.alloc_eq_grow]; rfl⟩
    have hs : a.size = b.size := by
      rcases Nat.lt_trichotomy a.size b.size with g | g | g
      · rw [if_pos g] at h; cases h
      · exact g
      · rw [if_neg (by omega), if_pos g] at h; cases h
    unfold cmpK; simp only [e1, hs]; rw [if_pos (by simp)]
  · refine ⟨congrArg (fun n => Ending.returned (Value.int .i64 n)) ?_, 0, #[_], by rw [Sort.alloc_eq_grow]; rfl⟩
    unfold cmpK; simp only [e1]; rw [if_pos (show (a.size : Int) < b.size by omega)]; rfl
  · refine ⟨congrArg (fun n => Ending.returned (Value.int .i64 n)) ?_, 0, #[_], by rw [Sort.alloc_eq_grow]; rfl⟩
    unfold cmpK; simp only [e1]; rw [if_neg (show ¬ (a.size : Int) < b.size by omega), if_pos (show (b.size : Int) < a.size by omega)]; rfl
theorem Zaf (d : List (List UInt8)) (blk off cap : Nat) (w : World) (hH : Sort.Holds encW w blk off d.toArray) (hblk : blk < w.heap.size) (hsz : d.length < 4611686018427387904) :
    Calls Tryz.prog 127 #[.slice (some ⟨blk, off, none⟩) d.length cap, .func (.func 102) #[] #[]] w fun e w' => e = .returned (.tuple #[]) ∧ ∃ n os, w' = sortWorld encW w blk off n (Z11 d).toArray os := by
  have eg : ∀ args w, (callFunc 102 args).run Tryz.prog w = .ok (.enter 102 args) w := Zu Tryz.func102 (by kernel_rfl) rfl; have hcmp : CmpLays1 Tryz.prog 102 #[] encW cmpK blk off d.toArray.size w := fun m os dk _ x y => k81 ⟨x.toArray⟩ ⟨y.toArray⟩ _
  have h := Any.slices_SortFunc_total Tryz.sortS encW (fun _ => rfl) cmpK swoW 102 #[] blk off cap d.toArray w eg hcmp hH hblk (by simpa using hsz) (fun x y h1 h2 => Z1u ((Z17 x y).1 h1) ((Z17 y x).1 h2)); exact h
theorem c83b {h : List AObj} {b : Nat} (l : List (List UInt8)) (hb : h[b]? = some (.row 9 1 (l.map .str) .own)) (hsz : l.length ≤ 1000000) :
    AC Tryz.prog 127 [.own b l.length, .fn 102 []] h [] (fun v h' => v = .tup [] ∧ h' = h.set b (.row 9 1 ((Z11 l).map .str) .own)) := Zu0 Zaf l hb hsz
end Go.Proofs.YtpljmccnfmkmfaaGreat
end

