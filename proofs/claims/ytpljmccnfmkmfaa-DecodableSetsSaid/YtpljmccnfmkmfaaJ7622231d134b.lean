/-
  Texts of this claim, joined.
-/
import Derived.WalkKit
import Derived.Lib.Bytealg
import Derived.Test.YtpljmccnfmkmfaaProg
import Derived.KernelRfl
import Derived.Sort.Grow
import Derived.Shelf.GgSortFunc.Insertion
import Derived.LoopTactic

namespace Go.Proofs.Ytpljmccnfmkmfaa
open Go Go.RowKit Go.Proofs
set_option maxRecDepth 100000
theorem k115 (a b : ByteArray) (w : World) : Calls Try.prog 77 #[.string a, .string b] w fun e w' => e = .returned (.int .i64 (Lib.compareBytes a.data.toList b.data.toList)) ∧ w' = w := by
  go_enter Try.func77, Try.ntmps77
  go_wp2
  rw [run_callFunc_extern Try.func89 (by kernel_rfl) (by kernel_rfl) (by kernel_rfl) (e := Extern.BytealgCompare.compare) (by kernel_rfl), Lib.run_compareString]; simp only [Result.andThen]; rw [Oper.upon_value]
  go_wp2
  go_ret
  exact ⟨rfl, rfl⟩
theorem k104 (a b : ByteArray) (w : World) : Calls Try.prog 66 #[.string a, .string b] w fun e w' => e = .returned (.int .i64 (Lib.compareBytes a.data.toList b.data.toList)) ∧ w' = w := by
  have hc := k115 a b
  go_enter Try.func66, Try.ntmps66
  go_wp2_with (go_at_call 77; refine (hc _).mono ?_; rintro e w' ⟨rfl, rfl⟩)
  go_ret
  exact ⟨rfl, rfl⟩
theorem k114 (x : Int) (w : World) : Calls Try.prog 76 #[.int .i64 x] w fun e w' => e = .returned (.bool false) ∧ w' = w := by
  go_enter Try.func76, Try.ntmps76
  go_wp2
  go_ret
  exact ⟨by simp, rfl⟩

theorem k103 (x y : Int) (w : World) : Calls Try.prog 65 #[.int .i64 x, .int .i64 y] w fun e w' => e = .returned (.int .i64 (if x < y then -1 else if y < x then 1 else 0)) ∧ w' = w := by
  have hc := k114; by_cases h1 : x < y
  · rw [if_pos h1]
    go_enter Try.func65, Try.ntmps65
    go_wp2_with (go_at_call 76; refine (hc _ _).mono ?_; rintro e w' ⟨rfl, rfl⟩)
    go_ret
    exact ⟨rfl, rfl⟩
  · rw [if_neg h1]
    by_cases h2 : y < x
    · rw [if_pos h2]
      go_enter Try.func65, Try.ntmps65
      go_wp2_with (go_at_call 76; refine (hc _ _).mono ?_; rintro e w' ⟨rfl, rfl⟩)
      go_ret
      exact ⟨rfl, rfl⟩
    · rw [if_neg h2]
      go_enter Try.func65, Try.ntmps65
      go_wp2_with (go_at_call 76; refine (hc _ _).mono ?_; rintro e w' ⟨rfl, rfl⟩)
      go_ret
      exact ⟨rfl, rfl⟩

theorem k102 (x y : Int) (b c : Nat) (w : World) (h0 : w.cell? ⟨b, 0, none⟩ = some (.int .i64 x)) (h1 : w.cell? ⟨b, 1, none⟩ = some (.int .i64 y)) :
    Calls Try.prog 64 #[.slice (some ⟨b, 0, none⟩) 2 c] w fun e w' => e = .returned (.int .i64 (if x = 0 then y else x)) ∧ w' = w := by
  have h0' : w.cell? (Addr.add ⟨b, 0, none⟩ 0) = some (.int .i64 x) := h0; have h1' : w.cell? (Addr.add ⟨b, 0, none⟩ 1) = some (.int .i64 y) := h1; by_cases hx : x = 0
  · rw [if_pos hx]
    subst hx; by_cases hy : y = 0
    · subst hy
      go_enter Try.func64, Try.ntmps64
      go_wp2
      refine wp_loop_rounds 3 ?_; rw [rounds_succ]
      go_wp2
      rw [rounds_succ]
      go_wp2
      rw [rounds_succ]
      go_wp2
      go_ret
      exact ⟨rfl, rfl⟩
    · go_enter Try.func64, Try.ntmps64
      go_wp2
      refine wp_loop_rounds 3 ?_; rw [rounds_succ]
      go_wp2
      rw [rounds_succ]
      go_wp2
      go_ret
      exact ⟨rfl, rfl⟩
  · rw [if_neg hx]
    go_enter Try.func64, Try.ntmps64
    go_wp2
    refine wp_loop_rounds 3 ?_; rw [rounds_succ]
    go_wp2
    go_ret
    exact ⟨rfl, rfl⟩

def cmpK (a b : List UInt8) : Int := if (if (a.length : Int) < b.length then (-1 : Int) else if (b.length : Int) < a.length then 1 else 0) = 0 then Lib.compareBytes a b else (if (a.length : Int) < b.length then (-1 : Int) else if (b.length : Int) < a.length then 1 else 0)

theorem Zav (w : World) (c : Array Value) (E : TypeId) (j : Nat) (v : Value) (h : c[j]? = some v) : (w.alloc (.cells c E)).cell? ⟨w.heap.size, j, none⟩ = some v := by
  have e : (w.alloc (.cells c E)).heap[w.heap.size]? = some (.cells c E) := by
    show (w.heap.push _)[w.heap.size]? = _; simp
  unfold World.cell?; simp only [e]; exact h

theorem k84 (a b : ByteArray) (w : World) : Calls Try.prog 47 #[.string a, .string b] w fun e w' => e = .returned (.int .i64 (cmpK a.data.toList b.data.toList)) ∧ ∃ q os, w' = Sort.grow (w.drewN q) os := by
  have hc1 := k103; have hc2 := k104; have hc3 := k102
  go_enter Try.func47, Try.ntmps47
  go_wp2_with (first | (go_at_call 65; refine (hc1 _ _ _).mono ?_; rintro e w' ⟨rfl, rfl⟩) | (go_at_call 66; refine (hc2 _ _ _).mono ?_; rintro e w' ⟨rfl, rfl⟩) | (go_at_call 64; refine (hc3 _ _ _ _ _ (Zav _ _ _ _ _ rfl) (Zav _ _ _ _ _ rfl)).mono ?_; rintro e w' ⟨rfl, rfl⟩))
  all_goals go_ret
  all_goals have e1 : ∀ x : ByteArray, x.data.toList.length = x.size := fun x => by simp
  · refine ⟨congrArg (fun n => Ending.returned (Value.int .i64 n)) ?_, 0, #[_], by rw [Sort.alloc_eq_grow]; rfl⟩
    have hs : a.size = b.size := by
      rcases Nat.lt_trichotomy a.size b.size with g | g | g
      · rw [if_pos g] at h; cases h
      · exact g
      · rw [if_neg (by omega), if_pos g] at h; cases h
    unfold cmpK; simp only [e1, hs]; rw [if_pos (by simp)]
  · refine ⟨congrArg (fun n => Ending.returned (Value.int .i64 n)) ?_, 0, #[_], by rw [Sort.alloc_eq_grow]; rfl⟩
    unfold cmpK; simp only [e1]; rw [if_pos (show (a.size : Int) < b.size by omega)]; rfl
  · refine ⟨congrArg (fun n => Ending.returned (Value.int .i64 n)) ?_, 0, #[_], by rw [Sort.alloc_eq_grow]; rfl⟩
    unfold cmpK; simp only [e1]; rw [if_neg (show ¬ (a.size : Int) < b.size by omega), if_pos (show (b.size : Int) < a.size by omega)]; rfl
end Go.Proofs.Ytpljmccnfmkmfaa
