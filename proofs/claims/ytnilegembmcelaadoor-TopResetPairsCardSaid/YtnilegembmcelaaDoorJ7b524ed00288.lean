/-
  Texts of this claim, joined.
-/
import Derived.WalkKit
import Derived.Lib.Bytealg
import Derived.Test.YtnilegembmcelaaDoorProg
import Derived.KernelRfl
import Derived.Sort.Grow
import Derived.Shelf.GgSortFunc.Insertion
import Derived.LoopTactic

namespace Go.Proofs.YtnilegembmcelaaDoor
open Go Go.RowKit Go.Proofs
set_option maxRecDepth 100000
theorem k114 (x : Int) (w : World) : Calls Tryd.prog 72 #[.int .i64 x] w fun e w' => e = .returned (.bool false) ∧ w' = w := by
  go_enter Tryd.func72, Tryd.ntmps72
  go_wp2
  go_ret
  exact ⟨by simp, rfl⟩

theorem k103 (x y : Int) (w : World) : Calls Tryd.prog 48 #[.int .i64 x, .int .i64 y] w fun e w' => e = .returned (.int .i64 (if x < y then -1 else if y < x then 1 else 0)) ∧ w' = w := by
  have hc := k114; by_cases h1 : x < y
  · rw [if_pos h1]
    go_enter Tryd.func48, Tryd.ntmps48
    go_wp2_with (go_at_call 72; refine (hc _ _).mono ?_; rintro e w' ⟨rfl, rfl⟩)
    go_ret
    exact ⟨rfl, rfl⟩
  · rw [if_neg h1]
    by_cases h2 : y < x
    · rw [if_pos h2]
      go_enter Tryd.func48, Tryd.ntmps48
      go_wp2_with (go_at_call 72; refine (hc _ _).mono ?_; rintro e w' ⟨rfl, rfl⟩)
      go_ret
      exact ⟨rfl, rfl⟩
    · rw [if_neg h2]
      go_enter Tryd.func48, Tryd.ntmps48
      go_wp2_with (go_at_call 72; refine (hc _ _).mono ?_; rintro e w' ⟨rfl, rfl⟩)
      go_ret
      exact ⟨rfl, rfl⟩

theorem k102 (x y : Int) (b c : Nat) (w : World) (h0 : w.cell? ⟨b, 0, none⟩ = some (.int .i64 x)) (h1 : w.cell? ⟨b, 1, none⟩ = some (.int .i64 y)) :
    Calls Tryd.prog 47 #[.slice (some ⟨b, 0, none⟩) 2 c] w fun e w' => e = .returned (.int .i64 (if x = 0 then y else x)) ∧ w' = w := by
  have h0' : w.cell? (Addr.add ⟨b, 0, none⟩ 0) = some (.int .i64 x) := h0; have h1' : w.cell? (Addr.add ⟨b, 0, none⟩ 1) = some (.int .i64 y) := h1; by_cases hx : x = 0
  · rw [if_pos hx]
    subst hx; by_cases hy : y = 0
    · subst hy
      go_enter Tryd.func47, Tryd.ntmps47
      go_wp2
      refine wp_loop_rounds 3 ?_; rw [rounds_succ]
      go_wp2
      rw [rounds_succ]
      go_wp2
      rw [rounds_succ]
      go_wp2
      go_ret
      exact ⟨rfl, rfl⟩
    · go_enter Tryd.func47, Tryd.ntmps47
      go_wp2
      refine wp_loop_rounds 3 ?_; rw [rounds_succ]
      go_wp2
      rw [rounds_succ]
      go_wp2
      go_ret
      exact ⟨rfl, rfl⟩
  · rw [if_neg hx]
    go_enter Tryd.func47, Tryd.ntmps47
    go_wp2
    refine wp_loop_rounds 3 ?_; rw [rounds_succ]
    go_wp2
    go_ret
    exact ⟨rfl, rfl⟩

def cmpK (a b : List UInt8) : Int := if (if (a.length : Int) < b.length then (-1 : Int) else if (b.length : Int) < a.length then 1 else 0) = 0 then Lib.compareBytes a b else (if (a.length : Int) < b.length then (-1 : Int) else if (b.length : Int) < a.length then 1 else 0)

theorem Z83 (w : World) (c : Array Value) (E : TypeId) (j : Nat) (v : Value) (h : c[j]? = some v) : (w.alloc (.cells c E)).cell? ⟨w.heap.size, j, none⟩ = some v := by
  have e : (w.alloc (.cells c E)).heap[w.heap.size]? = some (.cells c E) := by
    show (w.heap.push _)[w.heap.size]? = _; simp
  unfold World.cell?; simp only [e]; exact h

end Go.Proofs.YtnilegembmcelaaDoor
