/-
  Texts of this claim, joined.
-/
import Derived.WalkKit
import Derived.KernelRfl
import Derived.LoopTactic
import Derived.Test.YtpljmccnfmkmfaaGreatJa031b9cf500e

set_option linter.unnecessarySimpa false
set_option maxRecDepth 100000
namespace Go.Proofs.YtpljmccnfmkmfaaGreat
open Go Go.RowKit Go.Proofs

theorem magB_one (n : Nat) (h0 : n ≠ 0) (h : n < 256) : magB n = [UInt8.ofNat n] := by
  have := magB_step (c := n) (n := 0) h
  rw [Nat.mul_zero, Nat.add_zero, if_neg (fun e => h0 e.1), magB_zero] at this
  exact this

theorem m108 (n : Nat) (hn : n < 9223372036854775808) (w : World) : Calls Tryz.prog 224 #[.int .i64 n] w fun e w' => e = .returned (.string ⟨(magB n).toArray⟩) ∧ Below w.heap.size w w' := by
  go_enter Tryz.func224, Tryz.ntmps224
  go_wp2
  · have h0 : ((n : Int) == 0) = true := by assumption
    have : n = 0 := by simpa using h0
    subst this
    go_ret
    exact ⟨rfl, Below.refl _ _⟩
  · have h0 : ((n : Int) == 0) = false := by assumption
    have h256 : (n : Int) < 256 := by assumption
    have h0' : n ≠ 0 := by simpa using h0
    have hc := run_convert_bytes_back (P := Tryz.prog) (w.alloc (.cells #[Value.int .u8 n] 5)) 65 9 5 ⟨w.heap.size, 0, none⟩ 1 [UInt8.ofNat n] Tryz.underlying65 Tryz.underlying5 Tryz.underlying9 (by
      intro j hj
      have hj0 : j = 0 := by simpa using hj
      subst hj0
      have hmod : n % 256 = n := Nat.mod_eq_of_lt (by omega)
      simp [Addr.add, UInt8.toNat_ofNat', hmod])
    rw [show (Value.slice (some { block := w.heap.size, off := 0 }) 1 1) = .slice (some ⟨w.heap.size, 0, none⟩) [UInt8.ofNat n].length 1 from rfl, hc]
    simp only [Result.andThen]
    rw [Oper.upon_value]
    go_wp2
    go_ret
    exact ⟨by rw [magB_one n h0' (by omega)]; rfl, (Below.refl _ _).alloc (Nat.le_refl _) _⟩
  · go_loopw [0, 4] (fun x k wr => ∃ (m p : Nat) (L : List UInt8), x = .int .i64 m ∧ k = .int .i64 p ∧ p + L.length = 8 ∧ magB n = magB m ++ L ∧ m ≤ n ∧ Below w.heap.size w wr ∧ wr.heap.size = w.heap.size + 1 ∧
        (∀ i, i < 8 → (wr.cell? ⟨w.heap.size, i, none⟩).isSome = true ∧ wr.frozen? ⟨w.heap.size, i, none⟩ = false) ∧ (∀ i (hi : i < L.length), wr.cell? ⟨w.heap.size, p + i, none⟩ = some (.int .u8 (L[i].toNat : Int))))
      (fun x _ _ => (intOf x).toNat)
    case atStart =>
      refine ⟨n, 8, [], rfl, rfl, rfl, by simp, Nat.le_refl _, (Below.refl _ _).alloc (Nat.le_refl _) _, World.size_alloc _ _, fun i hi => ?_, fun i hi => by simp at hi⟩
      rw [World.cell?_alloc_new, World.frozen?_alloc_new]
      refine ⟨?_, rfl⟩
      simp [hi]
    case round =>
      obtain ⟨m, p, L, rfl, rfl, hpL, hL, hmn, hB, hsz, hc, hl⟩ := hrel
      have hp : m > 0 → 0 < p := fun h => by
        have h1 := congrArg List.length hL
        rw [List.length_append] at h1
        have h2 := magB_small (k := 8) (n := n) (by omega)
        have h3 : (magB m).length ≠ 0 := fun e => by have := magB_nil (List.length_eq_zero_iff.1 e); omega
        omega
      by_cases hm : m > 0
      · have hp' := hp hm
        obtain ⟨p, rfl⟩ : ∃ r, p = r + 1 := ⟨p - 1, by omega⟩
        obtain ⟨u, hu⟩ := Option.isSome_iff_exists.1 (hc p (by omega)).1
        have hfp' := (hc p (by omega)).2
        clear hp
        go_wp2
        refine ⟨⟨m / 256, p, UInt8.ofNat (m % 256) :: L, ?_, rfl, ?_, ?_, ?_, ?_, ?_, ?_, ?_⟩, ?_⟩
        · rw [Int.natCast_ediv]; rfl
        · rw [List.length_cons]; omega
        · have h4 := magB_step (c := m % 256) (n := m / 256) (Nat.mod_lt _ (by decide))
          rw [Nat.mod_add_div, if_neg (fun e => by omega)] at h4
          rw [hL, h4, List.append_assoc]; rfl
        · exact Nat.le_trans (Nat.div_le_self _ _) hmn
        · exact hB.setCell (Nat.le_refl _) _
        · rw [World.size_setCell]; exact hsz
        · intro i hi
          rw [World.frozen?_setCell]
          refine ⟨?_, (hc i hi).2⟩
          by_cases e : i = p
          · subst e; rw [World.cell?_setCell_same (h := hu)]; rfl
          · rw [World.cell?_setCell_other (h := show (⟨w.heap.size, p, none⟩ : Addr) ≠ ⟨w.heap.size, i, none⟩ from fun e2 => e (by injection e2 with _ e3; exact e3.symm))]; exact (hc i hi).1
        · intro i hi
          cases i with
          | zero =>
            rw [Nat.add_zero, World.cell?_setCell_same (h := hu)]
            have : m % 256 < 256 := Nat.mod_lt _ (by decide)
            simp [UInt8.toNat_ofNat']
          | succ i =>
            rw [World.cell?_setCell_other (h := show (⟨w.heap.size, p, none⟩ : Addr) ≠ ⟨w.heap.size, p + (i + 1), none⟩ from fun e2 => by injection e2 with _ e3; omega), show p + (i + 1) = p + 1 + i by omega]
            exact hl i (by simpa using hi)
        · simp [intOf]; omega
      · have hm0 : m = 0 := by omega
        subst hm0
        clear hp
        rw [magB_zero, List.nil_append] at hL
        have hLn : L ≠ [] := fun e => by
          rw [e] at hL
          have := magB_nil hL
          omega
        have hLl := List.length_pos_iff.2 hLn
        have eL : Tryz.prog.arrayLen 216 = 8 := by kernel_rfl
        have eE : Tryz.prog.elem 216 = 5 := by kernel_rfl
        have hsl := run_sliceAt_array_l (P := Tryz.prog) wr 216 ⟨w.heap.size, 0, none⟩ (by rw [eL, eE]; exact Tryz.underlying216) .i64 (p : Int) (by omega) (by rw [eL]; omega)
        rw [eL, eE] at hsl
        have hcv := run_convert_bytes_back (P := Tryz.prog) wr 65 9 5 ⟨w.heap.size, p, none⟩ L.length L Tryz.underlying65 Tryz.underlying5 Tryz.underlying9 (fun j hj => by
          have h5 := hl j hj
          by_cases e : j = 0
          · subst e; simpa [Addr.add] using h5
          · simpa [Addr.add, e] using h5)
        go_wp2
        rw [show 8 - p = L.length by omega, hcv]
        simp only [Result.andThen]
        rw [Oper.upon_value]
        go_wp2
        go_ret
        exact ⟨by rw [hL]; rfl, hB⟩
end Go.Proofs.YtpljmccnfmkmfaaGreat
