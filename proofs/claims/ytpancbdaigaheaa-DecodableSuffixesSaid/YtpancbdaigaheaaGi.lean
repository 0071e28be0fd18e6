/-
  The program's residuals: the closure that adds one.
-/
import Derived.Test.YtpancbdaigaheaaGg
namespace Go.Proofs.Ytpancbdaigaheaa
open Go Go.AM
set_option maxRecDepth 100000
set_option linter.unusedSimpArgs false

/-- How residuals' memory lies when these were added. -/
def heapR (q : Int) (ws done : List (List UInt8)) (rk : RK) (T : List AObj) : List AObj :=
  codeB q ws :: .mp (setM done) :: .box [.map 1] :: .box [.own 6 (keysOf done).length] :: .box [.fn 82 [.ptr 2 0, .ptr 3 0]] :: codeB q ws :: .row 9 1 ((keysOf done).map .str) rk :: T

theorem keysOf_old {l : List (List UInt8)} {k : List UInt8} (h : k ∈ l) : keysOf (l ++ [k]) = keysOf l := by
  rw [keysOf_snoc]; unfold addK; rw [if_pos ((mem_keysOf l k).2 h)]
theorem keysOf_new {l : List (List UInt8)} {k : List UInt8} (h : k ∉ l) : keysOf (l ++ [k]) = keysOf l ++ [k] := by
  rw [keysOf_snoc]; unfold addK; rw [if_neg (fun e => h ((mem_keysOf l k).1 e))]

theorem c82 (q : Int) (ws done : List (List UInt8)) (rk : RK) (T : List AObj) (r : List UInt8) (hrk : rk ≠ .raw ∧ (done ≠ [] → rk = .own)) (hT : T.map (AObj.kill 6) = T) (hlen : (keysOf done).length ≤ 1000000) :
    AC Try.prog 82 [.p (.str r), .ptr 2 0, .ptr 3 0] (heapR q ws done rk T) [6] (fun v h' => v = .tup [] ∧ ∃ rk', (rk' ≠ .raw ∧ (done ++ [r] ≠ [] → rk' = .own)) ∧ h' = heapR q ws (done ++ [r]) rk' T) := by
  refine AC.of_bodyE hΓ Try.func82 (by kernel_rfl) rfl (AWp.mono (Q := fun e st => AM.Ends e ∧ ∃ rk', (rk' ≠ .raw ∧ (done ++ [r] ≠ [] → rk' = .own)) ∧ st.h = heapR q ws (done ++ [r]) rk' T) ?_ ?_)
  rotate_left
  · rintro e st ⟨he, rk', h1, h2⟩
    refine ⟨he, st, Less.refl st, ?_⟩
    have h3 : (heapR q ws done rk T).length = st.h.length := by rw [h2]; simp [heapR]
    refine ⟨st.h.length, by omega, .inl rfl, ?_⟩
    rw [List.take_length]
    exact ⟨rfl, rk', h1, h2⟩
  refine AWp.of_awpD [] hΓ hmix (by kernel_rfl) ?_
  unfold heapR
  simp -implicitDefEqProofs only [Try.ntmps82, Nat.reduceAdd, Nat.reduceSub, codeB, setM_get, go_sem]
  by_cases hm : r ∈ done
  · simp -implicitDefEqProofs only [hm, go_sem]
    refine ⟨rk, ⟨hrk.1, fun _ => hrk.2 (fun e => by rw [e] at hm; cases hm)⟩, ?_⟩
    have e1 : setM (done ++ [r]) = setM done := by unfold setM; rw [keysOf_old hm]
    rw [e1, keysOf_old hm]
    simp
  · simp -implicitDefEqProofs only [hm, setM_snoc, hT, go_sem]
    rw [keysOf_new hm]
    exact ⟨⟨by simp [sizeOK, PV.cells], by omega⟩, ⟨by simp [sizeOK, PV.cells], by simp [oneOK, PV.cells, PV.isAgg]⟩, ⟨hrk.1, .inr (by simp), by omega, by omega⟩, RK.own, ⟨by simp, fun _ => rfl⟩, by simp⟩
end Go.Proofs.Ytpancbdaigaheaa
