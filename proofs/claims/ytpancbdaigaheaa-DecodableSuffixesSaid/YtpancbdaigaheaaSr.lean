/-
  slices.SortFunc at the words' order: the row holds the sorted words.
-/
import Derived.Test.YtpancbdaigaheaaSo
import Derived.Test.YtpancbdaigaheaaSh
import Derived.Test.YtpancbdaigaheaaGi
namespace Go.Proofs.Ytpancbdaigaheaa
open Go Go.AM
set_option maxRecDepth 100000
set_option linter.unusedSimpArgs false

theorem cmpK_eq (a b : List UInt8) : cmpK a b = cmpW a b := by
  unfold cmpK cmpW
  by_cases h1 : a.length < b.length
  · rw [if_pos h1, if_pos (show (a.length : Int) < b.length by omega)]; rfl
  · by_cases h2 : b.length < a.length
    · rw [if_neg h1, if_pos h2, if_neg (show ¬ (a.length : Int) < b.length by omega), if_pos (show (b.length : Int) < a.length by omega)]; rfl
    · rw [if_neg h1, if_neg h2, if_neg (show ¬ (a.length : Int) < b.length by omega), if_neg (show ¬ (b.length : Int) < a.length by omega), if_pos rfl, cmpB_eq]

theorem bLt_total : ∀ {a b : List UInt8}, bLt a b = false → bLt b a = false → a = b
  | [], [], _, _ => rfl
  | [], _ :: _, h, _ => by cases h
  | _ :: _, [], _, h => by cases h
  | x :: a, y :: b, h1, h2 => by
    have n1 := mt (bLt_cons x y a b).2 (by rw [h1]; simp)
    have n2 := mt (bLt_cons y x b a).2 (by rw [h2]; simp)
    simp only [not_or, not_and, Bool.not_eq_true] at n1 n2
    have e : x.toNat = y.toNat := by omega
    rw [UInt8.toNat_inj.1 e, bLt_total (n1.2 e) (n2.2 e.symm)]
theorem ltW_total {a b : List UInt8} (h1 : ¬ ltW a b) (h2 : ¬ ltW b a) : a = b := by
  unfold ltW at h1 h2
  simp only [not_or, not_and, Bool.not_eq_true] at h1 h2
  have e : a.length = b.length := by omega
  exact bLt_total (h1.2 e) (h2.2 e.symm)

theorem ltOf_iff (a b : List UInt8) : ltOf cmpK a b = true ↔ ltW a b := by
  unfold ltOf
  rw [decide_eq_true_eq, cmpK_eq]; exact ltW_iff a b
theorem ltOf_false (a b : List UInt8) : ltOf cmpK a b = false ↔ ¬ ltW a b := by
  rw [← ltOf_iff]; simp

theorem swoW : Sort.SWO (ltOf cmpK) where
  irrefl x := (ltOf_false x x).2 (ltW_irrefl x)
  trans x y z h1 h2 := (ltOf_iff x z).2 (ltW_trans ((ltOf_iff x y).1 h1) ((ltOf_iff y z).1 h2))
  ntrans x y z h1 h2 := by
    rw [ltOf_false] at *
    intro h
    by_cases hyz : ltW z y
    · exact h1 (ltW_trans h hyz)
    · have := ltW_total h2 hyz
      subst this; exact h1 h

/-- A word as a value. -/
def encW (x : List UInt8) : Value := .string ⟨x.toArray⟩
def sortW (l : List (List UInt8)) : List (List UInt8) := l.mergeSort fun x y => !(ltOf cmpK) y x

theorem sort_calls (d : List (List UInt8)) (blk off cap : Nat) (w : World) (hH : Sort.Holds encW w blk off d.toArray) (hblk : blk < w.heap.size) (hsz : d.length < 4611686018427387904) :
    Calls Try.prog 83 #[.slice (some ⟨blk, off, none⟩) d.length cap, .func (.func 84) #[] #[]] w fun e w' => e = .returned (.tuple #[]) ∧ ∃ n os, w' = sortWorld encW w blk off n (sortW d).toArray os := by
  have eg : ∀ args w, (callFunc 84 args).run Try.prog w = .ok (.enter 84 args) w := entersF_of Try.func84 (by kernel_rfl) rfl
  have hcmp : CmpLays1 Try.prog 84 #[] encW cmpK blk off d.toArray.size w := fun m os dk _ x y => k84 ⟨x.toArray⟩ ⟨y.toArray⟩ _
  have h := Any.slices_SortFunc_total Try.sortS encW (fun _ => rfl) cmpK swoW 84 #[] blk off cap d.toArray w eg hcmp hH hblk (by simpa using hsz) (fun x y h1 h2 => ltW_total ((ltOf_false x y).1 h1) ((ltOf_false y x).1 h2))
  exact h
end Go.Proofs.Ytpancbdaigaheaa
