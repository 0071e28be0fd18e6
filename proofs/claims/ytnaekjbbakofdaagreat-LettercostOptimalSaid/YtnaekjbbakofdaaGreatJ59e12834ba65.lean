/-
  The magnitude of a small number at the reference, walked with the kit's own words (an array of the function's own).
  The number of a short magnitude at the reference, walked with the kit's own words.
  The reference's integers: Of, Canonical, value.
  The reference's integers: trim, Canonical of any integer, the comparisons.
  The reference's integers: addition of magnitudes.
  The reference's integers: multiplication of magnitudes.
  The reference's integers: Add and Mul of naturals.
  lettercost.Check and the reference's Check, for any costs and weights.
  The reference's cost, free, total, Word and Cost for valid costs and weights.
  lettercost.Optimal, Least and Lengths for any costs and weights; the reference's before.
  Plain: the best list is the first one of all lists of the least cost.
  Plain: what the reference's Optimal computes is the best list.
-/
import Derived.WalkKit
import Derived.KernelRfl
import Derived.LoopTactic
import Derived.Test.YtnaekjbbakofdaaGreatJ841ece3106d2
import Derived.Test.YtnaekjbbakofdaaGreatJ2a20354ca823
import Derived.Test.YtnaekjbbakofdaaGreatJ452342ac2a48

section
namespace Go.Proofs.YtnaekjbbakofdaaGreat
open Go Go.RowKit Go.Proofs
set_option maxRecDepth 100000
set_option linter.unnecessarySimpa false

theorem magB_one (n : Nat) (h0 : n ≠ 0) (h : n < 256) : magB n = [UInt8.ofNat n] := by
  have := magB_step (c := n) (n := 0) h
  rw [Nat.mul_zero, Nat.add_zero, if_neg (fun e => h0 e.1), magB_zero] at this
  exact this

theorem m108 (n : Nat) (hn : n < 9223372036854775808) (w : World) : Calls Tryz.prog 109 #[.int .i64 n] w fun e w' => e = .returned (.string ⟨(magB n).toArray⟩) ∧ Below w.heap.size w w' := by
  go_enter Tryz.func109, Tryz.ntmps109
  go_wp2
  · have h0 : ((n : Int) == 0) = true := by assumption
    have : n = 0 := by simpa using h0
    subst this
    go_ret
    exact ⟨rfl, Below.refl _ _⟩
  · have h0 : ((n : Int) == 0) = false := by assumption
    have h256 : (n : Int) < 256 := by assumption
    have h0' : n ≠ 0 := by simpa using h0
    have hc := run_convert_bytes_back (P := Tryz.prog) (w.alloc (.cells #[Value.int .u8 n] 5)) 39 9 5 ⟨w.heap.size, 0, none⟩ 1 [UInt8.ofNat n] Tryz.underlying39 Tryz.underlying5 Tryz.underlying9 (by
      intro j hj
      have hj0 : j = 0 := by simpa using hj
      subst hj0
      have hmod : n % 256 = n := Nat.mod_eq_of_lt (by omega)
      simp [Addr.add, UInt8.toNat_ofNat', hmod])
    rw [show (Value.slice (some { block := w.heap.size, off := 0 }) 1 1) = .slice (some ⟨w.heap.size, 0, none⟩) [UInt8.ofNat n].length 1 from rfl, hc]
    simp only [Result.andThen]
    rw [Oper.upon_value]
    go_wp2
    go_ret
    exact ⟨by rw [magB_one n h0' (by omega)]; rfl, (Below.refl _ _).alloc (Nat.le_refl _) _⟩
  · go_loopw [0, 4] (fun x k wr => ∃ (m p : Nat) (L : List UInt8), x = .int .i64 m ∧ k = .int .i64 p ∧ p + L.length = 8 ∧ magB n = magB m ++ L ∧ m ≤ n ∧ Below w.heap.size w wr ∧ wr.heap.size = w.heap.size + 1 ∧
        (∀ i, i < 8 → (wr.cell? ⟨w.heap.size, i, none⟩).isSome = true ∧ wr.frozen? ⟨w.heap.size, i, none⟩ = false) ∧ (∀ i (hi : i < L.length), wr.cell? ⟨w.heap.size, p + i, none⟩ = some (.int .u8 (L[i].toNat : Int))))
      (fun x _ _ => (intOf x).toNat)
    case atStart =>
      refine ⟨n, 8, [], rfl, rfl, rfl, by simp, Nat.le_refl _, (Below.refl _ _).alloc (Nat.le_refl _) _, World.size_alloc _ _, fun i hi => ?_, fun i hi => by simp at hi⟩
      rw [World.cell?_alloc_new, World.frozen?_alloc_new]
      refine ⟨?_, rfl⟩
      simp [hi]
    case round =>
      obtain ⟨m, p, L, rfl, rfl, hpL, hL, hmn, hB, hsz, hc, hl⟩ := hrel
      have hp : m > 0 → 0 < p := fun h => by
        have h1 := congrArg List.length hL
        rw [List.length_append] at h1
        have h2 := magB_small (k := 8) (n := n) (by omega)
        have h3 : (magB m).length ≠ 0 := fun e => by have := magB_nil (List.length_eq_zero_iff.1 e); omega
        omega
      by_cases hm : m > 0
      · have hp' := hp hm
        obtain ⟨p, rfl⟩ : ∃ r, p = r + 1 := ⟨p - 1, by omega⟩
        obtain ⟨u, hu⟩ := Option.isSome_iff_exists.1 (hc p (by omega)).1
        have hfp' := (hc p (by omega)).2
        clear hp
        go_wp2
        refine ⟨⟨m / 256, p, UInt8.ofNat (m % 256) :: L, ?_, rfl, ?_, ?_, ?_, ?_, ?_, ?_, ?_⟩, ?_⟩
        · rw [Int.natCast_ediv]; rfl
        · rw [List.length_cons]; omega
        · have h4 := magB_step (c := m % 256) (n := m / 256) (Nat.mod_lt _ (by decide))
          rw [Nat.mod_add_div, if_neg (fun e => by omega)] at h4
          rw [hL, h4, List.append_assoc]; rfl
        · exact Nat.le_trans (Nat.div_le_self _ _) hmn
        · exact hB.setCell (Nat.le_refl _) _
        · rw [World.size_setCell]; exact hsz
        · intro i hi
          rw [World.frozen?_setCell]
          refine ⟨?_, (hc i hi).2⟩
          by_cases e : i = p
          · subst e; rw [World.cell?_setCell_same (h := hu)]; rfl
          · rw [World.cell?_setCell_other (h := show (⟨w.heap.size, p, none⟩ : Addr) ≠ ⟨w.heap.size, i, none⟩ from fun e2 => e (by injection e2 with _ e3; exact e3.symm))]; exact (hc i hi).1
        · intro i hi
          cases i with
          | zero =>
            rw [Nat.add_zero, World.cell?_setCell_same (h := hu)]
            have : m % 256 < 256 := Nat.mod_lt _ (by decide)
            simp [UInt8.toNat_ofNat']
          | succ i =>
            rw [World.cell?_setCell_other (h := show (⟨w.heap.size, p, none⟩ : Addr) ≠ ⟨w.heap.size, p + (i + 1), none⟩ from fun e2 => by injection e2 with _ e3; omega), show p + (i + 1) = p + 1 + i by omega]
            exact hl i (by simpa using hi)
        · simp [intOf]; omega
      · have hm0 : m = 0 := by omega
        subst hm0
        clear hp
        rw [magB_zero, List.nil_append] at hL
        have hLn : L ≠ [] := fun e => by
          rw [e] at hL
          have := magB_nil hL
          omega
        have hLl := List.length_pos_iff.2 hLn
        have eL : Tryz.prog.arrayLen 128 = 8 := by kernel_rfl
        have eE : Tryz.prog.elem 128 = 5 := by kernel_rfl
        have hsl := run_sliceAt_array_l (P := Tryz.prog) wr 128 ⟨w.heap.size, 0, none⟩ (by rw [eL, eE]; exact Tryz.underlying128) .i64 (p : Int) (by omega) (by rw [eL]; omega)
        rw [eL, eE] at hsl
        have hcv := run_convert_bytes_back (P := Tryz.prog) wr 39 9 5 ⟨w.heap.size, p, none⟩ L.length L Tryz.underlying39 Tryz.underlying5 Tryz.underlying9 (fun j hj => by
          have h5 := hl j hj
          by_cases e : j = 0
          · subst e; simpa [Addr.add] using h5
          · simpa [Addr.add, e] using h5)
        go_wp2
        rw [show 8 - p = L.length by omega, hcv]
        simp only [Result.andThen]
        rw [Oper.upon_value]
        go_wp2
        go_ret
        exact ⟨by rw [hL]; rfl, hB⟩
end Go.Proofs.YtnaekjbbakofdaaGreat
end

section
namespace Go.Proofs.YtnaekjbbakofdaaGreat
open Go Go.RowKit Go.Proofs
set_option maxRecDepth 100000

def beN (l : List UInt8) : Nat := l.foldl (fun a b => a * 256 + b.toNat) 0
theorem beN_snoc (l : List UInt8) (b : UInt8) : beN (l ++ [b]) = beN l * 256 + b.toNat := by unfold beN; rw [List.foldl_append]; rfl
theorem beN_lt : ∀ (k : Nat) (l : List UInt8), l.length = k → beN l < 256 ^ k
  | 0, l, h => by rw [List.length_eq_zero_iff.1 h]; decide
  | k + 1, l, h => by
    have hne : l ≠ [] := fun e => by rw [e] at h; cases h
    rw [← List.dropLast_concat_getLast hne, beN_snoc]
    have h1 := beN_lt k l.dropLast (by rw [List.length_dropLast]; omega)
    have h2 := (l.getLast hne).toNat_lt
    rw [Nat.pow_succ]; omega
theorem beN_magB (n : Nat) : beN (magB n) = n := by
  induction n using Nat.strongRecOn with
  | _ n ih =>
    by_cases h : n = 0
    · subst h; rfl
    · have h4 := magB_step (c := n % 256) (n := n / 256) (Nat.mod_lt _ (by decide))
      rw [Nat.mod_add_div, if_neg (fun e => by omega)] at h4
      rw [h4, beN_snoc, ih _ (by omega), UInt8.toNat_ofNat']
      have : n % 256 % 2 ^ 8 = n % 256 := by omega
      rw [this]; omega

theorem orB_add (a b : Nat) (ha : a < 256 ^ 6) (hb : b < 256) : bits .or .i64 ((a : Int) * 256) (wrap64 (b : Int)) = ((a * 256 + b : Nat) : Int) := by
  have h1 : ((a : Int) * 256) = ((a * 256 : Nat) : Int) := by omega
  have h2 : wrap64 (b : Int) = (b : Int) := by unfold wrap64; omega
  have h3 := Nat.shiftLeft_add_eq_or_of_lt (b := b) (i := 8) (by omega) a
  rw [h1, h2]
  have g1 : a * 256 < 18446744073709551616 := by omega
  have e : (BitVec.ofInt 64 ((a * 256 : Nat) : Int) ||| BitVec.ofInt 64 (b : Int)).toNat = a * 256 + b := by
    rw [BitVec.toNat_or, BitVec.ofInt_natCast, BitVec.ofInt_natCast, BitVec.toNat_ofNat, BitVec.toNat_ofNat, Nat.mod_eq_of_lt g1, Nat.mod_eq_of_lt (show b < 2 ^ 64 by omega)]
    rw [Nat.shiftLeft_eq] at h3
    exact h3.symm
  show IntKind.wrap .i64 ((BitVec.ofInt 64 ((a * 256 : Nat) : Int) ||| BitVec.ofInt 64 (b : Int)).toNat : Nat) = _
  rw [e]
  exact AM.InR.wrap (k := .i64) (by simp only [AM.InR]; omega)

theorem m124 (s : ByteArray) (hs : s.size ≤ 7) (w : World) : Calls Tryz.prog 120 #[.string s] w fun e w' => e = .returned (.int .i64 (beN s.data.toList)) ∧ w' = w := by
  go_enter Tryz.func120, Tryz.ntmps120
  go_wp2
  go_loop [3, 4] (fun x k => ∃ i : Nat, i ≤ s.size ∧ k = .int .i64 i ∧ x = .int .i64 (beN (s.data.toList.take i)))
    (fun _ k => s.size - (intOf k).toNat)
  case atStart => exact ⟨0, by omega, rfl, rfl⟩
  case round =>
    obtain ⟨i, hi, rfl, rfl⟩ := hrel
    by_cases hlt : i < s.size
    · have hlt' : (i : Int) < s.size := by omega
      have hlen : s.data.toList.length = s.size := by simp
      have htl : (s.data.toList.take i).length = i := by rw [List.length_take]; omega
      have hbd := beN_lt i _ htl
      have hbd6 : beN (s.data.toList.take i) < 256 ^ 6 := Nat.lt_of_lt_of_le hbd (Nat.pow_le_pow_right (by decide) (by omega))
      have hor := orB_add (beN (s.data.toList.take i)) s[i].toNat hbd6 s[i].toNat_lt
      have hnext : beN (s.data.toList.take (i + 1)) = beN (s.data.toList.take i) * 256 + s[i].toNat := by
        rw [List.take_succ_eq_append_getElem (by omega), beN_snoc]; rfl
      go_wp2
      refine ⟨⟨i + 1, by omega, by simp, ?_⟩, ?_⟩
      · rw [hnext, Int.natCast_add, Int.natCast_mul]; rfl
      · simp only [intOf]; omega
    · have hlt' : ¬ (i : Int) < s.size := by omega
      have hie : i = s.size := by omega
      go_wp2
      go_ret
      exact ⟨by rw [List.take_of_length_le (by simp)]; rfl, rfl⟩
end Go.Proofs.YtnaekjbbakofdaaGreat
end

section
namespace Go.Proofs.YtnaekjbbakofdaaGreat
open Go Go.AM Go.RowKit
set_option maxRecDepth 100000
set_option linter.unusedSimpArgs false

theorem u99 (n : Nat) (hn : n < 9223372036854775808) : PFn Tryz.prog 109 [.int .i64 n] [.str (magB n)] := by
  refine ⟨entersF_of Tryz.func109 (by kernel_rfl) rfl, fun I w cargs himm hlen hargs => ?_⟩
  obtain ⟨a, rfl⟩ : ∃ a, cargs = [a] := by
    match cargs, hlen with
    | [a], _ => exact ⟨a, rfl⟩
  have h0 := hargs 0 (by simp)
  simp only [List.getD_cons_zero] at h0
  rw [h0.int_inv]
  refine Calls.mono (P := Tryz.prog) (m108 n hn w) ?_
  rintro e w' ⟨rfl, hB⟩
  exact ⟨_, I, rfl, grown_of_below hB, fun _ h => h, fun g h => .inl h, .p _ _ (.str ⟨(magB n).toArray⟩)⟩
theorem u124 (l : List UInt8) (hl : l.length ≤ 7) : PFn Tryz.prog 120 [.str l] [.int .i64 (beN l)] := by
  refine ⟨entersF_of Tryz.func120 (by kernel_rfl) rfl, fun I w cargs himm hlen hargs => ?_⟩
  obtain ⟨a, rfl⟩ : ∃ a, cargs = [a] := by
    match cargs, hlen with
    | [a], _ => exact ⟨a, rfl⟩
  have h0 := hargs 0 (by simp)
  simp only [List.getD_cons_zero] at h0
  obtain ⟨s, rfl, rfl⟩ : ∃ s : ByteArray, a = .string s ∧ l = s.data.toList := by
    cases h0 with
    | str s => exact ⟨s, rfl, rfl⟩
  refine Calls.mono (P := Tryz.prog) (m124 s (by simpa using hl) w) ?_
  rintro e w' ⟨rfl, rfl⟩
  exact ⟨_, I, rfl, grown_of_below (Below.refl _ _), fun _ h => h, fun g h => .inl h, .p _ _ (.int _ _)⟩

theorem intF (n : Nat) : intN false n = .agg [.bool false, .str (magB n)] := rfl
theorem mag7 {n : Nat} (h : n < 256 ^ 7) : (magB n).length ≤ 7 := magB_small h
theorem magB_head (n : Nat) (h : n ≠ 0) : ∃ b l, magB n = b :: l ∧ b ≠ 0 := by
  induction n using Nat.strongRecOn with
  | _ n ih =>
    have h4 := magB_step (c := n % 256) (n := n / 256) (Nat.mod_lt _ (by decide))
    rw [Nat.mod_add_div, if_neg (fun e => by omega)] at h4
    by_cases h0 : n / 256 = 0
    · refine ⟨UInt8.ofNat (n % 256), [], by rw [h4, h0, magB_zero]; rfl, fun e => ?_⟩
      have := congrArg UInt8.toNat e
      rw [UInt8.toNat_ofNat'] at this
      have z : (0 : UInt8).toNat = 0 := rfl
      rw [z] at this
      omega
    · obtain ⟨b, l, h1, h2⟩ := ih (n / 256) (by omega) h0
      exact ⟨b, l ++ [UInt8.ofNat (n % 256)], by rw [h4, h1]; rfl, h2⟩

theorem u110 (n : Nat) (hn : n < 256 ^ 7) : PFn Tryz.prog 105 [intN false n] [.int .i64 n] := by
  have e := u124 (magB n) (mag7 hn)
  rw [beN_magB] at e
  rw [intF]
  generalize magB n = l at *
  refine PFn.of_body hΓ Tryz.func105 (by kernel_rfl) rfl (AWp.of_awpD [] hΓ hmix (by kernel_rfl) ?_)
  simp -implicitDefEqProofs only [Tryz.ntmps105, Tryz.results105, Nat.reduceAdd, Nat.reduceSub, go_sem]
  refine callK_fn e (.pures rfl) ?_
  simp -implicitDefEqProofs only [go_sem]
theorem u109e : PFn Tryz.prog 113 [.str []] [.str []] := by
  refine PFn.of_body hΓ Tryz.func113 (by kernel_rfl) rfl (AWp.of_awpD [] hΓ hmix (by kernel_rfl) ?_)
  simp -implicitDefEqProofs only [Tryz.ntmps113, Tryz.results113, Nat.reduceAdd, Nat.reduceSub, go_sem]
  refine AWp.loopI (fun _ : Unit => ⟨mkF 14 [(0, .p (.str []))], []⟩) (fun _ => True) (fun _ => 0) () (by simp [go_sem]) trivial ?_
  rintro _ _
  simp -implicitDefEqProofs only [go_sem]
  refine AWp.of_awpD [] hΓ hmix (by kernel_rfl) ?_
  have z : ¬ (0 : Int) < ((0 : Nat) : Int) := by decide
  simp -implicitDefEqProofs only [List.length_nil, z, go_sem]
theorem u96 (n : Nat) : PFn Tryz.prog 91 [intN false n] [intN false n] := by
  rw [intF]
  refine PFn.of_body hΓ Tryz.func91 (by kernel_rfl) rfl (AWp.of_awpD [] hΓ hmix (by kernel_rfl) ?_)
  by_cases h : n = 0
  · subst h
    rw [magB_zero]
    have z : ¬ (0 : Int) < ((0 : Nat) : Int) := by decide
    simp -implicitDefEqProofs only [Tryz.ntmps91, Tryz.results91, Nat.reduceAdd, Nat.reduceSub, List.length_nil, z, go_sem]
    refine callK_fn u109e (.pures rfl) ?_
    simp -implicitDefEqProofs only [go_sem]
    omega
  · obtain ⟨b, l, h1, h2⟩ := magB_head n h
    rw [h1]
    have z : (0 : Int) < ((l.length + 1 : Nat) : Int) := by omega
    have z3 : ¬ ((((b :: l).getD (Int.toNat 0) 0).toNat : Nat) : Int) = 0 := fun e => h2 (by
      have e1 : b.toNat = 0 := by simpa using e
      exact UInt8.toNat_inj.1 e1)
    simp -implicitDefEqProofs only [Tryz.ntmps91, Tryz.results91, Nat.reduceAdd, Nat.reduceSub, List.length_cons, z, z3, go_sem]
theorem u76 (n : Nat) (hn : n < 9223372036854775808) : PFn Tryz.prog 74 [.int .i64 n] [intN false n] := by
  have e := u99 n hn
  have h0 : (0 : Int) ≤ n := by omega
  rw [intF]
  generalize magB n = l at *
  refine PFn.of_body hΓ Tryz.func74 (by kernel_rfl) rfl (AWp.of_awpD [] hΓ hmix (by kernel_rfl) ?_)
  simp -implicitDefEqProofs only [Tryz.ntmps74, Tryz.results74, Nat.reduceAdd, Nat.reduceSub, h0, go_sem]
  refine callK_fn e (.pures rfl) ?_
  simp -implicitDefEqProofs only [go_sem]

end Go.Proofs.YtnaekjbbakofdaaGreat
end

section
namespace Go.Proofs.YtnaekjbbakofdaaGreat
open Go Go.AM Go.RowKit
set_option maxRecDepth 100000
set_option maxHeartbeats 4000000
set_option linter.unusedSimpArgs false

theorem beN_cons (a : UInt8) (l : List UInt8) : beN (a :: l) = a.toNat * 256 ^ l.length + beN l := by
  have : ∀ (l : List UInt8) (n : Nat), l.foldl (fun a b => a * 256 + b.toNat) n = n * 256 ^ l.length + beN l := fun l => by
    induction l with
    | nil => intro n; simp [beN]
    | cons b l ih =>
      intro n
      unfold beN
      rw [List.foldl_cons, List.foldl_cons, ih, ih, List.length_cons, Nat.pow_succ, Nat.zero_mul, Nat.zero_add, Nat.add_mul, Nat.mul_assoc, Nat.mul_comm 256, Nat.add_assoc]
  unfold beN
  rw [List.foldl_cons, this, Nat.zero_mul, Nat.zero_add]; rfl
theorem bLt_beN : ∀ (a b : List UInt8), a.length = b.length → (bLt a b = true ↔ beN a < beN b)
  | [], [], _ => by simp [bLt, beN]
  | x :: a, y :: b, h => by
    have hl : a.length = b.length := by simpa using h
    have ih := bLt_beN a b hl
    have h1 := beN_lt _ a rfl
    have h2 := beN_lt _ b rfl
    rw [bLt_cons, ih, beN_cons, beN_cons, hl]
    rw [hl] at h1
    have hpos : 0 < 256 ^ b.length := Nat.pow_pos (by decide)
    generalize 256 ^ b.length = p at *
    constructor
    · rintro (g | ⟨g, g2⟩)
      · have : (x.toNat + 1) * p ≤ y.toNat * p := Nat.mul_le_mul_right _ g
        rw [Nat.add_mul] at this; omega
      · rw [g]; omega
    · intro g
      rcases Nat.lt_trichotomy x.toNat y.toNat with k | k | k
      · exact .inl k
      · rw [k] at g; exact .inr ⟨k, by omega⟩
      · have : (y.toNat + 1) * p ≤ x.toNat * p := Nat.mul_le_mul_right _ k
        rw [Nat.add_mul] at this; omega
theorem mag_low {n : Nat} {k : Nat} (h : (magB n).length = k + 1) : 256 ^ k ≤ n := by
  have hn : n ≠ 0 := fun e => by subst e; rw [magB_zero] at h; cases h
  obtain ⟨b, l, h1, h2⟩ := magB_head n hn
  have h3 := beN_magB n
  rw [h1, beN_cons] at h3
  rw [h1] at h
  have h4 : l.length = k := by simpa using h
  rw [h4] at h3
  have hb : 1 ≤ b.toNat := Nat.pos_of_ne_zero fun e => h2 (UInt8.toNat_inj.1 e)
  have : 1 * 256 ^ k ≤ b.toNat * 256 ^ k := Nat.mul_le_mul_right _ hb
  omega
theorem mag_high (n : Nat) : n < 256 ^ (magB n).length := by
  have := beN_lt _ (magB n) rfl
  rwa [beN_magB] at this
theorem mag_shorter {a b : Nat} (h : (magB a).length < (magB b).length) : a < b := by
  obtain ⟨k, hk⟩ : ∃ k, (magB b).length = k + 1 := ⟨(magB b).length - 1, by omega⟩
  have h1 := mag_low hk
  have h2 := mag_high a
  have h3 : 256 ^ (magB a).length ≤ 256 ^ k := Nat.pow_le_pow_right (by decide) (by omega)
  omega
theorem mag_inj {a b : Nat} (h : magB a = magB b) : a = b := by rw [← beN_magB a, h, beN_magB]

theorem u97 (a b : Nat) : PFn Tryz.prog 104 [.str (magB a), .str (magB b)] [.int .i64 (cmpN a b)] := by
  rcases Nat.lt_trichotomy (magB a).length (magB b).length with h | h | h
  · rw [cmpN_lt (mag_shorter h)]
    have h1 : ¬ ((magB a).length : Int) = (magB b).length := by omega
    have h2 : ((magB a).length : Int) < (magB b).length := by omega
    refine PFn.of_body hΓ Tryz.func104 (by kernel_rfl) rfl (AWp.of_awpD [] hΓ hmix (by kernel_rfl) ?_)
    simp -implicitDefEqProofs only [Tryz.ntmps104, Tryz.results104, Nat.reduceAdd, Nat.reduceSub, h1, h2, go_sem]
  · have h1 : ((magB a).length : Int) = (magB b).length := by omega
    have hlt := bLt_beN _ _ h
    rw [beN_magB, beN_magB] at hlt
    have hbl : Op.bytesLess (magB a) (magB b) = bLt (magB a) (magB b) := (bLt_eq _ _).symm
    rcases Nat.lt_trichotomy a b with g | g | g
    · have hb : Op.bytesLess (magB a) (magB b) = true := by rw [hbl]; exact hlt.2 g
      rw [cmpN_lt g]
      refine PFn.of_body hΓ Tryz.func104 (by kernel_rfl) rfl (AWp.of_awpD [] hΓ hmix (by kernel_rfl) ?_)
      simp -implicitDefEqProofs only [Tryz.ntmps104, Tryz.results104, Nat.reduceAdd, Nat.reduceSub, h1, hb, go_sem]
    · subst g
      have hb : Op.bytesLess (magB a) (magB a) = false := by rw [hbl]; exact bLt_irrefl _
      rw [cmpN_eq]
      generalize magB a = x at *
      refine PFn.of_body hΓ Tryz.func104 (by kernel_rfl) rfl (AWp.of_awpD [] hΓ hmix (by kernel_rfl) ?_)
      simp -implicitDefEqProofs only [Tryz.ntmps104, Tryz.results104, Nat.reduceAdd, Nat.reduceSub, hb, Bool.false_or, Bool.or_true, Bool.or_false, go_sem]
    · have hb : Op.bytesLess (magB a) (magB b) = false := by
        rw [hbl, Bool.eq_false_iff]; exact fun e => by have := hlt.1 e; omega
      have hne : ¬ magB a = magB b := fun e => by have := mag_inj e; omega
      rw [cmpN_gt g]
      refine PFn.of_body hΓ Tryz.func104 (by kernel_rfl) rfl (AWp.of_awpD [] hΓ hmix (by kernel_rfl) ?_)
      simp -implicitDefEqProofs only [Tryz.ntmps104, Tryz.results104, Nat.reduceAdd, Nat.reduceSub, h1, hb, hne, Bool.false_or, Bool.or_true, Bool.or_false, decide_false, go_sem]
  · rw [cmpN_gt (mag_shorter h)]
    have h1 : ¬ ((magB a).length : Int) = (magB b).length := by omega
    have h2 : ¬ ((magB a).length : Int) < (magB b).length := by omega
    refine PFn.of_body hΓ Tryz.func104 (by kernel_rfl) rfl (AWp.of_awpD [] hΓ hmix (by kernel_rfl) ?_)
    simp -implicitDefEqProofs only [Tryz.ntmps104, Tryz.results104, Nat.reduceAdd, Nat.reduceSub, h1, h2, go_sem]

theorem u74 (a b : Nat) : PFn Tryz.prog 70 [intN false a, intN false b] [.int .i64 (cmpN a b)] := by
  have ea := u96 a
  have eb := u96 b
  have ec := u97 a b
  simp only [intF] at ea eb ⊢
  generalize magB a = x at *
  generalize magB b = y at *
  generalize cmpN a b = z at *
  refine PFn.of_body hΓ Tryz.func70 (by kernel_rfl) rfl (AWp.seq (AWp.of_awpD [] hΓ hmix (by kernel_rfl) ?_))
  simp -implicitDefEqProofs only [Tryz.ntmps70, Tryz.results70, Nat.reduceAdd, Nat.reduceSub, go_sem]
  refine AWp.of_awpD [(1, 4)] hΓ hmix (by kernel_rfl) ?_
  simp -implicitDefEqProofs only [go_sem]
  refine callVPK_fn ea (.still rfl) ?_
  simp -implicitDefEqProofs only [go_sem]
  refine callVPK_fn eb (.still rfl) ?_
  have hz : (false != false) = false := rfl
  simp -implicitDefEqProofs only [hz, go_sem]
  refine callK_fn ec (.pures rfl) ?_
  simp -implicitDefEqProofs only [go_sem]

/-! ### Leading zeros -/
def trimB : List UInt8 → List UInt8
  | [] => []
  | b :: l => if b = 0 then trimB l else b :: l
theorem beN_zero (l : List UInt8) : beN (0 :: l) = beN l := by rw [beN_cons]; have : (0 : UInt8).toNat = 0 := rfl; rw [this]; omega
theorem mag_be : ∀ (k : Nat) (b : UInt8) (l : List UInt8), l.length = k → b ≠ 0 → magB (beN (b :: l)) = b :: l
  | 0, b, l, hl, hb => by
    have : l = [] := List.length_eq_zero_iff.1 hl
    subst this
    have h0 : b.toNat ≠ 0 := fun e => hb (UInt8.toNat_inj.1 e)
    have e : beN [b] = b.toNat + 256 * 0 := by simp [beN]
    rw [e, magB_step (UInt8.toNat_lt b), if_neg (fun h => h0 h.1), magB_zero]
    simp
  | k + 1, b, l, hl, hb => by
    have hne : l ≠ [] := fun e => by rw [e] at hl; cases hl
    obtain ⟨t, c, rfl⟩ : ∃ t c, l = t ++ [c] := ⟨l.dropLast, l.getLast hne, (List.dropLast_concat_getLast hne).symm⟩
    have ih := mag_be k b t (by simpa using hl) hb
    have e : beN (b :: (t ++ [c])) = c.toNat + 256 * beN (b :: t) := by
      rw [← List.cons_append, beN_snoc]; omega
    rw [e, magB_step (UInt8.toNat_lt c), if_neg (fun h => by rw [h.2, magB_zero] at ih; cases ih), ih]
    simp
theorem trimB_mag : ∀ l : List UInt8, trimB l = magB (beN l)
  | [] => rfl
  | b :: l => by
    unfold trimB
    by_cases h : b = 0
    · rw [if_pos h, h, beN_zero, trimB_mag l]
    · rw [if_neg h, mag_be _ b l rfl h]
theorem beN_magNat (l : List UInt8) : beN l = magNat l := by
  have : ∀ k (l : List UInt8), l.length = k → beN l = magNat l := by
    intro k
    induction k with
    | zero => intro l hl; rw [List.length_eq_zero_iff.1 hl]; rfl
    | succ k ih =>
      intro l hl
      have hne : l ≠ [] := fun e => by rw [e] at hl; cases hl
      obtain ⟨t, c, rfl⟩ : ∃ t c, l = t ++ [c] := ⟨l.dropLast, l.getLast hne, (List.dropLast_concat_getLast hne).symm⟩
      rw [beN_snoc, ih t (by simpa using hl)]
      unfold magNat lebs
      rw [List.reverse_append, List.map_append]
      simp [valD]; omega
  exact this _ l rfl

theorem q113 (l : List UInt8) (hl : l.length ≤ 1000000) : PFn Tryz.prog 113 [.str l] [.str (magB (beN l))] := by
  rw [← trimB_mag]
  refine PFn.of_body hΓ Tryz.func113 (by kernel_rfl) rfl (AWp.of_awpD [] hΓ hmix (by kernel_rfl) ?_)
  simp -implicitDefEqProofs only [Tryz.ntmps113, Tryz.results113, Nat.reduceAdd, Nat.reduceSub, go_sem]
  refine AWp.loopI (fun x : List UInt8 => ⟨mkF 14 [(0, .p (.str x))], []⟩) (fun x => trimB x = trimB l ∧ x.length ≤ 1000000) (fun x => x.length) l (by simp [go_sem]) ⟨rfl, hl⟩ ?_
  rintro x ⟨hx, hxl⟩
  simp -implicitDefEqProofs only [go_sem]
  refine AWp.of_awpD [] hΓ hmix (by kernel_rfl) ?_
  match x, hx, hxl with
  | [], hx, _ =>
    have z : ¬ (0 : Int) < ((0 : Nat) : Int) := by decide
    have z2 : trimB [] = [] := rfl
    rw [z2] at hx
    simp -implicitDefEqProofs only [List.length_nil, z, go_sem]
    exact hx
  | b :: t, hx, hxl =>
    have z : (0 : Int) < ((t.length + 1 : Nat) : Int) := by omega
    have hlen : t.length + 1 ≤ 1000000 := hxl
    by_cases hb : b = 0
    · subst hb
      have hx2 : trimB t = trimB l := by rw [← hx]; rfl
      simp -implicitDefEqProofs only [List.length_cons, z, go_sem]
      refine ⟨fun _ => ⟨⟨by omega, by omega⟩, t, rfl, ⟨hx2, by omega⟩, by omega⟩, fun h => absurd rfl h⟩
    · have hx2 : trimB l = b :: t := by rw [← hx]; unfold trimB; rw [if_neg hb]
      have z3 : ¬ ((((b :: t).getD (Int.toNat 0) 0).toNat : Nat) : Int) = 0 := fun e => hb (by
        have e1 : b.toNat = 0 := by simpa using e
        exact UInt8.toNat_inj.1 e1)
      simp -implicitDefEqProofs only [List.length_cons, z, z3, go_sem]
      exact hx2.symm
theorem q91 (neg : Bool) (mag : List UInt8) (hl : mag.length ≤ 1000000) : PFn Tryz.prog 91 [intV neg mag] [intN neg (beN mag)] := by
  have e113 := q113 mag hl
  have hm := trimB_mag mag
  unfold intV
  match mag, hm, hl with
  | [], hm, _ =>
    have z : ¬ (0 : Int) < ((0 : Nat) : Int) := by decide
    have hb : beN [] = 0 := rfl
    rw [hb, intN_zero]
    rw [hb, magB_zero] at e113
    unfold intV
    refine PFn.of_body hΓ Tryz.func91 (by kernel_rfl) rfl (AWp.of_awpD [] hΓ hmix (by kernel_rfl) ?_)
    simp -implicitDefEqProofs only [Tryz.ntmps91, Tryz.results91, Nat.reduceAdd, Nat.reduceSub, List.length_nil, z, go_sem]
    refine callK_fn e113 (.pures rfl) ?_
    cases neg
    · simp -implicitDefEqProofs only [go_sem]
      omega
    · simp -implicitDefEqProofs only [go_sem]
      omega
  | b :: t, hm, hl =>
    have hlen : t.length + 1 ≤ 1000000 := hl
    have z : (0 : Int) < ((t.length + 1 : Nat) : Int) := by omega
    by_cases hb : b = 0
    · subst hb
      have z3 : (((0 :: t : List UInt8).getD (Int.toNat 0) 0).toNat : Int) = 0 := rfl
      obtain ⟨n, hn⟩ : ∃ n, n = beN (0 :: t) := ⟨_, rfl⟩
      rw [← hn] at e113 ⊢
      unfold intN intV
      by_cases h0 : n = 0
      · rw [h0, magB_zero] at e113 ⊢
        refine PFn.of_body hΓ Tryz.func91 (by kernel_rfl) rfl (AWp.of_awpD [] hΓ hmix (by kernel_rfl) ?_)
        cases neg
        · simp -implicitDefEqProofs only [Tryz.ntmps91, Tryz.results91, Nat.reduceAdd, Nat.reduceSub, List.length_cons, z, z3, go_sem]
          refine callK_fn e113 (.pures rfl) ?_
          simp -implicitDefEqProofs only [go_sem]
          first | omega | exact ⟨by omega, by simp [h0]⟩
        · simp -implicitDefEqProofs only [Tryz.ntmps91, Tryz.results91, Nat.reduceAdd, Nat.reduceSub, List.length_cons, z, z3, go_sem]
          refine callK_fn e113 (.pures rfl) ?_
          simp -implicitDefEqProofs only [go_sem]
          omega
      · have hne : ¬ magB n = [] := fun e => h0 (magB_nil e)
        refine PFn.of_body hΓ Tryz.func91 (by kernel_rfl) rfl (AWp.of_awpD [] hΓ hmix (by kernel_rfl) ?_)
        cases neg
        · simp -implicitDefEqProofs only [Tryz.ntmps91, Tryz.results91, Nat.reduceAdd, Nat.reduceSub, List.length_cons, z, z3, go_sem]
          refine callK_fn e113 (.pures rfl) ?_
          simp -implicitDefEqProofs only [go_sem]
          first | omega | exact ⟨by omega, by simp [h0]⟩
        · simp -implicitDefEqProofs only [Tryz.ntmps91, Tryz.results91, Nat.reduceAdd, Nat.reduceSub, List.length_cons, z, z3, go_sem]
          refine callK_fn e113 (.pures rfl) ?_
          simp -implicitDefEqProofs only [hne, go_sem]
          exact ⟨by omega, by simp [h0]⟩
    · have hx2 : magB (beN (b :: t)) = b :: t := by rw [← hm]; unfold trimB; rw [if_neg hb]
      have z3 : ¬ ((((b :: t).getD (Int.toNat 0) 0).toNat : Nat) : Int) = 0 := fun e => hb (by
        have e1 : b.toNat = 0 := by simpa using e
        exact UInt8.toNat_inj.1 e1)
      have hn0 : beN (b :: t) ≠ 0 := fun e => by rw [e, magB_zero] at hx2; cases hx2
      have hd : (neg && decide (beN (b :: t) ≠ 0)) = neg := by rw [decide_eq_true hn0, Bool.and_true]
      unfold intN intV
      rw [hd, hx2]
      refine PFn.of_body hΓ Tryz.func91 (by kernel_rfl) rfl (AWp.of_awpD [] hΓ hmix (by kernel_rfl) ?_)
      simp -implicitDefEqProofs only [Tryz.ntmps91, Tryz.results91, Nat.reduceAdd, Nat.reduceSub, List.length_cons, z, z3, go_sem]

theorem aggIng {p q : Bool} {A C : List UInt8} {x y : AV} {K : AV → Prop} (hx : x.pure = some (.agg [.bool p, .str A])) (hy : y.pure = some (.agg [.bool q, .str C]))
    (hK : K (.p (.bool (!(p == q && decide (A = C)))))) : aggK Γ .neq 31 x y K := by
  have he : ∃ te fs, Γ 31 = some te ∧ te.td = .struct fs ∧ te.eqs = true ∧ eqAgg Γ fs [.bool p, .str A] [.bool q, .str C] = some ((p == q) && (decide (A = C) && true)) := ⟨_, _, rfl, rfl, rfl, rfl⟩
  obtain ⟨te, fs, h1, h2, h3, h4⟩ := he
  rw [Bool.and_true] at h4
  unfold aggK
  rw [hx, hy]
  simp only [tyAt, h1, h2, h3, h4]
  exact ⟨⟨trivial, rfl, rfl⟩, hK⟩

def okI (neg : Bool) (mag : List UInt8) : Bool := (neg == (neg && decide (beN mag ≠ 0))) && decide (mag = magB (beN mag))
theorem q64 (neg : Bool) (mag : List UInt8) (hl : mag.length ≤ 1000000) : PFn Tryz.prog 64 [intV neg mag] [.int .i64 (if okI neg mag = true then 0 else 1)] := by
  have e91 := q91 neg mag hl
  unfold intN at e91
  have ho : okI neg mag = ((neg == (neg && decide (beN mag ≠ 0))) && decide (mag = magB (beN mag))) := rfl
  generalize (neg && decide (beN mag ≠ 0)) = q at *
  generalize magB (beN mag) = M at *
  unfold intV at *
  refine PFn.of_body hΓ Tryz.func64 (by kernel_rfl) rfl (AWp.seq (AWp.of_awpD [] hΓ hmix (by kernel_rfl) ?_))
  simp -implicitDefEqProofs only [Tryz.ntmps64, Tryz.results64, Nat.reduceAdd, Nat.reduceSub, go_sem]
  refine AWp.seq (AWp.seq (AWp.of_awpD [(1, 4)] hΓ hmix (by kernel_rfl) ?_))
  simp -implicitDefEqProofs only [go_sem]
  refine callVPK_fn e91 (.still rfl) ?_
  simp -implicitDefEqProofs only [go_sem]
  refine aggIng rfl rfl ?_
  rw [← ho]
  cases okI neg mag
  · simp -implicitDefEqProofs only [go_sem]
    refine AWp.of_awpD [] hΓ hmix (by kernel_rfl) ?_
    simp -implicitDefEqProofs only [go_sem]
    try rfl
  · simp -implicitDefEqProofs only [go_sem]
    refine AWp.of_awpD [] hΓ hmix (by kernel_rfl) ?_
    simp -implicitDefEqProofs only [go_sem]
    refine AWp.of_awpD [] hΓ hmix (by kernel_rfl) ?_
    simp -implicitDefEqProofs only [go_sem]
    try rfl
theorem q63 (neg : Bool) (mag : List UInt8) (hl : mag.length ≤ 100) : PFn Tryz.prog 63 [intV neg mag] [.int .i64 (if okI neg mag = true then 0 else 1)] := by
  have e52 := u69 neg mag (by omega)
  have hcap : magNat mag < 256 ^ 100 := by rw [← beN_magNat]; exact Nat.lt_of_lt_of_le (beN_lt _ mag rfl) (Nat.pow_le_pow_right (by decide) hl)
  have e50 := u66 neg (digD B32 (magNat mag)) (dig_lt _) (by
    have := digD_small (B := B32) (k := 100) (n := magNat mag) (by decide) (Nat.lt_of_lt_of_le hcap (Nat.pow_le_pow_left (by decide) _))
    omega)
  rw [digD_val (by decide), ← beN_magNat] at e50
  rw [← beN_magNat] at e52
  unfold intN at e50
  have ho : okI neg mag = ((neg == (neg && decide (beN mag ≠ 0))) && decide (mag = magB (beN mag))) := rfl
  generalize (neg && decide (beN mag ≠ 0)) = q at *
  generalize magB (beN mag) = M at *
  have ho2 : okI neg mag = (q == neg && decide (M = mag)) := by
    rw [ho]
    congr 1
    · cases q <;> cases neg <;> rfl
    · exact decide_eq_decide.2 eq_comm
  generalize digD B32 (beN mag) = D at *
  unfold intV at *
  refine PFn.of_body hΓ Tryz.func63 (by kernel_rfl) rfl (AWp.seq (AWp.of_awpD [] hΓ hmix (by kernel_rfl) ?_))
  simp -implicitDefEqProofs only [Tryz.ntmps63, Tryz.results63, Nat.reduceAdd, Nat.reduceSub, go_sem]
  refine AWp.seq (AWp.seq (AWp.of_awpD [(1, 7)] hΓ hmix (by kernel_rfl) ?_))
  simp -implicitDefEqProofs only [go_sem]
  refine callVPK_fn e52 (.still rfl) ?_
  simp -implicitDefEqProofs only [go_sem]
  refine callVPK_fn e50 (.still rfl) ?_
  simp -implicitDefEqProofs only [go_sem]
  refine aggIng rfl rfl ?_
  rw [← ho2]
  cases okI neg mag
  · simp -implicitDefEqProofs only [go_sem]
    refine AWp.of_awpD [] hΓ hmix (by kernel_rfl) ?_
    simp -implicitDefEqProofs only [go_sem]
    try rfl
  · simp -implicitDefEqProofs only [go_sem]
    refine AWp.of_awpD [] hΓ hmix (by kernel_rfl) ?_
    simp -implicitDefEqProofs only [go_sem]
    refine AWp.of_awpD [] hΓ hmix (by kernel_rfl) ?_
    simp -implicitDefEqProofs only [go_sem]
    try rfl
end Go.Proofs.YtnaekjbbakofdaaGreat
end

section
namespace Go.Proofs.YtnaekjbbakofdaaGreat
open Go Go.AM Go.RowKit
set_option maxRecDepth 100000
set_option maxHeartbeats 4000000
set_option linter.unusedSimpArgs false

def u8d (d : Nat) : PV := .int .u8 (d : Int)
def tailR (n : Nat) (L : List Nat) : List PV := (List.replicate (n - L.length) 0 ++ L).map u8d
theorem tailR_len {n : Nat} {L : List Nat} (h : L.length ≤ n) : (tailR n L).length = n := by unfold tailR; simp; omega
theorem tailR_set {n d : Nat} {L : List Nat} (h : L.length < n) : (tailR n L).set (n - (L.length + 1)) (u8d d) = tailR n (d :: L) := by
  unfold tailR
  obtain ⟨z, hz⟩ : ∃ z, n - L.length = z + 1 := ⟨n - L.length - 1, by omega⟩
  have hz2 : n - (L.length + 1) = z := by omega
  rw [List.length_cons, hz, hz2, List.replicate_succ', List.append_assoc, List.map_append, List.map_append]
  rw [List.set_append_right _ _ (by simp)]
  simp
theorem bytes_of (L : List Nat) (h : ∀ d ∈ L, d < 256) : beN (L.map UInt8.ofNat) = valD 256 L.reverse := by
  rw [beN_magNat]
  unfold magNat lebs
  congr 1
  rw [← List.map_reverse, List.map_map]
  conv => rhs; rw [← List.map_id L.reverse]
  refine List.map_congr_left fun d hd => ?_
  have := h d (List.mem_reverse.1 hd)
  simp only [Function.comp, id, UInt8.toNat_ofNat']
  omega

theorem getD_lebs (A : List UInt8) (k : Nat) : (lebs A).getD k 0 < 256 := by
  rw [List.getD_eq_getElem?_getD]
  cases h : (lebs A)[k]? with
  | none => decide
  | some d => exact lebs_lt A d (List.mem_of_getElem? h)
theorem lebs_out {A : List UInt8} {k : Nat} (h : A.length ≤ k) : (lebs A).getD k 0 = 0 := by
  rw [List.getD_eq_getElem?_getD, List.getElem?_eq_none (by rw [lebs_len]; exact h)]; rfl
theorem wrapu8 (s : Nat) : IntKind.u8.wrap (s : Int) = ((s % 256 : Nat) : Int) := by
  show ((s : Int) % 256) = _
  omega

theorem q106 (A C : List UInt8) (hA : A.length ≤ 1000) (hC : C.length ≤ 1000) : PFn Tryz.prog 106 [.str A, .str C] [.str (magB (beN A + beN C))] := by
  obtain ⟨n, hn⟩ : ∃ n, n = max A.length C.length + 1 := ⟨_, rfl⟩
  have hAn : A.length < n := by omega
  have hCn : C.length < n := by omega
  have hn1 : n ≤ 1001 := by omega
  have hmax : (if A.length < C.length then (C.length : Int) else (A.length : Int)) + 1 = (n : Int) := by split <;> omega
  refine PFn.of_body hΓ Tryz.func106 (by kernel_rfl) rfl (AWp.seq (AWp.of_awpD [] hΓ hmix (by kernel_rfl) ?_))
  simp -implicitDefEqProofs only [Tryz.ntmps106, Tryz.results106, Nat.reduceAdd, Nat.reduceSub, go_sem]
  refine AWp.seq (AWp.of_awpD [] hΓ hmix (by kernel_rfl) ?_)
  simp -implicitDefEqProofs only [go_sem]
  rw [hmax]
  refine ⟨by simp only [InR]; omega, ?_⟩
  refine AWp.seq (AWp.of_awpD [] hΓ hmix (by kernel_rfl) ?_)
  simp -implicitDefEqProofs only [Int.toNat_natCast, go_sem]
  refine ⟨⟨by omega, by omega⟩, ?_⟩
  refine AWp.seq (AWp.of_awpD [] hΓ hmix (by kernel_rfl) ?_)
  simp -implicitDefEqProofs only [go_sem]
  refine AWp.seq (AWp.seq (AWp.of_awpD [] hΓ hmix (by kernel_rfl) ?_))
  simp -implicitDefEqProofs only [go_sem]
  refine AWp.block ?_
  refine AWp.loopI (fun z : List Nat × Nat => ⟨mkF 60 [(0, .p (.str A)), (1, .p (.str C)), (5, .p (.int .i64 n)), (6, .own 0 n), (7, .p (.int .i64 z.2)), (8, .p (.int .i64 (z.1.length + 1 : Nat)))], [.row 5 1 (tailR n z.1) .own]⟩)
    (fun z => z.1.length ≤ n ∧ (∀ d ∈ z.1, d < 256) ∧ z.2 ≤ 1 ∧ valD 256 z.1.reverse + z.2 * 256 ^ z.1.length = valD 256 ((lebs A).take z.1.length) + valD 256 ((lebs C).take z.1.length)) (fun z => n - z.1.length) ([], 0) (by
      simp [go_sem, tailR, u8d]) ⟨by simp, by simp, by simp, by simp [valD]⟩ ?_
  rintro ⟨L, c⟩ ⟨hL, hLd, hc, hv⟩
  simp only at hL hLd hc hv
  simp -implicitDefEqProofs only [go_sem]
  refine AWp.of_awpD [] hΓ hmix (by kernel_rfl) ?_
  by_cases hlt : L.length < n
  · have hlt' : ((L.length + 1 : Nat) : Int) ≤ (n : Int) := by omega
    obtain ⟨a, ha⟩ : ∃ a, a = (lebs A).getD L.length 0 := ⟨_, rfl⟩
    obtain ⟨b, hb⟩ : ∃ b, b = (lebs C).getD L.length 0 := ⟨_, rfl⟩
    have ha256 : a < 256 := by rw [ha]; exact getD_lebs _ _
    have hb256 : b < 256 := by rw [hb]; exact getD_lebs _ _
    obtain ⟨s, hs⟩ : ∃ s, s = c + a + b := ⟨_, rfl⟩
    have hwa : IntKind.i64.wrap (a : Int) = a := InR.wrap (k := .i64) (by simp only [InR]; omega)
    have hwb : IntKind.i64.wrap (b : Int) = b := InR.wrap (k := .i64) (by simp only [InR]; omega)
    have hw8 : IntKind.u8.wrap (s : Int) = ((s % 256 : Nat) : Int) := wrapu8 s
    have hsd : (s : Int) / 2 ^ Int.toNat 8 = ((s / 256 : Nat) : Int) := by
      have : (2 : Int) ^ Int.toNat 8 = ((256 : Nat) : Int) := rfl
      rw [this, Int.natCast_ediv]
    have eA : ∀ h : L.length + 1 ≤ A.length, ((A.getD ((A.length : Int) - ((L.length + 1 : Nat) : Int)).toNat 0).toNat : Nat) = a := fun h => by
      rw [ha, lebs_get (by omega)]; congr 2; omega
    have eC : ∀ h : L.length + 1 ≤ C.length, ((C.getD ((C.length : Int) - ((L.length + 1 : Nat) : Int)).toNat 0).toNat : Nat) = b := fun h => by
      rw [hb, lebs_get (by omega)]; congr 2; omega
    have zA : ¬ L.length + 1 ≤ A.length → a = 0 := fun h => by rw [ha]; exact lebs_out (by omega)
    have zC : ¬ L.length + 1 ≤ C.length → b = 0 := fun h => by rw [hb]; exact lebs_out (by omega)
    have eik : ((n : Int) - ((L.length + 1 : Nat) : Int)).toNat = n - (L.length + 1) := by omega
    have hset : (tailR n L).set (n - (L.length + 1)) (.int .u8 ((s % 256 : Nat) : Int)) = tailR n (s % 256 :: L) := tailR_set hlt
    have hlen := tailR_len hL
    have hnew : valD 256 (s % 256 :: L).reverse + s / 256 * 256 ^ (L.length + 1) = valD 256 ((lebs A).take (L.length + 1)) + valD 256 ((lebs C).take (L.length + 1)) := by
      rw [valD_take, valD_take, ← ha, ← hb, List.reverse_cons, valD_append, List.length_reverse, Nat.pow_succ]
      have e1 : valD 256 [s % 256] = s % 256 := by simp [valD]
      rw [e1]
      have e2 : s % 256 + 256 * (s / 256) = s := Nat.mod_add_div s 256
      generalize 256 ^ L.length = P at *
      have e3 : P * (s % 256) + s / 256 * (P * 256) = P * s := by
        conv => rhs; rw [← e2, Nat.mul_add]
        rw [Nat.mul_comm (s / 256), Nat.mul_assoc]
      have e4 : P * s = c * P + a * P + b * P := by rw [hs, Nat.mul_comm, Nat.add_mul, Nat.add_mul]
      omega
    have hend : ∃ z : List Nat × Nat, z = (s % 256 :: L, s / 256) ∧ (z.1.length ≤ n ∧ (∀ d ∈ z.1, d < 256) ∧ z.2 ≤ 1 ∧ valD 256 z.1.reverse + z.2 * 256 ^ z.1.length = valD 256 ((lebs A).take z.1.length) + valD 256 ((lebs C).take z.1.length)) ∧ n - z.1.length < n - L.length :=
      ⟨_, rfl, ⟨by simp; omega, fun d hd => by
        rcases List.mem_cons.1 hd with rfl | hd
        · exact Nat.mod_lt _ (by decide)
        · exact hLd d hd, by simp only; omega, by simpa using hnew⟩, by simp; omega⟩
    obtain ⟨z, hz, hz1, hz2⟩ := hend
    subst hz
    by_cases hA1 : L.length + 1 ≤ A.length
    · have eA := eA hA1
      by_cases hC1 : L.length + 1 ≤ C.length
      · have eC := eC hC1
        have es : (c : Int) + (a : Int) + (b : Int) = (s : Int) := by omega
        simp -implicitDefEqProofs only [hlt', hA1, hC1, eA, eC, hwa, hwb, es, hw8, hsd, eik, hset, go_sem]
        refine ⟨by simp only [InR]; omega, ⟨by omega, by omega⟩, by simp only [InR]; omega, by simp only [InR]; omega, ⟨by omega, by omega⟩, by simp only [InR]; omega, by simp only [InR]; omega, ?_⟩
        exact ⟨⟨by omega, by omega⟩, ⟨by omega, rfl⟩, ⟨by decide, by decide⟩, by simp only [InR]; omega, _, ⟨⟨rfl, by simp⟩, .inl rfl⟩, hz1, hz2⟩
      · have zC := zC hC1
        have es : (c : Int) + (a : Int) = (s : Int) := by omega
        simp -implicitDefEqProofs only [hlt', hA1, hC1, eA, hwa, es, hw8, hsd, eik, hset, go_sem]
        refine ⟨by simp only [InR]; omega, ⟨by omega, by omega⟩, by simp only [InR]; omega, by simp only [InR]; omega, ?_⟩
        exact ⟨⟨by omega, by omega⟩, ⟨by omega, rfl⟩, ⟨by decide, by decide⟩, by simp only [InR]; omega, _, ⟨⟨rfl, by simp⟩, .inl rfl⟩, hz1, hz2⟩
    · have zA := zA hA1
      by_cases hC1 : L.length + 1 ≤ C.length
      · have eC := eC hC1
        have es : (c : Int) + (b : Int) = (s : Int) := by omega
        simp -implicitDefEqProofs only [hlt', hA1, hC1, eC, hwb, es, hw8, hsd, eik, hset, go_sem]
        refine ⟨by simp only [InR]; omega, ⟨by omega, by omega⟩, by simp only [InR]; omega, by simp only [InR]; omega, ?_⟩
        exact ⟨⟨by omega, by omega⟩, ⟨by omega, rfl⟩, ⟨by decide, by decide⟩, by simp only [InR]; omega, _, ⟨⟨rfl, by simp⟩, .inl rfl⟩, hz1, hz2⟩
      · have zC := zC hC1
        have es : (c : Int) = (s : Int) := by omega
        simp -implicitDefEqProofs only [hlt', hA1, hC1, es, hw8, hsd, eik, hset, go_sem]
        refine ⟨by simp only [InR]; omega, ?_⟩
        exact ⟨⟨by omega, by omega⟩, ⟨by omega, rfl⟩, ⟨by decide, by decide⟩, by simp only [InR]; omega, _, ⟨⟨rfl, by simp⟩, .inl rfl⟩, hz1, hz2⟩
  · have hLn : L.length = n := by omega
    have hlt' : ¬ ((L.length + 1 : Nat) : Int) ≤ (n : Int) := by omega
    have hz1 : valD 256 L.reverse + c * 256 ^ n = beN A + beN C := by
      rw [hLn, List.take_of_length_le (by rw [lebs_len]; omega), List.take_of_length_le (by rw [lebs_len]; omega)] at hv
      rw [beN_magNat, beN_magNat]; exact hv
    have hAl := beN_lt _ A rfl
    have hCl := beN_lt _ C rfl
    have p1 : 256 ^ A.length ≤ 256 ^ (n - 1) := Nat.pow_le_pow_right (by decide) (by omega)
    have p2 : 256 ^ C.length ≤ 256 ^ (n - 1) := Nat.pow_le_pow_right (by decide) (by omega)
    have p3 : 256 ^ n = 256 ^ (n - 1) * 256 := by rw [← Nat.pow_succ]; congr 1; omega
    have hc0 : c = 0 := by
      rcases (by omega : c = 0 ∨ c = 1) with h | h
      · exact h
      · exfalso
        subst h
        omega
    have hval : beN (L.map UInt8.ofNat) = beN A + beN C := by
      rw [bytes_of L hLd]
      rw [hc0] at hz1
      omega
    have hrow : tailR n L = L.map u8d := by unfold tailR; rw [hLn, Nat.sub_self]; rfl
    have e113 := q113 (L.map UInt8.ofNat) (by simp; omega)
    rw [hval] at e113
    simp -implicitDefEqProofs only [hlt', hrow, go_sem]
    refine AWp.seq (AWp.of_awpD [] hΓ hmix (by kernel_rfl) ?_)
    simp -implicitDefEqProofs only [go_sem]
    have hmap : L.map u8d = (L.map UInt8.ofNat).map u8V := by
      rw [List.map_map]
      refine List.map_congr_left fun d hd => ?_
      have := hLd d hd
      show PV.int .u8 (d : Int) = PV.int .u8 ((UInt8.ofNat d).toNat : Int)
      rw [UInt8.toNat_ofNat', Nat.mod_eq_of_lt this]
    refine ⟨⟨5, rfl, rfl⟩, _, hmap, callK_fn e113 (.pures rfl) ?_⟩
    simp -implicitDefEqProofs only [go_sem]
    refine AWp.of_awpD [] hΓ hmix (by kernel_rfl) ?_
    simp -implicitDefEqProofs only [go_sem]
end Go.Proofs.YtnaekjbbakofdaaGreat
end

section
namespace Go.Proofs.YtnaekjbbakofdaaGreat
open Go Go.AM Go.RowKit
set_option maxRecDepth 100000
set_option maxHeartbeats 4000000
set_option linter.unusedSimpArgs false

def revR (l : List Nat) : List PV := l.reverse.map Kn.nV
theorem revR_len (l : List Nat) : (revR l).length = l.length := by unfold revR; simp
theorem revR_get {l : List Nat} {j i : Nat} (hj : j < l.length) (hi : i = l.length - 1 - j) : (revR l).getD i default = .int .i64 ((l.getD j 0 : Nat) : Int) := by
  subst hi
  unfold revR
  rw [List.getD_eq_getElem?_getD, List.getElem?_map, List.getElem?_reverse (by omega), List.getD_eq_getElem?_getD, show l.length - 1 - (l.length - 1 - j) = j by omega, List.getElem?_eq_getElem hj]; rfl
theorem revR_set {l : List Nat} {j i v : Nat} (hj : j < l.length) (hi : i = l.length - 1 - j) : (revR l).set i (.int .i64 (v : Int)) = revR (l.set j v) := by
  subst hi
  unfold revR
  rw [show (PV.int .i64 (v : Int)) = Kn.nV v from rfl, ← List.map_set]
  congr 1
  refine List.ext_getElem? fun k => ?_
  rw [List.getElem?_set]
  by_cases hk : k < l.length
  · have e1 : (l.set j v).reverse[k]? = (l.set j v)[(l.set j v).length - 1 - k]? := List.getElem?_reverse (by simpa using hk)
    rw [e1, List.getElem?_reverse hk, List.length_set, List.getElem?_set]
    by_cases h : l.length - 1 - j = k
    · rw [if_pos h, if_pos (by simp; omega), if_pos (by omega), if_pos (by omega)]
    · rw [if_neg h, if_neg (by omega)]
  · rw [List.getElem?_eq_none (by simp; omega), List.getElem?_eq_none (l := (l.set j v).reverse) (by simp; omega), List.length_reverse]
    by_cases h : l.length - 1 - j = k
    · exact absurd h (by omega)
    · rw [if_neg h]
theorem mulL_get {o : List Nat} {i : Nat} {r : List Nat} {z : Nat} (h : i + r.length < o.length) : (mulR o i r z).getD (i + r.length) 0 = o.getD (i + r.length) 0 := by
  have hl : (o.take i ++ r).length = i + r.length := by simp; omega
  unfold mulR
  rw [List.getD_eq_getElem?_getD, List.append_assoc, List.getElem?_append_right (by omega), hl, Nat.sub_self, List.drop_eq_getElem_cons h, List.getD_eq_getElem?_getD, List.getElem?_eq_getElem h]; rfl
theorem mulL_set {o : List Nat} {i : Nat} {r : List Nat} {z v : Nat} (h : i + r.length < o.length) : (mulR o i r z).set (i + r.length) v = mulR o i (r ++ [v]) z := by
  have hl : (o.take i ++ r).length = i + r.length := by simp; omega
  unfold mulR
  rw [List.append_assoc (o.take i ++ r), List.set_append_right _ _ (by omega), hl, Nat.sub_self, List.drop_eq_getElem_cons h]
  simp [Nat.add_assoc]
theorem mulL_end {o : List Nat} {i : Nat} {r : List Nat} {z v : Nat} (h : i + r.length = o.length) : (mulR o i r (z + 1)).set (i + r.length) v = (o.take i ++ r ++ [v]) ++ List.replicate z 0 := by
  have hl : (o.take i ++ r).length = i + r.length := by simp; omega
  unfold mulR
  rw [h, List.drop_length, List.append_nil, ← h, List.set_append_right _ _ (by omega), hl, Nat.sub_self, List.replicate_succ]
  simp
theorem mulL_end0 {o : List Nat} {i : Nat} {r : List Nat} {z : Nat} (h : i + r.length = o.length) : (mulR o i r (z + 1)).getD (i + r.length) 0 = 0 := by
  have hl : (o.take i ++ r).length = i + r.length := by simp; omega
  unfold mulR
  rw [h, List.drop_length, List.append_nil, ← h, List.getD_eq_getElem?_getD, List.getElem?_append_right (by omega), hl, Nat.sub_self, List.replicate_succ]
  rfl
theorem and255 (s : Nat) (hs : s < 9223372036854775808) : bitsV .and .i64 (s : Int) 255 = ((s % 256 : Nat) : Int) := by
  have e : (BitVec.ofInt 64 (s : Int) &&& BitVec.ofInt 64 255).toNat = s % 256 := by
    have h255 : BitVec.ofInt 64 255 = BitVec.ofNat 64 255 := by decide
    rw [h255, BitVec.toNat_and, BitVec.ofInt_natCast, BitVec.toNat_ofNat, BitVec.toNat_ofNat, Nat.mod_eq_of_lt (by omega : s < 2 ^ 64)]
    have := Nat.and_two_pow_sub_one_eq_mod s 8
    have e8 : 255 % 2 ^ 64 = 2 ^ 8 - 1 := by decide
    rw [e8, this]
  show IntKind.wrap .i64 ((BitVec.ofInt 64 (s : Int) &&& BitVec.ofInt 64 255).toNat : Nat) = _
  rw [e]
  exact AM.InR.wrap (k := .i64) (by simp only [AM.InR]; omega)

def headR (n : Nat) (L : List Nat) : List PV := (L ++ List.replicate (n - L.length) 0).map u8d
theorem headR_len {n : Nat} {L : List Nat} (h : L.length ≤ n) : (headR n L).length = n := by unfold headR; simp; omega
theorem headR_set {n d : Nat} {L : List Nat} (h : L.length < n) : (headR n L).set L.length (u8d d) = headR n (L ++ [d]) := by
  unfold headR
  obtain ⟨z, hz⟩ : ∃ z, n - L.length = z + 1 := ⟨n - L.length - 1, by omega⟩
  have hz2 : n - (L ++ [d]).length = z := by simp; omega
  rw [hz2, hz, List.replicate_succ, List.map_append, List.map_append, List.set_append_right _ _ (by simp)]
  simp

theorem q108 (A C : List UInt8) (hA : A.length ≤ 1000) (hC : C.length ≤ 1000) : PFn Tryz.prog 108 [.str A, .str C] [.str (magB (beN A * beN C))] := by
  obtain ⟨la, hla⟩ : ∃ n, n = A.length := ⟨_, rfl⟩
  obtain ⟨lb, hlb⟩ : ∃ n, n = C.length := ⟨_, rfl⟩
  have hx : ∀ d ∈ lebs A, d < 256 := lebs_lt A
  have hy : ∀ d ∈ lebs C, d < 256 := lebs_lt C
  have lx : (lebs A).length = la := by rw [lebs_len, hla]
  have ly : (lebs C).length = lb := by rw [lebs_len, hlb]
  have eL : ((la : Int) + (lb : Int)).toNat = la + lb := by omega
  refine PFn.of_body hΓ Tryz.func108 (by kernel_rfl) rfl (AWp.seq (AWp.of_awpD [] hΓ hmix (by kernel_rfl) ?_))
  simp -implicitDefEqProofs only [Tryz.ntmps108, Tryz.results108, Nat.reduceAdd, Nat.reduceSub, go_sem]
  refine AWp.seq (AWp.of_awpD [] hΓ hmix (by kernel_rfl) ?_)
  simp -implicitDefEqProofs only [← hla, ← hlb, eL, go_sem]
  refine ⟨by simp only [InR]; omega, ⟨by omega, by omega, by omega⟩, ?_⟩
  refine AWp.seq (AWp.seq (AWp.of_awpD [] hΓ hmix (by kernel_rfl) ?_))
  simp -implicitDefEqProofs only [← hla, ← hlb, go_sem]
  refine ⟨by simp only [InR]; omega, ?_⟩
  refine AWp.block ?_
  refine AWp.loopI (fun z : Nat × List Nat => ⟨mkF 87 [(0, .p (.str A)), (1, .p (.str C)), (5, .own 0 (la + lb)), (6, .p (.int .i64 ((la : Int) - 1 - z.1)))], [.row 3 1 (revR (z.2 ++ List.replicate (la - z.1) 0)) .own]⟩)
    (fun z => z.1 ≤ la ∧ z.2.length = z.1 + lb ∧ (∀ d ∈ z.2, d < 256) ∧ valD 256 z.2 = valD 256 ((lebs A).take z.1) * valD 256 (lebs C)) (fun z => la - z.1) (0, List.replicate lb 0) (by
      simp [go_sem, revR, Kn.nV, List.replicate_append_replicate, Nat.add_comm]) ⟨by simp, by simp, fun d hd => by rw [List.eq_of_mem_replicate hd]; decide, by simp [valD, valD_zeros]⟩ ?_
  rintro ⟨p, o⟩ ⟨hi, ho, hod, hval⟩
  simp only at hi ho hod hval
  refine AWp.of_awpD [(9, 19)] hΓ hmix (by kernel_rfl) ?_
  by_cases hlt : p < la
  · have hge : (0 : Int) ≤ (la : Int) - 1 - (p : Int) := by omega
    have ta := valD_take (l := lebs A) 256 p
    have gA : (A.getD ((la : Int) - 1 - (p : Int)).toNat 0).toNat = (lebs A).getD p 0 := by
      rw [lebs_get (by omega)]; congr 2; omega
    have da : (lebs A).getD p 0 < 256 := getD_lebs _ _
    generalize (lebs A).getD p 0 = a at *
    have hwa : IntKind.i64.wrap (a : Int) = a := InR.wrap (k := .i64) (by simp only [InR]; omega)
    simp -implicitDefEqProofs only [hge, ← hla, ← hlb, go_sem]
    refine ⟨by simp only [InR]; omega, ?_⟩
    refine AWp.loopI (fun z : List Nat × Nat => ⟨mkF 87 [(0, .p (.str A)), (1, .p (.str C)), (5, .own 0 (la + lb)), (6, .p (.int .i64 ((la : Int) - 1 - p))), (7, .p (.int .i64 z.2)), (8, .p (.int .i64 ((lb : Int) - 1 - (z.1.length : Int))))], [.row 3 1 (revR (mulR o p z.1 (la - p))) .own]⟩)
      (fun z => z.1.length ≤ lb ∧ (∀ d ∈ z.1, d < 256) ∧ z.2 < 256 ∧ valD 256 z.1 + z.2 * 256 ^ z.1.length = valD 256 ((o.drop p).take z.1.length) + a * valD 256 ((lebs C).take z.1.length)) (fun z => lb - z.1.length) ([], 0) (by
        simp [go_sem, mulR_nil]) ⟨by simp, by simp, by decide, by simp [valD]⟩ ?_
    rintro ⟨r, c⟩ ⟨hr, hrd, hc, hv⟩
    simp only at hr hrd hc hv
    refine AWp.of_awpD [(9, 19)] hΓ hmix (by kernel_rfl) ?_
    by_cases hlt2 : r.length < lb
    · have hge2 : (0 : Int) ≤ (lb : Int) - 1 - (r.length : Int) := by omega
      have tc := valD_take (l := lebs C) 256 r.length
      have gC : (C.getD ((lb : Int) - 1 - (r.length : Int)).toNat 0).toNat = (lebs C).getD r.length 0 := by
        rw [lebs_get (by omega)]; congr 2; omega
      have dc : (lebs C).getD r.length 0 < 256 := getD_lebs _ _
      have hio : p + r.length < o.length := by omega
      have to := valD_take (l := o.drop p) 256 r.length
      have hgo2 : (o.drop p).getD r.length 0 = o.getD (p + r.length) 0 := by
        rw [List.getD_eq_getElem?_getD, List.getElem?_drop, List.getD_eq_getElem?_getD]
      have hlen := mulR_len (z := la - p) (Nat.le_of_lt hio)
      have hgo : (revR (mulR o p r (la - p))).getD ((la : Int) - 1 - (p : Int) + ((lb : Int) - 1 - (r.length : Int)) + 1).toNat default = .int .i64 ((o.getD (p + r.length) 0 : Nat) : Int) := by
        rw [revR_get (j := p + r.length) (by rw [hlen]; omega) (by rw [hlen]; omega), mulL_get hio]
      have dO : o.getD (p + r.length) 0 < 256 := by
        rw [List.getD_eq_getElem?_getD, List.getElem?_eq_getElem hio, Option.getD_some]; exact hod _ (List.getElem_mem hio)
      rw [hgo2] at to
      generalize (lebs C).getD r.length 0 = b at *
      generalize hqv : o.getD (p + r.length) 0 = qv at *
      have hab : a * b ≤ 255 * 255 := Nat.mul_le_mul (by omega) (by omega)
      obtain ⟨ab, habE⟩ : ∃ ab, ab = a * b := ⟨_, rfl⟩
      rw [← habE] at hab
      have habI : (a : Int) * (b : Int) = (ab : Int) := by rw [habE]; simp
      have hwb : IntKind.i64.wrap (b : Int) = b := InR.wrap (k := .i64) (by simp only [InR]; omega)
      obtain ⟨s, hs⟩ : ∃ s, s = c + (qv + ab) := ⟨_, rfl⟩
      have hsI : (c : Int) + ((qv : Int) + (ab : Int)) = (s : Int) := by omega
      have hsd : (s : Int) / 2 ^ Int.toNat 8 = ((s / 256 : Nat) : Int) := by
        have : (2 : Int) ^ Int.toNat 8 = ((256 : Nat) : Int) := rfl
        rw [this, Int.natCast_ediv]
      have h255 := and255 s (by omega)
      have hset : (revR (mulR o p r (la - p))).set ((la : Int) - 1 - (p : Int) + ((lb : Int) - 1 - (r.length : Int)) + 1).toNat (.int .i64 ((s % 256 : Nat) : Int)) = revR (mulR o p (r ++ [s % 256]) (la - p)) := by
        rw [revR_set (j := p + r.length) (by rw [hlen]; omega) (by rw [hlen]; omega), mulL_set hio]
      simp -implicitDefEqProofs only [hge2, gA, gC, hwa, hwb, habI, hgo, hsI, h255, hsd, hset, ← hla, ← hlb, revR_len, hlen, go_sem]
      have hvv : valD 256 (r ++ [s % 256]) + s / 256 * 256 ^ (r.length + 1) = valD 256 ((o.drop p).take (r.length + 1)) + a * valD 256 ((lebs C).take (r.length + 1)) := by
        rw [to, tc, valD_append, Nat.pow_succ]
        have e1 : valD 256 [s % 256] = s % 256 := by simp [valD]
        rw [e1]
        have e2 : s % 256 + 256 * (s / 256) = s := Nat.mod_add_div s 256
        generalize hP : 256 ^ r.length = P at *
        have e3 : P * (s % 256) + s / 256 * (P * 256) = P * s := by
          conv => rhs; rw [← e2, Nat.mul_add]
          rw [Nat.mul_comm (s / 256), Nat.mul_assoc]
        have e4 : P * s = c * P + (qv * P + ab * P) := by rw [hs, Nat.mul_comm, Nat.add_mul, Nat.add_mul]
        have e5 : a * (valD 256 ((lebs C).take r.length) + b * P) = a * valD 256 ((lebs C).take r.length) + ab * P := by rw [Nat.mul_add, habE, Nat.mul_assoc]
        omega
      have hcb : s / 256 < 256 := by omega
      refine ⟨by simp only [InR]; omega, by simp only [InR]; omega, ⟨by omega, by omega⟩, by omega, ⟨by omega, by omega⟩, by omega, by simp only [InR]; omega, by simp only [InR]; omega, by simp only [InR]; omega, by simp only [InR]; omega, by simp only [InR]; omega, ⟨by omega, by omega⟩, ⟨by omega, rfl⟩, ⟨by decide, by decide⟩, by simp only [InR]; omega,
        (r ++ [s % 256], s / 256), ⟨⟨rfl, by simp; omega⟩, .inl rfl⟩, ⟨by simp; omega, fun d hd => ?_, hcb, by simpa using hvv⟩, by simp; omega⟩
      rcases List.mem_append.1 hd with hd | hd
      · exact hrd d hd
      · rw [List.mem_singleton] at hd; subst hd; exact Nat.mod_lt _ (by decide)
    · have hrn : r.length = lb := by omega
      have hz : ¬ (0 : Int) ≤ (lb : Int) - 1 - (r.length : Int) := by omega
      have hpo : p + r.length = o.length := by omega
      have hlen := mulR_len (z := la - p) (Nat.le_of_eq hpo)
      have hld : (revR (mulR o p r (la - p))).getD ((la : Int) - 1 - (p : Int)).toNat default = .int .i64 ((0 : Nat) : Int) := by
        rw [revR_get (j := p + r.length) (by rw [hlen]; omega) (by rw [hlen]; omega)]
        have := mulL_end0 (o := o) (i := p) (r := r) (z := la - (p + 1)) hpo
        rw [show la - (p + 1) + 1 = la - p by omega] at this
        rw [this]
      have hset : (revR (mulR o p r (la - p))).set ((la : Int) - 1 - (p : Int)).toNat (.int .i64 (c : Int)) = revR ((o.take p ++ r ++ [c]) ++ List.replicate (la - (p + 1)) 0) := by
        rw [revR_set (j := p + r.length) (by rw [hlen]; omega) (by rw [hlen]; omega)]
        have := mulL_end (o := o) (i := p) (r := r) (z := la - (p + 1)) (v := c) hpo
        rw [show la - (p + 1) + 1 = la - p by omega] at this
        rw [this]
      rw [hrn] at hv
      have hvt : (o.drop p).take lb = o.drop p := List.take_of_length_le (by simp; omega)
      rw [hvt, List.take_of_length_le (by omega : (lebs C).length ≤ lb)] at hv
      have hvo := valD_split 256 p o
      have htl : (o.take p).length = p := by simp; omega
      rw [htl] at hvo
      have hvn : valD 256 (o.take p ++ r ++ [c]) = valD 256 ((lebs A).take (p + 1)) * valD 256 (lebs C) := by
        rw [valD_append, valD_append, htl, ta]
        have e1 : valD 256 [c] = c := by simp [valD]
        have e2 : (o.take p ++ r).length = p + lb := by simp [htl, hrn]
        rw [e1, e2, Nat.pow_add]
        generalize 256 ^ p = P at *
        generalize 256 ^ lb = Q at *
        have e3 : P * (valD 256 r + c * Q) = P * (valD 256 (o.drop p) + a * valD 256 (lebs C)) := by rw [hv]
        rw [Nat.mul_add, Nat.mul_add] at e3
        have e4 : P * Q * c = P * (c * Q) := by rw [Nat.mul_assoc, Nat.mul_comm Q]
        have e5 : (valD 256 ((lebs A).take p) + a * P) * valD 256 (lebs C) = valD 256 ((lebs A).take p) * valD 256 (lebs C) + P * (a * valD 256 (lebs C)) := by
          rw [Nat.add_mul, Nat.mul_comm a P, Nat.mul_assoc]
        rw [e4, e5, ← hval]
        omega
      have h0c : ((0 : Nat) : Int) + (c : Int) = (c : Int) := by omega
      simp -implicitDefEqProofs only [hz, hld, h0c, hset, revR_len, hlen, ← hla, ← hlb, go_sem]
      refine ⟨⟨by omega, by omega⟩, by omega, by simp only [InR]; omega, ⟨by omega, by omega⟩, ⟨by omega, rfl⟩, by simp only [InR]; omega, (p + 1, o.take p ++ r ++ [c]), ⟨by simp only; omega, .inl rfl⟩, ⟨hlt, by simp [htl, hrn]; omega, fun d hd => ?_, hvn⟩, by simp only; omega⟩
      rcases List.mem_append.1 hd with hd | hd
      · rcases List.mem_append.1 hd with hd | hd
        · exact hod d (List.mem_of_mem_take hd)
        · exact hrd d hd
      · rw [List.mem_singleton] at hd; subst hd; exact hc
  · have hpn : p = la := by omega
    have hz : ¬ (0 : Int) ≤ (la : Int) - 1 - (p : Int) := by omega
    have hrow : o ++ List.replicate (la - p) 0 = o := by rw [hpn]; simp
    rw [hpn, List.take_of_length_le (by omega : (lebs A).length ≤ la)] at hval
    have hol : o.length = la + lb := by omega
    rw [hrow]
    simp -implicitDefEqProofs only [hz, ← hla, ← hlb, go_sem]
    refine AWp.seq (AWp.of_awpD [] hΓ hmix (by kernel_rfl) ?_)
    simp -implicitDefEqProofs only [revR_len, hol, Int.toNat_natCast, go_sem]
    refine ⟨⟨by omega, by omega⟩, ?_⟩
    refine AWp.seq (AWp.seq (AWp.of_awpD [] hΓ hmix (by kernel_rfl) ?_))
    simp -implicitDefEqProofs only [go_sem]
    refine AWp.block ?_
    obtain ⟨n, hn⟩ : ∃ n, n = la + lb := ⟨_, rfl⟩
    rw [← hn]
    rw [← hn] at hol
    have hDl : o.reverse.length = n := by rw [List.length_reverse, hol]
    refine AWp.loopI (fun i : Nat => ⟨mkF 87 [(5, .own 0 n), (9, .own 1 n), (10, .p (.int .i64 i))], [.row 3 1 (revR o) .own, .row 5 1 (headR n (o.reverse.take i)) .own]⟩)
      (fun i => i ≤ n) (fun i => n - i) 0 (by simp [go_sem, headR, u8d]) (Nat.zero_le _) ?_
    intro i hin
    simp -implicitDefEqProofs only [go_sem]
    refine AWp.of_awpD [] hΓ hmix (by kernel_rfl) ?_
    by_cases hlt3 : i < n
    · have hlt3' : (i : Int) < (n : Int) := by omega
      have hiD : i < o.reverse.length := by omega
      have hg : (revR o).getD i default = .int .i64 ((o.reverse[i] : Nat) : Int) := getD_map_lt _ _ _ _ hiD
      have hd256 : o.reverse[i] < 256 := hod _ (List.mem_reverse.1 (List.getElem_mem hiD))
      have hw8 : IntKind.u8.wrap ((o.reverse[i] : Nat) : Int) = ((o.reverse[i] : Nat) : Int) := by rw [wrapu8, Nat.mod_eq_of_lt hd256]
      have htk : o.reverse.take (i + 1) = o.reverse.take i ++ [o.reverse[i]] := List.take_succ_eq_append_getElem hiD
      have htl : (o.reverse.take i).length = i := by rw [List.length_take]; omega
      have hset : (headR n (o.reverse.take i)).set i (.int .u8 ((o.reverse[i] : Nat) : Int)) = headR n (o.reverse.take (i + 1)) := by
        have := headR_set (n := n) (d := o.reverse[i]) (L := o.reverse.take i) (by omega)
        rw [htl] at this
        rw [htk]; exact this
      have hhl := headR_len (n := n) (L := o.reverse.take i) (by omega)
      simp -implicitDefEqProofs only [hlt3', hg, hw8, Int.toNat_natCast, hset, revR_len, hol, hhl, go_sem]
      exact ⟨hlt3, ⟨hlt3, rfl⟩, by simp only [InR]; omega, i + 1, ⟨by omega, .inl rfl⟩, by omega, by omega⟩
    · have hin2 : i = n := by omega
      have hlt3' : ¬ (i : Int) < (n : Int) := by omega
      have hrow2 : headR n (o.reverse.take i) = o.reverse.map u8d := by
        rw [List.take_of_length_le (by omega)]
        unfold headR
        rw [hDl, Nat.sub_self]; simp
      have hod2 : ∀ d ∈ o.reverse, d < 256 := fun d hd => hod d (List.mem_reverse.1 hd)
      have hval2 : beN (o.reverse.map UInt8.ofNat) = beN A * beN C := by
        rw [bytes_of _ hod2, List.reverse_reverse, hval, beN_magNat, beN_magNat]; rfl
      have e113 := q113 (o.reverse.map UInt8.ofNat) (by simp; omega)
      rw [hval2] at e113
      have hmap : o.reverse.map u8d = (o.reverse.map UInt8.ofNat).map u8V := by
        rw [List.map_map]
        refine List.map_congr_left fun d hd => ?_
        have := hod2 d hd
        show PV.int .u8 (d : Int) = PV.int .u8 ((UInt8.ofNat d).toNat : Int)
        rw [UInt8.toNat_ofNat', Nat.mod_eq_of_lt this]
      rw [hrow2]
      simp -implicitDefEqProofs only [hlt3', revR_len, hol, go_sem]
      refine AWp.seq (AWp.of_awpD [] hΓ hmix (by kernel_rfl) ?_)
      simp -implicitDefEqProofs only [go_sem]
      refine ⟨⟨5, rfl, rfl⟩, _, hmap, callK_fn e113 (.pures rfl) ?_⟩
      simp -implicitDefEqProofs only [go_sem]
      refine AWp.of_awpD [] hΓ hmix (by kernel_rfl) ?_
      simp -implicitDefEqProofs only [go_sem]
end Go.Proofs.YtnaekjbbakofdaaGreat
end

section
namespace Go.Proofs.YtnaekjbbakofdaaGreat
open Go Go.AM Go.RowKit
set_option maxRecDepth 100000
set_option maxHeartbeats 4000000
set_option linter.unusedSimpArgs false

theorem small_of {n : Nat} (h : (magB n).length < 8) : n < 256 ^ 7 := Nat.lt_of_lt_of_le (mag_high n) (Nat.pow_le_pow_right (by decide) (by omega))

theorem q72 (a b : Nat) (ha : a < capN) (hb : b < capN) : PFn Tryz.prog 72 [intN false a, intN false b] [intN false (a + b)] := by
  have ea := u96 a
  have eb := u96 b
  by_cases hs : (magB a).length < 8 ∧ (magB b).length < 8
  · have h7a := small_of hs.1
    have h7b := small_of hs.2
    have va := u110 a h7a
    have vb := u110 b h7b
    have eo := u76 (a + b) (by omega)
    have hi : InR IntKind.i64 ((a : Int) + b) := by simp only [InR]; omega
    have la : ((magB a).length : Int) < 8 := by omega
    have lb : ((magB b).length : Int) < 8 := by omega
    rw [Int.natCast_add] at eo
    simp only [intF] at ea eb va vb eo ⊢
    generalize magB (a + b) = zz at *
    generalize magB a = x at *
    generalize magB b = y at *
    refine PFn.of_body hΓ Tryz.func72 (by kernel_rfl) rfl (AWp.seq (AWp.of_awpD [] hΓ hmix (by kernel_rfl) ?_))
    simp -implicitDefEqProofs only [Tryz.ntmps72, Tryz.results72, Nat.reduceAdd, Nat.reduceSub, go_sem]
    refine AWp.of_awpD [(1, 4), (3, 6), (5, 8), (10, 8), (11, 8)] hΓ hmix (by kernel_rfl) ?_
    simp -implicitDefEqProofs only [la, lb, go_sem]
    refine callVPK_fn ea (.still rfl) ?_
    simp -implicitDefEqProofs only [la, lb, go_sem]
    refine callVPK_fn eb (.still rfl) ?_
    simp -implicitDefEqProofs only [la, lb, go_sem]
    refine callVPK_fn va (.still rfl) ?_
    simp -implicitDefEqProofs only [la, lb, go_sem]
    refine callVPK_fn vb (.still rfl) ?_
    simp -implicitDefEqProofs only [go_sem]
    refine ⟨hi, callVPK_fn eo (.still rfl) ?_⟩
    simp -implicitDefEqProofs only [go_sem]
  · have e106 := q106 (magB a) (magB b) (by have := cap_mag ha; omega) (by have := cap_mag hb; omega)
    rw [beN_magB, beN_magB] at e106
    simp only [intF] at ea eb ⊢
    generalize magB (a + b) = zz at *
    generalize magB a = x at *
    generalize magB b = y at *
    refine PFn.of_body hΓ Tryz.func72 (by kernel_rfl) rfl (AWp.seq (AWp.of_awpD [] hΓ hmix (by kernel_rfl) ?_))
    simp -implicitDefEqProofs only [Tryz.ntmps72, Tryz.results72, Nat.reduceAdd, Nat.reduceSub, go_sem]
    refine AWp.of_awpD [(1, 4), (3, 6), (5, 8), (10, 8), (11, 8)] hΓ hmix (by kernel_rfl) ?_
    by_cases hx : x.length < 8
    · have hy : ¬ y.length < 8 := fun h => hs ⟨hx, h⟩
      have lx : (x.length : Int) < 8 := by omega
      have ly : ¬ (y.length : Int) < 8 := by omega
      simp -implicitDefEqProofs only [lx, ly, go_sem]
      refine callVPK_fn ea (.still rfl) ?_
      simp -implicitDefEqProofs only [lx, ly, go_sem]
      refine callVPK_fn eb (.still rfl) ?_
      simp -implicitDefEqProofs only [lx, ly, beq_self_eq_true, go_sem]
      refine callVPK_fn e106 (.still rfl) ?_
      simp -implicitDefEqProofs only [go_sem]
      omega
    · have lx : ¬ (x.length : Int) < 8 := by omega
      simp -implicitDefEqProofs only [lx, go_sem]
      refine callVPK_fn ea (.still rfl) ?_
      simp -implicitDefEqProofs only [lx, go_sem]
      refine callVPK_fn eb (.still rfl) ?_
      simp -implicitDefEqProofs only [lx, beq_self_eq_true, go_sem]
      refine callVPK_fn e106 (.still rfl) ?_
      simp -implicitDefEqProofs only [go_sem]
      omega

theorem q73 (a b : Nat) (ha : a < capN) (hb : b < capN) : PFn Tryz.prog 73 [intN false a, intN false b] [intN false (a * b)] := by
  have ea := u96 a
  have eb := u96 b
  by_cases hz : a = 0 ∨ b = 0
  · have h0 : a * b = 0 := by rcases hz with h | h <;> subst h <;> simp
    rw [h0]
    simp only [intF] at ea eb ⊢
    rw [magB_zero]
    by_cases ha0 : a = 0
    · subst ha0
      rw [magB_zero] at ea ⊢
      generalize magB b = y at *
      refine PFn.of_body hΓ Tryz.func73 (by kernel_rfl) rfl (AWp.seq (AWp.of_awpD [] hΓ hmix (by kernel_rfl) ?_))
      simp -implicitDefEqProofs only [Tryz.ntmps73, Tryz.results73, Nat.reduceAdd, Nat.reduceSub, go_sem]
      refine AWp.of_awpD [(1, 4), (5, 6), (6, 10)] hΓ hmix (by kernel_rfl) ?_
      simp -implicitDefEqProofs only [go_sem]
      refine callVPK_fn ea (.still rfl) ?_
      simp -implicitDefEqProofs only [go_sem]
      refine callVPK_fn eb (.still rfl) ?_
      simp -implicitDefEqProofs only [go_sem]
    · have hb0 : b = 0 := hz.resolve_left ha0
      subst hb0
      rw [magB_zero] at eb ⊢
      have hx : ¬ magB a = [] := fun e => ha0 (magB_nil e)
      generalize magB a = x at *
      refine PFn.of_body hΓ Tryz.func73 (by kernel_rfl) rfl (AWp.seq (AWp.of_awpD [] hΓ hmix (by kernel_rfl) ?_))
      simp -implicitDefEqProofs only [Tryz.ntmps73, Tryz.results73, Nat.reduceAdd, Nat.reduceSub, go_sem]
      refine AWp.of_awpD [(1, 4), (5, 6), (6, 10)] hΓ hmix (by kernel_rfl) ?_
      simp -implicitDefEqProofs only [go_sem]
      refine callVPK_fn ea (.still rfl) ?_
      simp -implicitDefEqProofs only [go_sem]
      refine callVPK_fn eb (.still rfl) ?_
      simp -implicitDefEqProofs only [hx, go_sem]
  have hx : ¬ magB a = [] := fun e => hz (.inl (magB_nil e))
  have hy : ¬ magB b = [] := fun e => hz (.inr (magB_nil e))
  by_cases hs : (magB a).length + (magB b).length < 8
  · have pa := List.length_pos_iff.2 hx
    have pb := List.length_pos_iff.2 hy
    have h7a := small_of (n := a) (by omega)
    have h7b := small_of (n := b) (by omega)
    have va := u110 a h7a
    have vb := u110 b h7b
    have hab : a * b < 256 ^ 7 := by
      have h1 := mag_high a
      have h2 := mag_high b
      have h3 : a * b < 256 ^ (magB a).length * 256 ^ (magB b).length := Nat.mul_lt_mul'' h1 h2
      rw [← Nat.pow_add] at h3
      exact Nat.lt_of_lt_of_le h3 (Nat.pow_le_pow_right (by decide) (by omega))
    have eo := u76 (a * b) (by omega)
    have hi : InR IntKind.i64 ((a : Int) * b) := by
      rw [← Int.natCast_mul]; simp only [InR]; omega
    have ls : ((magB a).length : Int) + ((magB b).length : Int) < 8 := by omega
    have li : InR IntKind.i64 (((magB a).length : Int) + ((magB b).length : Int)) := by simp only [InR]; omega
    rw [Int.natCast_mul] at eo
    simp only [intF] at ea eb va vb eo ⊢
    generalize magB (a * b) = zz at *
    generalize magB a = x at *
    generalize magB b = y at *
    refine PFn.of_body hΓ Tryz.func73 (by kernel_rfl) rfl (AWp.seq (AWp.of_awpD [] hΓ hmix (by kernel_rfl) ?_))
    simp -implicitDefEqProofs only [Tryz.ntmps73, Tryz.results73, Nat.reduceAdd, Nat.reduceSub, go_sem]
    refine AWp.of_awpD [(1, 4), (5, 6), (6, 10)] hΓ hmix (by kernel_rfl) ?_
    simp -implicitDefEqProofs only [go_sem]
    refine callVPK_fn ea (.still rfl) ?_
    simp -implicitDefEqProofs only [go_sem]
    refine callVPK_fn eb (.still rfl) ?_
    simp -implicitDefEqProofs only [hx, hy, ls, go_sem]
    refine ⟨li, callVPK_fn va (.still rfl) ?_⟩
    simp -implicitDefEqProofs only [go_sem]
    refine callVPK_fn vb (.still rfl) ?_
    simp -implicitDefEqProofs only [go_sem]
    refine ⟨hi, callVPK_fn eo (.still rfl) ?_⟩
    simp -implicitDefEqProofs only [go_sem]
  · have ca := cap_mag ha
    have cb := cap_mag hb
    have e108 := q108 (magB a) (magB b) (by omega) (by omega)
    rw [beN_magB, beN_magB] at e108
    have ls : ¬ ((magB a).length : Int) + ((magB b).length : Int) < 8 := by omega
    have li : InR IntKind.i64 (((magB a).length : Int) + ((magB b).length : Int)) := by simp only [InR]; omega
    simp only [intF] at ea eb ⊢
    generalize magB (a * b) = zz at *
    generalize magB a = x at *
    generalize magB b = y at *
    refine PFn.of_body hΓ Tryz.func73 (by kernel_rfl) rfl (AWp.seq (AWp.of_awpD [] hΓ hmix (by kernel_rfl) ?_))
    simp -implicitDefEqProofs only [Tryz.ntmps73, Tryz.results73, Nat.reduceAdd, Nat.reduceSub, go_sem]
    refine AWp.of_awpD [(1, 4), (5, 6), (6, 10)] hΓ hmix (by kernel_rfl) ?_
    simp -implicitDefEqProofs only [go_sem]
    refine callVPK_fn ea (.still rfl) ?_
    simp -implicitDefEqProofs only [go_sem]
    refine callVPK_fn eb (.still rfl) ?_
    simp -implicitDefEqProofs only [hx, hy, ls, go_sem]
    refine ⟨li, callVPK_fn e108 (.still rfl) ?_⟩
    simp -implicitDefEqProofs only [go_sem]
    exact ⟨by omega, rfl⟩
end Go.Proofs.YtnaekjbbakofdaaGreat
end

section
namespace Go.Proofs.YtnaekjbbakofdaaGreat
open Go Go.AM Go.RowKit
set_option maxRecDepth 100000
set_option maxHeartbeats 4000000
set_option linter.unusedSimpArgs false

theorem e59n (n : Nat) (hn : n < capN) (h0 : n ≠ 0) : PFn Tryz.prog 59 [intN true n, intN false 0] [intN true n] := by
  have ea := u69n true n hn
  have eb := u69n false 0 capN_pos
  have la := cap_dig hn
  have ec := u106 (digD B32 n) (digD B32 0) (digD_canon (by decide) n) (digD_canon (by decide) 0) (by omega) (by rw [digD_zero]; simp)
  rw [digD_val (by decide), digD_val (by decide)] at ec
  have e1 := u107 (digD B32 n) (digD B32 0) (dig_lt n) (dig_lt 0) (by omega) (by rw [digD_zero]; simp) (by rw [digD_val (by decide), digD_val (by decide)]; omega)
  rw [digD_val (by decide), digD_val (by decide), Nat.sub_zero] at e1
  have e2 := u66 true (digD B32 n) (dig_lt _) (by omega)
  rw [digD_val (by decide)] at e2
  rw [intN_neg h0] at ea e2 ⊢
  have hz : intN false 0 = .agg [.bool false, .str []] := rfl
  rw [hz] at eb ⊢
  have hm1 : ¬ cmpN n 0 < 0 := by unfold cmpN; rw [if_neg (by omega)]; split <;> decide
  have hft : (true == false) = false := rfl
  refine PFn.of_body hΓ Tryz.func59 (by kernel_rfl) rfl (AWp.seq (AWp.of_awpD [] hΓ hmix (by kernel_rfl) ?_))
  simp -implicitDefEqProofs only [Tryz.ntmps59, Tryz.results59, Nat.reduceAdd, Nat.reduceSub, go_sem]
  refine AWp.of_awpD [(1, 6), (3, 6), (5, 6), (6, 6)] hΓ hmix (by kernel_rfl) ?_
  simp -implicitDefEqProofs only [go_sem]
  refine callVPK_fn ea (.still rfl) ?_
  simp -implicitDefEqProofs only [go_sem]
  refine callVPK_fn eb (.still rfl) ?_
  simp -implicitDefEqProofs only [hft, go_sem]
  refine callK_fn ec (.pures rfl) ?_
  simp -implicitDefEqProofs only [hm1, go_sem]
  refine callVPK_fn e1 (.pures rfl) ?_
  simp -implicitDefEqProofs only [go_sem]
  refine callVPK_fn e2 (.pures rfl) ?_
  simp -implicitDefEqProofs only [go_sem]
theorem e53n (n : Nat) (hn : n < capN) (h0 : n ≠ 0) : PFn Tryz.prog 53 [intN true n, intN false 0] [intN true n] := by
  have e1 := u90 0 capN_pos
  have e2 := e59n n hn h0
  have hz : intN false 0 = .agg [.bool false, .str []] := rfl
  have hz2 : intN true 0 = .agg [.bool false, .str []] := rfl
  rw [hz, hz2] at e1
  rw [intN_neg h0, hz] at e2 ⊢
  refine PFn.of_body hΓ Tryz.func53 (by kernel_rfl) rfl (AWp.of_awpD [(1, 4)] hΓ hmix (by kernel_rfl) ?_)
  simp -implicitDefEqProofs only [Tryz.ntmps53, Tryz.results53, Nat.reduceAdd, Nat.reduceSub, go_sem]
  refine callVPK_fn e1 (.still rfl) ?_
  simp -implicitDefEqProofs only [go_sem]
  refine callVPK_fn e2 (.still rfl) ?_
  simp -implicitDefEqProofs only [go_sem]
theorem e25n (n : Nat) (hn : n < capN) (h0 : n ≠ 0) : PFn Tryz.prog 25 [intN true n, intN false 0] [.int .i64 (-1)] := by
  have e := e53n n hn h0
  have hz : intN false 0 = .agg [.bool false, .str []] := rfl
  rw [intN_neg h0, hz] at e ⊢
  refine PFn.of_body hΓ Tryz.func25 (by kernel_rfl) rfl (AWp.of_awpD [] hΓ hmix (by kernel_rfl) ?_)
  simp -implicitDefEqProofs only [Tryz.ntmps25, Tryz.results25, Nat.reduceAdd, Nat.reduceSub, go_sem]
  refine callK_fn e (.still rfl) ?_
  simp -implicitDefEqProofs only [go_sem]

theorem q49 (cs : List Int) (hl : cs.length ≤ 1000000) : PFn Tryz.prog 49 [.sl (cs.map Kn.iV)] [.int .i64 (chkC cs)] := by
  refine PFn.of_body hΓ Tryz.func49 (by kernel_rfl) rfl (AWp.seq (AWp.of_awpD [] hΓ hmix (by kernel_rfl) ?_))
  simp -implicitDefEqProofs only [Tryz.ntmps49, Tryz.results49, Nat.reduceAdd, Nat.reduceSub, go_sem]
  refine AWp.seq (AWp.of_awpD [] hΓ hmix (by kernel_rfl) ?_)
  by_cases h1 : cs.length < 2
  · have h1' : (cs.length : Int) < 2 := by omega
    have he : chkC cs = 12 := by unfold chkC; rw [if_pos (.inl h1)]
    rw [he]
    simp -implicitDefEqProofs only [h1', List.length_map, go_sem]
  have h1' : ¬ (cs.length : Int) < 2 := by omega
  by_cases h2 : 3 < cs.length
  · have h2' : (3 : Int) < (cs.length : Int) := by omega
    have he : chkC cs = 12 := by unfold chkC; rw [if_pos (.inr h2)]
    rw [he]
    simp -implicitDefEqProofs only [h1', h2', List.length_map, go_sem]
  have h2' : ¬ (3 : Int) < (cs.length : Int) := by omega
  have he : chkC cs = if cs.any badC = true then 2 else 0 := by unfold chkC; rw [if_neg (by omega)]
  simp -implicitDefEqProofs only [h1', h2', List.length_map, go_sem]
  refine AWp.seq (AWp.seq (AWp.of_awpD [] hΓ hmix (by kernel_rfl) ?_))
  simp -implicitDefEqProofs only [go_sem]
  refine AWp.block ?_
  refine AWp.loopI (fun i : Nat => ⟨mkF 30 [(0, .p (.sl (cs.map Kn.iV))), (2, .p (.int .i64 0)), (3, .p (.int .i64 i))], []⟩)
    (fun i => i ≤ cs.length ∧ ∀ j (hj : j < cs.length), j < i → badC cs[j] = false) (fun i => cs.length - i) 0 (by simp [go_sem]) ⟨by omega, fun j _ h => by omega⟩ ?_
  intro i ⟨hi, hj0⟩
  simp -implicitDefEqProofs only [go_sem]
  refine AWp.of_awpD [] hΓ hmix (by kernel_rfl) ?_
  by_cases hlt : i < cs.length
  · have hlt' : (i : Int) < (cs.length : Int) := by omega
    have hg : (cs.map Kn.iV).getD i default = .int .i64 cs[i] := getD_map_lt _ _ _ _ hlt
    have hnext : badC cs[i] = false → ∀ j (hj : j < cs.length), j < i + 1 → badC cs[j] = false := fun hb j hj hji => by
      rcases Nat.lt_or_ge j i with h | h
      · exact hj0 j hj h
      · obtain rfl : j = i := by omega
        exact hb
    have hfound : badC cs[i] = true → chkC cs = 2 := fun hb => by rw [he, if_pos (List.any_eq_true.2 ⟨_, List.getElem_mem hlt, hb⟩)]
    by_cases b1 : cs[i] < 1
    · have hb : badC cs[i] = true := by unfold badC; simp [b1]
      rw [hfound hb]
      simp -implicitDefEqProofs only [hlt, hlt', hg, b1, Int.toNat_natCast, List.length_map, go_sem]
    by_cases b2 : 8 < cs[i]
    · have hb : badC cs[i] = true := by unfold badC; simp [b2]
      rw [hfound hb]
      simp -implicitDefEqProofs only [hlt, hlt', hg, b1, b2, Int.toNat_natCast, List.length_map, go_sem]
    have hb : badC cs[i] = false := by unfold badC; simp [b1, b2]
    simp -implicitDefEqProofs only [hlt, hlt', hg, b1, b2, Int.toNat_natCast, List.length_map, go_sem]
    exact ⟨by simp only [InR]; omega, i + 1, by omega, ⟨by omega, hnext hb⟩, by omega⟩
  have hiW : i = cs.length := by omega
  have h0 : chkC cs = 0 := by
    rw [he, if_neg]
    rw [List.any_eq_true]
    rintro ⟨x, hx, hb⟩
    obtain ⟨j, hj, rfl⟩ := List.getElem_of_mem hx
    rw [hj0 j hj (by omega)] at hb; cases hb
  rw [h0]
  subst hiW
  simp -implicitDefEqProofs only [Nat.lt_irrefl, Int.lt_irrefl, List.length_map, go_sem]
  refine AWp.of_awpD [] hΓ hmix (by kernel_rfl) ?_
  simp -implicitDefEqProofs only [go_sem]

/-! ### The weights -/
abbrev WV := Bool × List UInt8
def wV (w : WV) : PV := intV w.1 w.2
def firstW : List WV → Int
  | [] => 0
  | w :: W => if okI w.1 w.2 = false then 1 else if w.1 = true then 2 else firstW W
def chkW (cs : List Int) (W : List WV) : Int := if chkC cs ≠ 0 then chkC cs else if W.length = 0 then 5 else if 5 < W.length then 4 else firstW W
def goodW (w : WV) : Bool := okI w.1 w.2 && !w.1
theorem firstW_at : ∀ {W : List WV} {i : Nat} (hi : i < W.length), (∀ j (hj : j < i), goodW W[j] = true) → goodW W[i] = false → firstW W = if okI W[i].1 W[i].2 = false then 1 else 2
  | w :: W, 0, _, _, h => by
    show (if okI w.1 w.2 = false then 1 else if w.1 = true then 2 else firstW W) = if okI w.1 w.2 = false then 1 else 2
    by_cases h1 : okI w.1 w.2 = false
    · rw [if_pos h1, if_pos h1]
    · have h2 : w.1 = true := by
        have h : goodW w = false := h
        unfold goodW at h
        rw [(Bool.not_eq_false _).mp h1] at h
        simpa using h
      rw [if_neg h1, if_neg h1, if_pos h2]
  | w :: W, i + 1, hi, h0, h => by
    have hw : goodW w = true := h0 0 (by omega)
    unfold goodW at hw
    rw [Bool.and_eq_true] at hw
    show (if okI w.1 w.2 = false then 1 else if w.1 = true then 2 else firstW W) = _
    rw [if_neg (by rw [hw.1]; simp), if_neg (by simpa using hw.2)]
    exact firstW_at (W := W) (i := i) (by simpa using hi) (fun j hj => h0 (j + 1) (by omega)) h
theorem firstW_zero : ∀ {W : List WV}, firstW W = 0 ↔ ∀ w ∈ W, goodW w = true
  | [] => by simp [firstW]
  | w :: W => by
    unfold firstW
    by_cases h1 : okI w.1 w.2 = false
    · rw [if_pos h1]; simp [goodW, h1]
    · rw [if_neg h1]
      by_cases h2 : w.1 = true
      · rw [if_pos h2]; simp [goodW, h2]
      · rw [if_neg h2, firstW_zero (W := W)]
        have : goodW w = true := by unfold goodW; rw [(Bool.not_eq_false _).mp h1, (Bool.not_eq_true _).mp h2]; rfl
        simp [this]

theorem okI_canon {neg : Bool} {m : List UInt8} (h : okI neg m = true) : intV neg m = intN neg (beN m) ∧ (neg = true → beN m ≠ 0) := by
  unfold okI at h
  rw [Bool.and_eq_true, decide_eq_true_eq] at h
  have h1 : neg = (neg && decide (beN m ≠ 0)) := by simpa using h.1
  refine ⟨?_, fun hn => ?_⟩
  · unfold intN
    rw [← h1, ← h.2]
  · rw [hn] at h1
    simpa using h1
theorem beN_cap {m : List UInt8} (h : m.length ≤ 100) : beN m < 256 ^ 100 := Nat.lt_of_lt_of_le (beN_lt _ m rfl) (Nat.pow_le_pow_right (by decide) h)

theorem c36w (cs : List Int) (W : List WV) (hcl : cs.length ≤ 1000000) (hW : ∀ w ∈ W, w.2.length ≤ 100) (hWl : W.length ≤ 1000000) : PFn Tryz.prog 36 [.sl (cs.map Kn.iV), .sl (W.map wV)] [.int .i64 (chkW cs W)] := by
  have e46 := c46 cs hcl
  refine PFn.of_body hΓ Tryz.func36 (by kernel_rfl) rfl (AWp.seq (AWp.of_awpD [] hΓ hmix (by kernel_rfl) ?_))
  simp -implicitDefEqProofs only [Tryz.ntmps36, Tryz.results36, Nat.reduceAdd, Nat.reduceSub, go_sem]
  refine AWp.seq (AWp.of_awpD [] hΓ hmix (by kernel_rfl) ?_)
  simp -implicitDefEqProofs only [go_sem]
  refine callK_fn e46 (.still rfl) ?_
  by_cases hc0 : chkC cs = 0
  rotate_left
  · have he : chkW cs W = chkC cs := by unfold chkW; rw [if_pos hc0]
    rw [he]
    simp -implicitDefEqProofs only [hc0, go_sem]
  have he : chkW cs W = if W.length = 0 then 5 else if 5 < W.length then 4 else firstW W := by unfold chkW; rw [if_neg (by omega)]
  rw [hc0]
  simp -implicitDefEqProofs only [go_sem]
  refine AWp.seq (AWp.of_awpD [] hΓ hmix (by kernel_rfl) ?_)
  by_cases h0 : W.length = 0
  · have h0' : (W.length : Int) = 0 := by omega
    rw [he, if_pos h0]
    simp -implicitDefEqProofs only [h0', List.length_map, go_sem]
  have h0' : ¬ (W.length : Int) = 0 := by omega
  by_cases h5 : 5 < W.length
  · have h5' : (5 : Int) < (W.length : Int) := by omega
    rw [he, if_neg h0, if_pos h5]
    simp -implicitDefEqProofs only [h0', h5', List.length_map, go_sem]
  have h5' : ¬ (5 : Int) < (W.length : Int) := by omega
  rw [if_neg h0, if_neg h5] at he
  rw [he]
  simp -implicitDefEqProofs only [h0', h5', List.length_map, go_sem]
  refine AWp.seq (AWp.seq (AWp.of_awpD [] hΓ hmix (by kernel_rfl) ?_))
  simp -implicitDefEqProofs only [List.length_map, go_sem]
  refine AWp.block ?_
  refine AWp.loopJ (fun i : Nat => ⟨mkF 37 [(4, .p (.int .i64 0)), (21, .p (.sl (W.map wV))), (22, .p (.int .i64 W.length)), (23, .p (.int .i64 i))], []⟩)
    (fun i => i ≤ W.length ∧ ∀ j (hj : j < W.length), j < i → goodW W[j] = true) (fun i => W.length - i) 0 (fun x => by simp [BelowAll, mkF, AV.blw, AV.blw.blwL, blwH]) (by simp [go_sem]) ⟨by omega, fun j _ h => by omega⟩ ?_
  intro i ⟨hi, hj0⟩
  simp -implicitDefEqProofs only [go_sem]
  refine AWp.of_awpD [] hΓ hmix (by kernel_rfl) ?_
  by_cases hlt : i < W.length
  · have hlt' : (i : Int) < (W.length : Int) := by omega
    have hg : (W.map wV).getD i default = .agg [.bool W[i].1, .str W[i].2] := getD_map_lt _ _ _ _ hlt
    have hml := hW _ (List.getElem_mem hlt)
    have e63 := q63 W[i].1 W[i].2 hml
    have hz : intN false 0 = .agg [.bool false, .str []] := rfl
    have hfirst := fun h => firstW_at (W := W) hlt (fun j hj => hj0 j (by omega) hj) h
    unfold intV at e63
    simp -implicitDefEqProofs only [hlt, hlt', hg, Int.toNat_natCast, List.length_map, go_sem]
    refine callK_fn e63 (.still rfl) ?_
    cases ho : okI W[i].1 W[i].2
    · have hgw : goodW W[i] = false := by unfold goodW; rw [ho]; rfl
      rw [hfirst hgw, if_pos ho, if_neg (by simp)]
      have h10 : ¬ (1 : Int) = 0 := by decide
      simp -implicitDefEqProofs only [h10, go_sem]
    obtain ⟨k1, k2⟩ := okI_canon ho
    have hcap := cap_of (beN_cap hml) (by decide)
    rw [if_pos rfl]
    cases hneg : W[i].1
    · have e25 := u33 (beN W[i].2) 0 hcap capN_pos
      rw [hneg] at k1
      rw [← k1, hz] at e25
      unfold intV at e25
      have hnn : ¬ cmpN (beN W[i].2) 0 < 0 := by unfold cmpN; rw [if_neg (by omega)]; split <;> decide
      have hgw : goodW W[i] = true := by unfold goodW; rw [ho, hneg]; rfl
      simp -implicitDefEqProofs only [go_sem]
      refine callK_fn e25 (.still rfl) ?_
      simp -implicitDefEqProofs only [hnn, go_sem]
      refine ⟨by simp only [InR]; omega, i + 1, by omega, ⟨by omega, fun j hj hji => ?_⟩, by omega⟩
      rcases Nat.lt_or_ge j i with h | h
      · exact hj0 j hj h
      · obtain rfl : j = i := by omega
        exact hgw
    · have e25 := e25n (beN W[i].2) hcap (k2 hneg)
      rw [hneg] at k1
      rw [← k1, hz] at e25
      unfold intV at e25
      have hm1 : (-1 : Int) < 0 := by decide
      have hgw : goodW W[i] = false := by unfold goodW; rw [hneg]; simp
      rw [hfirst hgw, if_neg (by rw [ho]; simp)]
      simp -implicitDefEqProofs only [go_sem]
      refine callK_fn e25 (.still rfl) ?_
      simp -implicitDefEqProofs only [hm1, go_sem]
  have hiW : i = W.length := by omega
  have hf0 : firstW W = 0 := firstW_zero.2 fun w hw => by
    obtain ⟨j, hj, rfl⟩ := List.getElem_of_mem hw
    exact hj0 j hj (by omega)
  rw [hf0]
  subst hiW
  simp -implicitDefEqProofs only [Nat.lt_irrefl, Int.lt_irrefl, go_sem]
  refine AWp.of_awpD [] hΓ hmix (by kernel_rfl) ?_
  simp -implicitDefEqProofs only [go_sem]

theorem c37w (cs : List Int) (W : List WV) (hcl : cs.length ≤ 1000000) (hW : ∀ w ∈ W, w.2.length ≤ 100) (hWl : W.length ≤ 1000000) : PFn Tryz.prog 37 [.sl (cs.map Kn.iV), .sl (W.map wV)] [.int .i64 (chkW cs W)] := by
  have e49 := q49 cs hcl
  refine PFn.of_body hΓ Tryz.func37 (by kernel_rfl) rfl (AWp.seq (AWp.of_awpD [] hΓ hmix (by kernel_rfl) ?_))
  simp -implicitDefEqProofs only [Tryz.ntmps37, Tryz.results37, Nat.reduceAdd, Nat.reduceSub, go_sem]
  refine AWp.seq (AWp.of_awpD [] hΓ hmix (by kernel_rfl) ?_)
  simp -implicitDefEqProofs only [go_sem]
  refine callK_fn e49 (.still rfl) ?_
  by_cases hc0 : chkC cs = 0
  rotate_left
  · have he : chkW cs W = chkC cs := by unfold chkW; rw [if_pos hc0]
    rw [he]
    simp -implicitDefEqProofs only [hc0, go_sem]
  have he : chkW cs W = if W.length = 0 then 5 else if 5 < W.length then 4 else firstW W := by unfold chkW; rw [if_neg (by omega)]
  rw [hc0]
  simp -implicitDefEqProofs only [go_sem]
  refine AWp.seq (AWp.of_awpD [] hΓ hmix (by kernel_rfl) ?_)
  by_cases h0 : W.length = 0
  · have h0' : (W.length : Int) = 0 := by omega
    rw [he, if_pos h0]
    simp -implicitDefEqProofs only [h0', List.length_map, go_sem]
  have h0' : ¬ (W.length : Int) = 0 := by omega
  simp -implicitDefEqProofs only [h0', List.length_map, go_sem]
  refine AWp.seq (AWp.of_awpD [] hΓ hmix (by kernel_rfl) ?_)
  by_cases h5 : 5 < W.length
  · have h5' : (5 : Int) < (W.length : Int) := by omega
    rw [he, if_neg h0, if_pos h5]
    simp -implicitDefEqProofs only [h5', List.length_map, go_sem]
  have h5' : ¬ (5 : Int) < (W.length : Int) := by omega
  rw [if_neg h0, if_neg h5] at he
  rw [he]
  simp -implicitDefEqProofs only [h5', List.length_map, go_sem]
  refine AWp.seq (AWp.seq (AWp.of_awpD [] hΓ hmix (by kernel_rfl) ?_))
  simp -implicitDefEqProofs only [go_sem]
  refine AWp.block ?_
  refine AWp.loopI (fun i : Nat => ⟨mkF 35 [(1, .p (.sl (W.map wV))), (4, .p (.int .i64 0)), (6, .p (.int .i64 i))], []⟩)
    (fun i => i ≤ W.length ∧ ∀ j (hj : j < W.length), j < i → goodW W[j] = true) (fun i => W.length - i) 0 (by simp [go_sem]) ⟨by omega, fun j _ h => by omega⟩ ?_
  intro i ⟨hi, hj0⟩
  simp -implicitDefEqProofs only [go_sem]
  refine AWp.of_awpD [] hΓ hmix (by kernel_rfl) ?_
  by_cases hlt : i < W.length
  · have hlt' : (i : Int) < (W.length : Int) := by omega
    have hg : (W.map wV).getD i default = .agg [.bool W[i].1, .str W[i].2] := getD_map_lt _ _ _ _ hlt
    have hml := hW _ (List.getElem_mem hlt)
    have e64 := q64 W[i].1 W[i].2 (by omega)
    have hfirst := fun h => firstW_at (W := W) hlt (fun j hj => hj0 j (by omega) hj) h
    unfold intV at e64
    simp -implicitDefEqProofs only [hlt, hlt', hg, Int.toNat_natCast, List.length_map, go_sem]
    refine callK_fn e64 (.still rfl) ?_
    cases ho : okI W[i].1 W[i].2
    · have hgw : goodW W[i] = false := by unfold goodW; rw [ho]; rfl
      rw [hfirst hgw, if_pos ho, if_neg (by simp)]
      have h10 : ¬ (1 : Int) = 0 := by decide
      simp -implicitDefEqProofs only [h10, go_sem]
    rw [if_pos rfl]
    cases hneg : W[i].1
    · have hgw : goodW W[i] = true := by unfold goodW; rw [ho, hneg]; rfl
      rw [hneg] at hg
      simp -implicitDefEqProofs only [hlt, hlt', hg, Int.toNat_natCast, List.length_map, go_sem]
      refine ⟨by omega, by simp only [InR]; omega, i + 1, by omega, ⟨by omega, fun j hj hji => ?_⟩, by omega⟩
      rcases Nat.lt_or_ge j i with h | h
      · exact hj0 j hj h
      · obtain rfl : j = i := by omega
        exact hgw
    · have hgw : goodW W[i] = false := by unfold goodW; rw [hneg]; simp
      rw [hneg] at hg
      rw [hfirst hgw, if_neg (by rw [ho]; simp)]
      simp -implicitDefEqProofs only [hlt, hlt', hg, Int.toNat_natCast, List.length_map, go_sem]
      omega
  have hiW : i = W.length := by omega
  have hf0 : firstW W = 0 := firstW_zero.2 fun w hw => by
    obtain ⟨j, hj, rfl⟩ := List.getElem_of_mem hw
    exact hj0 j hj (by omega)
  rw [hf0]
  subst hiW
  simp -implicitDefEqProofs only [Nat.lt_irrefl, Int.lt_irrefl, List.length_map, go_sem]
  refine AWp.of_awpD [] hΓ hmix (by kernel_rfl) ?_
  simp -implicitDefEqProofs only [go_sem]
end Go.Proofs.YtnaekjbbakofdaaGreat
end

section
namespace Go.Proofs.YtnaekjbbakofdaaGreat
open Go Go.AM Go.RowKit
set_option maxRecDepth 100000
set_option maxHeartbeats 4000000
set_option linter.unusedSimpArgs false

theorem q61 (cs : List Nat) (w : List UInt8) (hB : ∀ c ∈ cs, c ≤ 1000) (_hcl : cs.length ≤ 1000) (hwl : w.length ≤ 100000) (hw : okW cs.length w = true) :
    PFn Tryz.prog 61 [.sl (cs.map Kn.nV), .str w] [.int .i64 (costW cs w)] := by
  refine PFn.of_body hΓ Tryz.func61 (by kernel_rfl) rfl (AWp.seq (AWp.of_awpD [] hΓ hmix (by kernel_rfl) ?_))
  simp -implicitDefEqProofs only [Tryz.ntmps61, Tryz.results61, Nat.reduceAdd, Nat.reduceSub, go_sem]
  refine AWp.seq (AWp.of_awpD [] hΓ hmix (by kernel_rfl) ?_)
  simp -implicitDefEqProofs only [go_sem]
  refine AWp.seq (AWp.seq (AWp.of_awpD [] hΓ hmix (by kernel_rfl) ?_))
  simp -implicitDefEqProofs only [go_sem]
  refine AWp.block ?_
  refine AWp.loopI (fun k : Nat => ⟨mkF 23 [(0, .p (.sl (cs.map Kn.nV))), (1, .p (.str w)), (5, .p (.int .i64 (costW cs (w.take k) : Nat))), (6, .p (.int .i64 k))], []⟩)
    (fun k => k ≤ w.length) (fun k => w.length - k) 0 (by simp [go_sem, costW]) (by omega) ?_
  intro k hk
  simp -implicitDefEqProofs only [go_sem]
  refine AWp.of_awpD [] hΓ hmix (by kernel_rfl) ?_
  by_cases hlt : k < w.length
  · have hlt' : (k : Int) < (w.length : Int) := by omega
    have hg : w.getD k 0 = w[k] := by rw [List.getD_eq_getElem?_getD, List.getElem?_eq_getElem hlt, Option.getD_some]
    have hb : okB cs.length w[k] = true := List.all_eq_true.1 hw _ (List.getElem_mem hlt)
    unfold okB at hb
    rw [Bool.and_eq_true, decide_eq_true_eq, decide_eq_true_eq] at hb
    obtain ⟨hb0, hb1⟩ := hb
    have e90 := t99 w[k]
    obtain ⟨dg, hdg⟩ : ∃ dg : Nat, ixB w[k] L16 0 = dg := ⟨digN w[k], by unfold digN; omega⟩
    have hdl : dg < cs.length := by omega
    have hdn : digN w[k] = dg := by unfold digN; omega
    rw [hdg] at e90
    have hgc : (cs.map Kn.nV).getD dg default = .int .i64 (cs.getD dg 0 : Nat) := by
      rw [getD_map_lt _ _ _ _ hdl, List.getD_eq_getElem?_getD, List.getElem?_eq_getElem hdl, Option.getD_some]; rfl
    have hsum : costW cs (w.take (k + 1)) = costW cs (w.take k) + cs.getD dg 0 := by
      rw [List.take_succ_eq_append_getElem hlt, costW_append]; simp [costW, hdn]
    have hle := costW_le hB (w.take (k + 1))
    rw [List.length_take, Nat.min_eq_left (by omega : k + 1 ≤ w.length)] at hle
    have hadd : (costW cs (w.take k) : Int) + (cs.getD dg 0 : Nat) = (costW cs (w.take (k + 1)) : Nat) := by rw [hsum]; omega
    have hin : InR .i64 ((costW cs (w.take (k + 1)) : Nat) : Int) := by simp only [InR]; omega
    simp -implicitDefEqProofs only [hlt, hlt', hg, Int.toNat_natCast, List.length_map, go_sem]
    refine callK_fn e90 (.pures rfl) ?_
    simp -implicitDefEqProofs only [hdl, hgc, Int.toNat_natCast, List.length_map, hadd, go_sem]
    exact ⟨hin, by simp only [InR]; omega, k + 1, ⟨rfl, by omega⟩, by omega, by omega⟩
  · have hkw : k = w.length := by omega
    subst hkw
    simp -implicitDefEqProofs only [Nat.lt_irrefl, Int.lt_irrefl, List.take_length, go_sem]
    refine AWp.of_awpD [] hΓ hmix (by kernel_rfl) ?_
    simp -implicitDefEqProofs only [go_sem]

theorem q44 {cs W : List Nat} (hc : OkC cs) (hw : OkW W) (l : List Wd) (hne : l.length = W.length) (hlw : ∀ w ∈ l, w.length ≤ 1000 ∧ okW cs.length w = true) :
    PFn Tryz.prog 44 [.sl (cs.map Kn.nV), .sl (W.map (intN false)), .sl (l.map .str)] [intN false (totN cs W l)] := by
  refine PFn.of_body hΓ Tryz.func44 (by kernel_rfl) rfl (AWp.seq (AWp.of_awpD [] hΓ hmix (by kernel_rfl) ?_))
  simp -implicitDefEqProofs only [Tryz.ntmps44, Tryz.results44, Nat.reduceAdd, Nat.reduceSub, go_sem]
  refine AWp.seq (AWp.of_awpD [] hΓ hmix (by kernel_rfl) ?_)
  simp -implicitDefEqProofs only [go_sem]
  refine AWp.seq (AWp.seq (AWp.of_awpD [] hΓ hmix (by kernel_rfl) ?_))
  simp -implicitDefEqProofs only [go_sem]
  refine AWp.block ?_
  have hdc : ∀ k, dotN (W.take k) ((l.map (costW cs)).take k) < capN := fun k => by
    have h1 := dotN_le (a := W.take k) (b := (l.map (costW cs)).take k) (B := 256 ^ 100) (C := 1000000) (fun x hx => Nat.le_of_lt (hw.cap x (List.mem_of_mem_take hx))) (fun x hx => by
      obtain ⟨w, hwm, rfl⟩ := List.mem_map.1 (List.mem_of_mem_take hx)
      have h1 := costW_le hc.le w
      have h3 : w.length * 1000 ≤ 1000 * 1000 := Nat.mul_le_mul_right _ (hlw w hwm).1
      omega)
    have h2 : (W.take k).length ≤ 12 := by have := hw.l5; rw [List.length_take]; omega
    have h3 : (W.take k).length * (256 ^ 100 * 1000000) ≤ 12 * (256 ^ 100 * 1000000) := Nat.mul_le_mul_right _ h2
    have h4 : 12 * (256 ^ 100 * 1000000) < capN := by unfold capN; decide
    omega
  refine AWp.loopI (fun k : Nat => ⟨mkF 30 [(0, .p (.sl (cs.map Kn.nV))), (1, .p (.sl (W.map (intN false)))), (2, .p (.sl (l.map .str))), (6, .ptr 0 0), (7, .ptr 1 0), (8, .p (.int .i64 k))],
      [.box [.p (.bool false), .p (.str [])], .box [.p (.bool false), .p (.str (magB (dotN (W.take k) ((l.map (costW cs)).take k))))]]⟩)
    (fun k => k ≤ l.length) (fun k => l.length - k) 0 (by simp [go_sem, dotN, magB_zero]) (by omega) ?_
  intro k hk
  simp -implicitDefEqProofs only [go_sem]
  refine AWp.of_awpD [(5, 14)] hΓ hmix (by kernel_rfl) ?_
  by_cases hlt : k < l.length
  · have hlt' : (k : Int) < (l.length : Int) := by omega
    have hg : (l.map PV.str).getD k default = .str l[k] := getD_map_lt _ _ _ _ hlt
    have hkS : k < W.length := by omega
    have hkC : k < (l.map (costW cs)).length := by simpa using hlt
    have hgS : (W.map (intN false)).getD k default = .agg [.bool false, .str (magB (W.getD k 0))] := by
      rw [← intN_pos, getD_map_lt _ _ _ _ hkS, List.getD_eq_getElem?_getD, List.getElem?_eq_getElem hkS, Option.getD_some]
    obtain ⟨hlk, hok⟩ := hlw _ (List.getElem_mem hlt)
    have e61 := q61 cs l[k] hc.le (by have := hc.l3; omega) (by omega) hok
    have hcl := costW_le hc.le l[k]
    have hcl2 : l[k].length * 1000 ≤ 1000 * 1000 := Nat.mul_le_mul_right _ hlk
    have hCk : (l.map (costW cs)).getD k 0 = costW cs l[k] := by
      rw [List.getD_eq_getElem?_getD, List.getElem?_eq_getElem hkC, Option.getD_some, List.getElem_map]
    have hcS : W.getD k 0 < 256 ^ 100 := by
      rw [List.getD_eq_getElem?_getD, List.getElem?_eq_getElem hkS, Option.getD_some]; exact hw.cap _ (List.getElem_mem hkS)
    have e74 := u76 (costW cs l[k]) (by omega)
    have e73 := q73 (W.getD k 0) (costW cs l[k]) (cap_of hcS (by decide)) (cap_of (k := 3) (by omega) (by decide))
    have hmul : W.getD k 0 * costW cs l[k] < capN := by
      have h1 : W.getD k 0 * costW cs l[k] ≤ 256 ^ 100 * 1000000 := Nat.mul_le_mul (Nat.le_of_lt hcS) (by omega)
      have h4 : 256 ^ 100 * 1000000 < capN := by unfold capN; decide
      omega
    have e72 := q72 (dotN (W.take k) ((l.map (costW cs)).take k)) (W.getD k 0 * costW cs l[k]) (hdc k) hmul
    have hdt := dotN_take hkS hkC
    rw [hCk] at hdt
    rw [← hdt, intN_pos, intN_pos, intN_pos] at e72
    rw [intN_pos, intN_pos, intN_pos] at e73
    rw [intN_pos] at e74
    have hw5 := hw.l5
    simp -implicitDefEqProofs only [hlt, hkS, hlt', hg, hgS, Int.toNat_natCast, List.length_map, go_sem]
    refine callVPK_fn e61 (.pures rfl) ?_
    simp -implicitDefEqProofs only [go_sem]
    refine callVPK_fn e74 (.pures rfl) ?_
    simp -implicitDefEqProofs only [go_sem]
    refine callVPK_fn e73 (.still rfl) ?_
    simp -implicitDefEqProofs only [go_sem]
    refine callVPK_fn e72 (.still rfl) ?_
    simp -implicitDefEqProofs only [go_sem]
    refine ⟨by simp only [InR]; omega, k + 1, ?_, by omega, by omega⟩
    first | omega | exact ⟨by omega, rfl⟩ | simp
  have hkL : k = l.length := by omega
  subst hkL
  simp -implicitDefEqProofs only [Nat.lt_irrefl, Int.lt_irrefl, List.length_map, go_sem]
  rw [List.take_of_length_le (by omega : W.length ≤ l.length), List.take_of_length_le (by simp)]
  refine AWp.of_awpD [] hΓ hmix (by kernel_rfl) ?_
  simp -implicitDefEqProofs only [go_sem]
  try rfl

/-! ### Word and Cost, for any costs and weights -/
theorem ok_costs {cs : List Int} (h : chkC cs = 0) : ∃ ns : List Nat, cs = ns.map Int.ofNat ∧ OkC ns := by
  unfold chkC at h
  split at h
  · cases h
  rename_i hl
  split at h
  · cases h
  rename_i hb
  have hall : ∀ c ∈ cs, 1 ≤ c ∧ c ≤ 8 := fun c hc => by
    have h1 : badC c = false := by
      cases h2 : badC c
      · rfl
      · exact absurd (List.any_eq_true.2 ⟨c, hc, h2⟩) hb
    unfold badC at h1
    simp at h1
    omega
  refine ⟨cs.map Int.toNat, ?_, by rw [List.length_map]; omega, by rw [List.length_map]; omega, fun c hc => ?_, fun c hc => ?_⟩
  · rw [List.map_map]
    conv => lhs; rw [← List.map_id cs]
    refine List.map_congr_left fun c hc => ?_
    have := (hall c hc).1
    show c = ((c.toNat : Nat) : Int)
    omega
  · obtain ⟨d, hd, rfl⟩ := List.mem_map.1 hc
    have := hall d hd; omega
  · obtain ⟨d, hd, rfl⟩ := List.mem_map.1 hc
    have := hall d hd; omega
theorem iV_nV (ns : List Nat) : (ns.map Int.ofNat).map Kn.iV = ns.map Kn.nV := (nVs ns).symm

theorem toNat_ofNat (ns : List Nat) : (ns.map Int.ofNat).map Int.toNat = ns := by
  rw [List.map_map]
  conv => rhs; rw [← List.map_id ns]
  exact List.map_congr_left fun c _ => rfl
theorem ok_weights {cs : List Int} {W : List WV} (hW : ∀ w ∈ W, w.2.length ≤ 100) (h : chkW cs W = 0) : chkC cs = 0 ∧ W.map wV = (W.map fun w => beN w.2).map (intN false) ∧ OkW (W.map fun w => beN w.2) := by
  unfold chkW at h
  split at h
  · rename_i hc; exact absurd h hc
  rename_i hc
  split at h
  · cases h
  split at h
  · cases h
  have hg := firstW_zero.1 h
  refine ⟨by omega, ?_, by rw [List.length_map]; omega, by rw [List.length_map]; omega, fun x hx => ?_⟩
  · rw [List.map_map]
    refine List.map_congr_left fun w hw => ?_
    have h1 := hg w hw
    unfold goodW at h1
    rw [Bool.and_eq_true] at h1
    have h2 := (okI_canon h1.1).1
    have h3 : w.1 = false := by simpa using h1.2
    rw [h3] at h2
    show intV w.1 w.2 = intN false (beN w.2)
    rw [h3]; exact h2
  · obtain ⟨w, hw, rfl⟩ := List.mem_map.1 hx
    exact beN_cap (hW w hw)
end Go.Proofs.YtnaekjbbakofdaaGreat
end

section
namespace Go.Proofs.YtnaekjbbakofdaaGreat
open Go Go.AM
set_option maxRecDepth 100000
set_option maxHeartbeats 4000000
set_option linter.unusedSimpArgs false

theorem optW {cs : List Int} {W : List WV} (hW : ∀ w ∈ W, w.2.length ≤ 100) (h : chkW cs W = 0) : ∃ ns V : List Nat, cs.map Kn.iV = ns.map Kn.nV ∧ W.map wV = V.map (intN false) ∧ OkC ns ∧ OkW V ∧ ns = cs.map Int.toNat ∧ V = W.map fun w => beN w.2 := by
  obtain ⟨hc0, hWn, hw⟩ := ok_weights hW h
  obtain ⟨ns, rfl, hc⟩ := ok_costs hc0
  exact ⟨ns, _, iV_nV ns, hWn, hc, hw, (toNat_ofNat ns).symm, rfl⟩

def optR (cs : List Int) (W : List WV) : List Wd × Int := if chkW cs W ≠ 0 then ([], chkW cs W) else (bestL (cs.map Int.toNat) (W.map fun w => beN w.2), 0)
def leastR (cs : List Int) (W : List WV) : Nat × Int := if chkW cs W ≠ 0 then (0, chkW cs W) else (leastL (cs.map Int.toNat) (W.map fun w => beN w.2), 0)
def lensR (cs : List Int) (n : Int) : List Nat × Int := if chkC cs ≠ 0 then ([], chkC cs) else if n < 1 ∨ 64 < n then ([], 2) else (lensL (cs.map Int.toNat) n.toNat, 0)

theorem c13w (cs : List Int) (W : List WV) (hcl : cs.length ≤ 1000) (hWl : W.length ≤ 1000) (hW : ∀ w ∈ W, w.2.length ≤ 100) : PFn Tryz.prog 13 [.sl (cs.map Kn.iV), .sl (W.map wV)] [.sl ((optR cs W).1.map .str), .int .i64 (optR cs W).2] := by
  by_cases h0 : chkW cs W = 0
  rotate_left
  · have e36 := c36w cs W (by omega) hW (by omega)
    unfold optR
    rw [if_pos h0]
    refine PFn.of_body hΓ Tryz.func13 (by kernel_rfl) rfl (AWp.of_awpD [] hΓ hmix (by kernel_rfl) ?_)
    simp -implicitDefEqProofs only [Tryz.ntmps13, Tryz.results13, Nat.reduceAdd, Nat.reduceSub, go_sem]
    refine callK_fn e36 (.still rfl) ?_
    simp -implicitDefEqProofs only [h0, go_sem]
    try rfl
  obtain ⟨ns, V, e1, e2, hc, hw, e3, e4⟩ := optW hW h0
  unfold optR
  rw [if_neg (by omega), e1, e2, ← e3, ← e4]
  exact c13 hc hw
theorem c15w (cs : List Int) (W : List WV) (hcl : cs.length ≤ 1000) (hWl : W.length ≤ 1000) (hW : ∀ w ∈ W, w.2.length ≤ 100) : PFn Tryz.prog 15 [.sl (cs.map Kn.iV), .sl (W.map wV)] [intN false (leastR cs W).1, .int .i64 (leastR cs W).2] := by
  have hz : intN false 0 = .agg [.bool false, .str []] := rfl
  by_cases h0 : chkW cs W = 0
  rotate_left
  · have e36 := c36w cs W (by omega) hW (by omega)
    unfold leastR
    rw [if_pos h0, hz]
    refine PFn.of_body hΓ Tryz.func15 (by kernel_rfl) rfl (AWp.of_awpD [] hΓ hmix (by kernel_rfl) ?_)
    simp -implicitDefEqProofs only [Tryz.ntmps15, Tryz.results15, Nat.reduceAdd, Nat.reduceSub, go_sem]
    refine callK_fn e36 (.still rfl) ?_
    simp -implicitDefEqProofs only [h0, go_sem]
    try rfl
  obtain ⟨ns, V, e1, e2, hc, hw, e3, e4⟩ := optW hW h0
  unfold leastR
  rw [if_neg (by omega), e1, e2, ← e3, ← e4]
  exact c15 hc hw
theorem c17w (cs : List Int) (n : Int) (hcl : cs.length ≤ 1000) : PFn Tryz.prog 17 [.sl (cs.map Kn.iV), .int .i64 n] [.sl ((lensR cs n).1.map Kn.nV), .int .i64 (lensR cs n).2] := by
  by_cases h0 : chkC cs = 0
  rotate_left
  · have e46 := c46 cs (by omega)
    unfold lensR
    rw [if_pos h0]
    refine PFn.of_body hΓ Tryz.func17 (by kernel_rfl) rfl (AWp.seq (AWp.of_awpD [] hΓ hmix (by kernel_rfl) ?_))
    simp -implicitDefEqProofs only [Tryz.ntmps17, Tryz.results17, Nat.reduceAdd, Nat.reduceSub, go_sem]
    refine AWp.seq (AWp.of_awpD [] hΓ hmix (by kernel_rfl) ?_)
    simp -implicitDefEqProofs only [go_sem]
    refine callK_fn e46 (.still rfl) ?_
    simp -implicitDefEqProofs only [h0, go_sem]
    try rfl
  obtain ⟨ns, rfl, hc⟩ := ok_costs h0
  have hr : lensR (ns.map Int.ofNat) n = if n < 1 ∨ 64 < n then ([], 2) else (lensL ns n.toNat, 0) := by
    unfold lensR
    rw [if_neg (by omega), toNat_ofNat]
  rw [hr, iV_nV]
  by_cases hn : n < 1 ∨ 64 < n
  · have e46 := hc.c46
    rw [if_pos hn]
    refine PFn.of_body hΓ Tryz.func17 (by kernel_rfl) rfl (AWp.seq (AWp.of_awpD [] hΓ hmix (by kernel_rfl) ?_))
    simp -implicitDefEqProofs only [Tryz.ntmps17, Tryz.results17, Nat.reduceAdd, Nat.reduceSub, go_sem]
    refine AWp.seq (AWp.of_awpD [] hΓ hmix (by kernel_rfl) ?_)
    simp -implicitDefEqProofs only [go_sem]
    refine callK_fn e46 (.still rfl) ?_
    simp -implicitDefEqProofs only [go_sem]
    refine AWp.seq (AWp.of_awpD [] hΓ hmix (by kernel_rfl) ?_)
    by_cases h1 : n < 1
    · simp -implicitDefEqProofs only [h1, go_sem]
      try rfl
    · have h2 : 64 < n := by omega
      simp -implicitDefEqProofs only [h1, h2, go_sem]
      try rfl
  · rw [if_neg hn]
    have := c17 hc (n := n.toNat) (by omega) (by omega)
    rw [show ((n.toNat : Nat) : Int) = n by omega] at this
    exact this

def lessW (a b : Wd) : Bool := if a.length ≠ b.length then decide (a.length < b.length) else Op.bytesLess a b
def beforeL : List Wd → List Wd → Bool
  | a :: l, b :: m => if a = b then beforeL l m else lessW a b
  | _, _ => false
theorem beforeL_at : ∀ {l m : List Wd} {i : Nat} (_hi : i < l.length) (_hm : l.length = m.length), (∀ j, j < i → l.getD j [] = m.getD j []) → l.getD i [] ≠ m.getD i [] → beforeL l m = lessW (l.getD i []) (m.getD i [])
  | a :: l, b :: m, 0, _, _, _, h => by
    have h : a ≠ b := h
    show (if a = b then beforeL l m else lessW a b) = lessW a b
    rw [if_neg h]
  | a :: l, b :: m, i + 1, hi, hm, h0, h => by
    have e : a = b := h0 0 (by omega)
    show (if a = b then beforeL l m else lessW a b) = _
    rw [if_pos e]
    exact beforeL_at (l := l) (m := m) (i := i) (by simpa using hi) (by simpa using hm) (fun j hj => by have := h0 (j + 1) (by omega); simpa using this) (by simpa using h)
theorem beforeL_eq : ∀ {l m : List Wd}, l.length = m.length → (∀ j, j < l.length → l.getD j [] = m.getD j []) → beforeL l m = false
  | [], m, _, _ => by cases m <;> rfl
  | a :: l, b :: m, hm, h => by
    have e : a = b := h 0 (by simp)
    show (if a = b then beforeL l m else lessW a b) = _
    rw [if_pos e]
    exact beforeL_eq (by simpa using hm) (fun j hj => by have := h (j + 1) (by simpa using hj); simpa using this)
theorem q45 (l m : List Wd) (hlm : l.length = m.length) (hl : l.length ≤ 1000000) : PFn Tryz.prog 45 [.sl (l.map .str), .sl (m.map .str)] [.bool (beforeL l m)] := by
  have hG : ∀ (x : List Wd) i, i < x.length → (x.map PV.str).getD i default = .str (x.getD i []) := fun x i hi => by
    rw [getD_map_lt _ _ _ _ hi, List.getD_eq_getElem?_getD, List.getElem?_eq_getElem hi, Option.getD_some]
  refine PFn.of_body hΓ Tryz.func45 (by kernel_rfl) rfl (AWp.seq (AWp.of_awpD [] hΓ hmix (by kernel_rfl) ?_))
  simp -implicitDefEqProofs only [Tryz.ntmps45, Tryz.results45, Nat.reduceAdd, Nat.reduceSub, go_sem]
  refine AWp.seq (AWp.seq (AWp.of_awpD [] hΓ hmix (by kernel_rfl) ?_))
  simp -implicitDefEqProofs only [go_sem]
  refine AWp.block ?_
  refine AWp.loopI (fun i : Nat => ⟨mkF 30 [(0, .p (.sl (l.map .str))), (1, .p (.sl (m.map .str))), (4, .p (.bool false)), (5, .p (.int .i64 i))], []⟩)
    (fun i => i ≤ l.length ∧ ∀ j, j < i → l.getD j [] = m.getD j []) (fun i => l.length - i) 0 (by simp [go_sem]) ⟨by omega, fun j h => by omega⟩ ?_
  intro i ⟨hi, hj0⟩
  simp -implicitDefEqProofs only [go_sem]
  refine AWp.of_awpD [(4, 8), (5, 9)] hΓ hmix (by kernel_rfl) ?_
  by_cases hlt : i < l.length
  · have hlt' : (i : Int) < (l.length : Int) := by omega
    have hltm : i < m.length := by omega
    have hltm' : (i : Int) < (m.length : Int) := by omega
    have g1 := hG l i hlt
    have g2 := hG m i hltm
    have e75 := t79 (l.getD i []) (m.getD i [])
    by_cases he : l.getD i [] = m.getD i []
    · simp -implicitDefEqProofs only [hlt, hlt', hltm, hltm', g1, g2, he, Int.toNat_natCast, List.length_map, go_sem]
      refine ⟨by simp only [InR]; omega, i + 1, by omega, ⟨by omega, fun j hj => ?_⟩, by omega⟩
      rcases Nat.lt_or_ge j i with h | h
      · exact hj0 j h
      · obtain rfl : j = i := by omega
        exact he
    · rw [beforeL_at hlt hlm hj0 he]
      simp -implicitDefEqProofs only [hlt, hlt', hltm, hltm', g1, g2, he, Int.toNat_natCast, List.length_map, go_sem]
      refine callVPK_fn e75 (.still rfl) ?_
      simp -implicitDefEqProofs only [go_sem]
      rfl
  have hil : i = l.length := by omega
  rw [beforeL_eq hlm (fun j hj => hj0 j (by omega))]
  subst hil
  simp -implicitDefEqProofs only [Nat.lt_irrefl, Int.lt_irrefl, List.length_map, go_sem]
  refine AWp.of_awpD [] hΓ hmix (by kernel_rfl) ?_
  simp -implicitDefEqProofs only [go_sem]
  try rfl
end Go.Proofs.YtnaekjbbakofdaaGreat
end

section
namespace Go.Proofs.YtnaekjbbakofdaaGreat
open Go Go.AM List

theorem lessW_iff (a b : Wd) : lessW a b = true ↔ ltW a b := by
  unfold lessW ltW
  by_cases h : a.length = b.length
  · rw [if_neg (by omega), ← bLt_eq]
    constructor
    · exact fun g => .inr ⟨h, g⟩
    · rintro (g | g)
      · omega
      · exact g.2
  · rw [if_pos h, decide_eq_true_eq]
    constructor
    · exact fun g => .inl g
    · rintro (g | g)
      · exact g
      · omega
theorem lessW_false {a b : Wd} (h : ltW b a) : lessW a b = false := Bool.eq_false_iff.2 fun g => ltW_irrefl a (ltW_trans ((lessW_iff a b).1 g) h)
theorem before_cons (a b : Wd) (l m : List Wd) : beforeL (a :: l) (b :: m) = if a = b then beforeL l m else lessW a b := rfl
theorem before_trans : ∀ {l m k : List Wd}, beforeL l m = true → beforeL m k = true → beforeL l k = true
  | a :: l, b :: m, c :: k, h1, h2 => by
    rw [before_cons] at h1 h2 ⊢
    by_cases e1 : a = b
    · subst e1
      rw [if_pos rfl] at h1
      by_cases e2 : a = c
      · subst e2
        rw [if_pos rfl] at h2 ⊢
        exact before_trans h1 h2
      · rw [if_neg e2] at h2 ⊢; exact h2
    · rw [if_neg e1] at h1
      by_cases e2 : b = c
      · subst e2
        rw [if_neg e1]; exact h1
      · rw [if_neg e2] at h2
        have h3 := ltW_trans ((lessW_iff a b).1 h1) ((lessW_iff b c).1 h2)
        have e3 : a ≠ c := fun e => ltW_irrefl c (e ▸ h3)
        rw [if_neg e3]; exact (lessW_iff a c).2 h3
  | [], _, _, h1, _ => by cases h1
  | _ :: _, [], _, h1, _ => by cases h1
  | _ :: _, _ :: _, [], _, h2 => by cases h2
theorem before_total : ∀ {l m : List Wd}, l.length = m.length → beforeL l m = false → beforeL m l = false → l = m
  | [], [], _, _, _ => rfl
  | a :: l, b :: m, hl, h1, h2 => by
    rw [before_cons] at h1 h2
    by_cases e : a = b
    · subst e
      rw [if_pos rfl] at h1 h2
      rw [before_total (by simpa using hl) h1 h2]
    · rw [if_neg e] at h1
      rw [if_neg (fun h => e h.symm)] at h2
      have g1 : ¬ ltW a b := fun h => by rw [(lessW_iff a b).2 h] at h1; cases h1
      have g2 : ¬ ltW b a := fun h => by rw [(lessW_iff b a).2 h] at h2; cases h2
      exact absurd (ltW_total g1 g2) e
theorem before_irrefl : ∀ l : List Wd, beforeL l l = false
  | [] => rfl
  | a :: l => by rw [before_cons, if_pos rfl]; exact before_irrefl l
theorem cmpB_zero (a : Wd) : cmpB a a = 0 := by
  rw [cmpB_eq]
  have : ∀ a : Wd, Lib.compareBytes a a = 0 := by
    intro a
    induction a with
    | nil => rfl
    | cons x a ih => unfold Lib.compareBytes; simp [ih]
  exact this a
theorem cmpW_self (a : Wd) : cmpW a a = 0 := by
  unfold cmpW
  rw [if_neg (by omega), if_neg (by omega), cmpB_zero]
theorem cmpB_ne {a b : Wd} (h : cmpB a b = 0) : bLt a b = false ∧ bEq a b = true := by
  unfold cmpB at h
  cases h1 : bLt a b
  · refine ⟨rfl, ?_⟩
    rw [h1] at h
    cases h2 : bEq a b
    · rw [h2] at h; cases h
    · rfl
  · rw [h1] at h; cases h
theorem bEq_len {a b : Wd} (h : bEq a b = true) : a = b := by
  rw [bEq_eq, decide_eq_true_eq] at h
  exact h
theorem cmpW_ne {a b : Wd} (h : a ≠ b) : cmpW a b ≠ 0 := fun e => by
  unfold cmpW at e
  by_cases h1 : a.length < b.length
  · rw [if_pos h1] at e; cases e
  · rw [if_neg h1] at e
    by_cases h2 : b.length < a.length
    · rw [if_pos h2] at e; cases e
    · rw [if_neg h2] at e
      exact h (bEq_len (cmpB_ne e).2)
theorem cmpWs_before : ∀ {l m : List Wd}, l.length = m.length → (cmpWs l m < 0 ↔ beforeL l m = true)
  | [], [], _ => by simp [cmpWs, beforeL]
  | a :: l, b :: m, hl => by
    rw [before_cons]
    have ih := cmpWs_before (l := l) (m := m) (by simpa using hl)
    unfold cmpWs
    by_cases h : a = b
    · subst h
      rw [if_pos rfl, if_neg (by rw [cmpW_self]; simp)]; exact ih
    · rw [if_neg h, if_pos (cmpW_ne h), lessW_iff, ltW_iff]

theorem given_min (cs : List Nat) : ∀ (W : List Nat) (L l : List Wd), W.length = L.length → L.Pairwise ltW → l ~ L → totN cs W l = matchN cs W L → beforeL l (givenL cs W L (matchN cs W L)) = false
  | [], L, l, hl, _, hp, _ => by
    have hL : L = [] := List.length_eq_zero_iff.1 (by simpa using hl.symm)
    subst hL
    rw [hp.eq_nil]; rfl
  | x :: W, L, l, hl, hs, hp, ht => by
    have hl' : W.length + 1 = L.length := by simpa using hl
    obtain ⟨k0, hk0, hg0⟩ := good_ex cs x W L hl'
    obtain ⟨_, hkl, hkg, hkf⟩ := firstK_spec (p := goodK cs x W (matchN cs (x :: W) L) L) (f := L.length) (lo := 0) (Nat.zero_le k0) (by omega) hg0
    generalize hkk : firstK (goodK cs x W (matchN cs (x :: W) L) L) L.length 0 = k at *
    rw [Nat.zero_add] at hkl
    unfold goodK at hkg
    rw [decide_eq_true_eq] at hkg
    have hgD : ∀ j (hj : j < L.length), L.getD j [] = L[j] := fun j hj => by rw [List.getD_eq_getElem?_getD, List.getElem?_eq_getElem hj, Option.getD_some]
    obtain ⟨a, l', rfl⟩ : ∃ a l', l = a :: l' := by
      cases l with
      | nil => have := hp.length_eq; simp at this; omega
      | cons a l' => exact ⟨a, l', rfl⟩
    obtain ⟨j, hj, hja⟩ := List.getElem_of_mem (hp.mem_iff.1 (List.mem_cons_self : a ∈ a :: l'))
    have hpc : l' ~ cutOut L j (j + 1) := by
      have h1 := hp.trans (perm_cut hj)
      rw [hja] at h1
      exact h1.cons_inv
    have hcl : ∀ i, i < L.length → W.length = (cutOut L i (i + 1)).length := fun i hi => by unfold cutOut; simp; omega
    have htot : ∀ m : List Wd, totN cs (x :: W) (a :: m) = x * costW cs a + totN cs W m := fun m => rfl
    rw [htot] at ht
    -- the letter a is as good as the first good one
    have hj1 : x * costW cs a + matchN cs W (cutOut L j (j + 1)) = matchN cs (x :: W) L := by
      have h1 := matchN_le (cs := cs) (W := W) hpc (by rw [hpc.length_eq]; exact hcl j hj)
      obtain ⟨h2, h3⟩ := given_ok cs W (cutOut L j (j + 1)) (hcl j hj)
      have h4 : (a :: givenL cs W (cutOut L j (j + 1)) (matchN cs W (cutOut L j (j + 1)))) ~ L := by
        have q := perm_cut hj
        rw [hja] at q
        exact (h2.cons a).trans q.symm
      have h5 := matchN_le (cs := cs) (W := x :: W) h4 (by rw [h4.length_eq]; simpa using hl')
      rw [htot, h3] at h5
      omega
    have hkj : k ≤ j := by
      rcases Nat.lt_or_ge j k with h | h
      · have := hkf j (Nat.zero_le _) h
        unfold goodK at this
        rw [decide_eq_false_iff_not, hgD j hj, hja] at this
        exact absurd hj1 this
      · exact h
    rw [givenL_cons cs x W L _ hkk, hgD k hkl, before_cons]
    rcases Nat.lt_or_ge k j with h | h
    · have h1 := List.pairwise_iff_getElem.1 hs k j hkl hj h
      rw [hja] at h1
      rw [if_neg (fun e => ltW_irrefl a (by rw [← e] at h1; exact h1)), lessW_false h1]
    · obtain rfl : k = j := by omega
      rw [hja, if_pos rfl]
      rw [hgD k hkl, hja] at hkg
      have e : matchN cs (x :: W) L - x * costW cs a = matchN cs W (cutOut L k (k + 1)) := by omega
      rw [e]
      refine given_min cs W _ l' (hcl k hkl) ?_ hpc (by omega)
      unfold cutOut
      exact hs.sublist (by
        have := (List.Sublist.refl (L.take k)).append (List.sublist_cons_self L[k] (L.drop (k + 1)))
        rwa [← List.drop_eq_getElem_cons hkl, List.take_append_drop] at this)

/-! ### The best list -/
def BstM (cs W : List Nat) (xs : List (List Wd)) : Option (List Wd × Nat) → Prop
  | none => xs = []
  | some (b, m) => (∃ x ∈ xs, b = listOf cs W x ∧ m = matchN cs W x) ∧ ∀ y ∈ xs, m ≤ matchN cs W y ∧ (matchN cs W y = m → beforeL (listOf cs W y) b = false)
theorem listOf_len {cs W : List Nat} {x : List Wd} : (listOf cs W x).length = W.length := givenL_len cs W _ _
theorem BstM.run {cs W : List Nat} : ∀ (zs xs : List (List Wd)) (s : Option (List Wd × Nat)), (∀ y ∈ zs, goodB cs.length W.length y = true) → BstM cs W xs s → BstM cs W (xs ++ zs) (zs.foldl (stepG cs W) s)
  | [], xs, s, _, h => by simpa using h
  | y :: zs, xs, s, hg, h => by
    have hstep : BstM cs W (xs ++ [y]) (stepG cs W s y) := by
      unfold stepG
      rw [if_pos (hg y (by simp))]
      match s, h with
      | none, h =>
        have h : xs = [] := h
        subst h
        refine ⟨⟨y, by simp, rfl, rfl⟩, fun z hz => ?_⟩
        simp at hz
        subst hz
        exact ⟨Nat.le_refl _, fun _ => before_irrefl _⟩
      | some (b, m), h =>
        obtain ⟨⟨x, hx, h1, h2⟩, h3⟩ := h
        have hb : ∀ z, cmpWs (listOf cs W z) b < 0 ↔ beforeL (listOf cs W z) b = true := fun z => cmpWs_before (by rw [h1, listOf_len, listOf_len])
        unfold stepO
        simp only
        split
        · rename_i hlt
          refine ⟨⟨x, by simp [hx], h1, h2⟩, fun z hz => ?_⟩
          rcases List.mem_append.1 hz with hz | hz
          · exact h3 z hz
          · rw [List.mem_singleton.1 hz]; exact ⟨by omega, fun e => by omega⟩
        · rename_i hge
          split
          · rename_i hc
            refine ⟨⟨y, by simp, rfl, rfl⟩, fun z hz => ?_⟩
            rcases List.mem_append.1 hz with hz | hz
            · obtain ⟨g1, g2⟩ := h3 z hz
              refine ⟨by omega, fun e => ?_⟩
              have hmy : matchN cs W y = m := by omega
              have hby : beforeL (listOf cs W y) b = true := (hb y).1 (hc.resolve_left (by omega))
              refine Bool.eq_false_iff.2 fun hzy => ?_
              have := before_trans hzy hby
              rw [g2 (by omega)] at this
              cases this
            · rw [List.mem_singleton.1 hz]; exact ⟨Nat.le_refl _, fun _ => before_irrefl _⟩
          · rename_i hno
            refine ⟨⟨x, by simp [hx], h1, h2⟩, fun z hz => ?_⟩
            rcases List.mem_append.1 hz with hz | hz
            · exact h3 z hz
            · rw [List.mem_singleton.1 hz]
              refine ⟨by omega, fun e => Bool.eq_false_iff.2 fun hzb => hno (.inr ((hb y).2 hzb))⟩
    have := BstM.run zs (xs ++ [y]) _ (fun z hz => hg z (by simp [hz])) hstep
    rw [List.append_assoc] at this
    exact this
theorem PF.nodup {l : List Wd} (h : PF l) : l.Nodup := by
  refine List.Pairwise.imp (fun {a b} h e => ?_) h
  subst e
  exact h.1 (List.prefix_refl _)
theorem best_min {cs W : List Nat} (hc : OkC cs) (hw : OkW W) : (∃ x ∈ treesF cs.length W.length W.length [], bestL cs W ~ x ∧ totN cs W (bestL cs W) = leastL cs W ∧ matchN cs W x = leastL cs W) ∧
    ∀ x ∈ treesF cs.length W.length W.length [], leastL cs W ≤ matchN cs W x ∧ ∀ l, l ~ x → totN cs W l = leastL cs W → beforeL l (bestL cs W) = false := by
  have h3 := hc.l3
  have h5 := hw.l5
  have hB := BstM.run (cs := cs) (W := W) (treesF cs.length W.length W.length []) [] none (fun y hy => trees_good (by omega) (by omega) hy) rfl
  rw [List.nil_append] at hB
  have ho : (treesF cs.length W.length W.length []).foldl (stepG cs W) none = optN cs W := rfl
  rw [ho] at hB
  have hex : optN cs W ≠ none := fun e => by
    have hb := best_ok hc hw
    have : bestL cs W = [] := by unfold bestL; rw [e]; rfl
    rw [this] at hb
    have := hb.1
    have := hw.pos
    simp at *
    omega
  unfold bestL leastL
  match optN cs W, hB, hex with
  | some (b, m), hB, _ =>
    obtain ⟨⟨x, hx, h1, h2⟩, hall⟩ := hB
    have hlen : ∀ y ∈ treesF cs.length W.length W.length [], W.length = y.length := fun y hy => (treesF_len hy).symm
    obtain ⟨p1, p2⟩ := listOf_ok cs W x (hlen x hx)
    refine ⟨⟨x, hx, ?_, ?_, h2.symm⟩, fun y hy => ⟨(hall y hy).1, fun l hl ht => ?_⟩⟩
    · show b ~ x
      rw [h1]; exact p1
    · show totN cs W b = m
      rw [h1, p2, h2]
    · have ht : totN cs W l = m := ht
      show beforeL l b = false
      have hle := matchN_le (cs := cs) (W := W) hl (by rw [hl.length_eq]; exact hlen y hy)
      obtain ⟨g1, g2⟩ := hall y hy
      have hmy : matchN cs W y = m := by omega
      have hpf := (treesF_pf (by omega) hy).1
      have hsp : sortW y ~ y := List.mergeSort_perm y _
      have hm2 : matchN cs W (sortW y) = matchN cs W y := matchN_perm hsp
      have hmin := given_min cs W (sortW y) l (by rw [hsp.length_eq]; exact hlen y hy) (sortW_strict hpf.nodup) (hl.trans hsp.symm) (by rw [hm2]; omega)
      rw [hm2] at hmin
      have hmin : beforeL l (listOf cs W y) = false := hmin
      refine Bool.eq_false_iff.2 fun hlb => ?_
      -- l comes ahead of b, and so does what stands ahead of l
      have hll : l.length = (listOf cs W y).length := by rw [listOf_len, hl.length_eq]; exact (hlen y hy).symm
      cases hlo : beforeL (listOf cs W y) l
      · have := before_total hll hmin hlo
        rw [this, g2 hmy] at hlb
        cases hlb
      · have := before_trans hlo hlb
        rw [g2 hmy] at this
        cases this
end Go.Proofs.YtnaekjbbakofdaaGreat
end

section
namespace Go.Proofs.YtnaekjbbakofdaaGreat
open Go Go.AM List

def ordF : Nat → List Wd → List (List Wd)
  | 0, _ => [[]]
  | f + 1, l => if l = [] then [[]] else (List.range l.length).flatMap fun i => (ordF f (cutOut l i (i + 1))).map (l.getD i [] :: ·)
theorem ordF_perm : ∀ {f : Nat} {l m : List Wd}, l.length ≤ f → m ∈ ordF f l → m ~ l
  | 0, l, m, hl, h => by
    have : l = [] := List.length_eq_zero_iff.1 (by omega)
    subst this
    have : m = [] := by simpa [ordF] using h
    rw [this]
  | f + 1, l, m, hl, h => by
    unfold ordF at h
    split at h
    · rename_i h0
      rw [h0]
      have : m = [] := by simpa using h
      rw [this]
    · obtain ⟨i, hi, h⟩ := List.mem_flatMap.1 h
      obtain ⟨r, hr, rfl⟩ := List.mem_map.1 h
      have hi := List.mem_range.1 hi
      have hg : l.getD i [] = l[i] := by rw [List.getD_eq_getElem?_getD, List.getElem?_eq_getElem hi, Option.getD_some]
      have h1 := ordF_perm (f := f) (by unfold cutOut; simp; omega) hr
      rw [hg]
      exact (h1.cons _).trans (perm_cut hi).symm
theorem ordF_all : ∀ {f : Nat} {l m : List Wd}, l.length ≤ f → m ~ l → m ∈ ordF f l
  | 0, l, m, hl, h => by
    have : l = [] := List.length_eq_zero_iff.1 (by omega)
    subst this
    rw [h.eq_nil]; simp [ordF]
  | f + 1, l, m, hl, h => by
    unfold ordF
    split
    · rename_i h0
      subst h0
      rw [h.eq_nil]; simp
    · rename_i h0
      obtain ⟨a, m', rfl⟩ : ∃ a m', m = a :: m' := by
        cases m with
        | nil => exact absurd h.symm.eq_nil h0
        | cons a m' => exact ⟨a, m', rfl⟩
      obtain ⟨i, hi, hia⟩ := List.getElem_of_mem (h.mem_iff.1 (List.mem_cons_self : a ∈ a :: m'))
      have hg : l.getD i [] = l[i] := by rw [List.getD_eq_getElem?_getD, List.getElem?_eq_getElem hi, Option.getD_some]
      refine List.mem_flatMap.2 ⟨i, List.mem_range.2 hi, List.mem_map.2 ⟨m', ?_, by rw [hg, hia]⟩⟩
      refine ordF_all (by unfold cutOut; simp; omega) ?_
      have h1 := h.trans (perm_cut hi)
      rw [hia] at h1
      exact h1.cons_inv

def refStep (cs W : List Nat) (most : Nat) (out : Option (List Wd)) (l : List Wd) : Option (List Wd) :=
  if totN cs W l = most then (match out with
    | none => some l
    | some b => if beforeL l b = true then some l else some b) else out
def refTree (cs W : List Nat) (most n : Nat) (out : Option (List Wd)) (x : List Wd) : Option (List Wd) := if matchN cs W x ≠ most then out else (ordF n x).foldl (refStep cs W most) out
def refOpt (cs W : List Nat) (most : Nat) (T : List (List Wd)) : Option (List Wd) := T.foldl (refTree cs W most W.length) none

def RM (cs W : List Nat) (most : Nat) (S : List Wd → Prop) : Option (List Wd) → Prop
  | none => ∀ l, S l → totN cs W l ≠ most
  | some b => S b ∧ totN cs W b = most ∧ ∀ l, S l → totN cs W l = most → beforeL l b = false
theorem RM.step {cs W : List Nat} {most : Nat} {S : List Wd → Prop} {out : Option (List Wd)} (h : RM cs W most S out) (l : List Wd) : RM cs W most (fun m => S m ∨ m = l) (refStep cs W most out l) := by
  unfold refStep
  by_cases ht : totN cs W l = most
  · rw [if_pos ht]
    match out, h with
    | none, h =>
      refine ⟨.inr rfl, ht, fun m hm hmt => ?_⟩
      rcases hm with hm | rfl
      · exact absurd hmt (h m hm)
      · exact before_irrefl _
    | some b, ⟨h1, h2, h3⟩ =>
      simp only
      cases hb : beforeL l b
      · rw [if_neg (by simp)]
        refine ⟨.inl h1, h2, fun m hm hmt => ?_⟩
        rcases hm with hm | rfl
        · exact h3 m hm hmt
        · exact hb
      · rw [if_pos rfl]
        refine ⟨.inr rfl, ht, fun m hm hmt => ?_⟩
        rcases hm with hm | rfl
        · refine Bool.eq_false_iff.2 fun hml => ?_
          have := before_trans hml hb
          rw [h3 m hm hmt] at this
          cases this
        · exact before_irrefl _
  · rw [if_neg ht]
    match out, h with
    | none, h =>
      intro m hm
      rcases hm with hm | rfl
      · exact h m hm
      · exact ht
    | some b, ⟨h1, h2, h3⟩ =>
      refine ⟨.inl h1, h2, fun m hm hmt => ?_⟩
      rcases hm with hm | rfl
      · exact h3 m hm hmt
      · exact absurd hmt ht
theorem RM.congr {cs W : List Nat} {most : Nat} {S S' : List Wd → Prop} (hs : ∀ l, S l ↔ S' l) {out : Option (List Wd)} (h : RM cs W most S out) : RM cs W most S' out := by
  have : S = S' := funext fun l => propext (hs l)
  rwa [← this]
theorem RM.list {cs W : List Nat} {most : Nat} : ∀ (ls : List (List Wd)) {S : List Wd → Prop} {out : Option (List Wd)}, RM cs W most S out → RM cs W most (fun m => S m ∨ m ∈ ls) (ls.foldl (refStep cs W most) out)
  | [], S, out, h => h.congr fun l => by simp
  | l :: ls, S, out, h => by
    rw [List.foldl_cons]
    refine (RM.list ls (h.step l)).congr fun m => ?_
    rw [List.mem_cons, or_assoc]
theorem RM.trees {cs W : List Nat} {most : Nat} : ∀ (T : List (List Wd)) {S : List Wd → Prop} {out : Option (List Wd)}, RM cs W most S out → RM cs W most (fun m => S m ∨ ∃ x ∈ T, matchN cs W x = most ∧ m ∈ ordF W.length x) (T.foldl (refTree cs W most W.length) out)
  | [], S, out, h => h.congr fun l => by simp
  | x :: T, S, out, h => by
    rw [List.foldl_cons]
    unfold refTree
    by_cases hx : matchN cs W x = most
    · rw [if_neg (by simpa using hx)]
      refine (RM.trees T (h.list (ordF W.length x))).congr fun m => ?_
      constructor
      · rintro ((h | h) | ⟨y, hy, h⟩)
        · exact .inl h
        · exact .inr ⟨x, by simp, hx, h⟩
        · exact .inr ⟨y, by simp [hy], h⟩
      · rintro (h | ⟨y, hy, h⟩)
        · exact .inl (.inl h)
        · rcases List.mem_cons.1 hy with rfl | hy
          · exact .inl (.inr h.2)
          · exact .inr ⟨y, hy, h⟩
    · rw [if_pos hx]
      refine (RM.trees T h).congr fun m => ?_
      constructor
      · rintro (h | ⟨y, hy, h⟩)
        · exact .inl h
        · exact .inr ⟨y, by simp [hy], h⟩
      · rintro (h | ⟨y, hy, h⟩)
        · exact .inl h
        · rcases List.mem_cons.1 hy with rfl | hy
          · exact absurd h.1 hx
          · exact .inr ⟨y, hy, h⟩
theorem refOpt_best {cs W : List Nat} (hc : OkC cs) (hw : OkW W) : refOpt cs W (leastL cs W) (treesF cs.length W.length W.length []) = some (bestL cs W) := by
  obtain ⟨⟨x, hx, b1, b2, b3⟩, hall⟩ := best_min hc hw
  have hlen : ∀ y ∈ treesF cs.length W.length W.length [], y.length = W.length := fun y hy => treesF_len hy
  have h0 : RM cs W (leastL cs W) (fun _ => False) none := fun l h => h.elim
  have h1 := RM.trees (treesF cs.length W.length W.length []) h0
  have hS : (fun m => False ∨ ∃ x ∈ treesF cs.length W.length W.length [], matchN cs W x = leastL cs W ∧ m ∈ ordF W.length x) (bestL cs W) := .inr ⟨x, hx, b3, ordF_all (by rw [hlen x hx]; exact Nat.le_refl _) b1⟩
  have hr : refOpt cs W (leastL cs W) (treesF cs.length W.length W.length []) = (treesF cs.length W.length W.length []).foldl (refTree cs W (leastL cs W) W.length) none := rfl
  rw [hr]
  match (treesF cs.length W.length W.length []).foldl (refTree cs W (leastL cs W) W.length) none, h1 with
  | none, h1 => exact absurd b2 (h1 _ hS)
  | some b, ⟨g1, g2, g3⟩ =>
    obtain ⟨y, hy, _, hyb⟩ := g1.resolve_left id
    have hp := ordF_perm (by rw [hlen y hy]; exact Nat.le_refl _) hyb
    have e1 := (hall y hy).2 b hp g2
    have e2 := g3 _ hS b2
    have e : bestL cs W = b := before_total (by rw [b1.length_eq, hp.length_eq, hlen x hx, hlen y hy]) e2 e1
    rw [e]
end Go.Proofs.YtnaekjbbakofdaaGreat
end

