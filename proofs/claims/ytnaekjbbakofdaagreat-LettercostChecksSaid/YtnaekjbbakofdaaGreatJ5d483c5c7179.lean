/-
  The magnitude of a small number at the reference, walked with the kit's own words (an array of the function's own).
  The number of a short magnitude at the reference, walked with the kit's own words.
  The reference's integers: Of, Canonical, value.
  The reference's integers: trim, Canonical of any integer, the comparisons.
  The reference's integers: addition of magnitudes.
  The reference's integers: multiplication of magnitudes.
  The reference's integers: Add and Mul of naturals.
  lettercost.Check and the reference's Check, for any costs and weights.
  The reference's cost, free, total, Word and Cost for valid costs and weights.
  The law LettercostChecks (f10).
-/
import Derived.WalkKit
import Derived.KernelRfl
import Derived.LoopTactic
import Derived.Test.YtnaekjbbakofdaaGreatJf95f91a4d53a
import Derived.Test.YtnaekjbbakofdaaGreatJ0ae5149a2528
import Derived.Test.YtnaekjbbakofdaaGreatJb4043ef8568c

section
namespace Go.Proofs.YtnaekjbbakofdaaGreat
open Go Go.RowKit Go.Proofs
set_option maxRecDepth 100000
set_option linter.unnecessarySimpa false

theorem magB_one (n : Nat) (h0 : n ≠ 0) (h : n < 256) : magB n = [UInt8.ofNat n] := by
  have := magB_step (c := n) (n := 0) h
  rw [Nat.mul_zero, Nat.add_zero, if_neg (fun e => h0 e.1), magB_zero] at this
  exact this

theorem m108 (n : Nat) (hn : n < 9223372036854775808) (w : World) : Calls Tryz.prog 109 #[.int .i64 n] w fun e w' => e = .returned (.string ⟨(magB n).toArray⟩) ∧ Below w.heap.size w w' := by
  go_enter Tryz.func109, Tryz.ntmps109
  go_wp2
  · have h0 : ((n : Int) == 0) = true := by assumption
    have : n = 0 := by simpa using h0
    subst this
    go_ret
    exact ⟨rfl, Below.refl _ _⟩
  · have h0 : ((n : Int) == 0) = false := by assumption
    have h256 : (n : Int) < 256 := by assumption
    have h0' : n ≠ 0 := by simpa using h0
    have hc := run_convert_bytes_back (P := Tryz.prog) (w.alloc (.cells #[Value.int .u8 n] 5)) 39 9 5 ⟨w.heap.size, 0, none⟩ 1 [UInt8.ofNat n] Tryz.underlying39 Tryz.underlying5 Tryz.underlying9 (by
      intro j hj
      have hj0 : j = 0 := by simpa using hj
      subst hj0
      have hmod : n % 256 = n := Nat.mod_eq_of_lt (by omega)
      simp [Addr.add, UInt8.toNat_ofNat', hmod])
    rw [show (Value.slice (some { block := w.heap.size, off := 0 }) 1 1) = .slice (some ⟨w.heap.size, 0, none⟩) [UInt8.ofNat n].length 1 from rfl, hc]
    simp only [Result.andThen]
    rw [Oper.upon_value]
    go_wp2
    go_ret
    exact ⟨by rw [magB_one n h0' (by omega)]; rfl, (Below.refl _ _).alloc (Nat.le_refl _) _⟩
  · go_loopw [0, 4] (fun x k wr => ∃ (m p : Nat) (L : List UInt8), x = .int .i64 m ∧ k = .int .i64 p ∧ p + L.length = 8 ∧ magB n = magB m ++ L ∧ m ≤ n ∧ Below w.heap.size w wr ∧ wr.heap.size = w.heap.size + 1 ∧
        (∀ i, i < 8 → (wr.cell? ⟨w.heap.size, i, none⟩).isSome = true ∧ wr.frozen? ⟨w.heap.size, i, none⟩ = false) ∧ (∀ i (hi : i < L.length), wr.cell? ⟨w.heap.size, p + i, none⟩ = some (.int .u8 (L[i].toNat : Int))))
      (fun x _ _ => (intOf x).toNat)
    case atStart =>
      refine ⟨n, 8, [], rfl, rfl, rfl, by simp, Nat.le_refl _, (Below.refl _ _).alloc (Nat.le_refl _) _, World.size_alloc _ _, fun i hi => ?_, fun i hi => by simp at hi⟩
      rw [World.cell?_alloc_new, World.frozen?_alloc_new]
      refine ⟨?_, rfl⟩
      simp [hi]
    case round =>
      obtain ⟨m, p, L, rfl, rfl, hpL, hL, hmn, hB, hsz, hc, hl⟩ := hrel
      have hp : m > 0 → 0 < p := fun h => by
        have h1 := congrArg List.length hL
        rw [List.length_append] at h1
        have h2 := magB_small (k := 8) (n := n) (by omega)
        have h3 : (magB m).length ≠ 0 := fun e => by have := magB_nil (List.length_eq_zero_iff.1 e); omega
        omega
      by_cases hm : m > 0
      · have hp' := hp hm
        obtain ⟨p, rfl⟩ : ∃ r, p = r + 1 := ⟨p - 1, by omega⟩
        obtain ⟨u, hu⟩ := Option.isSome_iff_exists.1 (hc p (by omega)).1
        have hfp' := (hc p (by omega)).2
        clear hp
        go_wp2
        refine ⟨⟨m / 256, p, UInt8.ofNat (m % 256) :: L, ?_, rfl, ?_, ?_, ?_, ?_, ?_, ?_, ?_⟩, ?_⟩
        · rw [Int.natCast_ediv]; rfl
        · rw [List.length_cons]; omega
        · have h4 := magB_step (c := m % 256) (n := m / 256) (Nat.mod_lt _ (by decide))
          rw [Nat.mod_add_div, if_neg (fun e => by omega)] at h4
          rw [hL, h4, List.append_assoc]; rfl
        · exact Nat.le_trans (Nat.div_le_self _ _) hmn
        · exact hB.setCell (Nat.le_refl _) _
        · rw [World.size_setCell]; exact hsz
        · intro i hi
          rw [World.frozen?_setCell]
          refine ⟨?_, (hc i hi).2⟩
          by_cases e : i = p
          · subst e; rw [World.cell?_setCell_same (h := hu)]; rfl
          · rw [World.cell?_setCell_other (h := show (⟨w.heap.size, p, none⟩ : Addr) ≠ ⟨w.heap.size, i, none⟩ from fun e2 => e (by injection e2 with _ e3; exact e3.symm))]; exact (hc i hi).1
        · intro i hi
          cases i with
          | zero =>
            rw [Nat.add_zero, World.cell?_setCell_same (h := hu)]
            have : m % 256 < 256 := Nat.mod_lt _ (by decide)
            simp [UInt8.toNat_ofNat']
          | succ i =>
            rw [World.cell?_setCell_other (h := show (⟨w.heap.size, p, none⟩ : Addr) ≠ ⟨w.heap.size, p + (i + 1), none⟩ from fun e2 => by injection e2 with _ e3; omega), show p + (i + 1) = p + 1 + i by omega]
            exact hl i (by simpa using hi)
        · simp [intOf]; omega
      · have hm0 : m = 0 := by omega
        subst hm0
        clear hp
        rw [magB_zero, List.nil_append] at hL
        have hLn : L ≠ [] := fun e => by
          rw [e] at hL
          have := magB_nil hL
          omega
        have hLl := List.length_pos_iff.2 hLn
        have eL : Tryz.prog.arrayLen 128 = 8 := by kernel_rfl
        have eE : Tryz.prog.elem 128 = 5 := by kernel_rfl
        have hsl := run_sliceAt_array_l (P := Tryz.prog) wr 128 ⟨w.heap.size, 0, none⟩ (by rw [eL, eE]; exact Tryz.underlying128) .i64 (p : Int) (by omega) (by rw [eL]; omega)
        rw [eL, eE] at hsl
        have hcv := run_convert_bytes_back (P := Tryz.prog) wr 39 9 5 ⟨w.heap.size, p, none⟩ L.length L Tryz.underlying39 Tryz.underlying5 Tryz.underlying9 (fun j hj => by
          have h5 := hl j hj
          by_cases e : j = 0
          · subst e; simpa [Addr.add] using h5
          · simpa [Addr.add, e] using h5)
        go_wp2
        rw [show 8 - p = L.length by omega, hcv]
        simp only [Result.andThen]
        rw [Oper.upon_value]
        go_wp2
        go_ret
        exact ⟨by rw [hL]; rfl, hB⟩
end Go.Proofs.YtnaekjbbakofdaaGreat
end

section
namespace Go.Proofs.YtnaekjbbakofdaaGreat
open Go Go.RowKit Go.Proofs
set_option maxRecDepth 100000

def beN (l : List UInt8) : Nat := l.foldl (fun a b => a * 256 + b.toNat) 0
theorem beN_snoc (l : List UInt8) (b : UInt8) : beN (l ++ [b]) = beN l * 256 + b.toNat := by unfold beN; rw [List.foldl_append]; rfl
theorem beN_lt : ∀ (k : Nat) (l : List UInt8), l.length = k → beN l < 256 ^ k
  | 0, l, h => by rw [List.length_eq_zero_iff.1 h]; decide
  | k + 1, l, h => by
    have hne : l ≠ [] := fun e => by rw [e] at h; cases h
    rw [← List.dropLast_concat_getLast hne, beN_snoc]
    have h1 := beN_lt k l.dropLast (by rw [List.length_dropLast]; omega)
    have h2 := (l.getLast hne).toNat_lt
    rw [Nat.pow_succ]; omega
theorem beN_magB (n : Nat) : beN (magB n) = n := by
  induction n using Nat.strongRecOn with
  | _ n ih =>
    by_cases h : n = 0
    · subst h; rfl
    · have h4 := magB_step (c := n % 256) (n := n / 256) (Nat.mod_lt _ (by decide))
      rw [Nat.mod_add_div, if_neg (fun e => by omega)] at h4
      rw [h4, beN_snoc, ih _ (by omega), UInt8.toNat_ofNat']
      have : n % 256 % 2 ^ 8 = n % 256 := by omega
      rw [this]; omega

theorem orB_add (a b : Nat) (ha : a < 256 ^ 6) (hb : b < 256) : bits .or .i64 ((a : Int) * 256) (wrap64 (b : Int)) = ((a * 256 + b : Nat) : Int) := by
  have h1 : ((a : Int) * 256) = ((a * 256 : Nat) : Int) := by omega
  have h2 : wrap64 (b : Int) = (b : Int) := by unfold wrap64; omega
  have h3 := Nat.shiftLeft_add_eq_or_of_lt (b := b) (i := 8) (by omega) a
  rw [h1, h2]
  have g1 : a * 256 < 18446744073709551616 := by omega
  have e : (BitVec.ofInt 64 ((a * 256 : Nat) : Int) ||| BitVec.ofInt 64 (b : Int)).toNat = a * 256 + b := by
    rw [BitVec.toNat_or, BitVec.ofInt_natCast, BitVec.ofInt_natCast, BitVec.toNat_ofNat, BitVec.toNat_ofNat, Nat.mod_eq_of_lt g1, Nat.mod_eq_of_lt (show b < 2 ^ 64 by omega)]
    rw [Nat.shiftLeft_eq] at h3
    exact h3.symm
  show IntKind.wrap .i64 ((BitVec.ofInt 64 ((a * 256 : Nat) : Int) ||| BitVec.ofInt 64 (b : Int)).toNat : Nat) = _
  rw [e]
  exact AM.InR.wrap (k := .i64) (by simp only [AM.InR]; omega)

theorem m124 (s : ByteArray) (hs : s.size ≤ 7) (w : World) : Calls Tryz.prog 120 #[.string s] w fun e w' => e = .returned (.int .i64 (beN s.data.toList)) ∧ w' = w := by
  go_enter Tryz.func120, Tryz.ntmps120
  go_wp2
  go_loop [3, 4] (fun x k => ∃ i : Nat, i ≤ s.size ∧ k = .int .i64 i ∧ x = .int .i64 (beN (s.data.toList.take i)))
    (fun _ k => s.size - (intOf k).toNat)
  case atStart => exact ⟨0, by omega, rfl, rfl⟩
  case round =>
    obtain ⟨i, hi, rfl, rfl⟩ := hrel
    by_cases hlt : i < s.size
    · have hlt' : (i : Int) < s.size := by omega
      have hlen : s.data.toList.length = s.size := by simp
      have htl : (s.data.toList.take i).length = i := by rw [List.length_take]; omega
      have hbd := beN_lt i _ htl
      have hbd6 : beN (s.data.toList.take i) < 256 ^ 6 := Nat.lt_of_lt_of_le hbd (Nat.pow_le_pow_right (by decide) (by omega))
      have hor := orB_add (beN (s.data.toList.take i)) s[i].toNat hbd6 s[i].toNat_lt
      have hnext : beN (s.data.toList.take (i + 1)) = beN (s.data.toList.take i) * 256 + s[i].toNat := by
        rw [List.take_succ_eq_append_getElem (by omega), beN_snoc]; rfl
      go_wp2
      refine ⟨⟨i + 1, by omega, by simp, ?_⟩, ?_⟩
      · rw [hnext, Int.natCast_add, Int.natCast_mul]; rfl
      · simp only [intOf]; omega
    · have hlt' : ¬ (i : Int) < s.size := by omega
      have hie : i = s.size := by omega
      go_wp2
      go_ret
      exact ⟨by rw [List.take_of_length_le (by simp)]; rfl, rfl⟩
end Go.Proofs.YtnaekjbbakofdaaGreat
end

section
namespace Go.Proofs.YtnaekjbbakofdaaGreat
open Go Go.AM Go.RowKit
set_option maxRecDepth 100000
set_option linter.unusedSimpArgs false

theorem u99 (n : Nat) (hn : n < 9223372036854775808) : PFn Tryz.prog 109 [.int .i64 n] [.str (magB n)] := by
  refine ⟨entersF_of Tryz.func109 (by kernel_rfl) rfl, fun I w cargs himm hlen hargs => ?_⟩
  obtain ⟨a, rfl⟩ : ∃ a, cargs = [a] := by
    match cargs, hlen with
    | [a], _ => exact ⟨a, rfl⟩
  have h0 := hargs 0 (by simp)
  simp only [List.getD_cons_zero] at h0
  rw [h0.int_inv]
  refine Calls.mono (P := Tryz.prog) (m108 n hn w) ?_
  rintro e w' ⟨rfl, hB⟩
  exact ⟨_, I, rfl, grown_of_below hB, fun _ h => h, fun g h => .inl h, .p _ _ (.str ⟨(magB n).toArray⟩)⟩
theorem u124 (l : List UInt8) (hl : l.length ≤ 7) : PFn Tryz.prog 120 [.str l] [.int .i64 (beN l)] := by
  refine ⟨entersF_of Tryz.func120 (by kernel_rfl) rfl, fun I w cargs himm hlen hargs => ?_⟩
  obtain ⟨a, rfl⟩ : ∃ a, cargs = [a] := by
    match cargs, hlen with
    | [a], _ => exact ⟨a, rfl⟩
  have h0 := hargs 0 (by simp)
  simp only [List.getD_cons_zero] at h0
  obtain ⟨s, rfl, rfl⟩ : ∃ s : ByteArray, a = .string s ∧ l = s.data.toList := by
    cases h0 with
    | str s => exact ⟨s, rfl, rfl⟩
  refine Calls.mono (P := Tryz.prog) (m124 s (by simpa using hl) w) ?_
  rintro e w' ⟨rfl, rfl⟩
  exact ⟨_, I, rfl, grown_of_below (Below.refl _ _), fun _ h => h, fun g h => .inl h, .p _ _ (.int _ _)⟩

theorem intF (n : Nat) : intN false n = .agg [.bool false, .str (magB n)] := rfl
theorem mag7 {n : Nat} (h : n < 256 ^ 7) : (magB n).length ≤ 7 := magB_small h
theorem magB_head (n : Nat) (h : n ≠ 0) : ∃ b l, magB n = b :: l ∧ b ≠ 0 := by
  induction n using Nat.strongRecOn with
  | _ n ih =>
    have h4 := magB_step (c := n % 256) (n := n / 256) (Nat.mod_lt _ (by decide))
    rw [Nat.mod_add_div, if_neg (fun e => by omega)] at h4
    by_cases h0 : n / 256 = 0
    · refine ⟨UInt8.ofNat (n % 256), [], by rw [h4, h0, magB_zero]; rfl, fun e => ?_⟩
      have := congrArg UInt8.toNat e
      rw [UInt8.toNat_ofNat'] at this
      have z : (0 : UInt8).toNat = 0 := rfl
      rw [z] at this
      omega
    · obtain ⟨b, l, h1, h2⟩ := ih (n / 256) (by omega) h0
      exact ⟨b, l ++ [UInt8.ofNat (n % 256)], by rw [h4, h1]; rfl, h2⟩

theorem u110 (n : Nat) (hn : n < 256 ^ 7) : PFn Tryz.prog 105 [intN false n] [.int .i64 n] := by
  have e := u124 (magB n) (mag7 hn)
  rw [beN_magB] at e
  rw [intF]
  generalize magB n = l at *
  refine PFn.of_body hΓ Tryz.func105 (by kernel_rfl) rfl (AWp.of_awpD [] hΓ hmix (by kernel_rfl) ?_)
  simp -implicitDefEqProofs only [Tryz.ntmps105, Tryz.results105, Nat.reduceAdd, Nat.reduceSub, go_sem]
  refine callK_fn e (.pures rfl) ?_
  simp -implicitDefEqProofs only [go_sem]
theorem u109e : PFn Tryz.prog 113 [.str []] [.str []] := by
  refine PFn.of_body hΓ Tryz.func113 (by kernel_rfl) rfl (AWp.of_awpD [] hΓ hmix (by kernel_rfl) ?_)
  simp -implicitDefEqProofs only [Tryz.ntmps113, Tryz.results113, Nat.reduceAdd, Nat.reduceSub, go_sem]
  refine AWp.loopI (fun _ : Unit => ⟨mkF 14 [(0, .p (.str []))], []⟩) (fun _ => True) (fun _ => 0) () (by simp [go_sem]) trivial ?_
  rintro _ _
  simp -implicitDefEqProofs only [go_sem]
  refine AWp.of_awpD [] hΓ hmix (by kernel_rfl) ?_
  have z : ¬ (0 : Int) < ((0 : Nat) : Int) := by decide
  simp -implicitDefEqProofs only [List.length_nil, z, go_sem]
theorem u96 (n : Nat) : PFn Tryz.prog 91 [intN false n] [intN false n] := by
  rw [intF]
  refine PFn.of_body hΓ Tryz.func91 (by kernel_rfl) rfl (AWp.of_awpD [] hΓ hmix (by kernel_rfl) ?_)
  by_cases h : n = 0
  · subst h
    rw [magB_zero]
    have z : ¬ (0 : Int) < ((0 : Nat) : Int) := by decide
    simp -implicitDefEqProofs only [Tryz.ntmps91, Tryz.results91, Nat.reduceAdd, Nat.reduceSub, List.length_nil, z, go_sem]
    refine callK_fn u109e (.pures rfl) ?_
    simp -implicitDefEqProofs only [go_sem]
    omega
  · obtain ⟨b, l, h1, h2⟩ := magB_head n h
    rw [h1]
    have z : (0 : Int) < ((l.length + 1 : Nat) : Int) := by omega
    have z3 : ¬ ((((b :: l).getD (Int.toNat 0) 0).toNat : Nat) : Int) = 0 := fun e => h2 (by
      have e1 : b.toNat = 0 := by simpa using e
      exact UInt8.toNat_inj.1 e1)
    simp -implicitDefEqProofs only [Tryz.ntmps91, Tryz.results91, Nat.reduceAdd, Nat.reduceSub, List.length_cons, z, z3, go_sem]
theorem u76 (n : Nat) (hn : n < 9223372036854775808) : PFn Tryz.prog 74 [.int .i64 n] [intN false n] := by
  have e := u99 n hn
  have h0 : (0 : Int) ≤ n := by omega
  rw [intF]
  generalize magB n = l at *
  refine PFn.of_body hΓ Tryz.func74 (by kernel_rfl) rfl (AWp.of_awpD [] hΓ hmix (by kernel_rfl) ?_)
  simp -implicitDefEqProofs only [Tryz.ntmps74, Tryz.results74, Nat.reduceAdd, Nat.reduceSub, h0, go_sem]
  refine callK_fn e (.pures rfl) ?_
  simp -implicitDefEqProofs only [go_sem]

end Go.Proofs.YtnaekjbbakofdaaGreat
end

section
namespace Go.Proofs.YtnaekjbbakofdaaGreat
open Go Go.AM Go.RowKit
set_option maxRecDepth 100000
set_option maxHeartbeats 4000000
set_option linter.unusedSimpArgs false

theorem beN_cons (a : UInt8) (l : List UInt8) : beN (a :: l) = a.toNat * 256 ^ l.length + beN l := by
  have : ∀ (l : List UInt8) (n : Nat), l.foldl (fun a b => a * 256 + b.toNat) n = n * 256 ^ l.length + beN l := fun l => by
    induction l with
    | nil => intro n; simp [beN]
    | cons b l ih =>
      intro n
      unfold beN
      rw [List.foldl_cons, List.foldl_cons, ih, ih, List.length_cons, Nat.pow_succ, Nat.zero_mul, Nat.zero_add, Nat.add_mul, Nat.mul_assoc, Nat.mul_comm 256, Nat.add_assoc]
  unfold beN
  rw [List.foldl_cons, this, Nat.zero_mul, Nat.zero_add]; rfl
theorem mag_high (n : Nat) : n < 256 ^ (magB n).length := by
  have := beN_lt _ (magB n) rfl
  rwa [beN_magB] at this
def trimB : List UInt8 → List UInt8
  | [] => []
  | b :: l => if b = 0 then trimB l else b :: l
theorem beN_zero (l : List UInt8) : beN (0 :: l) = beN l := by rw [beN_cons]; have : (0 : UInt8).toNat = 0 := rfl; rw [this]; omega
theorem mag_be : ∀ (k : Nat) (b : UInt8) (l : List UInt8), l.length = k → b ≠ 0 → magB (beN (b :: l)) = b :: l
  | 0, b, l, hl, hb => by
    have : l = [] := List.length_eq_zero_iff.1 hl
    subst this
    have h0 : b.toNat ≠ 0 := fun e => hb (UInt8.toNat_inj.1 e)
    have e : beN [b] = b.toNat + 256 * 0 := by simp [beN]
    rw [e, magB_step (UInt8.toNat_lt b), if_neg (fun h => h0 h.1), magB_zero]
    simp
  | k + 1, b, l, hl, hb => by
    have hne : l ≠ [] := fun e => by rw [e] at hl; cases hl
    obtain ⟨t, c, rfl⟩ : ∃ t c, l = t ++ [c] := ⟨l.dropLast, l.getLast hne, (List.dropLast_concat_getLast hne).symm⟩
    have ih := mag_be k b t (by simpa using hl) hb
    have e : beN (b :: (t ++ [c])) = c.toNat + 256 * beN (b :: t) := by
      rw [← List.cons_append, beN_snoc]; omega
    rw [e, magB_step (UInt8.toNat_lt c), if_neg (fun h => by rw [h.2, magB_zero] at ih; cases ih), ih]
    simp
theorem trimB_mag : ∀ l : List UInt8, trimB l = magB (beN l)
  | [] => rfl
  | b :: l => by
    unfold trimB
    by_cases h : b = 0
    · rw [if_pos h, h, beN_zero, trimB_mag l]
    · rw [if_neg h, mag_be _ b l rfl h]
theorem beN_magNat (l : List UInt8) : beN l = magNat l := by
  have : ∀ k (l : List UInt8), l.length = k → beN l = magNat l := by
    intro k
    induction k with
    | zero => intro l hl; rw [List.length_eq_zero_iff.1 hl]; rfl
    | succ k ih =>
      intro l hl
      have hne : l ≠ [] := fun e => by rw [e] at hl; cases hl
      obtain ⟨t, c, rfl⟩ : ∃ t c, l = t ++ [c] := ⟨l.dropLast, l.getLast hne, (List.dropLast_concat_getLast hne).symm⟩
      rw [beN_snoc, ih t (by simpa using hl)]
      unfold magNat lebs
      rw [List.reverse_append, List.map_append]
      simp [valD]; omega
  exact this _ l rfl

theorem q113 (l : List UInt8) (hl : l.length ≤ 1000000) : PFn Tryz.prog 113 [.str l] [.str (magB (beN l))] := by
  rw [← trimB_mag]
  refine PFn.of_body hΓ Tryz.func113 (by kernel_rfl) rfl (AWp.of_awpD [] hΓ hmix (by kernel_rfl) ?_)
  simp -implicitDefEqProofs only [Tryz.ntmps113, Tryz.results113, Nat.reduceAdd, Nat.reduceSub, go_sem]
  refine AWp.loopI (fun x : List UInt8 => ⟨mkF 14 [(0, .p (.str x))], []⟩) (fun x => trimB x = trimB l ∧ x.length ≤ 1000000) (fun x => x.length) l (by simp [go_sem]) ⟨rfl, hl⟩ ?_
  rintro x ⟨hx, hxl⟩
  simp -implicitDefEqProofs only [go_sem]
  refine AWp.of_awpD [] hΓ hmix (by kernel_rfl) ?_
  match x, hx, hxl with
  | [], hx, _ =>
    have z : ¬ (0 : Int) < ((0 : Nat) : Int) := by decide
    have z2 : trimB [] = [] := rfl
    rw [z2] at hx
    simp -implicitDefEqProofs only [List.length_nil, z, go_sem]
    exact hx
  | b :: t, hx, hxl =>
    have z : (0 : Int) < ((t.length + 1 : Nat) : Int) := by omega
    have hlen : t.length + 1 ≤ 1000000 := hxl
    by_cases hb : b = 0
    · subst hb
      have hx2 : trimB t = trimB l := by rw [← hx]; rfl
      simp -implicitDefEqProofs only [List.length_cons, z, go_sem]
      refine ⟨fun _ => ⟨⟨by omega, by omega⟩, t, rfl, ⟨hx2, by omega⟩, by omega⟩, fun h => absurd rfl h⟩
    · have hx2 : trimB l = b :: t := by rw [← hx]; unfold trimB; rw [if_neg hb]
      have z3 : ¬ ((((b :: t).getD (Int.toNat 0) 0).toNat : Nat) : Int) = 0 := fun e => hb (by
        have e1 : b.toNat = 0 := by simpa using e
        exact UInt8.toNat_inj.1 e1)
      simp -implicitDefEqProofs only [List.length_cons, z, z3, go_sem]
      exact hx2.symm
theorem q91 (neg : Bool) (mag : List UInt8) (hl : mag.length ≤ 1000000) : PFn Tryz.prog 91 [intV neg mag] [intN neg (beN mag)] := by
  have e113 := q113 mag hl
  have hm := trimB_mag mag
  unfold intV
  match mag, hm, hl with
  | [], hm, _ =>
    have z : ¬ (0 : Int) < ((0 : Nat) : Int) := by decide
    have hb : beN [] = 0 := rfl
    rw [hb, intN_zero]
    rw [hb, magB_zero] at e113
    unfold intV
    refine PFn.of_body hΓ Tryz.func91 (by kernel_rfl) rfl (AWp.of_awpD [] hΓ hmix (by kernel_rfl) ?_)
    simp -implicitDefEqProofs only [Tryz.ntmps91, Tryz.results91, Nat.reduceAdd, Nat.reduceSub, List.length_nil, z, go_sem]
    refine callK_fn e113 (.pures rfl) ?_
    cases neg
    · simp -implicitDefEqProofs only [go_sem]
      omega
    · simp -implicitDefEqProofs only [go_sem]
      omega
  | b :: t, hm, hl =>
    have hlen : t.length + 1 ≤ 1000000 := hl
    have z : (0 : Int) < ((t.length + 1 : Nat) : Int) := by omega
    by_cases hb : b = 0
    · subst hb
      have z3 : (((0 :: t : List UInt8).getD (Int.toNat 0) 0).toNat : Int) = 0 := rfl
      obtain ⟨n, hn⟩ : ∃ n, n = beN (0 :: t) := ⟨_, rfl⟩
      rw [← hn] at e113 ⊢
      unfold intN intV
      by_cases h0 : n = 0
      · rw [h0, magB_zero] at e113 ⊢
        refine PFn.of_body hΓ Tryz.func91 (by kernel_rfl) rfl (AWp.of_awpD [] hΓ hmix (by kernel_rfl) ?_)
        cases neg
        · simp -implicitDefEqProofs only [Tryz.ntmps91, Tryz.results91, Nat.reduceAdd, Nat.reduceSub, List.length_cons, z, z3, go_sem]
          refine callK_fn e113 (.pures rfl) ?_
          simp -implicitDefEqProofs only [go_sem]
          first | omega | exact ⟨by omega, by simp [h0]⟩
        · simp -implicitDefEqProofs only [Tryz.ntmps91, Tryz.results91, Nat.reduceAdd, Nat.reduceSub, List.length_cons, z, z3, go_sem]
          refine callK_fn e113 (.pures rfl) ?_
          simp -implicitDefEqProofs only [go_sem]
          omega
      · have hne : ¬ magB n = [] := fun e => h0 (magB_nil e)
        refine PFn.of_body hΓ Tryz.func91 (by kernel_rfl) rfl (AWp.of_awpD [] hΓ hmix (by kernel_rfl) ?_)
        cases neg
        · simp -implicitDefEqProofs only [Tryz.ntmps91, Tryz.results91, Nat.reduceAdd, Nat.reduceSub, List.length_cons, z, z3, go_sem]
          refine callK_fn e113 (.pures rfl) ?_
          simp -implicitDefEqProofs only [go_sem]
          first | omega | exact ⟨by omega, by simp [h0]⟩
        · simp -implicitDefEqProofs only [Tryz.ntmps91, Tryz.results91, Nat.reduceAdd, Nat.reduceSub, List.length_cons, z, z3, go_sem]
          refine callK_fn e113 (.pures rfl) ?_
          simp -implicitDefEqProofs only [hne, go_sem]
          exact ⟨by omega, by simp [h0]⟩
    · have hx2 : magB (beN (b :: t)) = b :: t := by rw [← hm]; unfold trimB; rw [if_neg hb]
      have z3 : ¬ ((((b :: t).getD (Int.toNat 0) 0).toNat : Nat) : Int) = 0 := fun e => hb (by
        have e1 : b.toNat = 0 := by simpa using e
        exact UInt8.toNat_inj.1 e1)
      have hn0 : beN (b :: t) ≠ 0 := fun e => by rw [e, magB_zero] at hx2; cases hx2
      have hd : (neg && decide (beN (b :: t) ≠ 0)) = neg := by rw [decide_eq_true hn0, Bool.and_true]
      unfold intN intV
      rw [hd, hx2]
      refine PFn.of_body hΓ Tryz.func91 (by kernel_rfl) rfl (AWp.of_awpD [] hΓ hmix (by kernel_rfl) ?_)
      simp -implicitDefEqProofs only [Tryz.ntmps91, Tryz.results91, Nat.reduceAdd, Nat.reduceSub, List.length_cons, z, z3, go_sem]

theorem aggIng {p q : Bool} {A C : List UInt8} {x y : AV} {K : AV → Prop} (hx : x.pure = some (.agg [.bool p, .str A])) (hy : y.pure = some (.agg [.bool q, .str C]))
    (hK : K (.p (.bool (!(p == q && decide (A = C)))))) : aggK Γ .neq 31 x y K := by
  have he : ∃ te fs, Γ 31 = some te ∧ te.td = .struct fs ∧ te.eqs = true ∧ eqAgg Γ fs [.bool p, .str A] [.bool q, .str C] = some ((p == q) && (decide (A = C) && true)) := ⟨_, _, rfl, rfl, rfl, rfl⟩
  obtain ⟨te, fs, h1, h2, h3, h4⟩ := he
  rw [Bool.and_true] at h4
  unfold aggK
  rw [hx, hy]
  simp only [tyAt, h1, h2, h3, h4]
  exact ⟨⟨trivial, rfl, rfl⟩, hK⟩

def okI (neg : Bool) (mag : List UInt8) : Bool := (neg == (neg && decide (beN mag ≠ 0))) && decide (mag = magB (beN mag))
theorem q64 (neg : Bool) (mag : List UInt8) (hl : mag.length ≤ 1000000) : PFn Tryz.prog 64 [intV neg mag] [.int .i64 (if okI neg mag = true then 0 else 1)] := by
  have e91 := q91 neg mag hl
  unfold intN at e91
  have ho : okI neg mag = ((neg == (neg && decide (beN mag ≠ 0))) && decide (mag = magB (beN mag))) := rfl
  generalize (neg && decide (beN mag ≠ 0)) = q at *
  generalize magB (beN mag) = M at *
  unfold intV at *
  refine PFn.of_body hΓ Tryz.func64 (by kernel_rfl) rfl (AWp.seq (AWp.of_awpD [] hΓ hmix (by kernel_rfl) ?_))
  simp -implicitDefEqProofs only [Tryz.ntmps64, Tryz.results64, Nat.reduceAdd, Nat.reduceSub, go_sem]
  refine AWp.seq (AWp.seq (AWp.of_awpD [(1, 4)] hΓ hmix (by kernel_rfl) ?_))
  simp -implicitDefEqProofs only [go_sem]
  refine callVPK_fn e91 (.still rfl) ?_
  simp -implicitDefEqProofs only [go_sem]
  refine aggIng rfl rfl ?_
  rw [← ho]
  cases okI neg mag
  · simp -implicitDefEqProofs only [go_sem]
    refine AWp.of_awpD [] hΓ hmix (by kernel_rfl) ?_
    simp -implicitDefEqProofs only [go_sem]
    try rfl
  · simp -implicitDefEqProofs only [go_sem]
    refine AWp.of_awpD [] hΓ hmix (by kernel_rfl) ?_
    simp -implicitDefEqProofs only [go_sem]
    refine AWp.of_awpD [] hΓ hmix (by kernel_rfl) ?_
    simp -implicitDefEqProofs only [go_sem]
    try rfl
theorem q63 (neg : Bool) (mag : List UInt8) (hl : mag.length ≤ 100) : PFn Tryz.prog 63 [intV neg mag] [.int .i64 (if okI neg mag = true then 0 else 1)] := by
  have e52 := u69 neg mag (by omega)
  have hcap : magNat mag < 256 ^ 100 := by rw [← beN_magNat]; exact Nat.lt_of_lt_of_le (beN_lt _ mag rfl) (Nat.pow_le_pow_right (by decide) hl)
  have e50 := u66 neg (digD B32 (magNat mag)) (dig_lt _) (by
    have := digD_small (B := B32) (k := 100) (n := magNat mag) (by decide) (Nat.lt_of_lt_of_le hcap (Nat.pow_le_pow_left (by decide) _))
    omega)
  rw [digD_val (by decide), ← beN_magNat] at e50
  rw [← beN_magNat] at e52
  unfold intN at e50
  have ho : okI neg mag = ((neg == (neg && decide (beN mag ≠ 0))) && decide (mag = magB (beN mag))) := rfl
  generalize (neg && decide (beN mag ≠ 0)) = q at *
  generalize magB (beN mag) = M at *
  have ho2 : okI neg mag = (q == neg && decide (M = mag)) := by
    rw [ho]
    congr 1
    · cases q <;> cases neg <;> rfl
    · exact decide_eq_decide.2 eq_comm
  generalize digD B32 (beN mag) = D at *
  unfold intV at *
  refine PFn.of_body hΓ Tryz.func63 (by kernel_rfl) rfl (AWp.seq (AWp.of_awpD [] hΓ hmix (by kernel_rfl) ?_))
  simp -implicitDefEqProofs only [Tryz.ntmps63, Tryz.results63, Nat.reduceAdd, Nat.reduceSub, go_sem]
  refine AWp.seq (AWp.seq (AWp.of_awpD [(1, 7)] hΓ hmix (by kernel_rfl) ?_))
  simp -implicitDefEqProofs only [go_sem]
  refine callVPK_fn e52 (.still rfl) ?_
  simp -implicitDefEqProofs only [go_sem]
  refine callVPK_fn e50 (.still rfl) ?_
  simp -implicitDefEqProofs only [go_sem]
  refine aggIng rfl rfl ?_
  rw [← ho2]
  cases okI neg mag
  · simp -implicitDefEqProofs only [go_sem]
    refine AWp.of_awpD [] hΓ hmix (by kernel_rfl) ?_
    simp -implicitDefEqProofs only [go_sem]
    try rfl
  · simp -implicitDefEqProofs only [go_sem]
    refine AWp.of_awpD [] hΓ hmix (by kernel_rfl) ?_
    simp -implicitDefEqProofs only [go_sem]
    refine AWp.of_awpD [] hΓ hmix (by kernel_rfl) ?_
    simp -implicitDefEqProofs only [go_sem]
    try rfl
end Go.Proofs.YtnaekjbbakofdaaGreat
end

section
namespace Go.Proofs.YtnaekjbbakofdaaGreat
open Go Go.AM Go.RowKit
set_option maxRecDepth 100000
set_option maxHeartbeats 4000000
set_option linter.unusedSimpArgs false

def u8d (d : Nat) : PV := .int .u8 (d : Int)
def tailR (n : Nat) (L : List Nat) : List PV := (List.replicate (n - L.length) 0 ++ L).map u8d
theorem tailR_len {n : Nat} {L : List Nat} (h : L.length ≤ n) : (tailR n L).length = n := by unfold tailR; simp; omega
theorem tailR_set {n d : Nat} {L : List Nat} (h : L.length < n) : (tailR n L).set (n - (L.length + 1)) (u8d d) = tailR n (d :: L) := by
  unfold tailR
  obtain ⟨z, hz⟩ : ∃ z, n - L.length = z + 1 := ⟨n - L.length - 1, by omega⟩
  have hz2 : n - (L.length + 1) = z := by omega
  rw [List.length_cons, hz, hz2, List.replicate_succ', List.append_assoc, List.map_append, List.map_append]
  rw [List.set_append_right _ _ (by simp)]
  simp
theorem bytes_of (L : List Nat) (h : ∀ d ∈ L, d < 256) : beN (L.map UInt8.ofNat) = valD 256 L.reverse := by
  rw [beN_magNat]
  unfold magNat lebs
  congr 1
  rw [← List.map_reverse, List.map_map]
  conv => rhs; rw [← List.map_id L.reverse]
  refine List.map_congr_left fun d hd => ?_
  have := h d (List.mem_reverse.1 hd)
  simp only [Function.comp, id, UInt8.toNat_ofNat']
  omega

theorem getD_lebs (A : List UInt8) (k : Nat) : (lebs A).getD k 0 < 256 := by
  rw [List.getD_eq_getElem?_getD]
  cases h : (lebs A)[k]? with
  | none => decide
  | some d => exact lebs_lt A d (List.mem_of_getElem? h)
theorem lebs_out {A : List UInt8} {k : Nat} (h : A.length ≤ k) : (lebs A).getD k 0 = 0 := by
  rw [List.getD_eq_getElem?_getD, List.getElem?_eq_none (by rw [lebs_len]; exact h)]; rfl
theorem wrapu8 (s : Nat) : IntKind.u8.wrap (s : Int) = ((s % 256 : Nat) : Int) := by
  show ((s : Int) % 256) = _
  omega

theorem q106 (A C : List UInt8) (hA : A.length ≤ 1000) (hC : C.length ≤ 1000) : PFn Tryz.prog 106 [.str A, .str C] [.str (magB (beN A + beN C))] := by
  obtain ⟨n, hn⟩ : ∃ n, n = max A.length C.length + 1 := ⟨_, rfl⟩
  have hAn : A.length < n := by omega
  have hCn : C.length < n := by omega
  have hn1 : n ≤ 1001 := by omega
  have hmax : (if A.length < C.length then (C.length : Int) else (A.length : Int)) + 1 = (n : Int) := by split <;> omega
  refine PFn.of_body hΓ Tryz.func106 (by kernel_rfl) rfl (AWp.seq (AWp.of_awpD [] hΓ hmix (by kernel_rfl) ?_))
  simp -implicitDefEqProofs only [Tryz.ntmps106, Tryz.results106, Nat.reduceAdd, Nat.reduceSub, go_sem]
  refine AWp.seq (AWp.of_awpD [] hΓ hmix (by kernel_rfl) ?_)
  simp -implicitDefEqProofs only [go_sem]
  rw [hmax]
  refine ⟨by simp only [InR]; omega, ?_⟩
  refine AWp.seq (AWp.of_awpD [] hΓ hmix (by kernel_rfl) ?_)
  simp -implicitDefEqProofs only [Int.toNat_natCast, go_sem]
  refine ⟨⟨by omega, by omega⟩, ?_⟩
  refine AWp.seq (AWp.of_awpD [] hΓ hmix (by kernel_rfl) ?_)
  simp -implicitDefEqProofs only [go_sem]
  refine AWp.seq (AWp.seq (AWp.of_awpD [] hΓ hmix (by kernel_rfl) ?_))
  simp -implicitDefEqProofs only [go_sem]
  refine AWp.block ?_
  refine AWp.loopI (fun z : List Nat × Nat => ⟨mkF 60 [(0, .p (.str A)), (1, .p (.str C)), (5, .p (.int .i64 n)), (6, .own 0 n), (7, .p (.int .i64 z.2)), (8, .p (.int .i64 (z.1.length + 1 : Nat)))], [.row 5 1 (tailR n z.1) .own]⟩)
    (fun z => z.1.length ≤ n ∧ (∀ d ∈ z.1, d < 256) ∧ z.2 ≤ 1 ∧ valD 256 z.1.reverse + z.2 * 256 ^ z.1.length = valD 256 ((lebs A).take z.1.length) + valD 256 ((lebs C).take z.1.length)) (fun z => n - z.1.length) ([], 0) (by
      simp [go_sem, tailR, u8d]) ⟨by simp, by simp, by simp, by simp [valD]⟩ ?_
  rintro ⟨L, c⟩ ⟨hL, hLd, hc, hv⟩
  simp only at hL hLd hc hv
  simp -implicitDefEqProofs only [go_sem]
  refine AWp.of_awpD [] hΓ hmix (by kernel_rfl) ?_
  by_cases hlt : L.length < n
  · have hlt' : ((L.length + 1 : Nat) : Int) ≤ (n : Int) := by omega
    obtain ⟨a, ha⟩ : ∃ a, a = (lebs A).getD L.length 0 := ⟨_, rfl⟩
    obtain ⟨b, hb⟩ : ∃ b, b = (lebs C).getD L.length 0 := ⟨_, rfl⟩
    have ha256 : a < 256 := by rw [ha]; exact getD_lebs _ _
    have hb256 : b < 256 := by rw [hb]; exact getD_lebs _ _
    obtain ⟨s, hs⟩ : ∃ s, s = c + a + b := ⟨_, rfl⟩
    have hwa : IntKind.i64.wrap (a : Int) = a := InR.wrap (k := .i64) (by simp only [InR]; omega)
    have hwb : IntKind.i64.wrap (b : Int) = b := InR.wrap (k := .i64) (by simp only [InR]; omega)
    have hw8 : IntKind.u8.wrap (s : Int) = ((s % 256 : Nat) : Int) := wrapu8 s
    have hsd : (s : Int) / 2 ^ Int.toNat 8 = ((s / 256 : Nat) : Int) := by
      have : (2 : Int) ^ Int.toNat 8 = ((256 : Nat) : Int) := rfl
      rw [this, Int.natCast_ediv]
    have eA : ∀ h : L.length + 1 ≤ A.length, ((A.getD ((A.length : Int) - ((L.length + 1 : Nat) : Int)).toNat 0).toNat : Nat) = a := fun h => by
      rw [ha, lebs_get (by omega)]; congr 2; omega
    have eC : ∀ h : L.length + 1 ≤ C.length, ((C.getD ((C.length : Int) - ((L.length + 1 : Nat) : Int)).toNat 0).toNat : Nat) = b := fun h => by
      rw [hb, lebs_get (by omega)]; congr 2; omega
    have zA : ¬ L.length + 1 ≤ A.length → a = 0 := fun h => by rw [ha]; exact lebs_out (by omega)
    have zC : ¬ L.length + 1 ≤ C.length → b = 0 := fun h => by rw [hb]; exact lebs_out (by omega)
    have eik : ((n : Int) - ((L.length + 1 : Nat) : Int)).toNat = n - (L.length + 1) := by omega
    have hset : (tailR n L).set (n - (L.length + 1)) (.int .u8 ((s % 256 : Nat) : Int)) = tailR n (s % 256 :: L) := tailR_set hlt
    have hlen := tailR_len hL
    have hnew : valD 256 (s % 256 :: L).reverse + s / 256 * 256 ^ (L.length + 1) = valD 256 ((lebs A).take (L.length + 1)) + valD 256 ((lebs C).take (L.length + 1)) := by
      rw [valD_take, valD_take, ← ha, ← hb, List.reverse_cons, valD_append, List.length_reverse, Nat.pow_succ]
      have e1 : valD 256 [s % 256] = s % 256 := by simp [valD]
      rw [e1]
      have e2 : s % 256 + 256 * (s / 256) = s := Nat.mod_add_div s 256
      generalize 256 ^ L.length = P at *
      have e3 : P * (s % 256) + s / 256 * (P * 256) = P * s := by
        conv => rhs; rw [← e2, Nat.mul_add]
        rw [Nat.mul_comm (s / 256), Nat.mul_assoc]
      have e4 : P * s = c * P + a * P + b * P := by rw [hs, Nat.mul_comm, Nat.add_mul, Nat.add_mul]
      omega
    have hend : ∃ z : List Nat × Nat, z = (s % 256 :: L, s / 256) ∧ (z.1.length ≤ n ∧ (∀ d ∈ z.1, d < 256) ∧ z.2 ≤ 1 ∧ valD 256 z.1.reverse + z.2 * 256 ^ z.1.length = valD 256 ((lebs A).take z.1.length) + valD 256 ((lebs C).take z.1.length)) ∧ n - z.1.length < n - L.length :=
      ⟨_, rfl, ⟨by simp; omega, fun d hd => by
        rcases List.mem_cons.1 hd with rfl | hd
        · exact Nat.mod_lt _ (by decide)
        · exact hLd d hd, by simp only; omega, by simpa using hnew⟩, by simp; omega⟩
    obtain ⟨z, hz, hz1, hz2⟩ := hend
    subst hz
    by_cases hA1 : L.length + 1 ≤ A.length
    · have eA := eA hA1
      by_cases hC1 : L.length + 1 ≤ C.length
      · have eC := eC hC1
        have es : (c : Int) + (a : Int) + (b : Int) = (s : Int) := by omega
        simp -implicitDefEqProofs only [hlt', hA1, hC1, eA, eC, hwa, hwb, es, hw8, hsd, eik, hset, go_sem]
        refine ⟨by simp only [InR]; omega, ⟨by omega, by omega⟩, by simp only [InR]; omega, by simp only [InR]; omega, ⟨by omega, by omega⟩, by simp only [InR]; omega, by simp only [InR]; omega, ?_⟩
        exact ⟨⟨by omega, by omega⟩, ⟨by omega, rfl⟩, ⟨by decide, by decide⟩, by simp only [InR]; omega, _, ⟨⟨rfl, by simp⟩, .inl rfl⟩, hz1, hz2⟩
      · have zC := zC hC1
        have es : (c : Int) + (a : Int) = (s : Int) := by omega
        simp -implicitDefEqProofs only [hlt', hA1, hC1, eA, hwa, es, hw8, hsd, eik, hset, go_sem]
        refine ⟨by simp only [InR]; omega, ⟨by omega, by omega⟩, by simp only [InR]; omega, by simp only [InR]; omega, ?_⟩
        exact ⟨⟨by omega, by omega⟩, ⟨by omega, rfl⟩, ⟨by decide, by decide⟩, by simp only [InR]; omega, _, ⟨⟨rfl, by simp⟩, .inl rfl⟩, hz1, hz2⟩
    · have zA := zA hA1
      by_cases hC1 : L.length + 1 ≤ C.length
      · have eC := eC hC1
        have es : (c : Int) + (b : Int) = (s : Int) := by omega
        simp -implicitDefEqProofs only [hlt', hA1, hC1, eC, hwb, es, hw8, hsd, eik, hset, go_sem]
        refine ⟨by simp only [InR]; omega, ⟨by omega, by omega⟩, by simp only [InR]; omega, by simp only [InR]; omega, ?_⟩
        exact ⟨⟨by omega, by omega⟩, ⟨by omega, rfl⟩, ⟨by decide, by decide⟩, by simp only [InR]; omega, _, ⟨⟨rfl, by simp⟩, .inl rfl⟩, hz1, hz2⟩
      · have zC := zC hC1
        have es : (c : Int) = (s : Int) := by omega
        simp -implicitDefEqProofs only [hlt', hA1, hC1, es, hw8, hsd, eik, hset, go_sem]
        refine ⟨by simp only [InR]; omega, ?_⟩
        exact ⟨⟨by omega, by omega⟩, ⟨by omega, rfl⟩, ⟨by decide, by decide⟩, by simp only [InR]; omega, _, ⟨⟨rfl, by simp⟩, .inl rfl⟩, hz1, hz2⟩
  · have hLn : L.length = n := by omega
    have hlt' : ¬ ((L.length + 1 : Nat) : Int) ≤ (n : Int) := by omega
    have hz1 : valD 256 L.reverse + c * 256 ^ n = beN A + beN C := by
      rw [hLn, List.take_of_length_le (by rw [lebs_len]; omega), List.take_of_length_le (by rw [lebs_len]; omega)] at hv
      rw [beN_magNat, beN_magNat]; exact hv
    have hAl := beN_lt _ A rfl
    have hCl := beN_lt _ C rfl
    have p1 : 256 ^ A.length ≤ 256 ^ (n - 1) := Nat.pow_le_pow_right (by decide) (by omega)
    have p2 : 256 ^ C.length ≤ 256 ^ (n - 1) := Nat.pow_le_pow_right (by decide) (by omega)
    have p3 : 256 ^ n = 256 ^ (n - 1) * 256 := by rw [← Nat.pow_succ]; congr 1; omega
    have hc0 : c = 0 := by
      rcases (by omega : c = 0 ∨ c = 1) with h | h
      · exact h
      · exfalso
        subst h
        omega
    have hval : beN (L.map UInt8.ofNat) = beN A + beN C := by
      rw [bytes_of L hLd]
      rw [hc0] at hz1
      omega
    have hrow : tailR n L = L.map u8d := by unfold tailR; rw [hLn, Nat.sub_self]; rfl
    have e113 := q113 (L.map UInt8.ofNat) (by simp; omega)
    rw [hval] at e113
    simp -implicitDefEqProofs only [hlt', hrow, go_sem]
    refine AWp.seq (AWp.of_awpD [] hΓ hmix (by kernel_rfl) ?_)
    simp -implicitDefEqProofs only [go_sem]
    have hmap : L.map u8d = (L.map UInt8.ofNat).map u8V := by
      rw [List.map_map]
      refine List.map_congr_left fun d hd => ?_
      have := hLd d hd
      show PV.int .u8 (d : Int) = PV.int .u8 ((UInt8.ofNat d).toNat : Int)
      rw [UInt8.toNat_ofNat', Nat.mod_eq_of_lt this]
    refine ⟨⟨5, rfl, rfl⟩, _, hmap, callK_fn e113 (.pures rfl) ?_⟩
    simp -implicitDefEqProofs only [go_sem]
    refine AWp.of_awpD [] hΓ hmix (by kernel_rfl) ?_
    simp -implicitDefEqProofs only [go_sem]
end Go.Proofs.YtnaekjbbakofdaaGreat
end

section
namespace Go.Proofs.YtnaekjbbakofdaaGreat
open Go Go.AM Go.RowKit
set_option maxRecDepth 100000
set_option maxHeartbeats 4000000
set_option linter.unusedSimpArgs false

def revR (l : List Nat) : List PV := l.reverse.map Kn.nV
theorem revR_len (l : List Nat) : (revR l).length = l.length := by unfold revR; simp
theorem revR_get {l : List Nat} {j i : Nat} (hj : j < l.length) (hi : i = l.length - 1 - j) : (revR l).getD i default = .int .i64 ((l.getD j 0 : Nat) : Int) := by
  subst hi
  unfold revR
  rw [List.getD_eq_getElem?_getD, List.getElem?_map, List.getElem?_reverse (by omega), List.getD_eq_getElem?_getD, show l.length - 1 - (l.length - 1 - j) = j by omega, List.getElem?_eq_getElem hj]; rfl
theorem revR_set {l : List Nat} {j i v : Nat} (hj : j < l.length) (hi : i = l.length - 1 - j) : (revR l).set i (.int .i64 (v : Int)) = revR (l.set j v) := by
  subst hi
  unfold revR
  rw [show (PV.int .i64 (v : Int)) = Kn.nV v from rfl, ← List.map_set]
  congr 1
  refine List.ext_getElem? fun k => ?_
  rw [List.getElem?_set]
  by_cases hk : k < l.length
  · have e1 : (l.set j v).reverse[k]? = (l.set j v)[(l.set j v).length - 1 - k]? := List.getElem?_reverse (by simpa using hk)
    rw [e1, List.getElem?_reverse hk, List.length_set, List.getElem?_set]
    by_cases h : l.length - 1 - j = k
    · rw [if_pos h, if_pos (by simp; omega), if_pos (by omega), if_pos (by omega)]
    · rw [if_neg h, if_neg (by omega)]
  · rw [List.getElem?_eq_none (by simp; omega), List.getElem?_eq_none (l := (l.set j v).reverse) (by simp; omega), List.length_reverse]
    by_cases h : l.length - 1 - j = k
    · exact absurd h (by omega)
    · rw [if_neg h]
theorem mulL_get {o : List Nat} {i : Nat} {r : List Nat} {z : Nat} (h : i + r.length < o.length) : (mulR o i r z).getD (i + r.length) 0 = o.getD (i + r.length) 0 := by
  have hl : (o.take i ++ r).length = i + r.length := by simp; omega
  unfold mulR
  rw [List.getD_eq_getElem?_getD, List.append_assoc, List.getElem?_append_right (by omega), hl, Nat.sub_self, List.drop_eq_getElem_cons h, List.getD_eq_getElem?_getD, List.getElem?_eq_getElem h]; rfl
theorem mulL_set {o : List Nat} {i : Nat} {r : List Nat} {z v : Nat} (h : i + r.length < o.length) : (mulR o i r z).set (i + r.length) v = mulR o i (r ++ [v]) z := by
  have hl : (o.take i ++ r).length = i + r.length := by simp; omega
  unfold mulR
  rw [List.append_assoc (o.take i ++ r), List.set_append_right _ _ (by omega), hl, Nat.sub_self, List.drop_eq_getElem_cons h]
  simp [Nat.add_assoc]
theorem mulL_end {o : List Nat} {i : Nat} {r : List Nat} {z v : Nat} (h : i + r.length = o.length) : (mulR o i r (z + 1)).set (i + r.length) v = (o.take i ++ r ++ [v]) ++ List.replicate z 0 := by
  have hl : (o.take i ++ r).length = i + r.length := by simp; omega
  unfold mulR
  rw [h, List.drop_length, List.append_nil, ← h, List.set_append_right _ _ (by omega), hl, Nat.sub_self, List.replicate_succ]
  simp
theorem mulL_end0 {o : List Nat} {i : Nat} {r : List Nat} {z : Nat} (h : i + r.length = o.length) : (mulR o i r (z + 1)).getD (i + r.length) 0 = 0 := by
  have hl : (o.take i ++ r).length = i + r.length := by simp; omega
  unfold mulR
  rw [h, List.drop_length, List.append_nil, ← h, List.getD_eq_getElem?_getD, List.getElem?_append_right (by omega), hl, Nat.sub_self, List.replicate_succ]
  rfl
theorem and255 (s : Nat) (hs : s < 9223372036854775808) : bitsV .and .i64 (s : Int) 255 = ((s % 256 : Nat) : Int) := by
  have e : (BitVec.ofInt 64 (s : Int) &&& BitVec.ofInt 64 255).toNat = s % 256 := by
    have h255 : BitVec.ofInt 64 255 = BitVec.ofNat 64 255 := by decide
    rw [h255, BitVec.toNat_and, BitVec.ofInt_natCast, BitVec.toNat_ofNat, BitVec.toNat_ofNat, Nat.mod_eq_of_lt (by omega : s < 2 ^ 64)]
    have := Nat.and_two_pow_sub_one_eq_mod s 8
    have e8 : 255 % 2 ^ 64 = 2 ^ 8 - 1 := by decide
    rw [e8, this]
  show IntKind.wrap .i64 ((BitVec.ofInt 64 (s : Int) &&& BitVec.ofInt 64 255).toNat : Nat) = _
  rw [e]
  exact AM.InR.wrap (k := .i64) (by simp only [AM.InR]; omega)

def headR (n : Nat) (L : List Nat) : List PV := (L ++ List.replicate (n - L.length) 0).map u8d
theorem headR_len {n : Nat} {L : List Nat} (h : L.length ≤ n) : (headR n L).length = n := by unfold headR; simp; omega
theorem headR_set {n d : Nat} {L : List Nat} (h : L.length < n) : (headR n L).set L.length (u8d d) = headR n (L ++ [d]) := by
  unfold headR
  obtain ⟨z, hz⟩ : ∃ z, n - L.length = z + 1 := ⟨n - L.length - 1, by omega⟩
  have hz2 : n - (L ++ [d]).length = z := by simp; omega
  rw [hz2, hz, List.replicate_succ, List.map_append, List.map_append, List.set_append_right _ _ (by simp)]
  simp

theorem q108 (A C : List UInt8) (hA : A.length ≤ 1000) (hC : C.length ≤ 1000) : PFn Tryz.prog 108 [.str A, .str C] [.str (magB (beN A * beN C))] := by
  obtain ⟨la, hla⟩ : ∃ n, n = A.length := ⟨_, rfl⟩
  obtain ⟨lb, hlb⟩ : ∃ n, n = C.length := ⟨_, rfl⟩
  have hx : ∀ d ∈ lebs A, d < 256 := lebs_lt A
  have hy : ∀ d ∈ lebs C, d < 256 := lebs_lt C
  have lx : (lebs A).length = la := by rw [lebs_len, hla]
  have ly : (lebs C).length = lb := by rw [lebs_len, hlb]
  have eL : ((la : Int) + (lb : Int)).toNat = la + lb := by omega
  refine PFn.of_body hΓ Tryz.func108 (by kernel_rfl) rfl (AWp.seq (AWp.of_awpD [] hΓ hmix (by kernel_rfl) ?_))
  simp -implicitDefEqProofs only [Tryz.ntmps108, Tryz.results108, Nat.reduceAdd, Nat.reduceSub, go_sem]
  refine AWp.seq (AWp.of_awpD [] hΓ hmix (by kernel_rfl) ?_)
  simp -implicitDefEqProofs only [← hla, ← hlb, eL, go_sem]
  refine ⟨by simp only [InR]; omega, ⟨by omega, by omega, by omega⟩, ?_⟩
  refine AWp.seq (AWp.seq (AWp.of_awpD [] hΓ hmix (by kernel_rfl) ?_))
  simp -implicitDefEqProofs only [← hla, ← hlb, go_sem]
  refine ⟨by simp only [InR]; omega, ?_⟩
  refine AWp.block ?_
  refine AWp.loopI (fun z : Nat × List Nat => ⟨mkF 87 [(0, .p (.str A)), (1, .p (.str C)), (5, .own 0 (la + lb)), (6, .p (.int .i64 ((la : Int) - 1 - z.1)))], [.row 3 1 (revR (z.2 ++ List.replicate (la - z.1) 0)) .own]⟩)
    (fun z => z.1 ≤ la ∧ z.2.length = z.1 + lb ∧ (∀ d ∈ z.2, d < 256) ∧ valD 256 z.2 = valD 256 ((lebs A).take z.1) * valD 256 (lebs C)) (fun z => la - z.1) (0, List.replicate lb 0) (by
      simp [go_sem, revR, Kn.nV, List.replicate_append_replicate, Nat.add_comm]) ⟨by simp, by simp, fun d hd => by rw [List.eq_of_mem_replicate hd]; decide, by simp [valD, valD_zeros]⟩ ?_
  rintro ⟨p, o⟩ ⟨hi, ho, hod, hval⟩
  simp only at hi ho hod hval
  refine AWp.of_awpD [(9, 19)] hΓ hmix (by kernel_rfl) ?_
  by_cases hlt : p < la
  · have hge : (0 : Int) ≤ (la : Int) - 1 - (p : Int) := by omega
    have ta := valD_take (l := lebs A) 256 p
    have gA : (A.getD ((la : Int) - 1 - (p : Int)).toNat 0).toNat = (lebs A).getD p 0 := by
      rw [lebs_get (by omega)]; congr 2; omega
    have da : (lebs A).getD p 0 < 256 := getD_lebs _ _
    generalize (lebs A).getD p 0 = a at *
    have hwa : IntKind.i64.wrap (a : Int) = a := InR.wrap (k := .i64) (by simp only [InR]; omega)
    simp -implicitDefEqProofs only [hge, ← hla, ← hlb, go_sem]
    refine ⟨by simp only [InR]; omega, ?_⟩
    refine AWp.loopI (fun z : List Nat × Nat => ⟨mkF 87 [(0, .p (.str A)), (1, .p (.str C)), (5, .own 0 (la + lb)), (6, .p (.int .i64 ((la : Int) - 1 - p))), (7, .p (.int .i64 z.2)), (8, .p (.int .i64 ((lb : Int) - 1 - (z.1.length : Int))))], [.row 3 1 (revR (mulR o p z.1 (la - p))) .own]⟩)
      (fun z => z.1.length ≤ lb ∧ (∀ d ∈ z.1, d < 256) ∧ z.2 < 256 ∧ valD 256 z.1 + z.2 * 256 ^ z.1.length = valD 256 ((o.drop p).take z.1.length) + a * valD 256 ((lebs C).take z.1.length)) (fun z => lb - z.1.length) ([], 0) (by
        simp [go_sem, mulR_nil]) ⟨by simp, by simp, by decide, by simp [valD]⟩ ?_
    rintro ⟨r, c⟩ ⟨hr, hrd, hc, hv⟩
    simp only at hr hrd hc hv
    refine AWp.of_awpD [(9, 19)] hΓ hmix (by kernel_rfl) ?_
    by_cases hlt2 : r.length < lb
    · have hge2 : (0 : Int) ≤ (lb : Int) - 1 - (r.length : Int) := by omega
      have tc := valD_take (l := lebs C) 256 r.length
      have gC : (C.getD ((lb : Int) - 1 - (r.length : Int)).toNat 0).toNat = (lebs C).getD r.length 0 := by
        rw [lebs_get (by omega)]; congr 2; omega
      have dc : (lebs C).getD r.length 0 < 256 := getD_lebs _ _
      have hio : p + r.length < o.length := by omega
      have to := valD_take (l := o.drop p) 256 r.length
      have hgo2 : (o.drop p).getD r.length 0 = o.getD (p + r.length) 0 := by
        rw [List.getD_eq_getElem?_getD, List.getElem?_drop, List.getD_eq_getElem?_getD]
      have hlen := mulR_len (z := la - p) (Nat.le_of_lt hio)
      have hgo : (revR (mulR o p r (la - p))).getD ((la : Int) - 1 - (p : Int) + ((lb : Int) - 1 - (r.length : Int)) + 1).toNat default = .int .i64 ((o.getD (p + r.length) 0 : Nat) : Int) := by
        rw [revR_get (j := p + r.length) (by rw [hlen]; omega) (by rw [hlen]; omega), mulL_get hio]
      have dO : o.getD (p + r.length) 0 < 256 := by
        rw [List.getD_eq_getElem?_getD, List.getElem?_eq_getElem hio, Option.getD_some]; exact hod _ (List.getElem_mem hio)
      rw [hgo2] at to
      generalize (lebs C).getD r.length 0 = b at *
      generalize hqv : o.getD (p + r.length) 0 = qv at *
      have hab : a * b ≤ 255 * 255 := Nat.mul_le_mul (by omega) (by omega)
      obtain ⟨ab, habE⟩ : ∃ ab, ab = a * b := ⟨_, rfl⟩
      rw [← habE] at hab
      have habI : (a : Int) * (b : Int) = (ab : Int) := by rw [habE]; simp
      have hwb : IntKind.i64.wrap (b : Int) = b := InR.wrap (k := .i64) (by simp only [InR]; omega)
      obtain ⟨s, hs⟩ : ∃ s, s = c + (qv + ab) := ⟨_, rfl⟩
      have hsI : (c : Int) + ((qv : Int) + (ab : Int)) = (s : Int) := by omega
      have hsd : (s : Int) / 2 ^ Int.toNat 8 = ((s / 256 : Nat) : Int) := by
        have : (2 : Int) ^ Int.toNat 8 = ((256 : Nat) : Int) := rfl
        rw [this, Int.natCast_ediv]
      have h255 := and255 s (by omega)
      have hset : (revR (mulR o p r (la - p))).set ((la : Int) - 1 - (p : Int) + ((lb : Int) - 1 - (r.length : Int)) + 1).toNat (.int .i64 ((s % 256 : Nat) : Int)) = revR (mulR o p (r ++ [s % 256]) (la - p)) := by
        rw [revR_set (j := p + r.length) (by rw [hlen]; omega) (by rw [hlen]; omega), mulL_set hio]
      simp -implicitDefEqProofs only [hge2, gA, gC, hwa, hwb, habI, hgo, hsI, h255, hsd, hset, ← hla, ← hlb, revR_len, hlen, go_sem]
      have hvv : valD 256 (r ++ [s % 256]) + s / 256 * 256 ^ (r.length + 1) = valD 256 ((o.drop p).take (r.length + 1)) + a * valD 256 ((lebs C).take (r.length + 1)) := by
        rw [to, tc, valD_append, Nat.pow_succ]
        have e1 : valD 256 [s % 256] = s % 256 := by simp [valD]
        rw [e1]
        have e2 : s % 256 + 256 * (s / 256) = s := Nat.mod_add_div s 256
        generalize hP : 256 ^ r.length = P at *
        have e3 : P * (s % 256) + s / 256 * (P * 256) = P * s := by
          conv => rhs; rw [← e2, Nat.mul_add]
          rw [Nat.mul_comm (s / 256), Nat.mul_assoc]
        have e4 : P * s = c * P + (qv * P + ab * P) := by rw [hs, Nat.mul_comm, Nat.add_mul, Nat.add_mul]
        have e5 : a * (valD 256 ((lebs C).take r.length) + b * P) = a * valD 256 ((lebs C).take r.length) + ab * P := by rw [Nat.mul_add, habE, Nat.mul_assoc]
        omega
      have hcb : s / 256 < 256 := by omega
      refine ⟨by simp only [InR]; omega, by simp only [InR]; omega, ⟨by omega, by omega⟩, by omega, ⟨by omega, by omega⟩, by omega, by simp only [InR]; omega, by simp only [InR]; omega, by simp only [InR]; omega, by simp only [InR]; omega, by simp only [InR]; omega, ⟨by omega, by omega⟩, ⟨by omega, rfl⟩, ⟨by decide, by decide⟩, by simp only [InR]; omega,
        (r ++ [s % 256], s / 256), ⟨⟨rfl, by simp; omega⟩, .inl rfl⟩, ⟨by simp; omega, fun d hd => ?_, hcb, by simpa using hvv⟩, by simp; omega⟩
      rcases List.mem_append.1 hd with hd | hd
      · exact hrd d hd
      · rw [List.mem_singleton] at hd; subst hd; exact Nat.mod_lt _ (by decide)
    · have hrn : r.length = lb := by omega
      have hz : ¬ (0 : Int) ≤ (lb : Int) - 1 - (r.length : Int) := by omega
      have hpo : p + r.length = o.length := by omega
      have hlen := mulR_len (z := la - p) (Nat.le_of_eq hpo)
      have hld : (revR (mulR o p r (la - p))).getD ((la : Int) - 1 - (p : Int)).toNat default = .int .i64 ((0 : Nat) : Int) := by
        rw [revR_get (j := p + r.length) (by rw [hlen]; omega) (by rw [hlen]; omega)]
        have := mulL_end0 (o := o) (i := p) (r := r) (z := la - (p + 1)) hpo
        rw [show la - (p + 1) + 1 = la - p by omega] at this
        rw [this]
      have hset : (revR (mulR o p r (la - p))).set ((la : Int) - 1 - (p : Int)).toNat (.int .i64 (c : Int)) = revR ((o.take p ++ r ++ [c]) ++ List.replicate (la - (p + 1)) 0) := by
        rw [revR_set (j := p + r.length) (by rw [hlen]; omega) (by rw [hlen]; omega)]
        have := mulL_end (o := o) (i := p) (r := r) (z := la - (p + 1)) (v := c) hpo
        rw [show la - (p + 1) + 1 = la - p by omega] at this
        rw [this]
      rw [hrn] at hv
      have hvt : (o.drop p).take lb = o.drop p := List.take_of_length_le (by simp; omega)
      rw [hvt, List.take_of_length_le (by omega : (lebs C).length ≤ lb)] at hv
      have hvo := valD_split 256 p o
      have htl : (o.take p).length = p := by simp; omega
      rw [htl] at hvo
      have hvn : valD 256 (o.take p ++ r ++ [c]) = valD 256 ((lebs A).take (p + 1)) * valD 256 (lebs C) := by
        rw [valD_append, valD_append, htl, ta]
        have e1 : valD 256 [c] = c := by simp [valD]
        have e2 : (o.take p ++ r).length = p + lb := by simp [htl, hrn]
        rw [e1, e2, Nat.pow_add]
        generalize 256 ^ p = P at *
        generalize 256 ^ lb = Q at *
        have e3 : P * (valD 256 r + c * Q) = P * (valD 256 (o.drop p) + a * valD 256 (lebs C)) := by rw [hv]
        rw [Nat.mul_add, Nat.mul_add] at e3
        have e4 : P * Q * c = P * (c * Q) := by rw [Nat.mul_assoc, Nat.mul_comm Q]
        have e5 : (valD 256 ((lebs A).take p) + a * P) * valD 256 (lebs C) = valD 256 ((lebs A).take p) * valD 256 (lebs C) + P * (a * valD 256 (lebs C)) := by
          rw [Nat.add_mul, Nat.mul_comm a P, Nat.mul_assoc]
        rw [e4, e5, ← hval]
        omega
      have h0c : ((0 : Nat) : Int) + (c : Int) = (c : Int) := by omega
      simp -implicitDefEqProofs only [hz, hld, h0c, hset, revR_len, hlen, ← hla, ← hlb, go_sem]
      refine ⟨⟨by omega, by omega⟩, by omega, by simp only [InR]; omega, ⟨by omega, by omega⟩, ⟨by omega, rfl⟩, by simp only [InR]; omega, (p + 1, o.take p ++ r ++ [c]), ⟨by simp only; omega, .inl rfl⟩, ⟨hlt, by simp [htl, hrn]; omega, fun d hd => ?_, hvn⟩, by simp only; omega⟩
      rcases List.mem_append.1 hd with hd | hd
      · rcases List.mem_append.1 hd with hd | hd
        · exact hod d (List.mem_of_mem_take hd)
        · exact hrd d hd
      · rw [List.mem_singleton] at hd; subst hd; exact hc
  · have hpn : p = la := by omega
    have hz : ¬ (0 : Int) ≤ (la : Int) - 1 - (p : Int) := by omega
    have hrow : o ++ List.replicate (la - p) 0 = o := by rw [hpn]; simp
    rw [hpn, List.take_of_length_le (by omega : (lebs A).length ≤ la)] at hval
    have hol : o.length = la + lb := by omega
    rw [hrow]
    simp -implicitDefEqProofs only [hz, ← hla, ← hlb, go_sem]
    refine AWp.seq (AWp.of_awpD [] hΓ hmix (by kernel_rfl) ?_)
    simp -implicitDefEqProofs only [revR_len, hol, Int.toNat_natCast, go_sem]
    refine ⟨⟨by omega, by omega⟩, ?_⟩
    refine AWp.seq (AWp.seq (AWp.of_awpD [] hΓ hmix (by kernel_rfl) ?_))
    simp -implicitDefEqProofs only [go_sem]
    refine AWp.block ?_
    obtain ⟨n, hn⟩ : ∃ n, n = la + lb := ⟨_, rfl⟩
    rw [← hn]
    rw [← hn] at hol
    have hDl : o.reverse.length = n := by rw [List.length_reverse, hol]
    refine AWp.loopI (fun i : Nat => ⟨mkF 87 [(5, .own 0 n), (9, .own 1 n), (10, .p (.int .i64 i))], [.row 3 1 (revR o) .own, .row 5 1 (headR n (o.reverse.take i)) .own]⟩)
      (fun i => i ≤ n) (fun i => n - i) 0 (by simp [go_sem, headR, u8d]) (Nat.zero_le _) ?_
    intro i hin
    simp -implicitDefEqProofs only [go_sem]
    refine AWp.of_awpD [] hΓ hmix (by kernel_rfl) ?_
    by_cases hlt3 : i < n
    · have hlt3' : (i : Int) < (n : Int) := by omega
      have hiD : i < o.reverse.length := by omega
      have hg : (revR o).getD i default = .int .i64 ((o.reverse[i] : Nat) : Int) := getD_map_lt _ _ _ _ hiD
      have hd256 : o.reverse[i] < 256 := hod _ (List.mem_reverse.1 (List.getElem_mem hiD))
      have hw8 : IntKind.u8.wrap ((o.reverse[i] : Nat) : Int) = ((o.reverse[i] : Nat) : Int) := by rw [wrapu8, Nat.mod_eq_of_lt hd256]
      have htk : o.reverse.take (i + 1) = o.reverse.take i ++ [o.reverse[i]] := List.take_succ_eq_append_getElem hiD
      have htl : (o.reverse.take i).length = i := by rw [List.length_take]; omega
      have hset : (headR n (o.reverse.take i)).set i (.int .u8 ((o.reverse[i] : Nat) : Int)) = headR n (o.reverse.take (i + 1)) := by
        have := headR_set (n := n) (d := o.reverse[i]) (L := o.reverse.take i) (by omega)
        rw [htl] at this
        rw [htk]; exact this
      have hhl := headR_len (n := n) (L := o.reverse.take i) (by omega)
      simp -implicitDefEqProofs only [hlt3', hg, hw8, Int.toNat_natCast, hset, revR_len, hol, hhl, go_sem]
      exact ⟨hlt3, ⟨hlt3, rfl⟩, by simp only [InR]; omega, i + 1, ⟨by omega, .inl rfl⟩, by omega, by omega⟩
    · have hin2 : i = n := by omega
      have hlt3' : ¬ (i : Int) < (n : Int) := by omega
      have hrow2 : headR n (o.reverse.take i) = o.reverse.map u8d := by
        rw [List.take_of_length_le (by omega)]
        unfold headR
        rw [hDl, Nat.sub_self]; simp
      have hod2 : ∀ d ∈ o.reverse, d < 256 := fun d hd => hod d (List.mem_reverse.1 hd)
      have hval2 : beN (o.reverse.map UInt8.ofNat) = beN A * beN C := by
        rw [bytes_of _ hod2, List.reverse_reverse, hval, beN_magNat, beN_magNat]; rfl
      have e113 := q113 (o.reverse.map UInt8.ofNat) (by simp; omega)
      rw [hval2] at e113
      have hmap : o.reverse.map u8d = (o.reverse.map UInt8.ofNat).map u8V := by
        rw [List.map_map]
        refine List.map_congr_left fun d hd => ?_
        have := hod2 d hd
        show PV.int .u8 (d : Int) = PV.int .u8 ((UInt8.ofNat d).toNat : Int)
        rw [UInt8.toNat_ofNat', Nat.mod_eq_of_lt this]
      rw [hrow2]
      simp -implicitDefEqProofs only [hlt3', revR_len, hol, go_sem]
      refine AWp.seq (AWp.of_awpD [] hΓ hmix (by kernel_rfl) ?_)
      simp -implicitDefEqProofs only [go_sem]
      refine ⟨⟨5, rfl, rfl⟩, _, hmap, callK_fn e113 (.pures rfl) ?_⟩
      simp -implicitDefEqProofs only [go_sem]
      refine AWp.of_awpD [] hΓ hmix (by kernel_rfl) ?_
      simp -implicitDefEqProofs only [go_sem]
end Go.Proofs.YtnaekjbbakofdaaGreat
end

section
namespace Go.Proofs.YtnaekjbbakofdaaGreat
open Go Go.AM Go.RowKit
set_option maxRecDepth 100000
set_option maxHeartbeats 4000000
set_option linter.unusedSimpArgs false

theorem small_of {n : Nat} (h : (magB n).length < 8) : n < 256 ^ 7 := Nat.lt_of_lt_of_le (mag_high n) (Nat.pow_le_pow_right (by decide) (by omega))

theorem q72 (a b : Nat) (ha : a < capN) (hb : b < capN) : PFn Tryz.prog 72 [intN false a, intN false b] [intN false (a + b)] := by
  have ea := u96 a
  have eb := u96 b
  by_cases hs : (magB a).length < 8 ∧ (magB b).length < 8
  · have h7a := small_of hs.1
    have h7b := small_of hs.2
    have va := u110 a h7a
    have vb := u110 b h7b
    have eo := u76 (a + b) (by omega)
    have hi : InR IntKind.i64 ((a : Int) + b) := by simp only [InR]; omega
    have la : ((magB a).length : Int) < 8 := by omega
    have lb : ((magB b).length : Int) < 8 := by omega
    rw [Int.natCast_add] at eo
    simp only [intF] at ea eb va vb eo ⊢
    generalize magB (a + b) = zz at *
    generalize magB a = x at *
    generalize magB b = y at *
    refine PFn.of_body hΓ Tryz.func72 (by kernel_rfl) rfl (AWp.seq (AWp.of_awpD [] hΓ hmix (by kernel_rfl) ?_))
    simp -implicitDefEqProofs only [Tryz.ntmps72, Tryz.results72, Nat.reduceAdd, Nat.reduceSub, go_sem]
    refine AWp.of_awpD [(1, 4), (3, 6), (5, 8), (10, 8), (11, 8)] hΓ hmix (by kernel_rfl) ?_
    simp -implicitDefEqProofs only [la, lb, go_sem]
    refine callVPK_fn ea (.still rfl) ?_
    simp -implicitDefEqProofs only [la, lb, go_sem]
    refine callVPK_fn eb (.still rfl) ?_
    simp -implicitDefEqProofs only [la, lb, go_sem]
    refine callVPK_fn va (.still rfl) ?_
    simp -implicitDefEqProofs only [la, lb, go_sem]
    refine callVPK_fn vb (.still rfl) ?_
    simp -implicitDefEqProofs only [go_sem]
    refine ⟨hi, callVPK_fn eo (.still rfl) ?_⟩
    simp -implicitDefEqProofs only [go_sem]
  · have e106 := q106 (magB a) (magB b) (by have := cap_mag ha; omega) (by have := cap_mag hb; omega)
    rw [beN_magB, beN_magB] at e106
    simp only [intF] at ea eb ⊢
    generalize magB (a + b) = zz at *
    generalize magB a = x at *
    generalize magB b = y at *
    refine PFn.of_body hΓ Tryz.func72 (by kernel_rfl) rfl (AWp.seq (AWp.of_awpD [] hΓ hmix (by kernel_rfl) ?_))
    simp -implicitDefEqProofs only [Tryz.ntmps72, Tryz.results72, Nat.reduceAdd, Nat.reduceSub, go_sem]
    refine AWp.of_awpD [(1, 4), (3, 6), (5, 8), (10, 8), (11, 8)] hΓ hmix (by kernel_rfl) ?_
    by_cases hx : x.length < 8
    · have hy : ¬ y.length < 8 := fun h => hs ⟨hx, h⟩
      have lx : (x.length : Int) < 8 := by omega
      have ly : ¬ (y.length : Int) < 8 := by omega
      simp -implicitDefEqProofs only [lx, ly, go_sem]
      refine callVPK_fn ea (.still rfl) ?_
      simp -implicitDefEqProofs only [lx, ly, go_sem]
      refine callVPK_fn eb (.still rfl) ?_
      simp -implicitDefEqProofs only [lx, ly, beq_self_eq_true, go_sem]
      refine callVPK_fn e106 (.still rfl) ?_
      simp -implicitDefEqProofs only [go_sem]
      omega
    · have lx : ¬ (x.length : Int) < 8 := by omega
      simp -implicitDefEqProofs only [lx, go_sem]
      refine callVPK_fn ea (.still rfl) ?_
      simp -implicitDefEqProofs only [lx, go_sem]
      refine callVPK_fn eb (.still rfl) ?_
      simp -implicitDefEqProofs only [lx, beq_self_eq_true, go_sem]
      refine callVPK_fn e106 (.still rfl) ?_
      simp -implicitDefEqProofs only [go_sem]
      omega

theorem q73 (a b : Nat) (ha : a < capN) (hb : b < capN) : PFn Tryz.prog 73 [intN false a, intN false b] [intN false (a * b)] := by
  have ea := u96 a
  have eb := u96 b
  by_cases hz : a = 0 ∨ b = 0
  · have h0 : a * b = 0 := by rcases hz with h | h <;> subst h <;> simp
    rw [h0]
    simp only [intF] at ea eb ⊢
    rw [magB_zero]
    by_cases ha0 : a = 0
    · subst ha0
      rw [magB_zero] at ea ⊢
      generalize magB b = y at *
      refine PFn.of_body hΓ Tryz.func73 (by kernel_rfl) rfl (AWp.seq (AWp.of_awpD [] hΓ hmix (by kernel_rfl) ?_))
      simp -implicitDefEqProofs only [Tryz.ntmps73, Tryz.results73, Nat.reduceAdd, Nat.reduceSub, go_sem]
      refine AWp.of_awpD [(1, 4), (5, 6), (6, 10)] hΓ hmix (by kernel_rfl) ?_
      simp -implicitDefEqProofs only [go_sem]
      refine callVPK_fn ea (.still rfl) ?_
      simp -implicitDefEqProofs only [go_sem]
      refine callVPK_fn eb (.still rfl) ?_
      simp -implicitDefEqProofs only [go_sem]
    · have hb0 : b = 0 := hz.resolve_left ha0
      subst hb0
      rw [magB_zero] at eb ⊢
      have hx : ¬ magB a = [] := fun e => ha0 (magB_nil e)
      generalize magB a = x at *
      refine PFn.of_body hΓ Tryz.func73 (by kernel_rfl) rfl (AWp.seq (AWp.of_awpD [] hΓ hmix (by kernel_rfl) ?_))
      simp -implicitDefEqProofs only [Tryz.ntmps73, Tryz.results73, Nat.reduceAdd, Nat.reduceSub, go_sem]
      refine AWp.of_awpD [(1, 4), (5, 6), (6, 10)] hΓ hmix (by kernel_rfl) ?_
      simp -implicitDefEqProofs only [go_sem]
      refine callVPK_fn ea (.still rfl) ?_
      simp -implicitDefEqProofs only [go_sem]
      refine callVPK_fn eb (.still rfl) ?_
      simp -implicitDefEqProofs only [hx, go_sem]
  have hx : ¬ magB a = [] := fun e => hz (.inl (magB_nil e))
  have hy : ¬ magB b = [] := fun e => hz (.inr (magB_nil e))
  by_cases hs : (magB a).length + (magB b).length < 8
  · have pa := List.length_pos_iff.2 hx
    have pb := List.length_pos_iff.2 hy
    have h7a := small_of (n := a) (by omega)
    have h7b := small_of (n := b) (by omega)
    have va := u110 a h7a
    have vb := u110 b h7b
    have hab : a * b < 256 ^ 7 := by
      have h1 := mag_high a
      have h2 := mag_high b
      have h3 : a * b < 256 ^ (magB a).length * 256 ^ (magB b).length := Nat.mul_lt_mul'' h1 h2
      rw [← Nat.pow_add] at h3
      exact Nat.lt_of_lt_of_le h3 (Nat.pow_le_pow_right (by decide) (by omega))
    have eo := u76 (a * b) (by omega)
    have hi : InR IntKind.i64 ((a : Int) * b) := by
      rw [← Int.natCast_mul]; simp only [InR]; omega
    have ls : ((magB a).length : Int) + ((magB b).length : Int) < 8 := by omega
    have li : InR IntKind.i64 (((magB a).length : Int) + ((magB b).length : Int)) := by simp only [InR]; omega
    rw [Int.natCast_mul] at eo
    simp only [intF] at ea eb va vb eo ⊢
    generalize magB (a * b) = zz at *
    generalize magB a = x at *
    generalize magB b = y at *
    refine PFn.of_body hΓ Tryz.func73 (by kernel_rfl) rfl (AWp.seq (AWp.of_awpD [] hΓ hmix (by kernel_rfl) ?_))
    simp -implicitDefEqProofs only [Tryz.ntmps73, Tryz.results73, Nat.reduceAdd, Nat.reduceSub, go_sem]
    refine AWp.of_awpD [(1, 4), (5, 6), (6, 10)] hΓ hmix (by kernel_rfl) ?_
    simp -implicitDefEqProofs only [go_sem]
    refine callVPK_fn ea (.still rfl) ?_
    simp -implicitDefEqProofs only [go_sem]
    refine callVPK_fn eb (.still rfl) ?_
    simp -implicitDefEqProofs only [hx, hy, ls, go_sem]
    refine ⟨li, callVPK_fn va (.still rfl) ?_⟩
    simp -implicitDefEqProofs only [go_sem]
    refine callVPK_fn vb (.still rfl) ?_
    simp -implicitDefEqProofs only [go_sem]
    refine ⟨hi, callVPK_fn eo (.still rfl) ?_⟩
    simp -implicitDefEqProofs only [go_sem]
  · have ca := cap_mag ha
    have cb := cap_mag hb
    have e108 := q108 (magB a) (magB b) (by omega) (by omega)
    rw [beN_magB, beN_magB] at e108
    have ls : ¬ ((magB a).length : Int) + ((magB b).length : Int) < 8 := by omega
    have li : InR IntKind.i64 (((magB a).length : Int) + ((magB b).length : Int)) := by simp only [InR]; omega
    simp only [intF] at ea eb ⊢
    generalize magB (a * b) = zz at *
    generalize magB a = x at *
    generalize magB b = y at *
    refine PFn.of_body hΓ Tryz.func73 (by kernel_rfl) rfl (AWp.seq (AWp.of_awpD [] hΓ hmix (by kernel_rfl) ?_))
    simp -implicitDefEqProofs only [Tryz.ntmps73, Tryz.results73, Nat.reduceAdd, Nat.reduceSub, go_sem]
    refine AWp.of_awpD [(1, 4), (5, 6), (6, 10)] hΓ hmix (by kernel_rfl) ?_
    simp -implicitDefEqProofs only [go_sem]
    refine callVPK_fn ea (.still rfl) ?_
    simp -implicitDefEqProofs only [go_sem]
    refine callVPK_fn eb (.still rfl) ?_
    simp -implicitDefEqProofs only [hx, hy, ls, go_sem]
    refine ⟨li, callVPK_fn e108 (.still rfl) ?_⟩
    simp -implicitDefEqProofs only [go_sem]
    exact ⟨by omega, rfl⟩
end Go.Proofs.YtnaekjbbakofdaaGreat
end

section
namespace Go.Proofs.YtnaekjbbakofdaaGreat
open Go Go.AM Go.RowKit
set_option maxRecDepth 100000
set_option maxHeartbeats 4000000
set_option linter.unusedSimpArgs false

theorem e59n (n : Nat) (hn : n < capN) (h0 : n ≠ 0) : PFn Tryz.prog 59 [intN true n, intN false 0] [intN true n] := by
  have ea := u69n true n hn
  have eb := u69n false 0 capN_pos
  have la := cap_dig hn
  have ec := u106 (digD B32 n) (digD B32 0) (digD_canon (by decide) n) (digD_canon (by decide) 0) (by omega) (by rw [digD_zero]; simp)
  rw [digD_val (by decide), digD_val (by decide)] at ec
  have e1 := u107 (digD B32 n) (digD B32 0) (dig_lt n) (dig_lt 0) (by omega) (by rw [digD_zero]; simp) (by rw [digD_val (by decide), digD_val (by decide)]; omega)
  rw [digD_val (by decide), digD_val (by decide), Nat.sub_zero] at e1
  have e2 := u66 true (digD B32 n) (dig_lt _) (by omega)
  rw [digD_val (by decide)] at e2
  rw [intN_neg h0] at ea e2 ⊢
  have hz : intN false 0 = .agg [.bool false, .str []] := rfl
  rw [hz] at eb ⊢
  have hm1 : ¬ cmpN n 0 < 0 := by unfold cmpN; rw [if_neg (by omega)]; split <;> decide
  have hft : (true == false) = false := rfl
  refine PFn.of_body hΓ Tryz.func59 (by kernel_rfl) rfl (AWp.seq (AWp.of_awpD [] hΓ hmix (by kernel_rfl) ?_))
  simp -implicitDefEqProofs only [Tryz.ntmps59, Tryz.results59, Nat.reduceAdd, Nat.reduceSub, go_sem]
  refine AWp.of_awpD [(1, 6), (3, 6), (5, 6), (6, 6)] hΓ hmix (by kernel_rfl) ?_
  simp -implicitDefEqProofs only [go_sem]
  refine callVPK_fn ea (.still rfl) ?_
  simp -implicitDefEqProofs only [go_sem]
  refine callVPK_fn eb (.still rfl) ?_
  simp -implicitDefEqProofs only [hft, go_sem]
  refine callK_fn ec (.pures rfl) ?_
  simp -implicitDefEqProofs only [hm1, go_sem]
  refine callVPK_fn e1 (.pures rfl) ?_
  simp -implicitDefEqProofs only [go_sem]
  refine callVPK_fn e2 (.pures rfl) ?_
  simp -implicitDefEqProofs only [go_sem]
theorem e53n (n : Nat) (hn : n < capN) (h0 : n ≠ 0) : PFn Tryz.prog 53 [intN true n, intN false 0] [intN true n] := by
  have e1 := u90 0 capN_pos
  have e2 := e59n n hn h0
  have hz : intN false 0 = .agg [.bool false, .str []] := rfl
  have hz2 : intN true 0 = .agg [.bool false, .str []] := rfl
  rw [hz, hz2] at e1
  rw [intN_neg h0, hz] at e2 ⊢
  refine PFn.of_body hΓ Tryz.func53 (by kernel_rfl) rfl (AWp.of_awpD [(1, 4)] hΓ hmix (by kernel_rfl) ?_)
  simp -implicitDefEqProofs only [Tryz.ntmps53, Tryz.results53, Nat.reduceAdd, Nat.reduceSub, go_sem]
  refine callVPK_fn e1 (.still rfl) ?_
  simp -implicitDefEqProofs only [go_sem]
  refine callVPK_fn e2 (.still rfl) ?_
  simp -implicitDefEqProofs only [go_sem]
theorem e25n (n : Nat) (hn : n < capN) (h0 : n ≠ 0) : PFn Tryz.prog 25 [intN true n, intN false 0] [.int .i64 (-1)] := by
  have e := e53n n hn h0
  have hz : intN false 0 = .agg [.bool false, .str []] := rfl
  rw [intN_neg h0, hz] at e ⊢
  refine PFn.of_body hΓ Tryz.func25 (by kernel_rfl) rfl (AWp.of_awpD [] hΓ hmix (by kernel_rfl) ?_)
  simp -implicitDefEqProofs only [Tryz.ntmps25, Tryz.results25, Nat.reduceAdd, Nat.reduceSub, go_sem]
  refine callK_fn e (.still rfl) ?_
  simp -implicitDefEqProofs only [go_sem]

theorem q49 (cs : List Int) (hl : cs.length ≤ 1000000) : PFn Tryz.prog 49 [.sl (cs.map Kn.iV)] [.int .i64 (chkC cs)] := by
  refine PFn.of_body hΓ Tryz.func49 (by kernel_rfl) rfl (AWp.seq (AWp.of_awpD [] hΓ hmix (by kernel_rfl) ?_))
  simp -implicitDefEqProofs only [Tryz.ntmps49, Tryz.results49, Nat.reduceAdd, Nat.reduceSub, go_sem]
  refine AWp.seq (AWp.of_awpD [] hΓ hmix (by kernel_rfl) ?_)
  by_cases h1 : cs.length < 2
  · have h1' : (cs.length : Int) < 2 := by omega
    have he : chkC cs = 12 := by unfold chkC; rw [if_pos (.inl h1)]
    rw [he]
    simp -implicitDefEqProofs only [h1', List.length_map, go_sem]
  have h1' : ¬ (cs.length : Int) < 2 := by omega
  by_cases h2 : 3 < cs.length
  · have h2' : (3 : Int) < (cs.length : Int) := by omega
    have he : chkC cs = 12 := by unfold chkC; rw [if_pos (.inr h2)]
    rw [he]
    simp -implicitDefEqProofs only [h1', h2', List.length_map, go_sem]
  have h2' : ¬ (3 : Int) < (cs.length : Int) := by omega
  have he : chkC cs = if cs.any badC = true then 2 else 0 := by unfold chkC; rw [if_neg (by omega)]
  simp -implicitDefEqProofs only [h1', h2', List.length_map, go_sem]
  refine AWp.seq (AWp.seq (AWp.of_awpD [] hΓ hmix (by kernel_rfl) ?_))
  simp -implicitDefEqProofs only [go_sem]
  refine AWp.block ?_
  refine AWp.loopI (fun i : Nat => ⟨mkF 30 [(0, .p (.sl (cs.map Kn.iV))), (2, .p (.int .i64 0)), (3, .p (.int .i64 i))], []⟩)
    (fun i => i ≤ cs.length ∧ ∀ j (hj : j < cs.length), j < i → badC cs[j] = false) (fun i => cs.length - i) 0 (by simp [go_sem]) ⟨by omega, fun j _ h => by omega⟩ ?_
  intro i ⟨hi, hj0⟩
  simp -implicitDefEqProofs only [go_sem]
  refine AWp.of_awpD [] hΓ hmix (by kernel_rfl) ?_
  by_cases hlt : i < cs.length
  · have hlt' : (i : Int) < (cs.length : Int) := by omega
    have hg : (cs.map Kn.iV).getD i default = .int .i64 cs[i] := getD_map_lt _ _ _ _ hlt
    have hnext : badC cs[i] = false → ∀ j (hj : j < cs.length), j < i + 1 → badC cs[j] = false := fun hb j hj hji => by
      rcases Nat.lt_or_ge j i with h | h
      · exact hj0 j hj h
      · obtain rfl : j = i := by omega
        exact hb
    have hfound : badC cs[i] = true → chkC cs = 2 := fun hb => by rw [he, if_pos (List.any_eq_true.2 ⟨_, List.getElem_mem hlt, hb⟩)]
    by_cases b1 : cs[i] < 1
    · have hb : badC cs[i] = true := by unfold badC; simp [b1]
      rw [hfound hb]
      simp -implicitDefEqProofs only [hlt, hlt', hg, b1, Int.toNat_natCast, List.length_map, go_sem]
    by_cases b2 : 8 < cs[i]
    · have hb : badC cs[i] = true := by unfold badC; simp [b2]
      rw [hfound hb]
      simp -implicitDefEqProofs only [hlt, hlt', hg, b1, b2, Int.toNat_natCast, List.length_map, go_sem]
    have hb : badC cs[i] = false := by unfold badC; simp [b1, b2]
    simp -implicitDefEqProofs only [hlt, hlt', hg, b1, b2, Int.toNat_natCast, List.length_map, go_sem]
    exact ⟨by simp only [InR]; omega, i + 1, by omega, ⟨by omega, hnext hb⟩, by omega⟩
  have hiW : i = cs.length := by omega
  have h0 : chkC cs = 0 := by
    rw [he, if_neg]
    rw [List.any_eq_true]
    rintro ⟨x, hx, hb⟩
    obtain ⟨j, hj, rfl⟩ := List.getElem_of_mem hx
    rw [hj0 j hj (by omega)] at hb; cases hb
  rw [h0]
  subst hiW
  simp -implicitDefEqProofs only [Nat.lt_irrefl, Int.lt_irrefl, List.length_map, go_sem]
  refine AWp.of_awpD [] hΓ hmix (by kernel_rfl) ?_
  simp -implicitDefEqProofs only [go_sem]

/-! ### The weights -/
abbrev WV := Bool × List UInt8
def wV (w : WV) : PV := intV w.1 w.2
def firstW : List WV → Int
  | [] => 0
  | w :: W => if okI w.1 w.2 = false then 1 else if w.1 = true then 2 else firstW W
def chkW (cs : List Int) (W : List WV) : Int := if chkC cs ≠ 0 then chkC cs else if W.length = 0 then 5 else if 5 < W.length then 4 else firstW W
def goodW (w : WV) : Bool := okI w.1 w.2 && !w.1
theorem firstW_at : ∀ {W : List WV} {i : Nat} (hi : i < W.length), (∀ j (hj : j < i), goodW W[j] = true) → goodW W[i] = false → firstW W = if okI W[i].1 W[i].2 = false then 1 else 2
  | w :: W, 0, _, _, h => by
    show (if okI w.1 w.2 = false then 1 else if w.1 = true then 2 else firstW W) = if okI w.1 w.2 = false then 1 else 2
    by_cases h1 : okI w.1 w.2 = false
    · rw [if_pos h1, if_pos h1]
    · have h2 : w.1 = true := by
        have h : goodW w = false := h
        unfold goodW at h
        rw [(Bool.not_eq_false _).mp h1] at h
        simpa using h
      rw [if_neg h1, if_neg h1, if_pos h2]
  | w :: W, i + 1, hi, h0, h => by
    have hw : goodW w = true := h0 0 (by omega)
    unfold goodW at hw
    rw [Bool.and_eq_true] at hw
    show (if okI w.1 w.2 = false then 1 else if w.1 = true then 2 else firstW W) = _
    rw [if_neg (by rw [hw.1]; simp), if_neg (by simpa using hw.2)]
    exact firstW_at (W := W) (i := i) (by simpa using hi) (fun j hj => h0 (j + 1) (by omega)) h
theorem firstW_zero : ∀ {W : List WV}, firstW W = 0 ↔ ∀ w ∈ W, goodW w = true
  | [] => by simp [firstW]
  | w :: W => by
    unfold firstW
    by_cases h1 : okI w.1 w.2 = false
    · rw [if_pos h1]; simp [goodW, h1]
    · rw [if_neg h1]
      by_cases h2 : w.1 = true
      · rw [if_pos h2]; simp [goodW, h2]
      · rw [if_neg h2, firstW_zero (W := W)]
        have : goodW w = true := by unfold goodW; rw [(Bool.not_eq_false _).mp h1, (Bool.not_eq_true _).mp h2]; rfl
        simp [this]

theorem okI_canon {neg : Bool} {m : List UInt8} (h : okI neg m = true) : intV neg m = intN neg (beN m) ∧ (neg = true → beN m ≠ 0) := by
  unfold okI at h
  rw [Bool.and_eq_true, decide_eq_true_eq] at h
  have h1 : neg = (neg && decide (beN m ≠ 0)) := by simpa using h.1
  refine ⟨?_, fun hn => ?_⟩
  · unfold intN
    rw [← h1, ← h.2]
  · rw [hn] at h1
    simpa using h1
theorem beN_cap {m : List UInt8} (h : m.length ≤ 100) : beN m < 256 ^ 100 := Nat.lt_of_lt_of_le (beN_lt _ m rfl) (Nat.pow_le_pow_right (by decide) h)

theorem c36w (cs : List Int) (W : List WV) (hcl : cs.length ≤ 1000000) (hW : ∀ w ∈ W, w.2.length ≤ 100) (hWl : W.length ≤ 1000000) : PFn Tryz.prog 36 [.sl (cs.map Kn.iV), .sl (W.map wV)] [.int .i64 (chkW cs W)] := by
  have e46 := c46 cs hcl
  refine PFn.of_body hΓ Tryz.func36 (by kernel_rfl) rfl (AWp.seq (AWp.of_awpD [] hΓ hmix (by kernel_rfl) ?_))
  simp -implicitDefEqProofs only [Tryz.ntmps36, Tryz.results36, Nat.reduceAdd, Nat.reduceSub, go_sem]
  refine AWp.seq (AWp.of_awpD [] hΓ hmix (by kernel_rfl) ?_)
  simp -implicitDefEqProofs only [go_sem]
  refine callK_fn e46 (.still rfl) ?_
  by_cases hc0 : chkC cs = 0
  rotate_left
  · have he : chkW cs W = chkC cs := by unfold chkW; rw [if_pos hc0]
    rw [he]
    simp -implicitDefEqProofs only [hc0, go_sem]
  have he : chkW cs W = if W.length = 0 then 5 else if 5 < W.length then 4 else firstW W := by unfold chkW; rw [if_neg (by omega)]
  rw [hc0]
  simp -implicitDefEqProofs only [go_sem]
  refine AWp.seq (AWp.of_awpD [] hΓ hmix (by kernel_rfl) ?_)
  by_cases h0 : W.length = 0
  · have h0' : (W.length : Int) = 0 := by omega
    rw [he, if_pos h0]
    simp -implicitDefEqProofs only [h0', List.length_map, go_sem]
  have h0' : ¬ (W.length : Int) = 0 := by omega
  by_cases h5 : 5 < W.length
  · have h5' : (5 : Int) < (W.length : Int) := by omega
    rw [he, if_neg h0, if_pos h5]
    simp -implicitDefEqProofs only [h0', h5', List.length_map, go_sem]
  have h5' : ¬ (5 : Int) < (W.length : Int) := by omega
  rw [if_neg h0, if_neg h5] at he
  rw [he]
  simp -implicitDefEqProofs only [h0', h5', List.length_map, go_sem]
  refine AWp.seq (AWp.seq (AWp.of_awpD [] hΓ hmix (by kernel_rfl) ?_))
  simp -implicitDefEqProofs only [List.length_map, go_sem]
  refine AWp.block ?_
  refine AWp.loopJ (fun i : Nat => ⟨mkF 37 [(4, .p (.int .i64 0)), (21, .p (.sl (W.map wV))), (22, .p (.int .i64 W.length)), (23, .p (.int .i64 i))], []⟩)
    (fun i => i ≤ W.length ∧ ∀ j (hj : j < W.length), j < i → goodW W[j] = true) (fun i => W.length - i) 0 (fun x => by simp [BelowAll, mkF, AV.blw, AV.blw.blwL, blwH]) (by simp [go_sem]) ⟨by omega, fun j _ h => by omega⟩ ?_
  intro i ⟨hi, hj0⟩
  simp -implicitDefEqProofs only [go_sem]
  refine AWp.of_awpD [] hΓ hmix (by kernel_rfl) ?_
  by_cases hlt : i < W.length
  · have hlt' : (i : Int) < (W.length : Int) := by omega
    have hg : (W.map wV).getD i default = .agg [.bool W[i].1, .str W[i].2] := getD_map_lt _ _ _ _ hlt
    have hml := hW _ (List.getElem_mem hlt)
    have e63 := q63 W[i].1 W[i].2 hml
    have hz : intN false 0 = .agg [.bool false, .str []] := rfl
    have hfirst := fun h => firstW_at (W := W) hlt (fun j hj => hj0 j (by omega) hj) h
    unfold intV at e63
    simp -implicitDefEqProofs only [hlt, hlt', hg, Int.toNat_natCast, List.length_map, go_sem]
    refine callK_fn e63 (.still rfl) ?_
    cases ho : okI W[i].1 W[i].2
    · have hgw : goodW W[i] = false := by unfold goodW; rw [ho]; rfl
      rw [hfirst hgw, if_pos ho, if_neg (by simp)]
      have h10 : ¬ (1 : Int) = 0 := by decide
      simp -implicitDefEqProofs only [h10, go_sem]
    obtain ⟨k1, k2⟩ := okI_canon ho
    have hcap := cap_of (beN_cap hml) (by decide)
    rw [if_pos rfl]
    cases hneg : W[i].1
    · have e25 := u33 (beN W[i].2) 0 hcap capN_pos
      rw [hneg] at k1
      rw [← k1, hz] at e25
      unfold intV at e25
      have hnn : ¬ cmpN (beN W[i].2) 0 < 0 := by unfold cmpN; rw [if_neg (by omega)]; split <;> decide
      have hgw : goodW W[i] = true := by unfold goodW; rw [ho, hneg]; rfl
      simp -implicitDefEqProofs only [go_sem]
      refine callK_fn e25 (.still rfl) ?_
      simp -implicitDefEqProofs only [hnn, go_sem]
      refine ⟨by simp only [InR]; omega, i + 1, by omega, ⟨by omega, fun j hj hji => ?_⟩, by omega⟩
      rcases Nat.lt_or_ge j i with h | h
      · exact hj0 j hj h
      · obtain rfl : j = i := by omega
        exact hgw
    · have e25 := e25n (beN W[i].2) hcap (k2 hneg)
      rw [hneg] at k1
      rw [← k1, hz] at e25
      unfold intV at e25
      have hm1 : (-1 : Int) < 0 := by decide
      have hgw : goodW W[i] = false := by unfold goodW; rw [hneg]; simp
      rw [hfirst hgw, if_neg (by rw [ho]; simp)]
      simp -implicitDefEqProofs only [go_sem]
      refine callK_fn e25 (.still rfl) ?_
      simp -implicitDefEqProofs only [hm1, go_sem]
  have hiW : i = W.length := by omega
  have hf0 : firstW W = 0 := firstW_zero.2 fun w hw => by
    obtain ⟨j, hj, rfl⟩ := List.getElem_of_mem hw
    exact hj0 j hj (by omega)
  rw [hf0]
  subst hiW
  simp -implicitDefEqProofs only [Nat.lt_irrefl, Int.lt_irrefl, go_sem]
  refine AWp.of_awpD [] hΓ hmix (by kernel_rfl) ?_
  simp -implicitDefEqProofs only [go_sem]

theorem c37w (cs : List Int) (W : List WV) (hcl : cs.length ≤ 1000000) (hW : ∀ w ∈ W, w.2.length ≤ 100) (hWl : W.length ≤ 1000000) : PFn Tryz.prog 37 [.sl (cs.map Kn.iV), .sl (W.map wV)] [.int .i64 (chkW cs W)] := by
  have e49 := q49 cs hcl
  refine PFn.of_body hΓ Tryz.func37 (by kernel_rfl) rfl (AWp.seq (AWp.of_awpD [] hΓ hmix (by kernel_rfl) ?_))
  simp -implicitDefEqProofs only [Tryz.ntmps37, Tryz.results37, Nat.reduceAdd, Nat.reduceSub, go_sem]
  refine AWp.seq (AWp.of_awpD [] hΓ hmix (by kernel_rfl) ?_)
  simp -implicitDefEqProofs only [go_sem]
  refine callK_fn e49 (.still rfl) ?_
  by_cases hc0 : chkC cs = 0
  rotate_left
  · have he : chkW cs W = chkC cs := by unfold chkW; rw [if_pos hc0]
    rw [he]
    simp -implicitDefEqProofs only [hc0, go_sem]
  have he : chkW cs W = if W.length = 0 then 5 else if 5 < W.length then 4 else firstW W := by unfold chkW; rw [if_neg (by omega)]
  rw [hc0]
  simp -implicitDefEqProofs only [go_sem]
  refine AWp.seq (AWp.of_awpD [] hΓ hmix (by kernel_rfl) ?_)
  by_cases h0 : W.length = 0
  · have h0' : (W.length : Int) = 0 := by omega
    rw [he, if_pos h0]
    simp -implicitDefEqProofs only [h0', List.length_map, go_sem]
  have h0' : ¬ (W.length : Int) = 0 := by omega
  simp -implicitDefEqProofs only [h0', List.length_map, go_sem]
  refine AWp.seq (AWp.of_awpD [] hΓ hmix (by kernel_rfl) ?_)
  by_cases h5 : 5 < W.length
  · have h5' : (5 : Int) < (W.length : Int) := by omega
    rw [he, if_neg h0, if_pos h5]
    simp -implicitDefEqProofs only [h5', List.length_map, go_sem]
  have h5' : ¬ (5 : Int) < (W.length : Int) := by omega
  rw [if_neg h0, if_neg h5] at he
  rw [he]
  simp -implicitDefEqProofs only [h5', List.length_map, go_sem]
  refine AWp.seq (AWp.seq (AWp.of_awpD [] hΓ hmix (by kernel_rfl) ?_))
  simp -implicitDefEqProofs only [go_sem]
  refine AWp.block ?_
  refine AWp.loopI (fun i : Nat => ⟨mkF 35 [(1, .p (.sl (W.map wV))), (4, .p (.int .i64 0)), (6, .p (.int .i64 i))], []⟩)
    (fun i => i ≤ W.length ∧ ∀ j (hj : j < W.length), j < i → goodW W[j] = true) (fun i => W.length - i) 0 (by simp [go_sem]) ⟨by omega, fun j _ h => by omega⟩ ?_
  intro i ⟨hi, hj0⟩
  simp -implicitDefEqProofs only [go_sem]
  refine AWp.of_awpD [] hΓ hmix (by kernel_rfl) ?_
  by_cases hlt : i < W.length
  · have hlt' : (i : Int) < (W.length : Int) := by omega
    have hg : (W.map wV).getD i default = .agg [.bool W[i].1, .str W[i].2] := getD_map_lt _ _ _ _ hlt
    have hml := hW _ (List.getElem_mem hlt)
    have e64 := q64 W[i].1 W[i].2 (by omega)
    have hfirst := fun h => firstW_at (W := W) hlt (fun j hj => hj0 j (by omega) hj) h
    unfold intV at e64
    simp -implicitDefEqProofs only [hlt, hlt', hg, Int.toNat_natCast, List.length_map, go_sem]
    refine callK_fn e64 (.still rfl) ?_
    cases ho : okI W[i].1 W[i].2
    · have hgw : goodW W[i] = false := by unfold goodW; rw [ho]; rfl
      rw [hfirst hgw, if_pos ho, if_neg (by simp)]
      have h10 : ¬ (1 : Int) = 0 := by decide
      simp -implicitDefEqProofs only [h10, go_sem]
    rw [if_pos rfl]
    cases hneg : W[i].1
    · have hgw : goodW W[i] = true := by unfold goodW; rw [ho, hneg]; rfl
      rw [hneg] at hg
      simp -implicitDefEqProofs only [hlt, hlt', hg, Int.toNat_natCast, List.length_map, go_sem]
      refine ⟨by omega, by simp only [InR]; omega, i + 1, by omega, ⟨by omega, fun j hj hji => ?_⟩, by omega⟩
      rcases Nat.lt_or_ge j i with h | h
      · exact hj0 j hj h
      · obtain rfl : j = i := by omega
        exact hgw
    · have hgw : goodW W[i] = false := by unfold goodW; rw [hneg]; simp
      rw [hneg] at hg
      rw [hfirst hgw, if_neg (by rw [ho]; simp)]
      simp -implicitDefEqProofs only [hlt, hlt', hg, Int.toNat_natCast, List.length_map, go_sem]
      omega
  have hiW : i = W.length := by omega
  have hf0 : firstW W = 0 := firstW_zero.2 fun w hw => by
    obtain ⟨j, hj, rfl⟩ := List.getElem_of_mem hw
    exact hj0 j hj (by omega)
  rw [hf0]
  subst hiW
  simp -implicitDefEqProofs only [Nat.lt_irrefl, Int.lt_irrefl, List.length_map, go_sem]
  refine AWp.of_awpD [] hΓ hmix (by kernel_rfl) ?_
  simp -implicitDefEqProofs only [go_sem]
end Go.Proofs.YtnaekjbbakofdaaGreat
end

section
namespace Go.Proofs.YtnaekjbbakofdaaGreat
open Go Go.AM Go.RowKit
set_option maxRecDepth 100000
set_option maxHeartbeats 4000000
set_option linter.unusedSimpArgs false

theorem q61 (cs : List Nat) (w : List UInt8) (hB : ∀ c ∈ cs, c ≤ 1000) (_hcl : cs.length ≤ 1000) (hwl : w.length ≤ 100000) (hw : okW cs.length w = true) :
    PFn Tryz.prog 61 [.sl (cs.map Kn.nV), .str w] [.int .i64 (costW cs w)] := by
  refine PFn.of_body hΓ Tryz.func61 (by kernel_rfl) rfl (AWp.seq (AWp.of_awpD [] hΓ hmix (by kernel_rfl) ?_))
  simp -implicitDefEqProofs only [Tryz.ntmps61, Tryz.results61, Nat.reduceAdd, Nat.reduceSub, go_sem]
  refine AWp.seq (AWp.of_awpD [] hΓ hmix (by kernel_rfl) ?_)
  simp -implicitDefEqProofs only [go_sem]
  refine AWp.seq (AWp.seq (AWp.of_awpD [] hΓ hmix (by kernel_rfl) ?_))
  simp -implicitDefEqProofs only [go_sem]
  refine AWp.block ?_
  refine AWp.loopI (fun k : Nat => ⟨mkF 23 [(0, .p (.sl (cs.map Kn.nV))), (1, .p (.str w)), (5, .p (.int .i64 (costW cs (w.take k) : Nat))), (6, .p (.int .i64 k))], []⟩)
    (fun k => k ≤ w.length) (fun k => w.length - k) 0 (by simp [go_sem, costW]) (by omega) ?_
  intro k hk
  simp -implicitDefEqProofs only [go_sem]
  refine AWp.of_awpD [] hΓ hmix (by kernel_rfl) ?_
  by_cases hlt : k < w.length
  · have hlt' : (k : Int) < (w.length : Int) := by omega
    have hg : w.getD k 0 = w[k] := by rw [List.getD_eq_getElem?_getD, List.getElem?_eq_getElem hlt, Option.getD_some]
    have hb : okB cs.length w[k] = true := List.all_eq_true.1 hw _ (List.getElem_mem hlt)
    unfold okB at hb
    rw [Bool.and_eq_true, decide_eq_true_eq, decide_eq_true_eq] at hb
    obtain ⟨hb0, hb1⟩ := hb
    have e90 := t99 w[k]
    obtain ⟨dg, hdg⟩ : ∃ dg : Nat, ixB w[k] L16 0 = dg := ⟨digN w[k], by unfold digN; omega⟩
    have hdl : dg < cs.length := by omega
    have hdn : digN w[k] = dg := by unfold digN; omega
    rw [hdg] at e90
    have hgc : (cs.map Kn.nV).getD dg default = .int .i64 (cs.getD dg 0 : Nat) := by
      rw [getD_map_lt _ _ _ _ hdl, List.getD_eq_getElem?_getD, List.getElem?_eq_getElem hdl, Option.getD_some]; rfl
    have hsum : costW cs (w.take (k + 1)) = costW cs (w.take k) + cs.getD dg 0 := by
      rw [List.take_succ_eq_append_getElem hlt, costW_append]; simp [costW, hdn]
    have hle := costW_le hB (w.take (k + 1))
    rw [List.length_take, Nat.min_eq_left (by omega : k + 1 ≤ w.length)] at hle
    have hadd : (costW cs (w.take k) : Int) + (cs.getD dg 0 : Nat) = (costW cs (w.take (k + 1)) : Nat) := by rw [hsum]; omega
    have hin : InR .i64 ((costW cs (w.take (k + 1)) : Nat) : Int) := by simp only [InR]; omega
    simp -implicitDefEqProofs only [hlt, hlt', hg, Int.toNat_natCast, List.length_map, go_sem]
    refine callK_fn e90 (.pures rfl) ?_
    simp -implicitDefEqProofs only [hdl, hgc, Int.toNat_natCast, List.length_map, hadd, go_sem]
    exact ⟨hin, by simp only [InR]; omega, k + 1, ⟨rfl, by omega⟩, by omega, by omega⟩
  · have hkw : k = w.length := by omega
    subst hkw
    simp -implicitDefEqProofs only [Nat.lt_irrefl, Int.lt_irrefl, List.take_length, go_sem]
    refine AWp.of_awpD [] hΓ hmix (by kernel_rfl) ?_
    simp -implicitDefEqProofs only [go_sem]

theorem pfBad_hit {l : List Wd} {i k : Nat} (hi : i < l.length) (hk : k < l.length) (h : hitB l i k = true) : pfBad l = true := by
  unfold pfBad
  rw [List.any_eq_true]
  refine ⟨i, List.mem_range.2 hi, ?_⟩
  rw [List.any_eq_true]
  exact ⟨k, List.mem_range.2 hk, h⟩
theorem pfBad_none {l : List Wd} (h : ∀ i k, i < l.length → k < l.length → hitB l i k = false) : pfBad l = false := by
  refine Bool.eq_false_iff.2 fun hb => ?_
  unfold pfBad at hb
  rw [List.any_eq_true] at hb
  obtain ⟨i, hi, hb⟩ := hb
  rw [List.any_eq_true] at hb
  obtain ⟨k, hk, hb⟩ := hb
  rw [h i k (List.mem_range.1 hi) (List.mem_range.1 hk)] at hb
  cases hb
theorem hit_val {l : List Wd} {i k : Nat} (hi : i < l.length) (hk : k < l.length) (hik : i ≠ k) : hitB l k i = decide (l[i].length ≤ l[k].length ∧ l[k].take l[i].length = l[i]) := by
  unfold hitB
  rw [getD_lt hi, getD_lt hk, decide_eq_false (by omega), Bool.not_false, Bool.true_and]
  rw [Bool.eq_iff_iff, List.isPrefixOf_iff_prefix, decide_eq_true_eq]
  constructor
  · intro h
    exact ⟨h.length_le, (List.prefix_iff_eq_take.1 h).symm⟩
  · rintro ⟨_, h⟩
    rw [← h]; exact List.take_prefix _ _

theorem q62 (l : List Wd) (hl : l.length ≤ 1000000) : PFn Tryz.prog 62 [.sl (l.map .str)] [.bool (!pfBad l)] := by
  refine PFn.of_body hΓ Tryz.func62 (by kernel_rfl) rfl (AWp.seq (AWp.of_awpD [] hΓ hmix (by kernel_rfl) ?_))
  simp -implicitDefEqProofs only [Tryz.ntmps62, Tryz.results62, Nat.reduceAdd, Nat.reduceSub, go_sem]
  refine AWp.seq (AWp.seq (AWp.of_awpD [] hΓ hmix (by kernel_rfl) ?_))
  simp -implicitDefEqProofs only [go_sem]
  refine AWp.block ?_
  refine AWp.loopI (fun i : Nat => ⟨mkF 50 [(0, .p (.sl (l.map .str))), (2, .p (.bool false)), (3, .p (.int .i64 i))], []⟩)
    (fun i => i ≤ l.length ∧ ∀ j k, j < i → k < l.length → hitB l k j = false) (fun i => l.length - i) 0 (by simp [go_sem]) ⟨by omega, fun j _ h => by omega⟩ ?_
  intro i ⟨hi, hj0⟩
  simp -implicitDefEqProofs only [go_sem]
  refine AWp.of_awpD [(7, 32)] hΓ hmix (by kernel_rfl) ?_
  by_cases hlt : i < l.length
  · have hlt' : (i : Int) < (l.length : Int) := by omega
    have hg : (l.map PV.str).getD i default = .str l[i] := getD_map_lt _ _ _ _ hlt
    simp -implicitDefEqProofs only [hlt', List.length_map, go_sem]
    refine AWp.loopI (fun k : Nat => ⟨mkF 50 [(0, .p (.sl (l.map .str))), (2, .p (.bool false)), (3, .p (.int .i64 i)), (4, .p (.int .i64 k))], []⟩)
      (fun k => k ≤ l.length ∧ ∀ k', k' < k → hitB l k' i = false) (fun k => l.length - k) 0 (by simp [go_sem]) ⟨by omega, fun k h => by omega⟩ ?_
    intro k ⟨hk, hk0⟩
    simp -implicitDefEqProofs only [go_sem]
    refine AWp.of_awpD [(7, 32)] hΓ hmix (by kernel_rfl) ?_
    by_cases hlk : k < l.length
    · have hlk' : (k : Int) < (l.length : Int) := by omega
      have hgk : (l.map PV.str).getD k default = .str l[k] := getD_map_lt _ _ _ _ hlk
      have hnext : hitB l k i = false → ∀ k', k' < k + 1 → hitB l k' i = false := fun hh k' hk' => by
        rcases Nat.lt_or_ge k' k with h | h
        · exact hk0 k' h
        · obtain rfl : k' = k := by omega
          exact hh
      by_cases hik : i = k
      · have hik' : (i : Int) = (k : Int) := by omega
        have hh : hitB l k i = false := by unfold hitB; simp [hik]
        simp -implicitDefEqProofs only [hlk', hik', List.length_map, go_sem]
        exact ⟨by simp only [InR]; omega, k + 1, by omega, ⟨by omega, hnext hh⟩, by omega⟩
      have hik' : ¬ (i : Int) = (k : Int) := by omega
      have hv := hit_val hlt hlk hik
      by_cases hle : l[i].length ≤ l[k].length
      · have hle' : (l[i].length : Int) ≤ (l[k].length : Int) := by omega
        by_cases heq : l[k].take l[i].length = l[i]
        · have hh : hitB l k i = true := by rw [hv, decide_eq_true ⟨hle, heq⟩]
          rw [pfBad_hit hlk hlt hh]
          simp -implicitDefEqProofs only [hlt, hlk, hlt', hlk', hg, hgk, hik', hle', heq, Int.toNat_natCast, List.length_map, go_sem]
        · have hh : hitB l k i = false := by rw [hv, decide_eq_false (fun h => heq h.2)]
          simp -implicitDefEqProofs only [hlt, hlk, hlt', hlk', hg, hgk, hik', hle', heq, Int.toNat_natCast, List.length_map, go_sem]
          exact ⟨by simp only [InR]; omega, k + 1, by omega, ⟨by omega, hnext hh⟩, by omega⟩
      · have hle' : ¬ (l[i].length : Int) ≤ (l[k].length : Int) := by omega
        have hh : hitB l k i = false := by rw [hv, decide_eq_false (fun h => hle h.1)]
        simp -implicitDefEqProofs only [hlt, hlk, hlt', hlk', hg, hgk, hik', hle', Int.toNat_natCast, List.length_map, go_sem]
        exact ⟨by simp only [InR]; omega, k + 1, by omega, ⟨by omega, hnext hh⟩, by omega⟩
    have hkl : k = l.length := by omega
    subst hkl
    simp -implicitDefEqProofs only [Nat.lt_irrefl, Int.lt_irrefl, List.length_map, go_sem]
    refine ⟨by simp only [InR]; omega, i + 1, by omega, ⟨by omega, fun j k hj hk => ?_⟩, by omega⟩
    rcases Nat.lt_or_ge j i with h | h
    · exact hj0 j k h hk
    · obtain rfl : j = i := by omega
      exact hk0 k hk
  have hil : i = l.length := by omega
  subst hil
  rw [pfBad_none (fun i k hi hk => hj0 k i hk hi)]
  simp -implicitDefEqProofs only [Nat.lt_irrefl, Int.lt_irrefl, List.length_map, go_sem]
  refine AWp.of_awpD [] hΓ hmix (by kernel_rfl) ?_
  simp -implicitDefEqProofs only [go_sem]
  try rfl

theorem q44 {cs W : List Nat} (hc : OkC cs) (hw : OkW W) (l : List Wd) (hne : l.length = W.length) (hlw : ∀ w ∈ l, w.length ≤ 1000 ∧ okW cs.length w = true) :
    PFn Tryz.prog 44 [.sl (cs.map Kn.nV), .sl (W.map (intN false)), .sl (l.map .str)] [intN false (totN cs W l)] := by
  refine PFn.of_body hΓ Tryz.func44 (by kernel_rfl) rfl (AWp.seq (AWp.of_awpD [] hΓ hmix (by kernel_rfl) ?_))
  simp -implicitDefEqProofs only [Tryz.ntmps44, Tryz.results44, Nat.reduceAdd, Nat.reduceSub, go_sem]
  refine AWp.seq (AWp.of_awpD [] hΓ hmix (by kernel_rfl) ?_)
  simp -implicitDefEqProofs only [go_sem]
  refine AWp.seq (AWp.seq (AWp.of_awpD [] hΓ hmix (by kernel_rfl) ?_))
  simp -implicitDefEqProofs only [go_sem]
  refine AWp.block ?_
  have hdc : ∀ k, dotN (W.take k) ((l.map (costW cs)).take k) < capN := fun k => by
    have h1 := dotN_le (a := W.take k) (b := (l.map (costW cs)).take k) (B := 256 ^ 100) (C := 1000000) (fun x hx => Nat.le_of_lt (hw.cap x (List.mem_of_mem_take hx))) (fun x hx => by
      obtain ⟨w, hwm, rfl⟩ := List.mem_map.1 (List.mem_of_mem_take hx)
      have h1 := costW_le hc.le w
      have h3 : w.length * 1000 ≤ 1000 * 1000 := Nat.mul_le_mul_right _ (hlw w hwm).1
      omega)
    have h2 : (W.take k).length ≤ 12 := by have := hw.l5; rw [List.length_take]; omega
    have h3 : (W.take k).length * (256 ^ 100 * 1000000) ≤ 12 * (256 ^ 100 * 1000000) := Nat.mul_le_mul_right _ h2
    have h4 : 12 * (256 ^ 100 * 1000000) < capN := by unfold capN; decide
    omega
  refine AWp.loopI (fun k : Nat => ⟨mkF 30 [(0, .p (.sl (cs.map Kn.nV))), (1, .p (.sl (W.map (intN false)))), (2, .p (.sl (l.map .str))), (6, .ptr 0 0), (7, .ptr 1 0), (8, .p (.int .i64 k))],
      [.box [.p (.bool false), .p (.str [])], .box [.p (.bool false), .p (.str (magB (dotN (W.take k) ((l.map (costW cs)).take k))))]]⟩)
    (fun k => k ≤ l.length) (fun k => l.length - k) 0 (by simp [go_sem, dotN, magB_zero]) (by omega) ?_
  intro k hk
  simp -implicitDefEqProofs only [go_sem]
  refine AWp.of_awpD [(5, 14)] hΓ hmix (by kernel_rfl) ?_
  by_cases hlt : k < l.length
  · have hlt' : (k : Int) < (l.length : Int) := by omega
    have hg : (l.map PV.str).getD k default = .str l[k] := getD_map_lt _ _ _ _ hlt
    have hkS : k < W.length := by omega
    have hkC : k < (l.map (costW cs)).length := by simpa using hlt
    have hgS : (W.map (intN false)).getD k default = .agg [.bool false, .str (magB (W.getD k 0))] := by
      rw [← intN_pos, getD_map_lt _ _ _ _ hkS, List.getD_eq_getElem?_getD, List.getElem?_eq_getElem hkS, Option.getD_some]
    obtain ⟨hlk, hok⟩ := hlw _ (List.getElem_mem hlt)
    have e61 := q61 cs l[k] hc.le (by have := hc.l3; omega) (by omega) hok
    have hcl := costW_le hc.le l[k]
    have hcl2 : l[k].length * 1000 ≤ 1000 * 1000 := Nat.mul_le_mul_right _ hlk
    have hCk : (l.map (costW cs)).getD k 0 = costW cs l[k] := by
      rw [List.getD_eq_getElem?_getD, List.getElem?_eq_getElem hkC, Option.getD_some, List.getElem_map]
    have hcS : W.getD k 0 < 256 ^ 100 := by
      rw [List.getD_eq_getElem?_getD, List.getElem?_eq_getElem hkS, Option.getD_some]; exact hw.cap _ (List.getElem_mem hkS)
    have e74 := u76 (costW cs l[k]) (by omega)
    have e73 := q73 (W.getD k 0) (costW cs l[k]) (cap_of hcS (by decide)) (cap_of (k := 3) (by omega) (by decide))
    have hmul : W.getD k 0 * costW cs l[k] < capN := by
      have h1 : W.getD k 0 * costW cs l[k] ≤ 256 ^ 100 * 1000000 := Nat.mul_le_mul (Nat.le_of_lt hcS) (by omega)
      have h4 : 256 ^ 100 * 1000000 < capN := by unfold capN; decide
      omega
    have e72 := q72 (dotN (W.take k) ((l.map (costW cs)).take k)) (W.getD k 0 * costW cs l[k]) (hdc k) hmul
    have hdt := dotN_take hkS hkC
    rw [hCk] at hdt
    rw [← hdt, intN_pos, intN_pos, intN_pos] at e72
    rw [intN_pos, intN_pos, intN_pos] at e73
    rw [intN_pos] at e74
    have hw5 := hw.l5
    simp -implicitDefEqProofs only [hlt, hkS, hlt', hg, hgS, Int.toNat_natCast, List.length_map, go_sem]
    refine callVPK_fn e61 (.pures rfl) ?_
    simp -implicitDefEqProofs only [go_sem]
    refine callVPK_fn e74 (.pures rfl) ?_
    simp -implicitDefEqProofs only [go_sem]
    refine callVPK_fn e73 (.still rfl) ?_
    simp -implicitDefEqProofs only [go_sem]
    refine callVPK_fn e72 (.still rfl) ?_
    simp -implicitDefEqProofs only [go_sem]
    refine ⟨by simp only [InR]; omega, k + 1, ?_, by omega, by omega⟩
    first | omega | exact ⟨by omega, rfl⟩ | simp
  have hkL : k = l.length := by omega
  subst hkL
  simp -implicitDefEqProofs only [Nat.lt_irrefl, Int.lt_irrefl, List.length_map, go_sem]
  rw [List.take_of_length_le (by omega : W.length ≤ l.length), List.take_of_length_le (by simp)]
  refine AWp.of_awpD [] hΓ hmix (by kernel_rfl) ?_
  simp -implicitDefEqProofs only [go_sem]
  try rfl

/-! ### Word and Cost, for any costs and weights -/
theorem ok_costs {cs : List Int} (h : chkC cs = 0) : ∃ ns : List Nat, cs = ns.map Int.ofNat ∧ OkC ns := by
  unfold chkC at h
  split at h
  · cases h
  rename_i hl
  split at h
  · cases h
  rename_i hb
  have hall : ∀ c ∈ cs, 1 ≤ c ∧ c ≤ 8 := fun c hc => by
    have h1 : badC c = false := by
      cases h2 : badC c
      · rfl
      · exact absurd (List.any_eq_true.2 ⟨c, hc, h2⟩) hb
    unfold badC at h1
    simp at h1
    omega
  refine ⟨cs.map Int.toNat, ?_, by rw [List.length_map]; omega, by rw [List.length_map]; omega, fun c hc => ?_, fun c hc => ?_⟩
  · rw [List.map_map]
    conv => lhs; rw [← List.map_id cs]
    refine List.map_congr_left fun c hc => ?_
    have := (hall c hc).1
    show c = ((c.toNat : Nat) : Int)
    omega
  · obtain ⟨d, hd, rfl⟩ := List.mem_map.1 hc
    have := hall d hd; omega
  · obtain ⟨d, hd, rfl⟩ := List.mem_map.1 hc
    have := hall d hd; omega
theorem iV_nV (ns : List Nat) : (ns.map Int.ofNat).map Kn.iV = ns.map Kn.nV := (nVs ns).symm

def wordR (cs : List Int) (w : Wd) : Int × Int :=
  if chkC cs ≠ 0 then (0, chkC cs) else if wordCheck cs.length w ≠ 0 then (0, wordCheck cs.length w) else ((costW (cs.map Int.toNat) w : Int), 0)
theorem toNat_ofNat (ns : List Nat) : (ns.map Int.ofNat).map Int.toNat = ns := by
  rw [List.map_map]
  conv => rhs; rw [← List.map_id ns]
  exact List.map_congr_left fun c _ => rfl
theorem wc_len {q : Int} {w : Wd} (h : wordCheck q w = 0) : w.length ≤ 65536 := by
  unfold wordCheck at h
  split at h
  · cases h
  · split at h
    · cases h
    · omega

theorem c28w (cs : List Int) (w : Wd) (hl : cs.length ≤ 1000000) : PFn Tryz.prog 28 [.sl (cs.map Kn.iV), .str w] [.int .i64 (wordR cs w).1, .int .i64 (wordR cs w).2] := by
  by_cases h0 : chkC cs = 0
  rotate_left
  · have e46 := c46 cs hl
    unfold wordR
    rw [if_pos h0]
    refine PFn.of_body hΓ Tryz.func28 (by kernel_rfl) rfl (AWp.of_awpD [] hΓ hmix (by kernel_rfl) ?_)
    simp -implicitDefEqProofs only [Tryz.ntmps28, Tryz.results28, Nat.reduceAdd, Nat.reduceSub, go_sem]
    refine callK_fn e46 (.still rfl) ?_
    simp -implicitDefEqProofs only [h0, go_sem]
  obtain ⟨ns, rfl, hc⟩ := ok_costs h0
  have e46 := hc.c46
  have e55 := t80 (ns.length : Int) w
  have hr : wordR (ns.map Int.ofNat) w = if wordCheck ns.length w ≠ 0 then (0, wordCheck ns.length w) else ((costW ns w : Int), 0) := by
    unfold wordR
    rw [if_neg (by omega), List.length_map, toNat_ofNat]
  rw [hr, iV_nV]
  refine PFn.of_body hΓ Tryz.func28 (by kernel_rfl) rfl (AWp.of_awpD [] hΓ hmix (by kernel_rfl) ?_)
  simp -implicitDefEqProofs only [Tryz.ntmps28, Tryz.results28, Nat.reduceAdd, Nat.reduceSub, go_sem]
  refine callK_fn e46 (.still rfl) ?_
  simp -implicitDefEqProofs only [List.length_map, go_sem]
  refine callK_fn e55 (.still rfl) ?_
  by_cases h : wordCheck ns.length w = 0
  · have e56 := c56 ns w hc.le (by have := hc.l3; omega) (by have := wc_len h; omega) (wc_ok (by have := hc.l2; omega) (by have := hc.l3; omega) h)
    rw [if_neg (by omega), h]
    simp -implicitDefEqProofs only [go_sem]
    refine callK_fn e56 (.still rfl) ?_
    simp -implicitDefEqProofs only [go_sem]
  · rw [if_pos h]
    simp -implicitDefEqProofs only [h, go_sem]
theorem q34 (cs : List Int) (w : Wd) (hl : cs.length ≤ 1000000) : PFn Tryz.prog 34 [.sl (cs.map Kn.iV), .str w] [.int .i64 (wordR cs w).1, .int .i64 (wordR cs w).2] := by
  have e49 := q49 cs hl
  by_cases h0 : chkC cs = 0
  rotate_left
  · unfold wordR
    rw [if_pos h0]
    refine PFn.of_body hΓ Tryz.func34 (by kernel_rfl) rfl (AWp.of_awpD [] hΓ hmix (by kernel_rfl) ?_)
    simp -implicitDefEqProofs only [Tryz.ntmps34, Tryz.results34, Nat.reduceAdd, Nat.reduceSub, go_sem]
    refine callK_fn e49 (.still rfl) ?_
    simp -implicitDefEqProofs only [h0, go_sem]
  rw [h0] at e49
  obtain ⟨ns, rfl, hc⟩ := ok_costs h0
  have e60 := t78 (ns.length : Int) w
  have hr : wordR (ns.map Int.ofNat) w = if wordCheck ns.length w ≠ 0 then (0, wordCheck ns.length w) else ((costW ns w : Int), 0) := by
    unfold wordR
    rw [if_neg (by omega), List.length_map, toNat_ofNat]
  rw [iV_nV] at e49
  rw [hr, iV_nV]
  refine PFn.of_body hΓ Tryz.func34 (by kernel_rfl) rfl (AWp.of_awpD [] hΓ hmix (by kernel_rfl) ?_)
  simp -implicitDefEqProofs only [Tryz.ntmps34, Tryz.results34, Nat.reduceAdd, Nat.reduceSub, go_sem]
  refine callK_fn e49 (.still rfl) ?_
  simp -implicitDefEqProofs only [List.length_map, go_sem]
  refine callK_fn e60 (.still rfl) ?_
  by_cases h : wordCheck ns.length w = 0
  · have e61 := q61 ns w hc.le (by have := hc.l3; omega) (by have := wc_len h; omega) (wc_ok (by have := hc.l2; omega) (by have := hc.l3; omega) h)
    rw [if_neg (by omega), h]
    simp -implicitDefEqProofs only [go_sem]
    refine callK_fn e61 (.still rfl) ?_
    simp -implicitDefEqProofs only [go_sem]
  · rw [if_pos h]
    simp -implicitDefEqProofs only [h, go_sem]

theorem ok_weights {cs : List Int} {W : List WV} (hW : ∀ w ∈ W, w.2.length ≤ 100) (h : chkW cs W = 0) : chkC cs = 0 ∧ W.map wV = (W.map fun w => beN w.2).map (intN false) ∧ OkW (W.map fun w => beN w.2) := by
  unfold chkW at h
  split at h
  · rename_i hc; exact absurd h hc
  rename_i hc
  split at h
  · cases h
  split at h
  · cases h
  have hg := firstW_zero.1 h
  refine ⟨by omega, ?_, by rw [List.length_map]; omega, by rw [List.length_map]; omega, fun x hx => ?_⟩
  · rw [List.map_map]
    refine List.map_congr_left fun w hw => ?_
    have h1 := hg w hw
    unfold goodW at h1
    rw [Bool.and_eq_true] at h1
    have h2 := (okI_canon h1.1).1
    have h3 : w.1 = false := by simpa using h1.2
    rw [h3] at h2
    show intV w.1 w.2 = intN false (beN w.2)
    rw [h3]; exact h2
  · obtain ⟨w, hw, rfl⟩ := List.mem_map.1 hx
    exact beN_cap (hW w hw)
def costR (cs : List Int) (W : List WV) (l : List Wd) : Nat × Int :=
  if chkW cs W ≠ 0 then (0, chkW cs W) else (if costE cs.length W.length l = 0 then totN (cs.map Int.toNat) (W.map fun w => beN w.2) l else 0, costE cs.length W.length l)

theorem c31w (cs : List Int) (W : List WV) (l : List Wd) (hcl : cs.length ≤ 1000) (hWl : W.length ≤ 1000) (hW : ∀ w ∈ W, w.2.length ≤ 100) (hl : l.length ≤ 100) (hlw : ∀ w ∈ l, w.length ≤ 1000 ∨ 65536 < w.length) :
    PFn Tryz.prog 31 [.sl (cs.map Kn.iV), .sl (W.map wV), .sl (l.map .str)] [intN false (costR cs W l).1, .int .i64 (costR cs W l).2] := by
  have hz : intN false 0 = .agg [.bool false, .str []] := rfl
  by_cases h0 : chkW cs W = 0
  rotate_left
  · have e36 := c36w cs W (by omega) hW (by omega)
    unfold costR
    rw [if_pos h0, hz]
    refine PFn.of_body hΓ Tryz.func31 (by kernel_rfl) rfl (AWp.seq (AWp.of_awpD [] hΓ hmix (by kernel_rfl) ?_))
    simp -implicitDefEqProofs only [Tryz.ntmps31, Tryz.results31, Nat.reduceAdd, Nat.reduceSub, go_sem]
    refine AWp.seq (AWp.seq (AWp.of_awpD [] hΓ hmix (by kernel_rfl) ?_))
    simp -implicitDefEqProofs only [go_sem]
    refine callK_fn e36 (.still rfl) ?_
    simp -implicitDefEqProofs only [go_sem]
    refine AWp.of_awpD [] hΓ hmix (by kernel_rfl) ?_
    simp -implicitDefEqProofs only [h0, go_sem]
  obtain ⟨hc0, hWn, hw⟩ := ok_weights hW h0
  obtain ⟨ns, rfl, hc⟩ := ok_costs hc0
  have hlw2 : ∀ w ∈ l, wordCheck ns.length w = 0 → w.length ≤ 1000 := fun w hwm h => by
    rcases hlw w hwm with h1 | h1
    · exact h1
    · have := wc_len h; omega
  have := c31 hc hw l hl hlw2
  unfold costR
  rw [if_neg (by omega), iV_nV, hWn, List.length_map, toNat_ofNat]
  rw [List.length_map] at this
  exact this
theorem q35 (cs : List Int) (W : List WV) (l : List Wd) (hcl : cs.length ≤ 1000) (hWl : W.length ≤ 1000) (hW : ∀ w ∈ W, w.2.length ≤ 100) (hl : l.length ≤ 100) (hlw : ∀ w ∈ l, w.length ≤ 1000 ∨ 65536 < w.length) :
    PFn Tryz.prog 35 [.sl (cs.map Kn.iV), .sl (W.map wV), .sl (l.map .str)] [intN false (costR cs W l).1, .int .i64 (costR cs W l).2] := by
  have hz : intN false 0 = .agg [.bool false, .str []] := rfl
  have e37 := c37w cs W (by omega) hW (by omega)
  by_cases h0 : chkW cs W = 0
  rotate_left
  · unfold costR
    rw [if_pos h0, hz]
    refine PFn.of_body hΓ Tryz.func35 (by kernel_rfl) rfl (AWp.seq (AWp.of_awpD [] hΓ hmix (by kernel_rfl) ?_))
    simp -implicitDefEqProofs only [Tryz.ntmps35, Tryz.results35, Nat.reduceAdd, Nat.reduceSub, go_sem]
    refine AWp.seq (AWp.of_awpD [] hΓ hmix (by kernel_rfl) ?_)
    simp -implicitDefEqProofs only [go_sem]
    refine callK_fn e37 (.still rfl) ?_
    simp -implicitDefEqProofs only [h0, go_sem]
  obtain ⟨hc0, hWn, hw⟩ := ok_weights hW h0
  obtain ⟨ns, rfl, hc⟩ := ok_costs hc0
  have hlw2 : ∀ w ∈ l, wordCheck ns.length w = 0 → w.length ≤ 1000 := fun w hwm h => by
    rcases hlw w hwm with h1 | h1
    · exact h1
    · have := wc_len h; omega
  unfold costR
  rw [if_neg (by omega), iV_nV, hWn, List.length_map, toNat_ofNat]
  rw [h0, iV_nV, hWn] at e37
  have hWlen : (W.map fun w => beN w.2).length = W.length := List.length_map _
  rw [← hWlen]
  rw [← hWlen] at hWl
  generalize (W.map fun w => beN w.2) = V at *
  refine PFn.of_body hΓ Tryz.func35 (by kernel_rfl) rfl (AWp.seq (AWp.of_awpD [] hΓ hmix (by kernel_rfl) ?_))
  simp -implicitDefEqProofs only [Tryz.ntmps35, Tryz.results35, Nat.reduceAdd, Nat.reduceSub, go_sem]
  refine AWp.seq (AWp.of_awpD [] hΓ hmix (by kernel_rfl) ?_)
  simp -implicitDefEqProofs only [go_sem]
  refine callK_fn e37 (.still rfl) ?_
  simp -implicitDefEqProofs only [go_sem]
  refine AWp.seq (AWp.of_awpD [] hΓ hmix (by kernel_rfl) ?_)
  by_cases hne : l.length = V.length
  case neg =>
    have hne' : ¬ (l.length : Int) = (V.length : Int) := by omega
    have he : costE ns.length V.length l = 11 := by unfold costE; rw [if_pos hne]
    rw [he]
    simp -implicitDefEqProofs only [hne', List.length_map, go_sem]
    rw [if_neg (by decide)]; rfl
  have he : costE ns.length V.length l = if firstE ns.length l ≠ 0 then firstE ns.length l else if pfBad l = true then 8 else 0 := by unfold costE; rw [if_neg (by omega)]
  simp -implicitDefEqProofs only [List.length_map, hne, decide_true, Bool.not_true, decide_false, Bool.not_false, go_sem]
  refine AWp.seq (AWp.seq (AWp.of_awpD [] hΓ hmix (by kernel_rfl) ?_))
  simp -implicitDefEqProofs only [List.length_map, go_sem]
  refine AWp.block ?_
  refine AWp.loopI (fun i : Nat => ⟨mkF 49 [(0, .p (.sl (ns.map Kn.nV))), (1, .p (.sl (V.map (intN false)))), (2, .p (.sl (l.map .str))), (6, .ptr 0 0), (7, .p (.int .i64 0)), (9, .p (.int .i64 i))], [.box [.p (.bool false), .p (.str [])]]⟩)
    (fun i => i ≤ l.length ∧ ∀ j (hj : j < l.length), j < i → wordCheck ns.length l[j] = 0) (fun i => l.length - i) 0 (by simp [go_sem]) ⟨by omega, fun j _ h => by omega⟩ ?_
  intro i ⟨hi, hj0⟩
  simp -implicitDefEqProofs only [go_sem]
  refine AWp.of_awpD [] hΓ hmix (by kernel_rfl) ?_
  by_cases hlt : i < l.length
  · have hlt' : (i : Int) < (l.length : Int) := by omega
    have hg : (l.map PV.str).getD i default = .str l[i] := getD_map_lt _ _ _ _ hlt
    have e60 := t78 (ns.length : Int) l[i]
    simp -implicitDefEqProofs only [hlt, hlt', hg, Int.toNat_natCast, List.length_map, go_sem]
    refine callK_fn e60 (.still rfl) ?_
    by_cases h1 : wordCheck ns.length l[i] = 0
    · rw [h1]
      simp -implicitDefEqProofs only [go_sem]
      refine ⟨by simp only [InR]; omega, i + 1, ?_, ⟨by omega, fun j hj hji => ?_⟩, by omega⟩
      · simp
      · rcases Nat.lt_or_ge j i with h | h
        · exact hj0 j hj h
        · obtain rfl : j = i := by omega
          exact h1
    · have hf : firstE ns.length l = wordCheck ns.length l[i] := firstE_first hlt (fun j hj => hj0 j (by omega) hj) h1
      rw [he, hf, if_pos h1, if_neg h1]
      simp -implicitDefEqProofs only [h1, go_sem]
      rfl
  have hiW : i = l.length := by omega
  have hf0 : firstE ns.length l = 0 := firstE_zero.2 fun w hw => by
    obtain ⟨j, hj, rfl⟩ := List.getElem_of_mem hw
    exact hj0 j hj (by omega)
  rw [hf0, if_neg (by simp)] at he
  subst hiW
  simp -implicitDefEqProofs only [Nat.lt_irrefl, Int.lt_irrefl, List.length_map, go_sem]
  refine AWp.seq (AWp.of_awpD [] hΓ hmix (by kernel_rfl) ?_)
  simp -implicitDefEqProofs only [go_sem]
  have e62 := q62 l (by omega)
  refine callK_fn e62 (.still rfl) ?_
  cases hpb : pfBad l
  · rw [hpb, if_neg (by decide)] at he
    rw [he, if_pos rfl]
    have hfz := firstE_zero.1 hf0
    have e44 := q44 hc hw l hne (fun w hwm => ⟨hlw2 w hwm (hfz w hwm), wc_ok (by have := hc.l2; omega) (by have := hc.l3; omega) (hfz w hwm)⟩)
    rw [intN_pos] at e44
    simp -implicitDefEqProofs only [Bool.not_false, Bool.not_true, go_sem]
    refine AWp.of_awpD [] hΓ hmix (by kernel_rfl) ?_
    simp -implicitDefEqProofs only [go_sem]
    refine callK_fn e44 (.still rfl) ?_
    simp -implicitDefEqProofs only [go_sem]
    try rfl
  · rw [hpb, if_pos rfl] at he
    rw [he, if_neg (by decide)]
    simp -implicitDefEqProofs only [Bool.not_false, Bool.not_true, go_sem]
    try rfl
end Go.Proofs.YtnaekjbbakofdaaGreat
end

section
namespace Go.Proofs.YtnaekjbbakofdaaGreat
open Go Go.AM
set_option maxRecDepth 100000
set_option maxHeartbeats 4000000
set_option linter.unusedSimpArgs false

def greatI (W : List WV) : Bool := decide (8 < W.length) || W.any fun w => decide (8 < w.2.length)
theorem q11 (W : List WV) (hl : W.length ≤ 9223372036854775807) : PFn Tryz.prog 11 [.sl (W.map wV)] [.bool (greatI W)] := by
  refine PFn.of_body hΓ Tryz.func11 (by kernel_rfl) rfl (AWp.seq (AWp.of_awpD [] hΓ hmix (by kernel_rfl) ?_))
  simp -implicitDefEqProofs only [Tryz.ntmps11, Tryz.results11, Nat.reduceAdd, Nat.reduceSub, go_sem]
  refine AWp.seq (AWp.of_awpD [] hΓ hmix (by kernel_rfl) ?_)
  by_cases h8 : 8 < W.length
  · have h8' : (8 : Int) < (W.length : Int) := by omega
    have he : greatI W = true := by unfold greatI; rw [decide_eq_true h8]; rfl
    rw [he]
    simp -implicitDefEqProofs only [h8', List.length_map, go_sem]
  have h8' : ¬ (8 : Int) < (W.length : Int) := by omega
  have he : greatI W = W.any fun w => decide (8 < w.2.length) := by unfold greatI; rw [decide_eq_false h8]; rfl
  simp -implicitDefEqProofs only [h8', List.length_map, go_sem]
  refine AWp.seq (AWp.seq (AWp.of_awpD [] hΓ hmix (by kernel_rfl) ?_))
  simp -implicitDefEqProofs only [go_sem]
  refine AWp.block ?_
  refine AWp.loopI (fun i : Nat => ⟨mkF 20 [(0, .p (.sl (W.map wV))), (2, .p (.bool false)), (3, .p (.int .i64 i))], []⟩)
    (fun i => i ≤ W.length ∧ ∀ j (hj : j < W.length), j < i → ¬ 8 < W[j].2.length) (fun i => W.length - i) 0 (by simp [go_sem]) ⟨by omega, fun j _ h => by omega⟩ ?_
  intro i ⟨hi, hj0⟩
  simp -implicitDefEqProofs only [go_sem]
  refine AWp.of_awpD [] hΓ hmix (by kernel_rfl) ?_
  by_cases hlt : i < W.length
  · have hlt' : (i : Int) < (W.length : Int) := by omega
    have hg : (W.map wV).getD i default = .agg [.bool W[i].1, .str W[i].2] := getD_map_lt _ _ _ _ hlt
    by_cases hb : 8 < W[i].2.length
    · have hb' : (8 : Int) < (W[i].2.length : Int) := by omega
      rw [he, show (W.any fun w => decide (8 < w.2.length)) = true from List.any_eq_true.2 ⟨_, List.getElem_mem hlt, decide_eq_true hb⟩]
      simp -implicitDefEqProofs only [hlt, hlt', hg, hb', Int.toNat_natCast, List.length_map, go_sem]
      try omega
    · have hb' : ¬ (8 : Int) < (W[i].2.length : Int) := by omega
      simp -implicitDefEqProofs only [hlt, hlt', hg, hb', Int.toNat_natCast, List.length_map, go_sem]
      refine ⟨by omega, by simp only [InR]; omega, i + 1, by omega, ⟨by omega, fun j hj hji => ?_⟩, by omega⟩
      rcases Nat.lt_or_ge j i with h | h
      · exact hj0 j hj h
      · obtain rfl : j = i := by omega
        exact hb
  have hiW : i = W.length := by omega
  have h0 : (W.any fun w => decide (8 < w.2.length)) = false := by
    refine List.any_eq_false.2 fun w hw => ?_
    obtain ⟨j, hj, rfl⟩ := List.getElem_of_mem hw
    simpa using hj0 j hj (by omega)
  rw [he, h0]
  subst hiW
  simp -implicitDefEqProofs only [Nat.lt_irrefl, Int.lt_irrefl, List.length_map, go_sem]
  refine AWp.of_awpD [] hΓ hmix (by kernel_rfl) ?_
  simp -implicitDefEqProofs only [go_sem]
def longB (w : Wd) : Bool := (decide (40 < w.length) && decide (w.length ≤ 65536)) || decide (65544 < w.length)
theorem q32 (w : Wd) : PFn Tryz.prog 32 [.str w, .int .i64 40] [.bool (longB w)] := by
  unfold longB
  refine PFn.of_body hΓ Tryz.func32 (by kernel_rfl) rfl (AWp.of_awpD [] hΓ hmix (by kernel_rfl) ?_)
  by_cases h1 : 40 < w.length
  · have h1' : (40 : Int) < (w.length : Int) := by omega
    by_cases h2 : w.length ≤ 65536
    · have h2' : (w.length : Int) ≤ 65536 := by omega
      simp -implicitDefEqProofs only [Tryz.ntmps32, Tryz.results32, Nat.reduceAdd, Nat.reduceSub, h1', h2', go_sem]
      simp [h1, h2]
    · have h2' : ¬ (w.length : Int) ≤ 65536 := by omega
      by_cases h3 : 65544 < w.length
      · have h3' : (65544 : Int) < (w.length : Int) := by omega
        simp -implicitDefEqProofs only [Tryz.ntmps32, Tryz.results32, Nat.reduceAdd, Nat.reduceSub, h1', h2', h3', go_sem]
        simp [h3]
      · have h3' : ¬ (65544 : Int) < (w.length : Int) := by omega
        simp -implicitDefEqProofs only [Tryz.ntmps32, Tryz.results32, Nat.reduceAdd, Nat.reduceSub, h1', h2', h3', go_sem]
        simp [h3, h2]
  · have h1' : ¬ (40 : Int) < (w.length : Int) := by omega
    have h3 : ¬ 65544 < w.length := by omega
    have h3' : ¬ (65544 : Int) < (w.length : Int) := by omega
    simp -implicitDefEqProofs only [Tryz.ntmps32, Tryz.results32, Nat.reduceAdd, Nat.reduceSub, h1', h3', go_sem]
    simp [h1, h3]
theorem k33 (w : Wd) : PFn Tryz.prog 33 [.str w] [.bool (longB w)] := by
  have e32 := q32 w
  refine PFn.of_body hΓ Tryz.func33 (by kernel_rfl) rfl (AWp.of_awpD [] hΓ hmix (by kernel_rfl) ?_)
  simp -implicitDefEqProofs only [Tryz.ntmps33, Tryz.results33, Nat.reduceAdd, Nat.reduceSub, go_sem]
  refine callK_fn e32 (.still rfl) ?_
  simp -implicitDefEqProofs only [go_sem]
theorem long_not {w : Wd} (h : longB w = false) : w.length ≤ 1000 ∨ 65536 < w.length := by
  unfold longB at h
  simp at h
  omega

theorem b10 (cs : List Int) (W : List WV) (l : List Wd) (w : Wd) (hcl : cs.length ≤ 9223372036854775807) (hWl : W.length ≤ 9223372036854775807) (hll : l.length ≤ 9223372036854775807) :
    PFn Tryz.prog 10 [.sl (cs.map Kn.iV), .sl (W.map wV), .sl (l.map .str), .str w] [.bool true] := by
  have e11 := q11 W hWl
  refine PFn.of_body hΓ Tryz.func10 (by kernel_rfl) rfl (AWp.seq (AWp.of_awpD [] hΓ hmix (by kernel_rfl) ?_))
  simp -implicitDefEqProofs only [Tryz.ntmps10, Tryz.results10, Nat.reduceAdd, Nat.reduceSub, go_sem]
  refine AWp.seq (AWp.of_awpD [] hΓ hmix (by kernel_rfl) ?_)
  simp -implicitDefEqProofs only [go_sem]
  refine callK_fn e11 (.still rfl) ?_
  cases hg : greatI W
  rotate_left
  · simp -implicitDefEqProofs only [go_sem]
    refine callK_fn awake41 (.still rfl) ?_
    simp -implicitDefEqProofs only [go_sem]
  by_cases h8 : 8 < cs.length
  · have h8' : (8 : Int) < (cs.length : Int) := by omega
    simp -implicitDefEqProofs only [h8', List.length_map, go_sem]
    refine callK_fn awake41 (.still rfl) ?_
    simp -implicitDefEqProofs only [go_sem]
  have h8' : ¬ (8 : Int) < (cs.length : Int) := by omega
  by_cases hl8 : 8 < l.length
  · have hl8' : (8 : Int) < (l.length : Int) := by omega
    simp -implicitDefEqProofs only [h8', hl8', List.length_map, go_sem]
    refine callK_fn awake41 (.still rfl) ?_
    simp -implicitDefEqProofs only [go_sem]
  have hl8' : ¬ (8 : Int) < (l.length : Int) := by omega
  simp -implicitDefEqProofs only [h8', hl8', List.length_map, go_sem]
  refine callK_fn (q32 w) (.still rfl) ?_
  cases hwl : longB w
  rotate_left
  · simp -implicitDefEqProofs only [go_sem]
    refine callK_fn awake41 (.still rfl) ?_
    simp -implicitDefEqProofs only [go_sem]
  have hc77 := fun h => c77 (h := h) (g := 33) (caps := []) (pr := longB) l (by omega) (fun w _ => AC.of_fn (h := h) (args := [.p (.str w)]) (k33 w) (.inl rfl))
  simp -implicitDefEqProofs only [go_sem]
  refine callK_ac (hc77 _) (by simp) ?_
  rintro v h' ⟨rfl, rfl⟩
  cases hal : l.any longB
  rotate_left
  · simp -implicitDefEqProofs only [killAll, List.foldl, go_sem]
    refine callK_fn awake41 (.still rfl) ?_
    simp -implicitDefEqProofs only [go_sem]
  have hW : ∀ x ∈ W, x.2.length ≤ 100 := fun x hx => by
    unfold greatI at hg
    rw [Bool.or_eq_false_iff] at hg
    have := List.any_eq_false.1 hg.2 x hx
    simp at this; omega
  have hW8 : W.length ≤ 8 := by
    unfold greatI at hg
    rw [Bool.or_eq_false_iff] at hg
    have := of_decide_eq_false hg.1
    omega
  have hlw : ∀ x ∈ l, x.length ≤ 1000 ∨ 65536 < x.length := fun x hx => long_not (by simpa using List.any_eq_false.1 hal x hx)
  have e28 := c28w cs w (by omega)
  have e34 := q34 cs w (by omega)
  have e31 := c31w cs W l (by omega) (by omega) hW (by omega) hlw
  have e35 := q35 cs W l (by omega) (by omega) hW (by omega) hlw
  have e36 := c36w cs W (by omega) hW (by omega)
  have e37 := c37w cs W (by omega) hW (by omega)
  generalize wordR cs w = R at *
  generalize costR cs W l = C at *
  generalize chkW cs W = D at *
  rw [intN_pos] at e31 e35
  simp -implicitDefEqProofs only [killAll, List.foldl, go_sem]
  refine AWp.seq (AWp.of_awpD [] hΓ hmix (by kernel_rfl) ?_)
  simp -implicitDefEqProofs only [go_sem]
  refine callK_fn e28 (.still rfl) ?_
  simp -implicitDefEqProofs only [go_sem]
  refine AWp.seq (AWp.of_awpD [] hΓ hmix (by kernel_rfl) ?_)
  simp -implicitDefEqProofs only [go_sem]
  refine callK_fn e34 (.still rfl) ?_
  simp -implicitDefEqProofs only [go_sem]
  refine AWp.seq (AWp.of_awpD [] hΓ hmix (by kernel_rfl) ?_)
  simp -implicitDefEqProofs only [go_sem]
  refine callK_fn e31 (.still rfl) ?_
  simp -implicitDefEqProofs only [go_sem]
  refine AWp.seq (AWp.of_awpD [] hΓ hmix (by kernel_rfl) ?_)
  simp -implicitDefEqProofs only [go_sem]
  refine callK_fn e35 (.still rfl) ?_
  simp -implicitDefEqProofs only [go_sem]
  refine AWp.of_awpD [] hΓ hmix (by kernel_rfl) ?_
  simp -implicitDefEqProofs only [go_sem]
  refine callK_fn e36 (.still rfl) ?_
  simp -implicitDefEqProofs only [go_sem]
  refine callK_fn e37 (.still rfl) ?_
  simp -implicitDefEqProofs only [go_sem]
  refine aggI rfl rfl ?_
  rw [decide_eq_true rfl]
  simp -implicitDefEqProofs only [go_sem]
  refine callK_fn awake41 (.still rfl) ?_
  simp -implicitDefEqProofs only [go_sem]
end Go.Proofs.YtnaekjbbakofdaaGreat
end

