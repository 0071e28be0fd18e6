/-
  The magnitude of a small number at the reference, walked with the kit's own words (an array of the function's own).
  The number of a short magnitude at the reference, walked with the kit's own words.
  The reference's small integers: Of, Canonical, value, Add.
  The reference's counts.
  A string of n letters has at most 2^n readings over distinct words; the comparison of small integers.
  The reference's comparison of small integers, and Factor.
  The reference's Encode; SameLists at equal lists.
  The law CodeReads.
  What a parameter that fits a shape is: codes, ambiguities, lists of words and numbers.
-/
import Derived.WalkKit
import Derived.KernelRfl
import Derived.LoopTactic
import Derived.Test.YtgkbafkmbokkaaaJ43ee06514102
import Derived.Test.YtgkbafkmbokkaaaJ7640645f92de
import Derived.Test.YtgkbafkmbokkaaaJ7f6da131cd26
import Derived.Test.YtgkbafkmbokkaaaJ0d96762c0a0d
import Derived.Test.YtgkbafkmbokkaaaJacf0c6be7c94
import Derived.Test.YtgkbafkmbokkaaaJ5140b6250559
import Derived.Test.YtgkbafkmbokkaaaJ379b51e85341

section
namespace Go.Proofs.Ytgkbafkmbokkaaa
open Go Go.RowKit Go.Proofs
set_option maxRecDepth 100000
set_option linter.unnecessarySimpa false

theorem magB_one (n : Nat) (h0 : n ≠ 0) (h : n < 256) : magB n = [UInt8.ofNat n] := by
  have := magB_step (c := n) (n := 0) h
  rw [Nat.mul_zero, Nat.add_zero, if_neg (fun e => h0 e.1), magB_zero] at this
  exact this

theorem m99 (n : Nat) (hn : n < 9223372036854775808) (w : World) : Calls Try.prog 99 #[.int .i64 n] w fun e w' => e = .returned (.string ⟨(magB n).toArray⟩) ∧ Below w.heap.size w w' := by
  go_enter Try.func99, Try.ntmps99
  go_wp2
  · have h0 : ((n : Int) == 0) = true := by assumption
    have : n = 0 := by simpa using h0
    subst this
    go_ret
    exact ⟨rfl, Below.refl _ _⟩
  · have h0 : ((n : Int) == 0) = false := by assumption
    have h256 : (n : Int) < 256 := by assumption
    have h0' : n ≠ 0 := by simpa using h0
    have hc := run_convert_bytes_back (P := Try.prog) (w.alloc (.cells #[Value.int .u8 n] 5)) 61 9 5 ⟨w.heap.size, 0, none⟩ 1 [UInt8.ofNat n] Try.underlying61 Try.underlying5 Try.underlying9 (by
      intro j hj
      have hj0 : j = 0 := by simpa using hj
      subst hj0
      have hmod : n % 256 = n := Nat.mod_eq_of_lt (by omega)
      simp [Addr.add, UInt8.toNat_ofNat', hmod])
    rw [show (Value.slice (some { block := w.heap.size, off := 0 }) 1 1) = .slice (some ⟨w.heap.size, 0, none⟩) [UInt8.ofNat n].length 1 from rfl, hc]
    simp only [Result.andThen]
    rw [Oper.upon_value]
    go_wp2
    go_ret
    exact ⟨by rw [magB_one n h0' (by omega)]; rfl, (Below.refl _ _).alloc (Nat.le_refl _) _⟩
  · go_loopw [0, 4] (fun x k wr => ∃ (m p : Nat) (L : List UInt8), x = .int .i64 m ∧ k = .int .i64 p ∧ p + L.length = 8 ∧ magB n = magB m ++ L ∧ m ≤ n ∧ Below w.heap.size w wr ∧ wr.heap.size = w.heap.size + 1 ∧
        (∀ i, i < 8 → (wr.cell? ⟨w.heap.size, i, none⟩).isSome = true ∧ wr.frozen? ⟨w.heap.size, i, none⟩ = false) ∧ (∀ i (hi : i < L.length), wr.cell? ⟨w.heap.size, p + i, none⟩ = some (.int .u8 (L[i].toNat : Int))))
      (fun x _ _ => (intOf x).toNat)
    case atStart =>
      refine ⟨n, 8, [], rfl, rfl, rfl, by simp, Nat.le_refl _, (Below.refl _ _).alloc (Nat.le_refl _) _, World.size_alloc _ _, fun i hi => ?_, fun i hi => by simp at hi⟩
      rw [World.cell?_alloc_new, World.frozen?_alloc_new]
      refine ⟨?_, rfl⟩
      simp [hi]
    case round =>
      obtain ⟨m, p, L, rfl, rfl, hpL, hL, hmn, hB, hsz, hc, hl⟩ := hrel
      have hp : m > 0 → 0 < p := fun h => by
        have h1 := congrArg List.length hL
        rw [List.length_append] at h1
        have h2 := magB_small (k := 8) (n := n) (by omega)
        have h3 : (magB m).length ≠ 0 := fun e => by have := magB_nil (List.length_eq_zero_iff.1 e); omega
        omega
      by_cases hm : m > 0
      · have hp' := hp hm
        obtain ⟨p, rfl⟩ : ∃ r, p = r + 1 := ⟨p - 1, by omega⟩
        obtain ⟨u, hu⟩ := Option.isSome_iff_exists.1 (hc p (by omega)).1
        have hfp' := (hc p (by omega)).2
        clear hp
        go_wp2
        refine ⟨⟨m / 256, p, UInt8.ofNat (m % 256) :: L, ?_, rfl, ?_, ?_, ?_, ?_, ?_, ?_, ?_⟩, ?_⟩
        · rw [Int.natCast_ediv]; rfl
        · rw [List.length_cons]; omega
        · have h4 := magB_step (c := m % 256) (n := m / 256) (Nat.mod_lt _ (by decide))
          rw [Nat.mod_add_div, if_neg (fun e => by omega)] at h4
          rw [hL, h4, List.append_assoc]; rfl
        · exact Nat.le_trans (Nat.div_le_self _ _) hmn
        · exact hB.setCell (Nat.le_refl _) _
        · rw [World.size_setCell]; exact hsz
        · intro i hi
          rw [World.frozen?_setCell]
          refine ⟨?_, (hc i hi).2⟩
          by_cases e : i = p
          · subst e; rw [World.cell?_setCell_same (h := hu)]; rfl
          · rw [World.cell?_setCell_other (h := show (⟨w.heap.size, p, none⟩ : Addr) ≠ ⟨w.heap.size, i, none⟩ from fun e2 => e (by injection e2 with _ e3; exact e3.symm))]; exact (hc i hi).1
        · intro i hi
          cases i with
          | zero =>
            rw [Nat.add_zero, World.cell?_setCell_same (h := hu)]
            have : m % 256 < 256 := Nat.mod_lt _ (by decide)
            simp [UInt8.toNat_ofNat']
          | succ i =>
            rw [World.cell?_setCell_other (h := show (⟨w.heap.size, p, none⟩ : Addr) ≠ ⟨w.heap.size, p + (i + 1), none⟩ from fun e2 => by injection e2 with _ e3; omega), show p + (i + 1) = p + 1 + i by omega]
            exact hl i (by simpa using hi)
        · simp [intOf]; omega
      · have hm0 : m = 0 := by omega
        subst hm0
        clear hp
        rw [magB_zero, List.nil_append] at hL
        have hLn : L ≠ [] := fun e => by
          rw [e] at hL
          have := magB_nil hL
          omega
        have hLl := List.length_pos_iff.2 hLn
        have eL : Try.prog.arrayLen 118 = 8 := by kernel_rfl
        have eE : Try.prog.elem 118 = 5 := by kernel_rfl
        have hsl := run_sliceAt_array_l (P := Try.prog) wr 118 ⟨w.heap.size, 0, none⟩ (by rw [eL, eE]; exact Try.underlying118) .i64 (p : Int) (by omega) (by rw [eL]; omega)
        rw [eL, eE] at hsl
        have hcv := run_convert_bytes_back (P := Try.prog) wr 61 9 5 ⟨w.heap.size, p, none⟩ L.length L Try.underlying61 Try.underlying5 Try.underlying9 (fun j hj => by
          have h5 := hl j hj
          by_cases e : j = 0
          · subst e; simpa [Addr.add] using h5
          · simpa [Addr.add, e] using h5)
        go_wp2
        rw [show 8 - p = L.length by omega, hcv]
        simp only [Result.andThen]
        rw [Oper.upon_value]
        go_wp2
        go_ret
        exact ⟨by rw [hL]; rfl, hB⟩
end Go.Proofs.Ytgkbafkmbokkaaa
end

section
namespace Go.Proofs.Ytgkbafkmbokkaaa
open Go Go.RowKit Go.Proofs
set_option maxRecDepth 100000

/-- A number out of its bytes, the greatest first. -/
def beN (l : List UInt8) : Nat := l.foldl (fun a b => a * 256 + b.toNat) 0
theorem beN_snoc (l : List UInt8) (b : UInt8) : beN (l ++ [b]) = beN l * 256 + b.toNat := by unfold beN; rw [List.foldl_append]; rfl
theorem beN_lt : ∀ (k : Nat) (l : List UInt8), l.length = k → beN l < 256 ^ k
  | 0, l, h => by rw [List.length_eq_zero_iff.1 h]; decide
  | k + 1, l, h => by
    have hne : l ≠ [] := fun e => by rw [e] at h; cases h
    rw [← List.dropLast_concat_getLast hne, beN_snoc]
    have h1 := beN_lt k l.dropLast (by rw [List.length_dropLast]; omega)
    have h2 := (l.getLast hne).toNat_lt
    rw [Nat.pow_succ]; omega
theorem beN_magB (n : Nat) : beN (magB n) = n := by
  induction n using Nat.strongRecOn with
  | _ n ih =>
    by_cases h : n = 0
    · subst h; rfl
    · have h4 := magB_step (c := n % 256) (n := n / 256) (Nat.mod_lt _ (by decide))
      rw [Nat.mod_add_div, if_neg (fun e => by omega)] at h4
      rw [h4, beN_snoc, ih _ (by omega), UInt8.toNat_ofNat']
      have : n % 256 % 2 ^ 8 = n % 256 := by omega
      rw [this]; omega

theorem orB_add (a b : Nat) (ha : a < 256 ^ 6) (hb : b < 256) : bits .or .i64 ((a : Int) * 256) (wrap64 (b : Int)) = ((a * 256 + b : Nat) : Int) := by
  have h1 : ((a : Int) * 256) = ((a * 256 : Nat) : Int) := by omega
  have h2 : wrap64 (b : Int) = (b : Int) := by unfold wrap64; omega
  have h3 := Nat.shiftLeft_add_eq_or_of_lt (b := b) (i := 8) (by omega) a
  rw [h1, h2]
  have g1 : a * 256 < 18446744073709551616 := by omega
  have e : (BitVec.ofInt 64 ((a * 256 : Nat) : Int) ||| BitVec.ofInt 64 (b : Int)).toNat = a * 256 + b := by
    rw [BitVec.toNat_or, BitVec.ofInt_natCast, BitVec.ofInt_natCast, BitVec.toNat_ofNat, BitVec.toNat_ofNat, Nat.mod_eq_of_lt g1, Nat.mod_eq_of_lt (show b < 2 ^ 64 by omega)]
    rw [Nat.shiftLeft_eq] at h3
    exact h3.symm
  show IntKind.wrap .i64 ((BitVec.ofInt 64 ((a * 256 : Nat) : Int) ||| BitVec.ofInt 64 (b : Int)).toNat : Nat) = _
  rw [e]
  exact AM.InR.wrap (k := .i64) (by simp only [AM.InR]; omega)

theorem m124 (s : ByteArray) (hs : s.size ≤ 7) (w : World) : Calls Try.prog 124 #[.string s] w fun e w' => e = .returned (.int .i64 (beN s.data.toList)) ∧ w' = w := by
  go_enter Try.func124, Try.ntmps124
  go_wp2
  go_loop [3, 4] (fun x k => ∃ i : Nat, i ≤ s.size ∧ k = .int .i64 i ∧ x = .int .i64 (beN (s.data.toList.take i)))
    (fun _ k => s.size - (intOf k).toNat)
  case atStart => exact ⟨0, by omega, rfl, rfl⟩
  case round =>
    obtain ⟨i, hi, rfl, rfl⟩ := hrel
    by_cases hlt : i < s.size
    · have hlt' : (i : Int) < s.size := by omega
      have hlen : s.data.toList.length = s.size := by simp
      have htl : (s.data.toList.take i).length = i := by rw [List.length_take]; omega
      have hbd := beN_lt i _ htl
      have hbd6 : beN (s.data.toList.take i) < 256 ^ 6 := Nat.lt_of_lt_of_le hbd (Nat.pow_le_pow_right (by decide) (by omega))
      have hor := orB_add (beN (s.data.toList.take i)) s[i].toNat hbd6 s[i].toNat_lt
      have hnext : beN (s.data.toList.take (i + 1)) = beN (s.data.toList.take i) * 256 + s[i].toNat := by
        rw [List.take_succ_eq_append_getElem (by omega), beN_snoc]; rfl
      go_wp2
      refine ⟨⟨i + 1, by omega, by simp, ?_⟩, ?_⟩
      · rw [hnext, Int.natCast_add, Int.natCast_mul]; rfl
      · simp only [intOf]; omega
    · have hlt' : ¬ (i : Int) < s.size := by omega
      have hie : i = s.size := by omega
      go_wp2
      go_ret
      exact ⟨by rw [List.take_of_length_le (by simp)]; rfl, rfl⟩
end Go.Proofs.Ytgkbafkmbokkaaa
end

section
namespace Go.Proofs.Ytgkbafkmbokkaaa
open Go Go.AM Go.RowKit
set_option maxRecDepth 100000
set_option linter.unusedSimpArgs false

theorem u99 (n : Nat) (hn : n < 9223372036854775808) : PFn Try.prog 99 [.int .i64 n] [.str (magB n)] := by
  refine ⟨entersF_of Try.func99 (by kernel_rfl) rfl, fun I w cargs himm hlen hargs => ?_⟩
  obtain ⟨a, rfl⟩ : ∃ a, cargs = [a] := by
    match cargs, hlen with
    | [a], _ => exact ⟨a, rfl⟩
  have h0 := hargs 0 (by simp)
  simp only [List.getD_cons_zero] at h0
  rw [h0.int_inv]
  refine Calls.mono (P := Try.prog) (m99 n hn w) ?_
  rintro e w' ⟨rfl, hB⟩
  exact ⟨_, I, rfl, grown_of_below hB, fun _ h => h, fun g h => .inl h, .p _ _ (.str ⟨(magB n).toArray⟩)⟩
theorem u124 (l : List UInt8) (hl : l.length ≤ 7) : PFn Try.prog 124 [.str l] [.int .i64 (beN l)] := by
  refine ⟨entersF_of Try.func124 (by kernel_rfl) rfl, fun I w cargs himm hlen hargs => ?_⟩
  obtain ⟨a, rfl⟩ : ∃ a, cargs = [a] := by
    match cargs, hlen with
    | [a], _ => exact ⟨a, rfl⟩
  have h0 := hargs 0 (by simp)
  simp only [List.getD_cons_zero] at h0
  obtain ⟨s, rfl, rfl⟩ : ∃ s : ByteArray, a = .string s ∧ l = s.data.toList := by
    cases h0 with
    | str s => exact ⟨s, rfl, rfl⟩
  refine Calls.mono (P := Try.prog) (m124 s (by simpa using hl) w) ?_
  rintro e w' ⟨rfl, rfl⟩
  exact ⟨_, I, rfl, grown_of_below (Below.refl _ _), fun _ h => h, fun g h => .inl h, .p _ _ (.int _ _)⟩

def smallN : Nat := 256 ^ 7
theorem intF (n : Nat) : intN false n = .agg [.bool false, .str (magB n)] := rfl
theorem mag7 {n : Nat} (h : n < 256 ^ 7) : (magB n).length ≤ 7 := magB_small h
theorem magB_head (n : Nat) (h : n ≠ 0) : ∃ b l, magB n = b :: l ∧ b ≠ 0 := by
  induction n using Nat.strongRecOn with
  | _ n ih =>
    have h4 := magB_step (c := n % 256) (n := n / 256) (Nat.mod_lt _ (by decide))
    rw [Nat.mod_add_div, if_neg (fun e => by omega)] at h4
    by_cases h0 : n / 256 = 0
    · refine ⟨UInt8.ofNat (n % 256), [], by rw [h4, h0, magB_zero]; rfl, fun e => ?_⟩
      have := congrArg UInt8.toNat e
      rw [UInt8.toNat_ofNat'] at this
      have z : (0 : UInt8).toNat = 0 := rfl
      rw [z] at this
      omega
    · obtain ⟨b, l, h1, h2⟩ := ih (n / 256) (by omega) h0
      exact ⟨b, l ++ [UInt8.ofNat (n % 256)], by rw [h4, h1]; rfl, h2⟩

theorem u110 (n : Nat) (hn : n < 256 ^ 7) : PFn Try.prog 110 [intN false n] [.int .i64 n] := by
  have e := u124 (magB n) (mag7 hn)
  rw [beN_magB] at e
  rw [intF]
  generalize magB n = l at *
  refine PFn.of_body hΓ Try.func110 (by kernel_rfl) rfl (AWp.of_awpD [] hΓ hmix (by kernel_rfl) ?_)
  simp -implicitDefEqProofs only [Try.ntmps110, Try.results110, Nat.reduceAdd, Nat.reduceSub, go_sem]
  refine callK_fn e (.pures rfl) ?_
  simp -implicitDefEqProofs only [go_sem]
theorem u109e : PFn Try.prog 109 [.str []] [.str []] := by
  refine PFn.of_body hΓ Try.func109 (by kernel_rfl) rfl (AWp.of_awpD [] hΓ hmix (by kernel_rfl) ?_)
  simp -implicitDefEqProofs only [Try.ntmps109, Try.results109, Nat.reduceAdd, Nat.reduceSub, go_sem]
  refine AWp.loopI (fun _ : Unit => ⟨mkF 14 [(0, .p (.str []))], []⟩) (fun _ => True) (fun _ => 0) () (by simp [go_sem]) trivial ?_
  rintro _ _
  simp -implicitDefEqProofs only [go_sem]
  refine AWp.of_awpD [] hΓ hmix (by kernel_rfl) ?_
  have z : ¬ (0 : Int) < ((0 : Nat) : Int) := by decide
  simp -implicitDefEqProofs only [List.length_nil, z, go_sem]
theorem u96 (n : Nat) (hn : n < 256 ^ 7) : PFn Try.prog 96 [intN false n] [intN false n] := by
  rw [intF]
  refine PFn.of_body hΓ Try.func96 (by kernel_rfl) rfl (AWp.of_awpD [] hΓ hmix (by kernel_rfl) ?_)
  by_cases h : n = 0
  · subst h
    rw [magB_zero]
    have z : ¬ (0 : Int) < ((0 : Nat) : Int) := by decide
    simp -implicitDefEqProofs only [Try.ntmps96, Try.results96, Nat.reduceAdd, Nat.reduceSub, List.length_nil, z, go_sem]
    refine callK_fn u109e (.pures rfl) ?_
    simp -implicitDefEqProofs only [go_sem]
    omega
  · obtain ⟨b, l, h1, h2⟩ := magB_head n h
    rw [h1]
    have z : (0 : Int) < ((l.length + 1 : Nat) : Int) := by omega
    have z3 : ¬ ((((b :: l).getD (Int.toNat 0) 0).toNat : Nat) : Int) = 0 := fun e => h2 (by
      have e1 : b.toNat = 0 := by simpa using e
      exact UInt8.toNat_inj.1 e1)
    simp -implicitDefEqProofs only [Try.ntmps96, Try.results96, Nat.reduceAdd, Nat.reduceSub, List.length_cons, z, z3, go_sem]
theorem u76 (n : Nat) (hn : n < 9223372036854775808) : PFn Try.prog 76 [.int .i64 n] [intN false n] := by
  have e := u99 n hn
  have h0 : (0 : Int) ≤ n := by omega
  rw [intF]
  generalize magB n = l at *
  refine PFn.of_body hΓ Try.func76 (by kernel_rfl) rfl (AWp.of_awpD [] hΓ hmix (by kernel_rfl) ?_)
  simp -implicitDefEqProofs only [Try.ntmps76, Try.results76, Nat.reduceAdd, Nat.reduceSub, h0, go_sem]
  refine callK_fn e (.pures rfl) ?_
  simp -implicitDefEqProofs only [go_sem]

theorem u98 (a b : Nat) (ha : a < 256 ^ 7) (hb : b < 256 ^ 7) : PFn Try.prog 98 [intN false a, intN false b] [intN false (a + b)] := by
  have ea := u96 a ha
  have eb := u96 b hb
  have va := u110 a ha
  have vb := u110 b hb
  have eo := u76 (a + b) (by omega)
  have hi : InR IntKind.i64 ((a : Int) + b) := by simp only [InR]; omega
  have la : ((magB a).length : Int) < 8 := by have := mag7 ha; omega
  have lb : ((magB b).length : Int) < 8 := by have := mag7 hb; omega
  rw [Int.natCast_add] at eo
  simp only [intF] at ea eb va vb eo ⊢
  generalize magB (a + b) = zz at *
  generalize magB a = x at *
  generalize magB b = y at *
  refine PFn.of_body hΓ Try.func98 (by kernel_rfl) rfl (AWp.seq (AWp.of_awpD [] hΓ hmix (by kernel_rfl) ?_))
  simp -implicitDefEqProofs only [Try.ntmps98, Try.results98, Nat.reduceAdd, Nat.reduceSub, go_sem]
  refine AWp.of_awpD [(1, 4), (3, 6), (5, 8), (10, 8), (11, 8)] hΓ hmix (by kernel_rfl) ?_
  simp -implicitDefEqProofs only [la, lb, go_sem]
  refine callVPK_fn ea (.still rfl) ?_
  simp -implicitDefEqProofs only [la, lb, go_sem]
  refine callVPK_fn eb (.still rfl) ?_
  simp -implicitDefEqProofs only [la, lb, go_sem]
  refine callVPK_fn va (.still rfl) ?_
  simp -implicitDefEqProofs only [go_sem]
  refine callVPK_fn vb (.still rfl) ?_
  simp -implicitDefEqProofs only [go_sem]
  refine ⟨hi, callVPK_fn eo (.pures rfl) ?_⟩
  simp -implicitDefEqProofs only [go_sem]
end Go.Proofs.Ytgkbafkmbokkaaa
end

section
namespace Go.Proofs.Ytgkbafkmbokkaaa
open Go Go.AM
set_option maxRecDepth 100000
set_option linter.unusedSimpArgs false

theorem cntL_take {ws : List (List UInt8)} {v : List UInt8} : ∀ k, cntL ws (ws.take k) v ≤ cntL ws ws v := fun k => by
  by_cases hk : ws.length ≤ k
  · rw [List.take_of_length_le hk]; exact Nat.le_refl _
  · have hd : ∀ d, k + d ≤ ws.length → cntL ws (ws.take k) v ≤ cntL ws (ws.take (k + d)) v := fun d => by
      induction d with
      | zero => intro _; exact Nat.le_refl _
      | succ d ih =>
        intro h
        refine Nat.le_trans (ih (by omega)) ?_
        rw [show k + (d + 1) = (k + d) + 1 from rfl, List.take_succ_eq_append_getElem (by omega), cntL_snoc]
        split <;> omega
    have := hd (ws.length - k) (by omega)
    rw [show k + (ws.length - k) = ws.length by omega, List.take_length] at this
    exact this

theorem u75 (q : Int) (ws : List (List UInt8)) (w : List UInt8) (hn : ∀ x ∈ ws, x ≠ []) (hws : ws.length ≤ 256) (hw : w.length ≤ 40) (hb : ∀ n, cnt ws (w.drop n) < 256 ^ 7) :
    PFn Try.prog 75 [codeV q ws, .str w] [.sl (cntR ws w 0)] := by
  have eL : ((w.length : Int) + 1).toNat = w.length + 1 := by omega
  have e1 := u76 1 (by omega)
  refine PFn.of_body hΓ Try.func75 (by kernel_rfl) rfl (AWp.seq (AWp.of_awpD [] hΓ hmix (by kernel_rfl) ?_))
  simp -implicitDefEqProofs only [Try.ntmps75, Try.results75, Nat.reduceAdd, Nat.reduceSub, codeV, go_sem]
  refine AWp.seq (AWp.of_awpD [] hΓ hmix (by kernel_rfl) ?_)
  simp -implicitDefEqProofs only [eL, go_sem]
  refine ⟨by simp only [InR]; omega, ⟨by omega, by omega, by omega⟩, ?_⟩
  refine AWp.seq (AWp.of_awpD [] hΓ hmix (by kernel_rfl) ?_)
  simp -implicitDefEqProofs only [go_sem]
  refine callK_fn e1 (.pures rfl) ?_
  simp -implicitDefEqProofs only [intN_pos, go_sem]
  have hst := cntR_start ws w
  rw [List.replicate_succ] at hst
  simp only [intN_pos, magB_zero] at hst
  rw [hst]
  refine ⟨⟨by simp, rfl⟩, ?_⟩
  clear hst
  refine AWp.seq (AWp.of_awpD [] hΓ hmix (by kernel_rfl) ?_)
  simp -implicitDefEqProofs only [go_sem]
  refine ⟨by simp only [InR]; omega, ?_⟩
  refine AWp.loopI (fun n : Nat => ⟨mkF 60 [(1, .p (.str w)), (2, .ptr 0 0), (5, .own 1 (w.length + 1)), (6, .p (.int .i64 ((n : Int) - 1)))], [.box [.p (.int .i64 q), .p (.sl (ws.map .str))], .row 44 2 (cntR ws w n) .own]⟩)
    (fun n => n ≤ w.length) (fun n => n) w.length (by simp [go_sem]) (Nat.le_refl _) ?_
  intro n hnw
  refine AWp.of_awpD [(9, 9), (10, 19)] hΓ hmix (by kernel_rfl) ?_
  cases n with
  | zero =>
    have h1 : ¬ (0 : Int) ≤ ((0 : Nat) : Int) - 1 := by omega
    simp -implicitDefEqProofs only [h1, go_sem]
    refine AWp.freeze 1 rfl ?_
    refine AWp.of_awpD [] hΓ hmix (by kernel_rfl) ?_
    simp -implicitDefEqProofs only [Frozen, go_sem]
  | succ n =>
    have h1 : (0 : Int) ≤ ((n + 1 : Nat) : Int) - 1 := by omega
    have e2 : ((n + 1 : Nat) : Int) - 1 = n := by omega
    simp -implicitDefEqProofs only [h1, e2, List.length_map, go_sem]
    rw [cntR_H]
    refine AWp.loopI (fun k : Nat => ⟨mkF 60 [(1, .p (.str w)), (2, .ptr 0 0), (5, .own 1 (w.length + 1)), (6, .p (.int .i64 n)), (7, .p (.int .i64 k))], [.box [.p (.int .i64 q), .p (.sl (ws.map .str))], .row 44 2 (cntH ws w n k) .own]⟩)
      (fun k => k ≤ ws.length) (fun k => ws.length - k) 0 (by simp [go_sem]) (by omega) ?_
    intro k hk
    refine AWp.of_awpD [(9, 9), (10, 19)] hΓ hmix (by kernel_rfl) ?_
    by_cases hlt : k < ws.length
    · have hnn : n ≤ w.length := by omega
      have hlt' : (k : Int) < ws.length := by omega
      have hnn' : (n : Int) ≤ w.length := by omega
      have hgk : (ws.map PV.str).getD k default = .str ws[k] := getD_map_lt _ _ _ _ hlt
      simp -implicitDefEqProofs only [hlt, hlt', hgk, ↓reduceIte, List.length_map, go_sem]
      refine ⟨hnn, callVPK_fn (u52 (w.drop n) ws[k]) (.pures rfl) ?_⟩
      cases hp : ws[k].isPrefixOf (w.drop n)
      · simp -implicitDefEqProofs only [hlt, hlt', hgk, ↓reduceIte, go_sem]
        rw [← cntH_no hlt hp]
        exact ⟨by simp only [InR]; omega, k + 1, ⟨by omega, .inl rfl⟩, hlt, by omega⟩
      · have hpl := (List.isPrefixOf_iff_prefix.1 hp).length_le
        rw [List.length_drop] at hpl
        have hxp : 0 < ws[k].length := List.length_pos_iff.2 (hn _ (List.getElem_mem hlt))
        have hgn : (cntH ws w n k).getD n default = .agg [.bool false, .str (magB (cntL ws (ws.take k) (w.drop n)))] := by
          rw [List.getD_eq_getElem?_getD, cntH_get hnn, Option.getD_some]
          unfold cntV
          rw [if_neg (by omega), if_pos rfl, intN_pos]
        have hgm : (cntH ws w n k).getD (n + ws[k].length) default = .agg [.bool false, .str (magB (cnt ws (w.drop (n + ws[k].length))))] := by
          rw [List.getD_eq_getElem?_getD, cntH_get (by omega), Option.getD_some]
          unfold cntV
          rw [if_pos (by omega), intN_pos]
        have e3 : ((n : Int) + (ws[k].length : Int)).toNat = n + ws[k].length := by omega
        have hne : w.drop n ≠ [] := fun e => by have := congrArg List.length e; simp at this; omega
        have hsum : cntL ws (ws.take k) (w.drop n) < 256 ^ 7 := Nat.lt_of_le_of_lt (cntL_take k) (by rw [← cnt_step hn hne]; exact hb n)
        have e4 := u98 (cntL ws (ws.take k) (w.drop n)) (cnt ws (w.drop (n + ws[k].length))) hsum (hb _)
        have hy := cntH_yes hlt hp hnn
        simp -implicitDefEqProofs only [hlt, hlt', hgk, ↓reduceIte, cntH_len, e3, hgn, hgm, go_sem]
        refine ⟨by omega, by omega, by simp only [InR]; omega, ⟨by omega, by omega⟩, by omega, ?_⟩
        refine callVPK_fn e4 (.pures rfl) ?_
        simp -implicitDefEqProofs only [hlt, ↓reduceIte, cntH_len, e3, hy, go_sem]
        exact ⟨by omega, ⟨by omega, rfl, rfl⟩, by simp only [InR]; omega, k + 1, ⟨by omega, .inl rfl⟩, hlt, by omega⟩
    · have hkn : k = ws.length := by omega
      rw [hkn, cntH_R hn (by omega)]
      have hz : ¬ (ws.length : Int) < ws.length := by omega
      simp -implicitDefEqProofs only [hz, List.length_map, go_sem]
      exact ⟨by simp only [InR]; omega, n, ⟨rfl, .inl rfl⟩, by omega, by omega⟩

theorem u41 (q : Int) (ws : List (List UInt8)) (w : List UInt8) (hn : codeCheck q ws = 0 → ∀ x ∈ ws, x ≠ []) (hws : codeCheck q ws = 0 → ws.length ≤ 256) (hw : codeCheck q ws = 0 → wordCheck q w = 0 → w.length ≤ 40) (hb : codeCheck q ws = 0 → wordCheck q w = 0 → ∀ n, cnt ws (w.drop n) < 256 ^ 7) :
    PFn Try.prog 41 [codeV q ws, .str w] (if codeCheck q ws = 0 then (if wordCheck q w = 0 then [intN false (cnt ws w), .int .i64 0] else [intN false 0, .int .i64 (wordCheck q w)]) else [intN false 0, .int .i64 1]) := by
  refine PFn.of_body hΓ Try.func41 (by kernel_rfl) rfl (AWp.of_awpD [] hΓ hmix (by kernel_rfl) ?_)
  simp +contextual -implicitDefEqProofs only [codeV, Try.ntmps41, Try.results41, Nat.reduceAdd, Nat.reduceSub, go_sem]
  refine callK_fn (u73 q ws w) (.still rfl) ?_
  by_cases h : codeCheck q ws = 0
  · by_cases h2 : wordCheck q w = 0
    · rw [h2]
      have e := u75 q ws w (hn h) (hws h) (hw h h2) (hb h h2)
      simp -implicitDefEqProofs only [h, go_sem]
      refine callK_fn e (.still rfl) ?_
      have hg : (cntR ws w 0).getD (Int.toNat 0) default = .agg [.bool false, .str (magB (cnt ws w))] := by
        rw [show Int.toNat 0 = 0 from rfl, List.getD_eq_getElem?_getD, cntR_get (by omega), Option.getD_some, if_pos (Nat.le_refl _), List.drop_zero, intN_pos]
      simp -implicitDefEqProofs only [cntR_len, hg, intN_pos, go_sem]
      rw [if_pos h]
      exact ⟨by omega, rfl⟩
    · simp -implicitDefEqProofs only [h, h2, go_sem]
      rfl
  · have h10 : ¬ (1 : Int) = 0 := by decide
    simp -implicitDefEqProofs only [h, h10, go_sem]
    rfl
end Go.Proofs.Ytgkbafkmbokkaaa
end

section
namespace Go.Proofs.Ytgkbafkmbokkaaa
open Go Go.AM
set_option maxRecDepth 100000
set_option linter.unusedSimpArgs false

theorem pow_sum : ∀ (n : Nat) (l : List Nat), l.Nodup → (∀ x ∈ l, x < n) → (l.map (2 ^ ·)).sum < 2 ^ n
  | 0, l, _, h => by
    have : l = [] := by
      cases l with
      | nil => rfl
      | cons a l => exact absurd (h a (by simp)) (by omega)
    subst this; simp
  | n + 1, l, hd, h => by
    by_cases hm : n ∈ l
    · have hp := List.perm_cons_erase hm
      have hs : (l.map (2 ^ ·)).sum = 2 ^ n + ((l.erase n).map (2 ^ ·)).sum := by
        have := (hp.map (2 ^ ·)).sum_nat
        rw [this, List.map_cons, List.sum_cons]
      have hr := pow_sum n (l.erase n) (hd.erase n) fun x hx => by
        have h1 := h x (List.mem_of_mem_erase hx)
        have h2 : x ≠ n := fun e => by subst e; exact (List.Nodup.not_mem_erase hd) hx
        omega
      rw [hs, Nat.pow_succ]; omega
    · have hr := pow_sum n l hd fun x hx => by
        have h1 := h x hx
        have h2 : x ≠ n := fun e => by subst e; exact hm hx
        omega
      rw [Nat.pow_succ]; omega
theorem cntL_filter (ws vs : List (List UInt8)) (w : List UInt8) : cntL ws vs w = ((vs.filter (·.isPrefixOf w)).map fun x => cnt ws (w.drop x.length)).sum := by
  induction vs with
  | nil => rfl
  | cons x vs ih =>
    unfold cntL at ih ⊢
    rw [List.map_cons, List.sum_cons, ih, List.filter_cons]
    by_cases h : x.isPrefixOf w = true
    · rw [if_pos h, if_pos h, List.map_cons, List.sum_cons]
    · rw [if_neg h, if_neg h, Nat.zero_add]
theorem sum_le_map {α : Type} (f g : α → Nat) : ∀ (l : List α), (∀ x ∈ l, f x ≤ g x) → (l.map f).sum ≤ (l.map g).sum
  | [], _ => by simp
  | x :: l, h => by
    have h1 := h x (by simp)
    have h2 := sum_le_map f g l fun y hy => h y (by simp [hy])
    simp only [List.map_cons, List.sum_cons]; omega
theorem cnt_two {ws : List (List UInt8)} (hn : ∀ x ∈ ws, x ≠ []) (hd : ws.Nodup) : ∀ (n : Nat) (w : List UInt8), w.length ≤ n → cnt ws w ≤ 2 ^ w.length := by
  intro n
  induction n with
  | zero =>
    intro w hw
    have : w = [] := List.length_eq_zero_iff.1 (by omega)
    subst this; exact Nat.le_refl _
  | succ n ih =>
    intro w hw
    by_cases hw0 : w = []
    · subst hw0; exact Nat.le_refl _
    have hlen := List.length_pos_iff.2 hw0
    rw [cnt_step hn hw0, cntL_filter]
    have hpre : ∀ x ∈ ws.filter (·.isPrefixOf w), x <+: w ∧ 0 < x.length := fun x hx => by
      obtain ⟨h1, h2⟩ := List.mem_filter.1 hx
      exact ⟨List.isPrefixOf_iff_prefix.1 h2, List.length_pos_iff.2 (hn x h1)⟩
    refine Nat.le_trans (sum_le_map _ (fun x => 2 ^ (w.length - x.length)) _ fun x hx => ?_) (Nat.le_of_lt ?_)
    · obtain ⟨h1, h2⟩ := hpre x hx
      have := ih (w.drop x.length) (by rw [List.length_drop]; omega)
      rwa [List.length_drop] at this
    · have := pow_sum w.length ((ws.filter (·.isPrefixOf w)).map fun x => w.length - x.length) (by
        refine List.pairwise_map.2 ((hd.filter _).imp_of_mem fun {x y} hx hy hne e => hne ?_)
        obtain ⟨h1, h2⟩ := hpre x hx
        obtain ⟨h3, h4⟩ := hpre y hy
        have hl1 := h1.length_le
        have hl2 := h3.length_le
        rw [List.prefix_iff_eq_take.1 h1, List.prefix_iff_eq_take.1 h3, show x.length = y.length by omega]) (fun m hm => by
        obtain ⟨x, hx, rfl⟩ := List.mem_map.1 hm
        have := (hpre x hx).2
        omega)
      rw [List.map_map] at this
      exact this
theorem cnt_seven {ws : List (List UInt8)} (hn : ∀ x ∈ ws, x ≠ []) (hd : ws.Nodup) {w : List UInt8} (hw : w.length ≤ 40) (n : Nat) : cnt ws (w.drop n) < 256 ^ 7 := by
  have h1 := cnt_two hn hd _ (w.drop n) (Nat.le_refl _)
  have h2 : (w.drop n).length ≤ 40 := by rw [List.length_drop]; omega
  exact Nat.lt_of_le_of_lt (Nat.le_trans h1 (Nat.pow_le_pow_right (by decide) h2)) (by decide)

/-! ### The comparison -/
theorem beN_cons (a : UInt8) (l : List UInt8) : beN (a :: l) = a.toNat * 256 ^ l.length + beN l := by
  have : ∀ (l : List UInt8) (n : Nat), l.foldl (fun a b => a * 256 + b.toNat) n = n * 256 ^ l.length + beN l := fun l => by
    induction l with
    | nil => intro n; simp [beN]
    | cons b l ih =>
      intro n
      unfold beN
      rw [List.foldl_cons, List.foldl_cons, ih, ih, List.length_cons, Nat.pow_succ, Nat.zero_mul, Nat.zero_add, Nat.add_mul, Nat.mul_assoc, Nat.mul_comm 256, Nat.add_assoc]
  unfold beN
  rw [List.foldl_cons, this, Nat.zero_mul, Nat.zero_add]; rfl
theorem bLt_beN : ∀ (a b : List UInt8), a.length = b.length → (bLt a b = true ↔ beN a < beN b)
  | [], [], _ => by simp [bLt, beN]
  | x :: a, y :: b, h => by
    have hl : a.length = b.length := by simpa using h
    have ih := bLt_beN a b hl
    have h1 := beN_lt _ a rfl
    have h2 := beN_lt _ b rfl
    rw [bLt_cons, ih, beN_cons, beN_cons, hl]
    rw [hl] at h1
    have hpos : 0 < 256 ^ b.length := Nat.pow_pos (by decide)
    generalize 256 ^ b.length = p at *
    constructor
    · rintro (g | ⟨g, g2⟩)
      · have : (x.toNat + 1) * p ≤ y.toNat * p := Nat.mul_le_mul_right _ g
        rw [Nat.add_mul] at this; omega
      · rw [g]; omega
    · intro g
      rcases Nat.lt_trichotomy x.toNat y.toNat with k | k | k
      · exact .inl k
      · rw [k] at g; exact .inr ⟨k, by omega⟩
      · have : (y.toNat + 1) * p ≤ x.toNat * p := Nat.mul_le_mul_right _ k
        rw [Nat.add_mul] at this; omega
end Go.Proofs.Ytgkbafkmbokkaaa
end

section
namespace Go.Proofs.Ytgkbafkmbokkaaa
open Go Go.AM Go.RowKit
set_option maxRecDepth 100000
set_option linter.unusedSimpArgs false

theorem mag_low {n : Nat} {k : Nat} (h : (magB n).length = k + 1) : 256 ^ k ≤ n := by
  have hn : n ≠ 0 := fun e => by subst e; rw [magB_zero] at h; cases h
  obtain ⟨b, l, h1, h2⟩ := magB_head n hn
  have h3 := beN_magB n
  rw [h1, beN_cons] at h3
  rw [h1] at h
  have h4 : l.length = k := by simpa using h
  rw [h4] at h3
  have hb : 1 ≤ b.toNat := Nat.pos_of_ne_zero fun e => h2 (UInt8.toNat_inj.1 e)
  have : 1 * 256 ^ k ≤ b.toNat * 256 ^ k := Nat.mul_le_mul_right _ hb
  omega
theorem mag_high (n : Nat) : n < 256 ^ (magB n).length := by
  have := beN_lt _ (magB n) rfl
  rwa [beN_magB] at this
theorem mag_shorter {a b : Nat} (h : (magB a).length < (magB b).length) : a < b := by
  obtain ⟨k, hk⟩ : ∃ k, (magB b).length = k + 1 := ⟨(magB b).length - 1, by omega⟩
  have h1 := mag_low hk
  have h2 := mag_high a
  have h3 : 256 ^ (magB a).length ≤ 256 ^ k := Nat.pow_le_pow_right (by decide) (by omega)
  omega
theorem mag_inj {a b : Nat} (h : magB a = magB b) : a = b := by rw [← beN_magB a, h, beN_magB]

theorem u97 (a b : Nat) : PFn Try.prog 97 [.str (magB a), .str (magB b)] [.int .i64 (cmpN a b)] := by
  rcases Nat.lt_trichotomy (magB a).length (magB b).length with h | h | h
  · rw [cmpN_lt (mag_shorter h)]
    have h1 : ¬ ((magB a).length : Int) = (magB b).length := by omega
    have h2 : ((magB a).length : Int) < (magB b).length := by omega
    refine PFn.of_body hΓ Try.func97 (by kernel_rfl) rfl (AWp.of_awpD [] hΓ hmix (by kernel_rfl) ?_)
    simp -implicitDefEqProofs only [Try.ntmps97, Try.results97, Nat.reduceAdd, Nat.reduceSub, h1, h2, go_sem]
  · have h1 : ((magB a).length : Int) = (magB b).length := by omega
    have hlt := bLt_beN _ _ h
    rw [beN_magB, beN_magB] at hlt
    have hbl : Op.bytesLess (magB a) (magB b) = bLt (magB a) (magB b) := (bLt_eq _ _).symm
    rcases Nat.lt_trichotomy a b with g | g | g
    · have hb : Op.bytesLess (magB a) (magB b) = true := by rw [hbl]; exact hlt.2 g
      rw [cmpN_lt g]
      refine PFn.of_body hΓ Try.func97 (by kernel_rfl) rfl (AWp.of_awpD [] hΓ hmix (by kernel_rfl) ?_)
      simp -implicitDefEqProofs only [Try.ntmps97, Try.results97, Nat.reduceAdd, Nat.reduceSub, h1, hb, go_sem]
    · subst g
      have hb : Op.bytesLess (magB a) (magB a) = false := by rw [hbl]; exact bLt_irrefl _
      rw [cmpN_eq]
      generalize magB a = x at *
      refine PFn.of_body hΓ Try.func97 (by kernel_rfl) rfl (AWp.of_awpD [] hΓ hmix (by kernel_rfl) ?_)
      simp -implicitDefEqProofs only [Try.ntmps97, Try.results97, Nat.reduceAdd, Nat.reduceSub, hb, Bool.false_or, Bool.or_true, Bool.or_false, go_sem]
    · have hb : Op.bytesLess (magB a) (magB b) = false := by
        rw [hbl, Bool.eq_false_iff]; exact fun e => by have := hlt.1 e; omega
      have hne : ¬ magB a = magB b := fun e => by have := mag_inj e; omega
      rw [cmpN_gt g]
      refine PFn.of_body hΓ Try.func97 (by kernel_rfl) rfl (AWp.of_awpD [] hΓ hmix (by kernel_rfl) ?_)
      simp -implicitDefEqProofs only [Try.ntmps97, Try.results97, Nat.reduceAdd, Nat.reduceSub, h1, hb, hne, Bool.false_or, Bool.or_true, Bool.or_false, decide_false, go_sem]
  · rw [cmpN_gt (mag_shorter h)]
    have h1 : ¬ ((magB a).length : Int) = (magB b).length := by omega
    have h2 : ¬ ((magB a).length : Int) < (magB b).length := by omega
    refine PFn.of_body hΓ Try.func97 (by kernel_rfl) rfl (AWp.of_awpD [] hΓ hmix (by kernel_rfl) ?_)
    simp -implicitDefEqProofs only [Try.ntmps97, Try.results97, Nat.reduceAdd, Nat.reduceSub, h1, h2, go_sem]

theorem u74 (a b : Nat) (ha : a < 256 ^ 7) (hb : b < 256 ^ 7) : PFn Try.prog 74 [intN false a, intN false b] [.int .i64 (cmpN a b)] := by
  have ea := u96 a ha
  have eb := u96 b hb
  have ec := u97 a b
  simp only [intF] at ea eb ⊢
  generalize magB a = x at *
  generalize magB b = y at *
  generalize cmpN a b = z at *
  refine PFn.of_body hΓ Try.func74 (by kernel_rfl) rfl (AWp.seq (AWp.of_awpD [] hΓ hmix (by kernel_rfl) ?_))
  simp -implicitDefEqProofs only [Try.ntmps74, Try.results74, Nat.reduceAdd, Nat.reduceSub, go_sem]
  refine AWp.of_awpD [(1, 4)] hΓ hmix (by kernel_rfl) ?_
  simp -implicitDefEqProofs only [go_sem]
  refine callVPK_fn ea (.still rfl) ?_
  simp -implicitDefEqProofs only [go_sem]
  refine callVPK_fn eb (.still rfl) ?_
  have hz : (false != false) = false := rfl
  simp -implicitDefEqProofs only [hz, go_sem]
  refine callK_fn ec (.pures rfl) ?_
  simp -implicitDefEqProofs only [go_sem]

theorem u40 (q : Int) (ws : List (List UInt8)) (w : List UInt8) (hw : codeCheck q ws = 0 → wordCheck q w = 0 → w.length ≤ 40) :
    PFn Try.prog 40 [codeV q ws, .str w] [.sl ((facR q ws w).map slV), .int .i64 (facE q ws w)] := by
  have e1 := u73 q ws w
  by_cases h : codeCheck q ws = 0
  rotate_left
  · rw [if_neg h] at e1
    unfold facR facE
    rw [if_neg (fun e => h e.1), if_neg h]
    refine PFn.of_body hΓ Try.func40 (by kernel_rfl) rfl (AWp.of_awpD [(4, 8)] hΓ hmix (by kernel_rfl) ?_)
    simp +contextual -implicitDefEqProofs only [codeV, Try.ntmps40, Try.results40, Nat.reduceAdd, Nat.reduceSub, go_sem]
    refine callK_fn e1 (.still rfl) ?_
    have h10 : ¬ (1 : Int) = 0 := by decide
    simp -implicitDefEqProofs only [h10, go_sem]
  by_cases h2 : wordCheck q w = 0
  rotate_left
  · rw [if_pos h] at e1
    unfold facR facE
    rw [if_neg (fun e => h2 e.2.1), if_pos h, if_neg h2]
    refine PFn.of_body hΓ Try.func40 (by kernel_rfl) rfl (AWp.of_awpD [(4, 8)] hΓ hmix (by kernel_rfl) ?_)
    simp +contextual -implicitDefEqProofs only [codeV, Try.ntmps40, Try.results40, Nat.reduceAdd, Nat.reduceSub, go_sem]
    refine callK_fn e1 (.still rfl) ?_
    simp -implicitDefEqProofs only [h2, go_sem]
  have hv := valid_of h
  have hn : ∀ x ∈ ws, x ≠ [] := fun x hx => (hv.words x hx).1
  have hd : ws.Nodup := hv.strict.imp fun h e => by subst e; exact ltW_irrefl _ h
  have hws : ws.length ≤ 256 := by have := hv.len; omega
  have hwl := hw h h2
  have hb := cnt_seven hn hd hwl
  have hb0 := hb 0
  rw [List.drop_zero] at hb0
  have e2 := u75 q ws w hn hws hwl hb
  have e3 := u76 4096 (by omega)
  have e4 := u74 (cnt ws w) 4096 hb0 (by decide)
  have hg : (cntR ws w 0).getD (Int.toNat 0) default = .agg [.bool false, .str (magB (cnt ws w))] := by
    rw [show Int.toNat 0 = 0 from rfl, List.getD_eq_getElem?_getD, cntR_get (by omega), Option.getD_some, if_pos (Nat.le_refl _), List.drop_zero, intN_pos]
  simp only [intN_pos] at e3 e4
  rw [if_pos h, h2] at e1
  by_cases h3 : 4096 < cnt ws w
  · rw [cmpN_gt h3] at e4
    unfold facR facE
    rw [if_neg (fun e => by omega), if_pos h, if_pos h2, if_pos h3]
    refine PFn.of_body hΓ Try.func40 (by kernel_rfl) rfl (AWp.of_awpD [(4, 8)] hΓ hmix (by kernel_rfl) ?_)
    simp +contextual -implicitDefEqProofs only [codeV, Try.ntmps40, Try.results40, Nat.reduceAdd, Nat.reduceSub, go_sem]
    refine callK_fn e1 (.still rfl) ?_
    simp -implicitDefEqProofs only [go_sem]
    refine callVPK_fn e2 (.still rfl) ?_
    simp -implicitDefEqProofs only [cntR_len, hg, go_sem]
    refine ⟨by omega, callVPK_fn e3 (.pures rfl) ?_⟩
    simp -implicitDefEqProofs only [go_sem]
    refine callVPK_fn e4 (.still rfl) ?_
    have h01 : (0 : Int) < 1 := by decide
    simp -implicitDefEqProofs only [h01, go_sem]
  have hcm : ¬ 0 < cmpN (cnt ws w) 4096 := by
    unfold cmpN
    split
    · decide
    · rw [if_pos (by omega)]; decide
  have e5 := u77 (q := q) hn hws w.length w (Nat.le_refl _) (by omega) (by rw [rdI_len hn w.length w (Nat.le_refl _)]; omega)
  generalize cmpN (cnt ws w) 4096 = cm at e4 hcm
  unfold facR facE
  rw [if_pos ⟨h, h2, by omega⟩, if_pos h, if_pos h2, if_neg h3]
  refine PFn.of_body hΓ Try.func40 (by kernel_rfl) rfl (AWp.of_awpD [(4, 8)] hΓ hmix (by kernel_rfl) ?_)
  simp +contextual -implicitDefEqProofs only [codeV, Try.ntmps40, Try.results40, Nat.reduceAdd, Nat.reduceSub, go_sem]
  refine callK_fn e1 (.still rfl) ?_
  simp -implicitDefEqProofs only [go_sem]
  refine callVPK_fn e2 (.still rfl) ?_
  simp -implicitDefEqProofs only [cntR_len, hg, go_sem]
  refine ⟨by omega, callVPK_fn e3 (.pures rfl) ?_⟩
  simp -implicitDefEqProofs only [go_sem]
  refine callVPK_fn e4 (.still rfl) ?_
  simp -implicitDefEqProofs only [hcm, go_sem]
  refine callK_fn e5 (.still rfl) ?_
  simp -implicitDefEqProofs only [go_sem]
end Go.Proofs.Ytgkbafkmbokkaaa
end

section
namespace Go.Proofs.Ytgkbafkmbokkaaa
open Go Go.AM Go.RowKit
set_option maxRecDepth 100000
set_option linter.unusedSimpArgs false

theorem u38 (q : Int) (ws : List (List UInt8)) (ks : List Int) (hk : ks.length ≤ 1000000) : PFn Try.prog 38 [codeV q ws, .sl (ks.map (.int .i64))] [.str (encS q ws ks), .int .i64 (encE q ws ks)] := by
  refine PFn.of_body hΓ Try.func38 (by kernel_rfl) rfl (AWp.seq (AWp.of_awpD [] hΓ hmix (by kernel_rfl) ?_))
  simp -implicitDefEqProofs only [Try.ntmps38, Try.results38, Nat.reduceAdd, Nat.reduceSub, codeV, go_sem]
  refine AWp.seq (AWp.of_awpD [] hΓ hmix (by kernel_rfl) ?_)
  simp -implicitDefEqProofs only [go_sem]
  refine callK_fn (t44 q ws) (.still rfl) ?_
  by_cases h : codeCheck q ws = 0
  rotate_left
  · have e1 : encE q ws ks = 1 := by unfold encE; rw [if_neg h]
    have e2 : encS q ws ks = [] := by unfold encS; rw [e1, if_neg (by decide)]
    rw [e1, e2]
    simp -implicitDefEqProofs only [h, go_sem]
  have hv := valid_of h
  have hlen := hv.len
  rw [h]
  simp -implicitDefEqProofs only [go_sem]
  refine AWp.seq (AWp.of_awpD [] hΓ hmix (by kernel_rfl) ?_)
  simp -implicitDefEqProofs only [go_sem]
  refine AWp.seq (AWp.of_awpD [] hΓ hmix (by kernel_rfl) ?_)
  simp -implicitDefEqProofs only [go_sem]
  refine AWp.loopI (fun i : Nat => ⟨mkF 64 [(1, .p (.sl (ks.map (.int .i64)))), (2, .ptr 0 0), (6, .p (.int .i64 (encL ws (ks.take i)).length)), (7, .p (.int .i64 i))], [codeB q ws]⟩)
    (fun i => i ≤ ks.length ∧ encIn ws (ks.take i) = true ∧ (encL ws (ks.take i)).length ≤ 32 * i) (fun i => ks.length - i) 0 (by simp [go_sem, codeB, encL]) (by simp [encIn, encL]) ?_
  rintro i ⟨hi, hin, hbd⟩
  simp -implicitDefEqProofs only [codeB, go_sem]
  refine AWp.of_awpD [(7, 15), (9, 11)] hΓ hmix (by kernel_rfl) ?_
  by_cases hlt : i < ks.length
  · have hgk : (ks.map (PV.int .i64)).getD i default = .int .i64 ks[i] := by
      rw [getD_map_lt _ _ _ _ hlt]
    by_cases hbad : ks[i] < 0 ∨ (ws.length : Int) ≤ ks[i]
    · have e1 : encE q ws ks = 2 := by unfold encE; rw [if_pos h, encIn_bad hlt hbad]; rfl
      have e2 : encS q ws ks = [] := by unfold encS; rw [e1, if_neg (by decide)]
      rw [e1, e2]
      by_cases hneg : ks[i] < 0
      · simp -implicitDefEqProofs only [List.length_map, hlt, hgk, hneg, codeB, go_sem]
      · have hge : (ws.length : Int) ≤ ks[i] := hbad.resolve_left hneg
        simp -implicitDefEqProofs only [List.length_map, hlt, hgk, hneg, hge, codeB, go_sem]
    · have hneg : ¬ ks[i] < 0 := fun h => hbad (.inl h)
      have hge : ¬ (ws.length : Int) ≤ ks[i] := fun h => hbad (.inr h)
      have hkn : ks[i].toNat < ws.length := by omega
      have hgw : (ws.map PV.str).getD ks[i].toNat default = .str (ws.getD ks[i].toNat []) := by
        rw [getD_map_lt _ _ _ _ hkn, List.getD_eq_getElem?_getD, List.getElem?_eq_getElem hkn]; rfl
      have hsh := hv.short _ hkn
      have hst := encL_take (ws := ws) hlt
      have hl2 : (encL ws (ks.take (i + 1))).length = (encL ws (ks.take i)).length + (ws.getD ks[i].toNat []).length := by rw [hst, List.length_append]
      have hin2 : encIn ws (ks.take (i + 1)) = true := by
        rw [encIn_take hlt, hin, decide_eq_true (show 0 ≤ ks[i] by omega), decide_eq_true (show ks[i] < ws.length by omega)]; rfl
      simp -implicitDefEqProofs only [List.length_map, hlt, hgk, hneg, hge, hgw, codeB, go_sem]
      exact ⟨⟨by omega, by omega⟩, by simp only [InR]; omega, by simp only [InR]; omega, i + 1, ⟨by omega, by omega⟩, ⟨hlt, hin2, by omega⟩, by omega⟩
  · have hin' : i = ks.length := by omega
    rw [hin', List.take_length] at hin hbd ⊢
    have hz : ¬ (ks.length : Int) < ks.length := by omega
    simp -implicitDefEqProofs only [List.length_map, hz, go_sem]
    refine AWp.seq (AWp.of_awpD [] hΓ hmix (by kernel_rfl) ?_)
    by_cases hbig : 65536 < (encL ws ks).length
    · have hbig' : (65536 : Int) < (encL ws ks).length := by omega
      have e1 : encE q ws ks = 4 := by unfold encE; rw [if_pos h, if_pos hin, if_pos hbig]
      have e2 : encS q ws ks = [] := by unfold encS; rw [e1, if_neg (by decide)]
      rw [e1, e2]
      simp -implicitDefEqProofs only [hbig', go_sem]
    · have hbig' : ¬ (65536 : Int) < (encL ws ks).length := by omega
      have e1 : encE q ws ks = 0 := by unfold encE; rw [if_pos h, if_pos hin, if_neg hbig]
      have e2 : encS q ws ks = encL ws ks := by unfold encS; rw [e1, if_pos rfl]
      rw [e1, e2]
      simp -implicitDefEqProofs only [hbig', go_sem]
      refine AWp.seq (AWp.of_awpD [] hΓ hmix (by kernel_rfl) ?_)
      simp -implicitDefEqProofs only [go_sem]
      refine AWp.seq (AWp.of_awpD [] hΓ hmix (by kernel_rfl) ?_)
      simp -implicitDefEqProofs only [go_sem]
      refine AWp.loopI (fun i : Nat => ⟨mkF 64 [(1, .p (.sl (ks.map (.int .i64)))), (2, .ptr 0 0), (8, .p (.str (encL ws (ks.take i)))), (9, .p (.int .i64 i))], [codeB q ws]⟩)
        (fun i => i ≤ ks.length) (fun i => ks.length - i) 0 (by simp [go_sem, codeB, encL]) (by simp) ?_
      intro k hkn
      simp -implicitDefEqProofs only [codeB, go_sem]
      refine AWp.of_awpD [(16, 10)] hΓ hmix (by kernel_rfl) ?_
      by_cases hlt : k < ks.length
      · have hkk := List.all_eq_true.1 hin ks[k] (List.getElem_mem hlt)
        simp only [Bool.and_eq_true, decide_eq_true_eq] at hkk
        have hkn2 : ks[k].toNat < ws.length := by omega
        have hgk : (ks.map (PV.int .i64)).getD k default = .int .i64 ks[k] := by rw [getD_map_lt _ _ _ _ hlt]
        have hgw : (ws.map PV.str).getD ks[k].toNat default = .str (ws.getD ks[k].toNat []) := by
          rw [getD_map_lt _ _ _ _ hkn2, List.getD_eq_getElem?_getD, List.getElem?_eq_getElem hkn2]; rfl
        have hst := encL_take (ws := ws) hlt
        have hl3 := encL_le ws ks (k + 1)
        rw [hst, List.length_append] at hl3
        simp -implicitDefEqProofs only [List.length_map, hlt, hgk, hgw, codeB, ← hst, go_sem]
        exact ⟨⟨by omega, by omega⟩, by omega, by simp only [InR]; omega, k + 1, by simp, hlt, by omega⟩
      · have hkk : k = ks.length := by omega
        have hz : ¬ (ks.length : Int) < ks.length := by omega
        rw [hkk, List.take_length]
        simp -implicitDefEqProofs only [List.length_map, hz, go_sem]
        refine AWp.of_awpD [] hΓ hmix (by kernel_rfl) ?_
        simp -implicitDefEqProofs only [go_sem]

end Go.Proofs.Ytgkbafkmbokkaaa
end

section
namespace Go.Proofs.Ytgkbafkmbokkaaa
open Go Go.AM
set_option maxRecDepth 100000
set_option linter.unusedSimpArgs false

theorem counts_same (q : Int) (ws : List (List UInt8)) (w : List UInt8) (hw : codeCheck q ws = 0 → wordCheck q w = 0 → w.length ≤ 40) :
    ∃ (n : Nat) (e : Int), PFn Try.prog 32 [codeV q ws, .str w] [intN false n, .int .i64 e] ∧ PFn Try.prog 41 [codeV q ws, .str w] [intN false n, .int .i64 e] := by
  have hn : codeCheck q ws = 0 → ∀ x ∈ ws, x ≠ [] := fun h x hx => ((valid_of h).words x hx).1
  have hws : codeCheck q ws = 0 → ws.length ≤ 256 := fun h => by have := (valid_of h).len; omega
  have hb : codeCheck q ws = 0 → wordCheck q w = 0 → ∀ n, cnt ws (w.drop n) < 256 ^ 7 := fun h h2 =>
    cnt_seven (hn h) ((valid_of h).strict.imp fun h e => by subst e; exact ltW_irrefl _ h) (hw h h2)
  have e1 := u32 q ws w hn hws hw
  have e2 := u41 q ws w hn hws hw hb
  by_cases h : codeCheck q ws = 0
  · by_cases h2 : wordCheck q w = 0
    · rw [if_pos h, if_pos h2] at e1 e2; exact ⟨_, _, e1, e2⟩
    · rw [if_pos h, if_neg h2] at e1 e2; exact ⟨_, _, e1, e2⟩
  · rw [if_neg h] at e1 e2; exact ⟨_, _, e1, e2⟩
theorem encN_ge {ws : List (List UInt8)} (hn : ∀ x ∈ ws, x ≠ []) : ∀ x : List Nat, (∀ k ∈ x, k < ws.length) → x.length ≤ (encN ws x).length
  | [], _ => by simp
  | k :: x, h => by
    have ih := encN_ge hn x fun j hj => h j (by simp [hj])
    have hk := h k (by simp)
    have h1 : 0 < (ws.getD k []).length := by
      rw [List.getD_eq_getElem?_getD, List.getElem?_eq_getElem hk]
      exact List.length_pos_iff.2 (hn _ (List.getElem_mem hk))
    have h2 : encN ws (k :: x) = ws.getD k [] ++ encN ws x := rfl
    rw [h2, List.length_append, List.length_cons]; omega
theorem facR_small (q : Int) (ws : List (List UInt8)) (w : List UInt8) (hw : codeCheck q ws = 0 → wordCheck q w = 0 → w.length ≤ 40) : (facR q ws w).length ≤ 1000000 ∧ ∀ x ∈ facR q ws w, x.length ≤ 1000000 := by
  unfold facR
  split
  · rename_i h
    have hn : ∀ x ∈ ws, x ≠ [] := fun x hx => ((valid_of h.1).words x hx).1
    have hwl := hw h.1 h.2.1
    refine ⟨by rw [rdI_len hn w.length w (Nat.le_refl _)]; omega, fun x hx => ?_⟩
    obtain ⟨h1, h2⟩ := (mem_rdI hn x w).1 hx
    have := encN_ge hn x h1
    rw [h2] at this; omega
  · simp

theorem aggK_same (x : List UInt8) (K : AV → Prop) (hK : K (.p (.bool true))) : aggK Γ .eql 44 (.agg [.p (.bool false), .p (.str x)]) (.agg [.p (.bool false), .p (.str x)]) K := by
  have he : ∃ te fs, Γ 44 = some te ∧ te.td = .struct fs ∧ te.eqs = true ∧ eqAgg Γ fs [.bool false, .str x] [.bool false, .str x] = some (decide ((false : Bool) = false) && (decide (x = x) && true)) := ⟨_, _, rfl, rfl, rfl, rfl⟩
  obtain ⟨te, fs, h1, h2, h3, h4⟩ := he
  simp only [decide_true, Bool.and_self] at h4
  have hp : (AV.agg [.p (.bool false), .p (.str x)]).pure = some (.agg [.bool false, .str x]) := rfl
  unfold aggK
  rw [hp]
  simp only [tyAt, h1, h2, h3, h4]
  exact ⟨⟨trivial, rfl, rfl⟩, hK⟩
theorem u8 (q : Int) (ws : List (List UInt8)) (ks : List Int) (w : List UInt8) (hws : ws.length ≤ 9223372036854775807) (hks : ks.length ≤ 9223372036854775807) (hwm : w.length ≤ 9223372036854775807) :
    PFn Try.prog 8 [codeV q ws, .sl (ks.map (.int .i64)), .str w] [.bool true] := by
  have e11 := t11 q ws hws
  refine PFn.of_body hΓ Try.func8 (by kernel_rfl) rfl (AWp.seq (AWp.of_awpD [] hΓ hmix (by kernel_rfl) ?_))
  simp -implicitDefEqProofs only [Try.ntmps8, Try.results8, Nat.reduceAdd, Nat.reduceSub, codeV, go_sem]
  refine AWp.seq (AWp.seq (AWp.of_awpD [] hΓ hmix (by kernel_rfl) ?_))
  simp -implicitDefEqProofs only [go_sem]
  refine callK_fn e11 (.still rfl) ?_
  cases hg : (greatC ws || ws.any greatW)
  rotate_left
  · simp -implicitDefEqProofs only [go_sem]
    refine AWp.of_awpD [] hΓ hmix (by kernel_rfl) ?_
    simp -implicitDefEqProofs only [go_sem]
    refine callK_fn awake_ok (.pures rfl) ?_
    simp -implicitDefEqProofs only [go_sem]
  by_cases h1 : 20 < ks.length
  · have h1' : (20 : Int) < ks.length := by omega
    simp -implicitDefEqProofs only [h1', List.length_map, go_sem]
    refine AWp.of_awpD [] hΓ hmix (by kernel_rfl) ?_
    simp -implicitDefEqProofs only [go_sem]
    refine callK_fn awake_ok (.pures rfl) ?_
    simp -implicitDefEqProofs only [go_sem]
  have h1' : ¬ (20 : Int) < ks.length := by omega
  by_cases h2 : 20 < w.length ∧ w.length ≤ 65536
  · have h2' : (20 : Int) < w.length := by omega
    have h3' : (w.length : Int) ≤ 65536 := by omega
    simp -implicitDefEqProofs only [h1', h2', h3', List.length_map, go_sem]
    refine AWp.of_awpD [] hΓ hmix (by kernel_rfl) ?_
    simp -implicitDefEqProofs only [go_sem]
    refine callK_fn awake_ok (.pures rfl) ?_
    simp -implicitDefEqProofs only [go_sem]
  have hw40 : codeCheck q ws = 0 → wordCheck q w = 0 → w.length ≤ 40 := fun _ h => by
    unfold wordCheck at h
    split at h
    · cases h
    · split at h
      · cases h
      · omega
  obtain ⟨n, e, c1, c2⟩ := counts_same q ws w hw40
  have e37 := u37 q ws ks (by omega)
  have e38 := u38 q ws ks (by omega)
  have e39 := u39 q ws w hw40
  have e40 := u40 q ws w hw40
  obtain ⟨f1, f2⟩ := facR_small q ws w hw40
  have e42 := u42 (facR q ws w) f1 f2
  simp only [intN_pos] at c1 c2
  unfold codeV at e37 e38 e39 e40 c1 c2
  clear e11
  generalize encS q ws ks = x1 at *
  generalize encE q ws ks = x2 at *
  generalize facR q ws w = x3 at *
  generalize facE q ws w = x4 at *
  generalize magB n = x5 at *
  have fin : ∀ (b : Bool), True := fun _ => trivial
  by_cases h3 : 20 < w.length
  · have h3' : (20 : Int) < w.length := by omega
    have h4' : ¬ (w.length : Int) ≤ 65536 := by omega
    simp -implicitDefEqProofs only [h1', h3', h4', List.length_map, go_sem]
    refine AWp.of_awpD [] hΓ hmix (by kernel_rfl) ?_
    simp -implicitDefEqProofs only [go_sem]
    refine AWp.of_awpD [] hΓ hmix (by kernel_rfl) ?_
    simp -implicitDefEqProofs only [go_sem]
    refine callK_fn e37 (.still rfl) ?_
    simp -implicitDefEqProofs only [go_sem]
    refine callK_fn e38 (.still rfl) ?_
    simp -implicitDefEqProofs only [go_sem]
    refine callK_fn e39 (.still rfl) ?_
    simp -implicitDefEqProofs only [go_sem]
    refine callK_fn e40 (.still rfl) ?_
    simp -implicitDefEqProofs only [go_sem]
    refine callK_fn c1 (.still rfl) ?_
    simp -implicitDefEqProofs only [go_sem]
    refine callK_fn c2 (.still rfl) ?_
    simp -implicitDefEqProofs only [go_sem]
    refine callK_fn e42 (.still rfl) ?_
    simp -implicitDefEqProofs only [go_sem]
    refine aggK_same _ _ ?_
    simp -implicitDefEqProofs only [go_sem]
    refine callK_fn awake_ok (.pures rfl) ?_
    simp -implicitDefEqProofs only [go_sem]
  · have h3' : ¬ (20 : Int) < w.length := by omega
    simp -implicitDefEqProofs only [h1', h3', List.length_map, go_sem]
    refine AWp.of_awpD [] hΓ hmix (by kernel_rfl) ?_
    simp -implicitDefEqProofs only [go_sem]
    refine AWp.of_awpD [] hΓ hmix (by kernel_rfl) ?_
    simp -implicitDefEqProofs only [go_sem]
    refine callK_fn e37 (.still rfl) ?_
    simp -implicitDefEqProofs only [go_sem]
    refine callK_fn e38 (.still rfl) ?_
    simp -implicitDefEqProofs only [go_sem]
    refine callK_fn e39 (.still rfl) ?_
    simp -implicitDefEqProofs only [go_sem]
    refine callK_fn e40 (.still rfl) ?_
    simp -implicitDefEqProofs only [go_sem]
    refine callK_fn c1 (.still rfl) ?_
    simp -implicitDefEqProofs only [go_sem]
    refine callK_fn c2 (.still rfl) ?_
    simp -implicitDefEqProofs only [go_sem]
    refine callK_fn e42 (.still rfl) ?_
    simp -implicitDefEqProofs only [go_sem]
    refine aggK_same _ _ ?_
    simp -implicitDefEqProofs only [go_sem]
    refine callK_fn awake_ok (.pures rfl) ?_
    simp -implicitDefEqProofs only [go_sem]
end Go.Proofs.Ytgkbafkmbokkaaa
end

section
namespace Go.Proofs.Ytgkbafkmbokkaaa
open Go Go.AM Go.RowKit Go.ChangeShapes
set_option maxRecDepth 100000

theorem own : ownKnob Try.prog.godebug = none := by kernel_rfl
theorem laidOut : laidOutB Try.prog = true := by kernel_rfl

def codeSh : Sh := .agg [.int .i64, .sl .str]

theorem strs_of {l : List PV} (h : ∀ i, i < l.length → Fit .str (l.getD i default)) : ∃ ws : List (List UInt8), l = ws.map .str ∧ ∀ w ∈ ws, w.length ≤ maxLen := by
  induction l with
  | nil => exact ⟨[], rfl, by simp⟩
  | cons x l ih =>
    obtain ⟨ws, h1, h2⟩ := ih (fun i hi => h (i + 1) (by simpa using hi))
    have h0 := h 0 (by simp)
    simp only [List.getD_cons_zero] at h0
    cases h0 with
    | str s hs => exact ⟨s :: ws, by rw [h1]; rfl, fun w hw => by
        rcases List.mem_cons.1 hw with rfl | hw
        · exact hs
        · exact h2 w hw⟩
theorem ints_of {l : List PV} (h : ∀ i, i < l.length → Fit (.int .i64) (l.getD i default)) : ∃ a : List Int, l = a.map (.int .i64) ∧ ∀ x ∈ a, InR .i64 x := by
  induction l with
  | nil => exact ⟨[], rfl, by simp⟩
  | cons x l ih =>
    obtain ⟨a, h1, h2⟩ := ih (fun i hi => h (i + 1) (by simpa using hi))
    have h0 := h 0 (by simp)
    simp only [List.getD_cons_zero] at h0
    cases h0 with
    | int _ n hn => exact ⟨n :: a, by rw [h1]; rfl, fun w hw => by
        rcases List.mem_cons.1 hw with rfl | hw
        · exact hn
        · exact h2 w hw⟩
theorem words_of {p : PV} (h : Fit (.sl .str) p) : ∃ ws : List (List UInt8), p = .sl (ws.map .str) ∧ ws.length ≤ maxLen ∧ ∀ w ∈ ws, w.length ≤ maxLen := by
  cases h with
  | sl _ l h1 h2 =>
    obtain ⟨ws, rfl, h3⟩ := strs_of h2
    exact ⟨ws, rfl, by simpa using h1, h3⟩
theorem nums_of {p : PV} (h : Fit (.sl (.int .i64)) p) : ∃ a : List Int, p = .sl (a.map (.int .i64)) ∧ a.length ≤ maxLen ∧ ∀ x ∈ a, InR .i64 x := by
  cases h with
  | sl _ l h1 h2 =>
    obtain ⟨a, rfl, h3⟩ := ints_of h2
    exact ⟨a, rfl, by simpa using h1, h3⟩
theorem code_of {p : PV} (h : Fit codeSh p) : ∃ (q : Int) (ws : List (List UInt8)), p = codeV q ws ∧ InR .i64 q ∧ ws.length ≤ maxLen ∧ ∀ w ∈ ws, w.length ≤ maxLen := by
  cases h with
  | agg _ l h1 h2 =>
    match l, h1 with
    | [x, y], _ =>
      have h3 := h2 0 (by simp)
      have h4 := h2 1 (by simp)
      simp only [List.getD_cons_zero, List.getD_cons_succ] at h3 h4
      obtain ⟨ws, rfl, h5⟩ := words_of h4
      cases h3 with
      | int _ n hn => exact ⟨n, ws, rfl, hn, h5⟩
end Go.Proofs.Ytgkbafkmbokkaaa
end

