/-
  Texts of this claim, joined.
-/
import Derived.WalkKit
import Derived.KernelRfl
import Derived.LoopTactic
import Derived.Test.YtpljmccnfmkmfaaGreatJb379843f5219
import Derived.Test.YtpljmccnfmkmfaaGreatJ87370f26952d
import Derived.Test.YtpljmccnfmkmfaaGreatJ4f3daeb92d9a
import Derived.Test.YtpljmccnfmkmfaaGreatJaba7192866c2
import Derived.Test.YtpljmccnfmkmfaaGreatJ0a7fb04c7a58

set_option linter.unnecessarySimpa false
set_option linter.unusedSimpArgs false
set_option maxRecDepth 100000
set_option maxHeartbeats 4000000
section
namespace Go.Proofs.YtpljmccnfmkmfaaGreat
open Go Go.RowKit Go.Proofs

theorem Zem (n : Nat) (h0 : n ≠ 0) (h : n < 256) : magB n = [UInt8.ofNat n] := by
  have := Z24 (c := n) (n := 0) h; rw [Nat.mul_zero, Nat.add_zero, if_neg (fun e => h0 e.1), magB_zero] at this; exact this

theorem m108 (n : Nat) (hn : n < 9223372036854775808) (w : World) : Calls Tryz.prog 224 #[.int .i64 n] w fun e w' => e = .returned (.string ⟨(magB n).toArray⟩) ∧ Below w.heap.size w w' := by
  go_enter Tryz.func224, Tryz.ntmps224
  go_wp2
  · have h0 : ((n : Int) == 0) = true := by assumption
    have : n = 0 := by simpa using h0
    subst this
    go_ret
    exact ⟨rfl, Below.refl _ _⟩
  · have h0 : ((n : Int) == 0) = false := by assumption
    have h256 : (n : Int) < 256 := by assumption
    have h0' : n ≠ 0 := by simpa using h0
    have hc := run_convert_bytes_back (P := Tryz.prog) (w.alloc (.cells #[Value.int .u8 n] 5)) 65 9 5 ⟨w.heap.size, 0, none⟩ 1 [UInt8.ofNat n] Tryz.underlying65 Tryz.underlying5 Tryz.underlying9 (by
      intro j hj; have hj0 : j = 0 := by simpa using hj
      subst hj0; have hmod : n % 256 = n := Nat.mod_eq_of_lt (by omega); simp [Addr.add, UInt8.toNat_ofNat', hmod])
    rw [show (Value.slice (some { block := w.heap.size, off := 0 }) 1 1) = .slice (some ⟨w.heap.size, 0, none⟩) [UInt8.ofNat n].length 1 from rfl, hc]; simp only [Result.andThen]; rw [Oper.upon_value]
    go_wp2
    go_ret
    exact ⟨by rw [Zem n h0' (by omega)]; rfl, (Below.refl _ _).alloc (Nat.le_refl _) _⟩
  · go_loopw [0, 4] (fun x k wr => ∃ (m p : Nat) (L : List UInt8), x = .int .i64 m ∧ k = .int .i64 p ∧ p + L.length = 8 ∧ magB n = magB m ++ L ∧ m ≤ n ∧ Below w.heap.size w wr ∧ wr.heap.size = w.heap.size + 1 ∧
        (∀ i, i < 8 → (wr.cell? ⟨w.heap.size, i, none⟩).isSome = true ∧ wr.frozen? ⟨w.heap.size, i, none⟩ = false) ∧ (∀ i (hi : i < L.length), wr.cell? ⟨w.heap.size, p + i, none⟩ = some (.int .u8 (L[i].toNat : Int))))
      (fun x _ _ => (intOf x).toNat)
    case atStart =>
      refine ⟨n, 8, [], rfl, rfl, rfl, by simp, Nat.le_refl _, (Below.refl _ _).alloc (Nat.le_refl _) _, World.size_alloc _ _, fun i hi => ?_, fun i hi => by simp at hi⟩; rw [World.cell?_alloc_new, World.frozen?_alloc_new]; refine ⟨?_, rfl⟩; simp [hi]
    case round =>
      obtain ⟨m, p, L, rfl, rfl, hpL, hL, hmn, hB, hsz, hc, hl⟩ := hrel; have hp : m > 0 → 0 < p := fun h => by
        have h1 := congrArg List.length hL; rw [List.length_append] at h1; have h2 := Z4e (k := 8) (n := n) (by omega); have h3 : (magB m).length ≠ 0 := fun e => by have := Z1l (List.length_eq_zero_iff.1 e); omega
        omega
      by_cases hm : m > 0
      · have hp' := hp hm
        obtain ⟨p, rfl⟩ : ∃ r, p = r + 1 := ⟨p - 1, by omega⟩; obtain ⟨u, hu⟩ := Option.isSome_iff_exists.1 (hc p (by omega)).1; have hfp' := (hc p (by omega)).2; clear hp
        go_wp2
        refine ⟨⟨m / 256, p, UInt8.ofNat (m % 256) :: L, ?_, rfl, ?_, ?_, ?_, ?_, ?_, ?_, ?_⟩, ?_⟩
        · rw [Int.natCast_ediv]; rfl
        · rw [List.length_cons]; omega
        · have h4 := Z24 (c := m % 256) (n := m / 256) (Nat.mod_lt _ (by decide))
          rw [Nat.mod_add_div, if_neg (fun e => by omega)] at h4; rw [hL, h4, List.append_assoc]; rfl
        · exact Nat.le_trans (Nat.div_le_self _ _) hmn
        · exact hB.setCell (Nat.le_refl _) _
        · rw [World.size_setCell]; exact hsz
        · intro i hi
          rw [World.frozen?_setCell]; refine ⟨?_, (hc i hi).2⟩; by_cases e : i = p
          · subst e; rw [World.cell?_setCell_same (h := hu)]; rfl
          · rw [World.cell?_setCell_other (h := show (⟨w.heap.size, p, none⟩ : Addr) ≠ ⟨w.heap.size, i, none⟩ from fun e2 => e (by injection e2 with _ e3; exact e3.symm))]; exact (hc i hi).1
        · intro i hi
          cases i with
          | zero =>
            rw [Nat.add_zero, World.cell?_setCell_same (h := hu)]; have : m % 256 < 256 := Nat.mod_lt _ (by decide); simp [UInt8.toNat_ofNat']
          | succ i =>
            rw [World.cell?_setCell_other (h := show (⟨w.heap.size, p, none⟩ : Addr) ≠ ⟨w.heap.size, p + (i + 1), none⟩ from fun e2 => by injection e2 with _ e3; omega), show p + (i + 1) = p + 1 + i by omega]; exact hl i (by simpa using hi)
        · simp [intOf]; omega
      · have hm0 : m = 0 := by omega
        subst hm0; clear hp; rw [magB_zero, List.nil_append] at hL; have hLn : L ≠ [] := fun e => by
          rw [e] at hL; have := Z1l hL; omega
        have hLl := List.length_pos_iff.2 hLn; have eL : Tryz.prog.arrayLen 216 = 8 := by kernel_rfl
        have eE : Tryz.prog.elem 216 = 5 := by kernel_rfl
        have hsl := run_sliceAt_array_l (P := Tryz.prog) wr 216 ⟨w.heap.size, 0, none⟩ (by rw [eL, eE]; exact Tryz.underlying216) .i64 (p : Int) (by omega) (by rw [eL]; omega); rw [eL, eE] at hsl; have hcv := run_convert_bytes_back (P := Tryz.prog) wr 65 9 5 ⟨w.heap.size, p, none⟩ L.length L Tryz.underlying65 Tryz.underlying5 Tryz.underlying9 (fun j hj => by
          have h5 := hl j hj; by_cases e : j = 0
          · subst e; simpa [Addr.add] using h5
          · simpa [Addr.add, e] using h5)
        go_wp2
        rw [show 8 - p = L.length by omega, hcv]; simp only [Result.andThen]; rw [Oper.upon_value]
        go_wp2
        go_ret
        exact ⟨by rw [hL]; rfl, hB⟩

def beN (l : List UInt8) : Nat := l.foldl (fun a b => a * 256 + b.toNat) 0
theorem Z2k (l : List UInt8) (b : UInt8) : beN (l ++ [b]) = beN l * 256 + b.toNat := by unfold beN; rw [List.foldl_append]; rfl
theorem Z6x : ∀ (k : Nat) (l : List UInt8), l.length = k → beN l < 256 ^ k
  | 0, l, h => by rw [List.length_eq_zero_iff.1 h]; decide
  | k + 1, l, h => by
    have hne : l ≠ [] := fun e => by rw [e] at h; cases h
    rw [← List.dropLast_concat_getLast hne, Z2k]; have h1 := Z6x k l.dropLast (by rw [List.length_dropLast]; omega); have h2 := (l.getLast hne).toNat_lt; rw [Nat.pow_succ]; omega
theorem Zv (n : Nat) : beN (magB n) = n := by
  induction n using Nat.strongRecOn with
  | _ n ih =>
    by_cases h : n = 0
    · subst h; rfl
    · have h4 := Z24 (c := n % 256) (n := n / 256) (Nat.mod_lt _ (by decide))
      rw [Nat.mod_add_div, if_neg (fun e => by omega)] at h4; rw [h4, Z2k, ih _ (by omega), UInt8.toNat_ofNat']; have : n % 256 % 2 ^ 8 = n % 256 := by omega
      rw [this]; omega

theorem Zov (a b : Nat) (ha : a < 256 ^ 6) (hb : b < 256) : bits .or .i64 ((a : Int) * 256) (wrap64 (b : Int)) = ((a * 256 + b : Nat) : Int) := by
  have h1 : ((a : Int) * 256) = ((a * 256 : Nat) : Int) := by omega
  have h2 : wrap64 (b : Int) = (b : Int) := by unfold wrap64; omega
  have h3 := Nat.shiftLeft_add_eq_or_of_lt (b := b) (i := 8) (by omega) a; rw [h1, h2]; have g1 : a * 256 < 18446744073709551616 := by omega
  have e : (BitVec.ofInt 64 ((a * 256 : Nat) : Int) ||| BitVec.ofInt 64 (b : Int)).toNat = a * 256 + b := by
    rw [BitVec.toNat_or, BitVec.ofInt_natCast, BitVec.ofInt_natCast, BitVec.toNat_ofNat, BitVec.toNat_ofNat, Nat.mod_eq_of_lt g1, Nat.mod_eq_of_lt (show b < 2 ^ 64 by omega)]; rw [Nat.shiftLeft_eq] at h3; exact h3.symm
  show IntKind.wrap .i64 ((BitVec.ofInt 64 ((a * 256 : Nat) : Int) ||| BitVec.ofInt 64 (b : Int)).toNat : Nat) = _; rw [e]; exact AM.InR.wrap (k := .i64) (by simp only [AM.InR]; omega)

theorem m124 (s : ByteArray) (hs : s.size ≤ 7) (w : World) : Calls Tryz.prog 244 #[.string s] w fun e w' => e = .returned (.int .i64 (beN s.data.toList)) ∧ w' = w := by
  go_enter Tryz.func244, Tryz.ntmps244
  go_wp2
  go_loop [3, 4] (fun x k => ∃ i : Nat, i ≤ s.size ∧ k = .int .i64 i ∧ x = .int .i64 (beN (s.data.toList.take i)))
    (fun _ k => s.size - (intOf k).toNat)
  case atStart => exact ⟨0, by omega, rfl, rfl⟩
  case round =>
    obtain ⟨i, hi, rfl, rfl⟩ := hrel; by_cases hlt : i < s.size
    · have hlt' : (i : Int) < s.size := by omega
      have hlen : s.data.toList.length = s.size := by simp
      have htl : (s.data.toList.take i).length = i := by rw [List.length_take]; omega
      have hbd := Z6x i _ htl; have hbd6 : beN (s.data.toList.take i) < 256 ^ 6 := Nat.lt_of_lt_of_le hbd (Nat.pow_le_pow_right (by decide) (by omega)); have hor := Zov (beN (s.data.toList.take i)) s[i].toNat hbd6 s[i].toNat_lt; have hnext : beN (s.data.toList.take (i + 1)) = beN (s.data.toList.take i) * 256 + s[i].toNat := by
        rw [List.take_succ_eq_append_getElem (by omega), Z2k]; rfl
      go_wp2
      refine ⟨⟨i + 1, by omega, by simp, ?_⟩, ?_⟩
      · rw [hnext, Int.natCast_add, Int.natCast_mul]; rfl
      · simp only [intOf]; omega
    · have hlt' : ¬ (i : Int) < s.size := by omega
      have hie : i = s.size := by omega
      go_wp2
      go_ret
      exact ⟨by rw [List.take_of_length_le (by simp)]; rfl, rfl⟩
end Go.Proofs.YtpljmccnfmkmfaaGreat
end

section
namespace Go.Proofs.YtpljmccnfmkmfaaGreat
open Go Go.AM Go.RowKit

theorem u99 (n : Nat) (hn : n < 9223372036854775808) : PFn Tryz.prog 224 [.int .i64 n] [.str (magB n)] := by
  refine ⟨Zx Tryz.func224 (by kernel_rfl) rfl, fun I w cargs himm hlen hargs => ?_⟩; obtain ⟨a, rfl⟩ : ∃ a, cargs = [a] := by
    match cargs, hlen with
    | [a], _ => exact ⟨a, rfl⟩
  have h0 := hargs 0 (by simp); simp only [List.getD_cons_zero] at h0; rw [h0.int_inv]; refine Calls.mono (P := Tryz.prog) (m108 n hn w) ?_; rintro e w' ⟨rfl, hB⟩; exact ⟨_, I, rfl, Z0v hB, fun _ h => h, fun g h => .inl h, .p _ _ (.str ⟨(magB n).toArray⟩)⟩
theorem u124 (l : List UInt8) (hl : l.length ≤ 7) : PFn Tryz.prog 244 [.str l] [.int .i64 (beN l)] := by
  refine ⟨Zx Tryz.func244 (by kernel_rfl) rfl, fun I w cargs himm hlen hargs => ?_⟩; obtain ⟨a, rfl⟩ : ∃ a, cargs = [a] := by
    match cargs, hlen with
    | [a], _ => exact ⟨a, rfl⟩
  have h0 := hargs 0 (by simp); simp only [List.getD_cons_zero] at h0; obtain ⟨s, rfl, rfl⟩ : ∃ s : ByteArray, a = .string s ∧ l = s.data.toList := by
    cases h0 with
    | str s => exact ⟨s, rfl, rfl⟩
  refine Calls.mono (P := Tryz.prog) (m124 s (by simpa using hl) w) ?_; rintro e w' ⟨rfl, rfl⟩; exact ⟨_, I, rfl, Z0v (Below.refl _ _), fun _ h => h, fun g h => .inl h, .p _ _ (.int _ _)⟩

theorem intF (n : Nat) : intN false n = .agg [.bool false, .str (magB n)] := rfl
theorem mag7 {n : Nat} (h : n < 256 ^ 7) : (magB n).length ≤ 7 := Z4e h
theorem Zbu (n : Nat) (h : n ≠ 0) : ∃ b l, magB n = b :: l ∧ b ≠ 0 := by
  induction n using Nat.strongRecOn with
  | _ n ih =>
    have h4 := Z24 (c := n % 256) (n := n / 256) (Nat.mod_lt _ (by decide)); rw [Nat.mod_add_div, if_neg (fun e => by omega)] at h4; by_cases h0 : n / 256 = 0
    · refine ⟨UInt8.ofNat (n % 256), [], by rw [h4, h0, magB_zero]; rfl, fun e => ?_⟩
      have := congrArg UInt8.toNat e; rw [UInt8.toNat_ofNat'] at this; have z : (0 : UInt8).toNat = 0 := rfl; rw [z] at this; omega
    · obtain ⟨b, l, h1, h2⟩ := ih (n / 256) (by omega) h0
      exact ⟨b, l ++ [UInt8.ofNat (n % 256)], by rw [h4, h1]; rfl, h2⟩

theorem u110 (n : Nat) (hn : n < 256 ^ 7) : PFn Tryz.prog 206 [intN false n] [.int .i64 n] := by
  have e := u124 (magB n) (mag7 hn); rw [Zv] at e; rw [intF]; generalize magB n = l at *; refine PFn.of_body hΓ Tryz.func206 (by kernel_rfl) rfl (Wd [] ?_); simp -implicitDefEqProofs only [Tryz.ntmps206, Tryz.results206, Nat.reduceAdd, Nat.reduceSub, go_sem]; refine Z0 e (.pures rfl) ?_; simp -implicitDefEqProofs only [go_sem]
theorem u109e : PFn Tryz.prog 243 [.str []] [.str []] := by
  refine PFn.of_body hΓ Tryz.func243 (by kernel_rfl) rfl (Wd [] ?_); simp -implicitDefEqProofs only [Tryz.ntmps243, Tryz.results243, Nat.reduceAdd, Nat.reduceSub, go_sem]; refine AWp.loopI (fun _ : Unit => ⟨mkF 14 [(0, .p (.str []))], []⟩) (fun _ => True) (fun _ => 0) () (by simp [go_sem]) trivial ?_; rintro _ _; simp -implicitDefEqProofs only [go_sem]; refine Wd [] ?_; have z : ¬ (0 : Int) < ((0 : Nat) : Int) := by decide
  simp -implicitDefEqProofs only [List.length_nil, z, go_sem]
theorem u96 (n : Nat) : PFn Tryz.prog 205 [intN false n] [intN false n] := by
  rw [intF]; refine PFn.of_body hΓ Tryz.func205 (by kernel_rfl) rfl (Wd [] ?_); by_cases h : n = 0
  · subst h
    rw [magB_zero]; have z : ¬ (0 : Int) < ((0 : Nat) : Int) := by decide
    simp -implicitDefEqProofs only [Tryz.ntmps205, Tryz.results205, Nat.reduceAdd, Nat.reduceSub, List.length_nil, z, go_sem]; refine Z0 u109e (.pures rfl) ?_; simp -implicitDefEqProofs only [go_sem]; omega
  · obtain ⟨b, l, h1, h2⟩ := Zbu n h
    rw [h1]; have z : (0 : Int) < ((l.length + 1 : Nat) : Int) := by omega
    have z3 : ¬ ((((b :: l).getD (Int.toNat 0) 0).toNat : Nat) : Int) = 0 := fun e => h2 (by
      have e1 : b.toNat = 0 := by simpa using e
      exact UInt8.toNat_inj.1 e1)
    simp -implicitDefEqProofs only [Tryz.ntmps205, Tryz.results205, Nat.reduceAdd, Nat.reduceSub, List.length_cons, z, z3, go_sem]
theorem u76 (n : Nat) (hn : n < 9223372036854775808) : PFn Tryz.prog 179 [.int .i64 n] [intN false n] := by
  have e := u99 n hn; have h0 : (0 : Int) ≤ n := by omega
  rw [intF]; generalize magB n = l at *; refine PFn.of_body hΓ Tryz.func179 (by kernel_rfl) rfl (Wd [] ?_); simp -implicitDefEqProofs only [Tryz.ntmps179, Tryz.results179, Nat.reduceAdd, Nat.reduceSub, h0, go_sem]; refine Z0 e (.pures rfl) ?_; simp -implicitDefEqProofs only [go_sem]


theorem Z7m (a : UInt8) (l : List UInt8) : beN (a :: l) = a.toNat * 256 ^ l.length + beN l := by
  have : ∀ (l : List UInt8) (n : Nat), l.foldl (fun a b => a * 256 + b.toNat) n = n * 256 ^ l.length + beN l := fun l => by
    induction l with
    | nil => intro n; simp [beN]
    | cons b l ih =>
      intro n; unfold beN; rw [List.foldl_cons, List.foldl_cons, ih, ih, List.length_cons, Nat.pow_succ, Nat.zero_mul, Nat.zero_add, Nat.add_mul, Nat.mul_assoc, Nat.mul_comm 256, Nat.add_assoc]
  unfold beN; rw [List.foldl_cons, this, Nat.zero_mul, Nat.zero_add]; rfl
theorem Zju : ∀ (a b : List UInt8), a.length = b.length → (bLt a b = true ↔ beN a < beN b)
  | [], [], _ => by simp [bLt, beN]
  | x :: a, y :: b, h => by
    have hl : a.length = b.length := by simpa using h
    have ih := Zju a b hl; have h1 := Z6x _ a rfl; have h2 := Z6x _ b rfl; rw [Z0p, ih, Z7m, Z7m, hl]; rw [hl] at h1; have hpos : 0 < 256 ^ b.length := Nat.pow_pos (by decide); generalize 256 ^ b.length = p at *
    constructor
    · rintro (g | ⟨g, g2⟩)
      · have : (x.toNat + 1) * p ≤ y.toNat * p := Nat.mul_le_mul_right _ g
        rw [Nat.add_mul] at this; omega
      · rw [g]; omega
    · intro g
      rcases Nat.lt_trichotomy x.toNat y.toNat with k | k | k
      · exact .inl k
      · rw [k] at g; exact .inr ⟨k, by omega⟩
      · have : (y.toNat + 1) * p ≤ x.toNat * p := Nat.mul_le_mul_right _ k
        rw [Nat.add_mul] at this; omega
theorem Zhz {n : Nat} {k : Nat} (h : (magB n).length = k + 1) : 256 ^ k ≤ n := by
  have hn : n ≠ 0 := fun e => by subst e; rw [magB_zero] at h; cases h
  obtain ⟨b, l, h1, h2⟩ := Zbu n hn; have h3 := Zv n; rw [h1, Z7m] at h3; rw [h1] at h; have h4 : l.length = k := by simpa using h
  rw [h4] at h3; have hb : 1 ≤ b.toNat := Nat.pos_of_ne_zero fun e => h2 (UInt8.toNat_inj.1 e)
  have : 1 * 256 ^ k ≤ b.toNat * 256 ^ k := Nat.mul_le_mul_right _ hb; omega
theorem Z4d (n : Nat) : n < 256 ^ (magB n).length := by
  have := Z6x _ (magB n) rfl
  rwa [Zv] at this
theorem Z22 {a b : Nat} (h : (magB a).length < (magB b).length) : a < b := by
  obtain ⟨k, hk⟩ : ∃ k, (magB b).length = k + 1 := ⟨(magB b).length - 1, by omega⟩; have h1 := Zhz hk; have h2 := Z4d a; have h3 : 256 ^ (magB a).length ≤ 256 ^ k := Nat.pow_le_pow_right (by decide) (by omega); omega
theorem Zp9 {a b : Nat} (h : magB a = magB b) : a = b := by rw [← Zv a, h, Zv]

theorem u97 (a b : Nat) : PFn Tryz.prog 208 [.str (magB a), .str (magB b)] [.int .i64 (cmpN a b)] := by
  rcases Nat.lt_trichotomy (magB a).length (magB b).length with h | h | h
  · rw [Z46 (Z22 h)]
    have h1 : ¬ ((magB a).length : Int) = (magB b).length := by omega
    have h2 : ((magB a).length : Int) < (magB b).length := by omega
    refine PFn.of_body hΓ Tryz.func208 (by kernel_rfl) rfl (Wd [] ?_); simp -implicitDefEqProofs only [Tryz.ntmps208, Tryz.results208, Nat.reduceAdd, Nat.reduceSub, h1, h2, go_sem]
  · have h1 : ((magB a).length : Int) = (magB b).length := by omega
    have hlt := Zju _ _ h; rw [Zv, Zv] at hlt; have hbl : Op.bytesLess (magB a) (magB b) = bLt (magB a) (magB b) := (Zf9 _ _).symm; rcases Nat.lt_trichotomy a b with g | g | g
    · have hb : Op.bytesLess (magB a) (magB b) = true := by rw [hbl]; exact hlt.2 g
      rw [Z46 g]; refine PFn.of_body hΓ Tryz.func208 (by kernel_rfl) rfl (Wd [] ?_); simp -implicitDefEqProofs only [Tryz.ntmps208, Tryz.results208, Nat.reduceAdd, Nat.reduceSub, h1, hb, go_sem]
    · subst g
      have hb : Op.bytesLess (magB a) (magB a) = false := by rw [hbl]; exact Z30 _
      rw [Z8m]; generalize magB a = x at *; refine PFn.of_body hΓ Tryz.func208 (by kernel_rfl) rfl (Wd [] ?_); simp -implicitDefEqProofs only [Tryz.ntmps208, Tryz.results208, Nat.reduceAdd, Nat.reduceSub, hb, Bool.false_or, Bool.or_true, Bool.or_false, go_sem]
    · have hb : Op.bytesLess (magB a) (magB b) = false := by
        rw [hbl, Bool.eq_false_iff]; exact fun e => by have := hlt.1 e; omega
      have hne : ¬ magB a = magB b := fun e => by have := Zp9 e; omega
      rw [Z1r g]; refine PFn.of_body hΓ Tryz.func208 (by kernel_rfl) rfl (Wd [] ?_); simp -implicitDefEqProofs only [Tryz.ntmps208, Tryz.results208, Nat.reduceAdd, Nat.reduceSub, h1, hb, hne, Bool.false_or, Bool.or_true, Bool.or_false, decide_false, go_sem]
  · rw [Z1r (Z22 h)]
    have h1 : ¬ ((magB a).length : Int) = (magB b).length := by omega
    have h2 : ¬ ((magB a).length : Int) < (magB b).length := by omega
    refine PFn.of_body hΓ Tryz.func208 (by kernel_rfl) rfl (Wd [] ?_); simp -implicitDefEqProofs only [Tryz.ntmps208, Tryz.results208, Nat.reduceAdd, Nat.reduceSub, h1, h2, go_sem]

theorem u74 (a b : Nat) : PFn Tryz.prog 215 [intN false a, intN false b] [.int .i64 (cmpN a b)] := by
  have ea := u96 a; have eb := u96 b; have ec := u97 a b; simp only [intF] at ea eb ⊢; generalize magB a = x at *; generalize magB b = y at *; generalize cmpN a b = z at *; refine PFn.of_body hΓ Tryz.func215 (by kernel_rfl) rfl (AWp.seq (Wd [] ?_)); simp -implicitDefEqProofs only [Tryz.ntmps215, Tryz.results215, Nat.reduceAdd, Nat.reduceSub, go_sem]; refine Wd [(1, 4)] ?_; simp -implicitDefEqProofs only [go_sem]; refine Z1 ea (.still rfl) ?_; simp -implicitDefEqProofs only [go_sem]; refine Z1 eb (.still rfl) ?_; have hz : (false != false) = false := rfl; simp -implicitDefEqProofs only [hz, go_sem]; refine Z0 ec (.pures rfl) ?_; simp -implicitDefEqProofs only [go_sem]

/-! ### Leading zeros -/
def Z91 : List UInt8 → List UInt8
  | [] => []
  | b :: l => if b = 0 then Z91 l else b :: l
theorem Zmf (l : List UInt8) : beN (0 :: l) = beN l := by rw [Z7m]; have : (0 : UInt8).toNat = 0 := rfl; rw [this]; omega
theorem Znd : ∀ (k : Nat) (b : UInt8) (l : List UInt8), l.length = k → b ≠ 0 → magB (beN (b :: l)) = b :: l
  | 0, b, l, hl, hb => by
    have : l = [] := List.length_eq_zero_iff.1 hl; subst this; have h0 : b.toNat ≠ 0 := fun e => hb (UInt8.toNat_inj.1 e)
    have e : beN [b] = b.toNat + 256 * 0 := by simp [beN]
    rw [e, Z24 (UInt8.toNat_lt b), if_neg (fun h => h0 h.1), magB_zero]; simp
  | k + 1, b, l, hl, hb => by
    have hne : l ≠ [] := fun e => by rw [e] at hl; cases hl
    obtain ⟨t, c, rfl⟩ : ∃ t c, l = t ++ [c] := ⟨l.dropLast, l.getLast hne, (List.dropLast_concat_getLast hne).symm⟩; have ih := Znd k b t (by simpa using hl) hb; have e : beN (b :: (t ++ [c])) = c.toNat + 256 * beN (b :: t) := by
      rw [← List.cons_append, Z2k]; omega
    rw [e, Z24 (UInt8.toNat_lt c), if_neg (fun h => by rw [h.2, magB_zero] at ih; cases ih), ih]; simp
theorem Zb7 : ∀ l : List UInt8, Z91 l = magB (beN l)
  | [] => rfl
  | b :: l => by
    unfold Z91; by_cases h : b = 0
    · rw [if_pos h, h, Zmf, Zb7 l]
    · rw [if_neg h, Znd _ b l rfl h]
theorem Z1g (l : List UInt8) : beN l = Z4q l := by
  have : ∀ k (l : List UInt8), l.length = k → beN l = Z4q l := by
    intro k
    induction k with
    | zero => intro l hl; rw [List.length_eq_zero_iff.1 hl]; rfl
    | succ k ih =>
      intro l hl; have hne : l ≠ [] := fun e => by rw [e] at hl; cases hl
      obtain ⟨t, c, rfl⟩ : ∃ t c, l = t ++ [c] := ⟨l.dropLast, l.getLast hne, (List.dropLast_concat_getLast hne).symm⟩; rw [Z2k, ih t (by simpa using hl)]; unfold Z4q lebs; rw [List.reverse_append, List.map_append]; simp [valD]; omega
  exact this _ l rfl

theorem q113 (l : List UInt8) (hl : l.length ≤ 1000000) : PFn Tryz.prog 243 [.str l] [.str (magB (beN l))] := by
  rw [← Zb7]; refine PFn.of_body hΓ Tryz.func243 (by kernel_rfl) rfl (Wd [] ?_); simp -implicitDefEqProofs only [Tryz.ntmps243, Tryz.results243, Nat.reduceAdd, Nat.reduceSub, go_sem]; refine AWp.loopI (fun x : List UInt8 => ⟨mkF 14 [(0, .p (.str x))], []⟩) (fun x => Z91 x = Z91 l ∧ x.length ≤ 1000000) (fun x => x.length) l (by simp [go_sem]) ⟨rfl, hl⟩ ?_; rintro x ⟨hx, hxl⟩; simp -implicitDefEqProofs only [go_sem]; refine Wd [] ?_
  match x, hx, hxl with
  | [], hx, _ =>
    have z : ¬ (0 : Int) < ((0 : Nat) : Int) := by decide
    have z2 : Z91 [] = [] := rfl; rw [z2] at hx; simp -implicitDefEqProofs only [List.length_nil, z, go_sem]; exact hx
  | b :: t, hx, hxl =>
    have z : (0 : Int) < ((t.length + 1 : Nat) : Int) := by omega
    have hlen : t.length + 1 ≤ 1000000 := hxl; by_cases hb : b = 0
    · subst hb
      have hx2 : Z91 t = Z91 l := by rw [← hx]; rfl
      simp -implicitDefEqProofs only [List.length_cons, z, go_sem]; refine ⟨fun _ => ⟨⟨by omega, by omega⟩, t, rfl, ⟨hx2, by omega⟩, by omega⟩, fun h => absurd rfl h⟩
    · have hx2 : Z91 l = b :: t := by rw [← hx]; unfold Z91; rw [if_neg hb]
      have z3 : ¬ ((((b :: t).getD (Int.toNat 0) 0).toNat : Nat) : Int) = 0 := fun e => hb (by
        have e1 : b.toNat = 0 := by simpa using e
        exact UInt8.toNat_inj.1 e1)
      simp -implicitDefEqProofs only [List.length_cons, z, z3, go_sem]; exact hx2.symm

def u8d (d : Nat) : PV := .int .u8 (d : Int)
def Z3o (n : Nat) (L : List Nat) : List PV := (List.replicate (n - L.length) 0 ++ L).map u8d
theorem Zb9 {n : Nat} {L : List Nat} (h : L.length ≤ n) : (Z3o n L).length = n := by unfold Z3o; simp; omega
theorem Zb8 {n d : Nat} {L : List Nat} (h : L.length < n) : (Z3o n L).set (n - (L.length + 1)) (u8d d) = Z3o n (d :: L) := by
  unfold Z3o; obtain ⟨z, hz⟩ : ∃ z, n - L.length = z + 1 := ⟨n - L.length - 1, by omega⟩; have hz2 : n - (L.length + 1) = z := by omega
  rw [List.length_cons, hz, hz2, List.replicate_succ', List.append_assoc, List.map_append, List.map_append]; rw [List.set_append_right _ _ (by simp)]; simp
theorem Z7k (L : List Nat) (h : ∀ d ∈ L, d < 256) : beN (L.map UInt8.ofNat) = valD 256 L.reverse := by
  rw [Z1g]; unfold Z4q lebs
  congr 1
  rw [← List.map_reverse, List.map_map]
  conv => rhs; rw [← List.map_id L.reverse]
  refine List.map_congr_left fun d hd => ?_
  have := h d (List.mem_reverse.1 hd); simp only [Function.comp, id, UInt8.toNat_ofNat']; omega

theorem Z2y (A : List UInt8) (k : Nat) : (lebs A).getD k 0 < 256 := by
  rw [List.getD_eq_getElem?_getD]
  cases h : (lebs A)[k]? with
  | none => decide
  | some d => exact Z6e A d (List.mem_of_getElem? h)
theorem Zan {A : List UInt8} {k : Nat} (h : A.length ≤ k) : (lebs A).getD k 0 = 0 := by
  rw [List.getD_eq_getElem?_getD, List.getElem?_eq_none (by rw [Z1t]; exact h)]; rfl
theorem Zmn (s : Nat) : IntKind.u8.wrap (s : Int) = ((s % 256 : Nat) : Int) := by
  show ((s : Int) % 256) = _; omega

theorem q106 (A C : List UInt8) (hA : A.length ≤ 1000) (hC : C.length ≤ 1000) : PFn Tryz.prog 207 [.str A, .str C] [.str (magB (beN A + beN C))] := by
  obtain ⟨n, hn⟩ : ∃ n, n = max A.length C.length + 1 := ⟨_, rfl⟩; have hAn : A.length < n := by omega
  have hCn : C.length < n := by omega
  have hn1 : n ≤ 1001 := by omega
  have hmax : (if A.length < C.length then (C.length : Int) else (A.length : Int)) + 1 = (n : Int) := by split <;> omega
  refine PFn.of_body hΓ Tryz.func207 (by kernel_rfl) rfl (AWp.seq (Wd [] ?_)); simp -implicitDefEqProofs only [Tryz.ntmps207, Tryz.results207, Nat.reduceAdd, Nat.reduceSub, go_sem]; refine AWp.seq (Wd [] ?_); simp -implicitDefEqProofs only [go_sem]; rw [hmax]; refine ⟨by simp only [InR]; omega, ?_⟩; refine AWp.seq (Wd [] ?_); simp -implicitDefEqProofs only [Int.toNat_natCast, go_sem]; refine ⟨⟨by omega, by omega⟩, ?_⟩; refine AWp.seq (Wd [] ?_); simp -implicitDefEqProofs only [go_sem]; refine AWp.seq (AWp.seq (Wd [] ?_)); simp -implicitDefEqProofs only [go_sem]; refine AWp.block ?_
  refine AWp.loopI (fun z : List Nat × Nat => ⟨mkF 60 [(0, .p (.str A)), (1, .p (.str C)), (5, .p (.int .i64 n)), (6, .own 0 n), (7, .p (.int .i64 z.2)), (8, .p (.int .i64 (z.1.length + 1 : Nat)))], [.row 5 1 (Z3o n z.1) .own]⟩)
    (fun z => z.1.length ≤ n ∧ (∀ d ∈ z.1, d < 256) ∧ z.2 ≤ 1 ∧ valD 256 z.1.reverse + z.2 * 256 ^ z.1.length = valD 256 ((lebs A).take z.1.length) + valD 256 ((lebs C).take z.1.length)) (fun z => n - z.1.length) ([], 0) (by
      simp [go_sem, Z3o, u8d]) ⟨by simp, by simp, by simp, by simp [valD]⟩ ?_
  rintro ⟨L, c⟩ ⟨hL, hLd, hc, hv⟩; simp only at hL hLd hc hv; simp -implicitDefEqProofs only [go_sem]; refine Wd [] ?_; by_cases hlt : L.length < n
  · have hlt' : ((L.length + 1 : Nat) : Int) ≤ (n : Int) := by omega
    obtain ⟨a, ha⟩ : ∃ a, a = (lebs A).getD L.length 0 := ⟨_, rfl⟩; obtain ⟨b, hb⟩ : ∃ b, b = (lebs C).getD L.length 0 := ⟨_, rfl⟩; have ha256 : a < 256 := by rw [ha]; exact Z2y _ _
    have hb256 : b < 256 := by rw [hb]; exact Z2y _ _
    obtain ⟨s, hs⟩ : ∃ s, s = c + a + b := ⟨_, rfl⟩; have hwa : IntKind.i64.wrap (a : Int) = a := InR.wrap (k := .i64) (by simp only [InR]; omega); have hwb : IntKind.i64.wrap (b : Int) = b := InR.wrap (k := .i64) (by simp only [InR]; omega); have hw8 : IntKind.u8.wrap (s : Int) = ((s % 256 : Nat) : Int) := Zmn s; have hsd : (s : Int) / 2 ^ Int.toNat 8 = ((s / 256 : Nat) : Int) := by
      have : (2 : Int) ^ Int.toNat 8 = ((256 : Nat) : Int) := rfl; rw [this, Int.natCast_ediv]
    have eA : ∀ h : L.length + 1 ≤ A.length, ((A.getD ((A.length : Int) - ((L.length + 1 : Nat) : Int)).toNat 0).toNat : Nat) = a := fun h => by
      rw [ha, Z3c (by omega)]; congr 2; omega
    have eC : ∀ h : L.length + 1 ≤ C.length, ((C.getD ((C.length : Int) - ((L.length + 1 : Nat) : Int)).toNat 0).toNat : Nat) = b := fun h => by
      rw [hb, Z3c (by omega)]; congr 2; omega
    have zA : ¬ L.length + 1 ≤ A.length → a = 0 := fun h => by rw [ha]; exact Zan (by omega)
    have zC : ¬ L.length + 1 ≤ C.length → b = 0 := fun h => by rw [hb]; exact Zan (by omega)
    have eik : ((n : Int) - ((L.length + 1 : Nat) : Int)).toNat = n - (L.length + 1) := by omega
    have hset : (Z3o n L).set (n - (L.length + 1)) (.int .u8 ((s % 256 : Nat) : Int)) = Z3o n (s % 256 :: L) := Zb8 hlt; have hlen := Zb9 hL; have hnew : valD 256 (s % 256 :: L).reverse + s / 256 * 256 ^ (L.length + 1) = valD 256 ((lebs A).take (L.length + 1)) + valD 256 ((lebs C).take (L.length + 1)) := by
      rw [Zj, Zj, ← ha, ← hb, List.reverse_cons, Zi, List.length_reverse, Nat.pow_succ]; have e1 : valD 256 [s % 256] = s % 256 := by simp [valD]
      rw [e1]; have e2 : s % 256 + 256 * (s / 256) = s := Nat.mod_add_div s 256; generalize 256 ^ L.length = P at *; have e3 : P * (s % 256) + s / 256 * (P * 256) = P * s := by
        conv => rhs; rw [← e2, Nat.mul_add]
        rw [Nat.mul_comm (s / 256), Nat.mul_assoc]
      have e4 : P * s = c * P + a * P + b * P := by rw [hs, Nat.mul_comm, Nat.add_mul, Nat.add_mul]
      omega
    have hend : ∃ z : List Nat × Nat, z = (s % 256 :: L, s / 256) ∧ (z.1.length ≤ n ∧ (∀ d ∈ z.1, d < 256) ∧ z.2 ≤ 1 ∧ valD 256 z.1.reverse + z.2 * 256 ^ z.1.length = valD 256 ((lebs A).take z.1.length) + valD 256 ((lebs C).take z.1.length)) ∧ n - z.1.length < n - L.length :=
      ⟨_, rfl, ⟨by simp; omega, fun d hd => by
        rcases List.mem_cons.1 hd with rfl | hd
        · exact Nat.mod_lt _ (by decide)
        · exact hLd d hd, by simp only; omega, by simpa using hnew⟩, by simp; omega⟩
    obtain ⟨z, hz, hz1, hz2⟩ := hend; subst hz; by_cases hA1 : L.length + 1 ≤ A.length
    · have eA := eA hA1
      by_cases hC1 : L.length + 1 ≤ C.length
      · have eC := eC hC1
        have es : (c : Int) + (a : Int) + (b : Int) = (s : Int) := by omega
        simp -implicitDefEqProofs only [hlt', hA1, hC1, eA, eC, hwa, hwb, es, hw8, hsd, eik, hset, go_sem]; refine ⟨by simp only [InR]; omega, ⟨by omega, by omega⟩, by simp only [InR]; omega, by simp only [InR]; omega, ⟨by omega, by omega⟩, by simp only [InR]; omega, by simp only [InR]; omega, ?_⟩; exact ⟨⟨by omega, by omega⟩, ⟨by omega, rfl⟩, ⟨by decide, by decide⟩, by simp only [InR]; omega, _, ⟨⟨rfl, by simp⟩, .inl rfl⟩, hz1, hz2⟩
      · have zC := zC hC1
        have es : (c : Int) + (a : Int) = (s : Int) := by omega
        simp -implicitDefEqProofs only [hlt', hA1, hC1, eA, hwa, es, hw8, hsd, eik, hset, go_sem]; refine ⟨by simp only [InR]; omega, ⟨by omega, by omega⟩, by simp only [InR]; omega, by simp only [InR]; omega, ?_⟩; exact ⟨⟨by omega, by omega⟩, ⟨by omega, rfl⟩, ⟨by decide, by decide⟩, by simp only [InR]; omega, _, ⟨⟨rfl, by simp⟩, .inl rfl⟩, hz1, hz2⟩
    · have zA := zA hA1
      by_cases hC1 : L.length + 1 ≤ C.length
      · have eC := eC hC1
        have es : (c : Int) + (b : Int) = (s : Int) := by omega
        simp -implicitDefEqProofs only [hlt', hA1, hC1, eC, hwb, es, hw8, hsd, eik, hset, go_sem]; refine ⟨by simp only [InR]; omega, ⟨by omega, by omega⟩, by simp only [InR]; omega, by simp only [InR]; omega, ?_⟩; exact ⟨⟨by omega, by omega⟩, ⟨by omega, rfl⟩, ⟨by decide, by decide⟩, by simp only [InR]; omega, _, ⟨⟨rfl, by simp⟩, .inl rfl⟩, hz1, hz2⟩
      · have zC := zC hC1
        have es : (c : Int) = (s : Int) := by omega
        simp -implicitDefEqProofs only [hlt', hA1, hC1, es, hw8, hsd, eik, hset, go_sem]; refine ⟨by simp only [InR]; omega, ?_⟩; exact ⟨⟨by omega, by omega⟩, ⟨by omega, rfl⟩, ⟨by decide, by decide⟩, by simp only [InR]; omega, _, ⟨⟨rfl, by simp⟩, .inl rfl⟩, hz1, hz2⟩
  · have hLn : L.length = n := by omega
    have hlt' : ¬ ((L.length + 1 : Nat) : Int) ≤ (n : Int) := by omega
    have hz1 : valD 256 L.reverse + c * 256 ^ n = beN A + beN C := by
      rw [hLn, List.take_of_length_le (by rw [Z1t]; omega), List.take_of_length_le (by rw [Z1t]; omega)] at hv; rw [Z1g, Z1g]; exact hv
    have hAl := Z6x _ A rfl; have hCl := Z6x _ C rfl; have p1 : 256 ^ A.length ≤ 256 ^ (n - 1) := Nat.pow_le_pow_right (by decide) (by omega); have p2 : 256 ^ C.length ≤ 256 ^ (n - 1) := Nat.pow_le_pow_right (by decide) (by omega); have p3 : 256 ^ n = 256 ^ (n - 1) * 256 := by rw [← Nat.pow_succ]; congr 1; omega
    have hc0 : c = 0 := by
      rcases (by omega : c = 0 ∨ c = 1) with h | h
      · exact h
      · exfalso
        subst h; omega
    have hval : beN (L.map UInt8.ofNat) = beN A + beN C := by
      rw [Z7k L hLd]; rw [hc0] at hz1; omega
    have hrow : Z3o n L = L.map u8d := by unfold Z3o; rw [hLn, Nat.sub_self]; rfl
    have e113 := q113 (L.map UInt8.ofNat) (by simp; omega); rw [hval] at e113; simp -implicitDefEqProofs only [hlt', hrow, go_sem]; refine AWp.seq (Wd [] ?_); simp -implicitDefEqProofs only [go_sem]; have hmap : L.map u8d = (L.map UInt8.ofNat).map u8V := by
      rw [List.map_map]; refine List.map_congr_left fun d hd => ?_
      have := hLd d hd; show PV.int .u8 (d : Int) = PV.int .u8 ((UInt8.ofNat d).toNat : Int); rw [UInt8.toNat_ofNat', Nat.mod_eq_of_lt this]
    refine ⟨⟨5, rfl, rfl⟩, _, hmap, Z0 e113 (.pures rfl) ?_⟩; simp -implicitDefEqProofs only [go_sem]; refine Wd [] ?_; simp -implicitDefEqProofs only [go_sem]

theorem q209 (A C : List UInt8) (hA : A.length ≤ 1000) (hC : C.length ≤ A.length) (hle : beN C ≤ beN A) : PFn Tryz.prog 209 [.str A, .str C] [.str (magB (beN A - beN C))] := by
  obtain ⟨n, hn⟩ : ∃ n, n = A.length := ⟨_, rfl⟩; refine PFn.of_body hΓ Tryz.func209 (by kernel_rfl) rfl (AWp.seq (Wd [] ?_)); simp -implicitDefEqProofs only [Tryz.ntmps209, Tryz.results209, Nat.reduceAdd, Nat.reduceSub, go_sem]; refine AWp.seq (Wd [] ?_); simp -implicitDefEqProofs only [Int.toNat_natCast, go_sem]; refine ⟨⟨by omega, by omega⟩, ?_⟩; refine AWp.seq (Wd [] ?_); simp -implicitDefEqProofs only [go_sem]; refine AWp.seq (AWp.seq (Wd [] ?_)); simp -implicitDefEqProofs only [go_sem]; refine AWp.block ?_
  refine AWp.loopI (fun z : List Nat × Nat => ⟨mkF 55 [(0, .p (.str A)), (1, .p (.str C)), (5, .own 0 n), (6, .p (.int .i64 z.2)), (7, .p (.int .i64 (z.1.length + 1 : Nat)))], [.row 5 1 (Z3o n z.1) .own]⟩)
    (fun z => z.1.length ≤ n ∧ (∀ d ∈ z.1, d < 256) ∧ z.2 ≤ 1 ∧ valD 256 z.1.reverse + valD 256 ((lebs C).take z.1.length) = valD 256 ((lebs A).take z.1.length) + z.2 * 256 ^ z.1.length) (fun z => n - z.1.length) ([], 0) (by
      rw [hn]; simp [go_sem, Z3o, u8d]) ⟨by simp, by simp, by simp, by simp [valD]⟩ ?_
  rintro ⟨L, c⟩ ⟨hL, hLd, hc, hv⟩; simp only at hL hLd hc hv; simp -implicitDefEqProofs only [go_sem]; refine Wd [] ?_; by_cases hlt : L.length < n
  · have hlt' : ((L.length + 1 : Nat) : Int) ≤ (A.length : Int) := by omega
    obtain ⟨a, ha⟩ : ∃ a, a = (lebs A).getD L.length 0 := ⟨_, rfl⟩; obtain ⟨b, hb⟩ : ∃ b, b = (lebs C).getD L.length 0 := ⟨_, rfl⟩; have ha256 : a < 256 := by rw [ha]; exact Z2y _ _
    have hb256 : b < 256 := by rw [hb]; exact Z2y _ _
    have hwa : IntKind.i64.wrap (a : Int) = a := InR.wrap (k := .i64) (by simp only [InR]; omega); have hwb : IntKind.i64.wrap (b : Int) = b := InR.wrap (k := .i64) (by simp only [InR]; omega); have eA : ((A.getD (n - (L.length + 1)) 0).toNat : Nat) = a := by
      rw [ha, Z3c (by omega)]; congr 2; omega
    have eC : ∀ h : L.length + 1 ≤ C.length, ((C.getD ((C.length : Int) - ((L.length + 1 : Nat) : Int)).toNat 0).toNat : Nat) = b := fun h => by
      rw [hb, Z3c (by omega)]; congr 2; omega
    have zC : ¬ L.length + 1 ≤ C.length → b = 0 := fun h => by rw [hb]; exact Zan (by omega)
    have eik : ((A.length : Int) - ((L.length + 1 : Nat) : Int)).toNat = n - (L.length + 1) := by omega
    obtain ⟨d, e, hd256, he1, hde⟩ : ∃ d e : Nat, d < 256 ∧ e ≤ 1 ∧ d + c + b = a + e * 256 := by
      by_cases h : a < c + b
      · exact ⟨a + 256 - c - b, 1, by omega, by omega, by omega⟩
      · exact ⟨a - c - b, 0, by omega, by omega, by omega⟩
    have hw8 : IntKind.u8.wrap (d : Int) = d := InR.wrap (k := .u8) (by simp only [InR]; omega); have hset : (Z3o n L).set (n - (L.length + 1)) (.int .u8 (d : Int)) = Z3o n (d :: L) := Zb8 hlt; have hlen := Zb9 hL; have hnew : valD 256 (d :: L).reverse + valD 256 ((lebs C).take (L.length + 1)) = valD 256 ((lebs A).take (L.length + 1)) + e * 256 ^ (L.length + 1) := by
      rw [Zj, Zj, ← ha, ← hb, List.reverse_cons, Zi, List.length_reverse, Nat.pow_succ]; have e1 : valD 256 [d] = d := by simp [valD]
      rw [e1]; generalize 256 ^ L.length = P at *; have e4 : P * d + c * P + b * P = a * P + e * (P * 256) := by
        have := congrArg (· * P) hde; simp only [Nat.add_mul] at this; rw [Nat.mul_comm P d, show e * (P * 256) = e * 256 * P by rw [Nat.mul_comm P 256, Nat.mul_assoc]]; exact this
      omega
    have hend : ∃ z : List Nat × Nat, z = (d :: L, e) ∧ (z.1.length ≤ n ∧ (∀ d ∈ z.1, d < 256) ∧ z.2 ≤ 1 ∧ valD 256 z.1.reverse + valD 256 ((lebs C).take z.1.length) = valD 256 ((lebs A).take z.1.length) + z.2 * 256 ^ z.1.length) ∧ n - z.1.length < n - L.length :=
      ⟨_, rfl, ⟨by simp; omega, fun x hx => by
        rcases List.mem_cons.1 hx with rfl | hx
        · exact hd256
        · exact hLd x hx, he1, by simpa using hnew⟩, by simp; omega⟩
    obtain ⟨z, hz, hz1, hz2⟩ := hend; subst hz; by_cases hC1 : L.length + 1 ≤ C.length
    · have eC := eC hC1
      have hC1' : ((L.length + 1 : Nat) : Int) ≤ (C.length : Int) := by omega
      rcases (by omega : e = 0 ∨ e = 1) with h | h
      · subst h
        have es : (a : Int) - (c : Int) - (b : Int) = (d : Int) := by omega
        have es0 : ¬ (d : Int) < 0 := by omega
        simp -implicitDefEqProofs only [hlt', hC1, hC1', eA, eC, hwa, hwb, es, es0, hw8, eik, hset, go_sem]; exact ⟨by simp only [InR]; omega, ⟨by omega, by omega⟩, by simp only [InR]; omega, by simp only [InR]; omega, ⟨by omega, by omega⟩, by simp only [InR]; omega, by simp only [InR]; omega, ⟨by omega, by omega⟩, ⟨by omega, rfl⟩, by simp only [InR]; omega, _, ⟨⟨rfl, by simp⟩, .inl rfl⟩, hz1, hz2⟩
      · subst h
        have es : (a : Int) - (c : Int) - (b : Int) + 256 = (d : Int) := by omega
        have es0 : (a : Int) - (c : Int) - (b : Int) < 0 := by omega
        simp -implicitDefEqProofs only [hlt', hC1, hC1', eA, eC, hwa, hwb, es, es0, hw8, eik, hset, go_sem]; exact ⟨by simp only [InR]; omega, ⟨by omega, by omega⟩, by simp only [InR]; omega, by simp only [InR]; omega, ⟨by omega, by omega⟩, by simp only [InR]; omega, by simp only [InR]; omega, by simp only [InR]; omega, ⟨by omega, by omega⟩, ⟨by omega, rfl⟩, by simp only [InR]; omega, _, ⟨⟨rfl, by simp⟩, .inl rfl⟩, hz1, hz2⟩
    · have zC := zC hC1
      have hC1' : ¬ ((L.length + 1 : Nat) : Int) ≤ (C.length : Int) := by omega
      rcases (by omega : e = 0 ∨ e = 1) with h | h
      · subst h
        have es : (a : Int) - (c : Int) = (d : Int) := by omega
        have es0 : ¬ (d : Int) < 0 := by omega
        simp -implicitDefEqProofs only [hlt', hC1, hC1', eA, hwa, es, es0, hw8, eik, hset, go_sem]; exact ⟨by simp only [InR]; omega, ⟨by omega, by omega⟩, by simp only [InR]; omega, by simp only [InR]; omega, ⟨by omega, by omega⟩, ⟨by omega, rfl⟩, by simp only [InR]; omega, _, ⟨⟨rfl, by simp⟩, .inl rfl⟩, hz1, hz2⟩
      · subst h
        have es : (a : Int) - (c : Int) + 256 = (d : Int) := by omega
        have es0 : (a : Int) - (c : Int) < 0 := by omega
        simp -implicitDefEqProofs only [hlt', hC1, hC1', eA, hwa, es, es0, hw8, eik, hset, go_sem]; exact ⟨by simp only [InR]; omega, ⟨by omega, by omega⟩, by simp only [InR]; omega, by simp only [InR]; omega, by simp only [InR]; omega, ⟨by omega, by omega⟩, ⟨by omega, rfl⟩, by simp only [InR]; omega, _, ⟨⟨rfl, by simp⟩, .inl rfl⟩, hz1, hz2⟩
  · have hLn : L.length = n := by omega
    have hlt' : ¬ ((L.length + 1 : Nat) : Int) ≤ (A.length : Int) := by omega
    have hz1 : valD 256 L.reverse + beN C = beN A + c * 256 ^ n := by
      rw [hLn, List.take_of_length_le (by rw [Z1t]; omega), List.take_of_length_le (by rw [Z1t]; omega)] at hv; rw [Z1g, Z1g]; exact hv
    have hlv : valD 256 L.reverse < 256 ^ n := by
      rw [← Z7k L hLd]; exact Z6x _ _ (by simp [hLn])
    have hval : beN (L.map UInt8.ofNat) = beN A - beN C := by
      rw [Z7k L hLd]; rcases (by omega : c = 0 ∨ c = 1) with h | h
      · subst h; omega
      · subst h; omega
    have hrow : Z3o n L = L.map u8d := by unfold Z3o; rw [hLn, Nat.sub_self]; rfl
    have e113 := q113 (L.map UInt8.ofNat) (by simp; omega); rw [hval] at e113; simp -implicitDefEqProofs only [hlt', hrow, go_sem]; refine AWp.seq (Wd [] ?_); simp -implicitDefEqProofs only [go_sem]; have hmap : L.map u8d = (L.map UInt8.ofNat).map u8V := by
      rw [List.map_map]; refine List.map_congr_left fun d hd => ?_
      have := hLd d hd; show PV.int .u8 (d : Int) = PV.int .u8 ((UInt8.ofNat d).toNat : Int); rw [UInt8.toNat_ofNat', Nat.mod_eq_of_lt this]
    refine ⟨⟨5, rfl, rfl⟩, _, hmap, Z0 e113 (.pures rfl) ?_⟩; simp -implicitDefEqProofs only [go_sem]; refine Wd [] ?_; simp -implicitDefEqProofs only [go_sem]

def revR (l : List Nat) : List PV := l.reverse.map Kn.nV
theorem Z5i (l : List Nat) : (revR l).length = l.length := by unfold revR; simp
theorem Zeb {l : List Nat} {j i : Nat} (hj : j < l.length) (hi : i = l.length - 1 - j) : (revR l).getD i default = .int .i64 ((l.getD j 0 : Nat) : Int) := by
  subst hi; unfold revR; rw [List.getD_eq_getElem?_getD, List.getElem?_map, List.getElem?_reverse (by omega), List.getD_eq_getElem?_getD, show l.length - 1 - (l.length - 1 - j) = j by omega, List.getElem?_eq_getElem hj]; rfl
theorem Zea {l : List Nat} {j i v : Nat} (hj : j < l.length) (hi : i = l.length - 1 - j) : (revR l).set i (.int .i64 (v : Int)) = revR (l.set j v) := by
  subst hi; unfold revR; rw [show (PV.int .i64 (v : Int)) = Kn.nV v from rfl, ← List.map_set]
  congr 1
  refine List.ext_getElem? fun k => ?_
  rw [List.getElem?_set]; by_cases hk : k < l.length
  · have e1 : (l.set j v).reverse[k]? = (l.set j v)[(l.set j v).length - 1 - k]? := List.getElem?_reverse (by simpa using hk)
    rw [e1, List.getElem?_reverse hk, List.length_set, List.getElem?_set]; by_cases h : l.length - 1 - j = k
    · rw [if_pos h, if_pos (by simp; omega), if_pos (by omega), if_pos (by omega)]
    · rw [if_neg h, if_neg (by omega)]
  · rw [List.getElem?_eq_none (by simp; omega), List.getElem?_eq_none (l := (l.set j v).reverse) (by simp; omega), List.length_reverse]
    by_cases h : l.length - 1 - j = k
    · exact absurd h (by omega)
    · rw [if_neg h]
theorem Zlf {o : List Nat} {i : Nat} {r : List Nat} {z : Nat} (h : i + r.length < o.length) : (mulR o i r z).getD (i + r.length) 0 = o.getD (i + r.length) 0 := by
  have hl : (o.take i ++ r).length = i + r.length := by simp; omega
  unfold mulR; rw [List.getD_eq_getElem?_getD, List.append_assoc, List.getElem?_append_right (by omega), hl, Nat.sub_self, List.drop_eq_getElem_cons h, List.getD_eq_getElem?_getD, List.getElem?_eq_getElem h]; rfl
theorem Zle {o : List Nat} {i : Nat} {r : List Nat} {z v : Nat} (h : i + r.length < o.length) : (mulR o i r z).set (i + r.length) v = mulR o i (r ++ [v]) z := by
  have hl : (o.take i ++ r).length = i + r.length := by simp; omega
  unfold mulR; rw [List.append_assoc (o.take i ++ r), List.set_append_right _ _ (by omega), hl, Nat.sub_self, List.drop_eq_getElem_cons h]; simp [Nat.add_assoc]
theorem Zlg {o : List Nat} {i : Nat} {r : List Nat} {z v : Nat} (h : i + r.length = o.length) : (mulR o i r (z + 1)).set (i + r.length) v = (o.take i ++ r ++ [v]) ++ List.replicate z 0 := by
  have hl : (o.take i ++ r).length = i + r.length := by simp; omega
  unfold mulR; rw [h, List.drop_length, List.append_nil, ← h, List.set_append_right _ _ (by omega), hl, Nat.sub_self, List.replicate_succ]; simp
theorem Zhv {o : List Nat} {i : Nat} {r : List Nat} {z : Nat} (h : i + r.length = o.length) : (mulR o i r (z + 1)).getD (i + r.length) 0 = 0 := by
  have hl : (o.take i ++ r).length = i + r.length := by simp; omega
  unfold mulR; rw [h, List.drop_length, List.append_nil, ← h, List.getD_eq_getElem?_getD, List.getElem?_append_right (by omega), hl, Nat.sub_self, List.replicate_succ]
  rfl
theorem Zvn (s : Nat) (hs : s < 9223372036854775808) : Z28 .and .i64 (s : Int) 255 = ((s % 256 : Nat) : Int) := by
  have e : (BitVec.ofInt 64 (s : Int) &&& BitVec.ofInt 64 255).toNat = s % 256 := by
    have h255 : BitVec.ofInt 64 255 = BitVec.ofNat 64 255 := by decide
    rw [h255, BitVec.toNat_and, BitVec.ofInt_natCast, BitVec.toNat_ofNat, BitVec.toNat_ofNat, Nat.mod_eq_of_lt (by omega : s < 2 ^ 64)]; have := Nat.and_two_pow_sub_one_eq_mod s 8; have e8 : 255 % 2 ^ 64 = 2 ^ 8 - 1 := by decide
    rw [e8, this]
  show IntKind.wrap .i64 ((BitVec.ofInt 64 (s : Int) &&& BitVec.ofInt 64 255).toNat : Nat) = _; rw [e]; exact AM.InR.wrap (k := .i64) (by simp only [AM.InR]; omega)

def Z3i (n : Nat) (L : List Nat) : List PV := (L ++ List.replicate (n - L.length) 0).map u8d
theorem Zc6 {n : Nat} {L : List Nat} (h : L.length ≤ n) : (Z3i n L).length = n := by unfold Z3i; simp; omega
theorem Zc5 {n d : Nat} {L : List Nat} (h : L.length < n) : (Z3i n L).set L.length (u8d d) = Z3i n (L ++ [d]) := by
  unfold Z3i; obtain ⟨z, hz⟩ : ∃ z, n - L.length = z + 1 := ⟨n - L.length - 1, by omega⟩; have hz2 : n - (L ++ [d]).length = z := by simp; omega
  rw [hz2, hz, List.replicate_succ, List.map_append, List.map_append, List.set_append_right _ _ (by simp)]; simp

theorem q108 (A C : List UInt8) (hA : A.length ≤ 1000) (hC : C.length ≤ 1000) : PFn Tryz.prog 210 [.str A, .str C] [.str (magB (beN A * beN C))] := by
  obtain ⟨la, hla⟩ : ∃ n, n = A.length := ⟨_, rfl⟩; obtain ⟨lb, hlb⟩ : ∃ n, n = C.length := ⟨_, rfl⟩; have hx : ∀ d ∈ lebs A, d < 256 := Z6e A; have hy : ∀ d ∈ lebs C, d < 256 := Z6e C; have lx : (lebs A).length = la := by rw [Z1t, hla]
  have ly : (lebs C).length = lb := by rw [Z1t, hlb]
  have eL : ((la : Int) + (lb : Int)).toNat = la + lb := by omega
  refine PFn.of_body hΓ Tryz.func210 (by kernel_rfl) rfl (AWp.seq (Wd [] ?_)); simp -implicitDefEqProofs only [Tryz.ntmps210, Tryz.results210, Nat.reduceAdd, Nat.reduceSub, go_sem]; refine AWp.seq (Wd [] ?_); simp -implicitDefEqProofs only [← hla, ← hlb, eL, go_sem]; refine ⟨by simp only [InR]; omega, ⟨by omega, by omega, by omega⟩, ?_⟩; refine AWp.seq (AWp.seq (Wd [] ?_)); simp -implicitDefEqProofs only [← hla, ← hlb, go_sem]; refine ⟨by simp only [InR]; omega, ?_⟩; refine AWp.block ?_
  refine AWp.loopI (fun z : Nat × List Nat => ⟨mkF 87 [(0, .p (.str A)), (1, .p (.str C)), (5, .own 0 (la + lb)), (6, .p (.int .i64 ((la : Int) - 1 - z.1)))], [.row 3 1 (revR (z.2 ++ List.replicate (la - z.1) 0)) .own]⟩)
    (fun z => z.1 ≤ la ∧ z.2.length = z.1 + lb ∧ (∀ d ∈ z.2, d < 256) ∧ valD 256 z.2 = valD 256 ((lebs A).take z.1) * valD 256 (lebs C)) (fun z => la - z.1) (0, List.replicate lb 0) (by
      simp [go_sem, revR, Kn.nV, List.replicate_append_replicate, Nat.add_comm]) ⟨by simp, by simp, fun d hd => by rw [List.eq_of_mem_replicate hd]; decide, by simp [valD, Z96]⟩ ?_
  rintro ⟨p, o⟩ ⟨hi, ho, hod, hval⟩; simp only at hi ho hod hval; refine Wd [(9, 19)] ?_; by_cases hlt : p < la
  · have hge : (0 : Int) ≤ (la : Int) - 1 - (p : Int) := by omega
    have ta := Zj (l := lebs A) 256 p; have gA : (A.getD ((la : Int) - 1 - (p : Int)).toNat 0).toNat = (lebs A).getD p 0 := by
      rw [Z3c (by omega)]; congr 2; omega
    have da : (lebs A).getD p 0 < 256 := Z2y _ _; generalize (lebs A).getD p 0 = a at *; have hwa : IntKind.i64.wrap (a : Int) = a := InR.wrap (k := .i64) (by simp only [InR]; omega); simp -implicitDefEqProofs only [hge, ← hla, ← hlb, go_sem]; refine ⟨by simp only [InR]; omega, ?_⟩
    refine AWp.loopI (fun z : List Nat × Nat => ⟨mkF 87 [(0, .p (.str A)), (1, .p (.str C)), (5, .own 0 (la + lb)), (6, .p (.int .i64 ((la : Int) - 1 - p))), (7, .p (.int .i64 z.2)), (8, .p (.int .i64 ((lb : Int) - 1 - (z.1.length : Int))))], [.row 3 1 (revR (mulR o p z.1 (la - p))) .own]⟩)
      (fun z => z.1.length ≤ lb ∧ (∀ d ∈ z.1, d < 256) ∧ z.2 < 256 ∧ valD 256 z.1 + z.2 * 256 ^ z.1.length = valD 256 ((o.drop p).take z.1.length) + a * valD 256 ((lebs C).take z.1.length)) (fun z => lb - z.1.length) ([], 0) (by
        simp [go_sem, Z7a]) ⟨by simp, by simp, by decide, by simp [valD]⟩ ?_
    rintro ⟨r, c⟩ ⟨hr, hrd, hc, hv⟩; simp only at hr hrd hc hv; refine Wd [(9, 19)] ?_; by_cases hlt2 : r.length < lb
    · have hge2 : (0 : Int) ≤ (lb : Int) - 1 - (r.length : Int) := by omega
      have tc := Zj (l := lebs C) 256 r.length; have gC : (C.getD ((lb : Int) - 1 - (r.length : Int)).toNat 0).toNat = (lebs C).getD r.length 0 := by
        rw [Z3c (by omega)]; congr 2; omega
      have dc : (lebs C).getD r.length 0 < 256 := Z2y _ _; have hio : p + r.length < o.length := by omega
      have to := Zj (l := o.drop p) 256 r.length; have hgo2 : (o.drop p).getD r.length 0 = o.getD (p + r.length) 0 := by
        rw [List.getD_eq_getElem?_getD, List.getElem?_drop, List.getD_eq_getElem?_getD]
      have hlen := Z1k (z := la - p) (Nat.le_of_lt hio); have hgo : (revR (mulR o p r (la - p))).getD ((la : Int) - 1 - (p : Int) + ((lb : Int) - 1 - (r.length : Int)) + 1).toNat default = .int .i64 ((o.getD (p + r.length) 0 : Nat) : Int) := by
        rw [Zeb (j := p + r.length) (by rw [hlen]; omega) (by rw [hlen]; omega), Zlf hio]
      have dO : o.getD (p + r.length) 0 < 256 := by
        rw [List.getD_eq_getElem?_getD, List.getElem?_eq_getElem hio, Option.getD_some]; exact hod _ (List.getElem_mem hio)
      rw [hgo2] at to; generalize (lebs C).getD r.length 0 = b at *; generalize hqv : o.getD (p + r.length) 0 = qv at *; have hab : a * b ≤ 255 * 255 := Nat.mul_le_mul (by omega) (by omega); obtain ⟨ab, habE⟩ : ∃ ab, ab = a * b := ⟨_, rfl⟩; rw [← habE] at hab; have habI : (a : Int) * (b : Int) = (ab : Int) := by rw [habE]; simp
      have hwb : IntKind.i64.wrap (b : Int) = b := InR.wrap (k := .i64) (by simp only [InR]; omega); obtain ⟨s, hs⟩ : ∃ s, s = c + (qv + ab) := ⟨_, rfl⟩; have hsI : (c : Int) + ((qv : Int) + (ab : Int)) = (s : Int) := by omega
      have hsd : (s : Int) / 2 ^ Int.toNat 8 = ((s / 256 : Nat) : Int) := by
        have : (2 : Int) ^ Int.toNat 8 = ((256 : Nat) : Int) := rfl; rw [this, Int.natCast_ediv]
      have h255 := Zvn s (by omega); have hset : (revR (mulR o p r (la - p))).set ((la : Int) - 1 - (p : Int) + ((lb : Int) - 1 - (r.length : Int)) + 1).toNat (.int .i64 ((s % 256 : Nat) : Int)) = revR (mulR o p (r ++ [s % 256]) (la - p)) := by
        rw [Zea (j := p + r.length) (by rw [hlen]; omega) (by rw [hlen]; omega), Zle hio]
      simp -implicitDefEqProofs only [hge2, gA, gC, hwa, hwb, habI, hgo, hsI, h255, hsd, hset, ← hla, ← hlb, Z5i, hlen, go_sem]; have hvv : valD 256 (r ++ [s % 256]) + s / 256 * 256 ^ (r.length + 1) = valD 256 ((o.drop p).take (r.length + 1)) + a * valD 256 ((lebs C).take (r.length + 1)) := by
        rw [to, tc, Zi, Nat.pow_succ]; have e1 : valD 256 [s % 256] = s % 256 := by simp [valD]
        rw [e1]; have e2 : s % 256 + 256 * (s / 256) = s := Nat.mod_add_div s 256; generalize hP : 256 ^ r.length = P at *; have e3 : P * (s % 256) + s / 256 * (P * 256) = P * s := by
          conv => rhs; rw [← e2, Nat.mul_add]
          rw [Nat.mul_comm (s / 256), Nat.mul_assoc]
        have e4 : P * s = c * P + (qv * P + ab * P) := by rw [hs, Nat.mul_comm, Nat.add_mul, Nat.add_mul]
        have e5 : a * (valD 256 ((lebs C).take r.length) + b * P) = a * valD 256 ((lebs C).take r.length) + ab * P := by rw [Nat.mul_add, habE, Nat.mul_assoc]
        omega
      have hcb : s / 256 < 256 := by omega
      refine ⟨by simp only [InR]; omega, by simp only [InR]; omega, ⟨by omega, by omega⟩, by omega, ⟨by omega, by omega⟩, by omega, by simp only [InR]; omega, by simp only [InR]; omega, by simp only [InR]; omega, by simp only [InR]; omega, by simp only [InR]; omega, ⟨by omega, by omega⟩, ⟨by omega, rfl⟩, ⟨by decide, by decide⟩, by simp only [InR]; omega,
        (r ++ [s % 256], s / 256), ⟨⟨rfl, by simp; omega⟩, .inl rfl⟩, ⟨by simp; omega, fun d hd => ?_, hcb, by simpa using hvv⟩, by simp; omega⟩
      rcases List.mem_append.1 hd with hd | hd
      · exact hrd d hd
      · rw [List.mem_singleton] at hd; subst hd; exact Nat.mod_lt _ (by decide)
    · have hrn : r.length = lb := by omega
      have hz : ¬ (0 : Int) ≤ (lb : Int) - 1 - (r.length : Int) := by omega
      have hpo : p + r.length = o.length := by omega
      have hlen := Z1k (z := la - p) (Nat.le_of_eq hpo); have hld : (revR (mulR o p r (la - p))).getD ((la : Int) - 1 - (p : Int)).toNat default = .int .i64 ((0 : Nat) : Int) := by
        rw [Zeb (j := p + r.length) (by rw [hlen]; omega) (by rw [hlen]; omega)]; have := Zhv (o := o) (i := p) (r := r) (z := la - (p + 1)) hpo; rw [show la - (p + 1) + 1 = la - p by omega] at this; rw [this]
      have hset : (revR (mulR o p r (la - p))).set ((la : Int) - 1 - (p : Int)).toNat (.int .i64 (c : Int)) = revR ((o.take p ++ r ++ [c]) ++ List.replicate (la - (p + 1)) 0) := by
        rw [Zea (j := p + r.length) (by rw [hlen]; omega) (by rw [hlen]; omega)]; have := Zlg (o := o) (i := p) (r := r) (z := la - (p + 1)) (v := c) hpo; rw [show la - (p + 1) + 1 = la - p by omega] at this; rw [this]
      rw [hrn] at hv; have hvt : (o.drop p).take lb = o.drop p := List.take_of_length_le (by simp; omega); rw [hvt, List.take_of_length_le (by omega : (lebs C).length ≤ lb)] at hv; have hvo := Z2v 256 p o; have htl : (o.take p).length = p := by simp; omega
      rw [htl] at hvo; have hvn : valD 256 (o.take p ++ r ++ [c]) = valD 256 ((lebs A).take (p + 1)) * valD 256 (lebs C) := by
        rw [Zi, Zi, htl, ta]; have e1 : valD 256 [c] = c := by simp [valD]
        have e2 : (o.take p ++ r).length = p + lb := by simp [htl, hrn]
        rw [e1, e2, Nat.pow_add]; generalize 256 ^ p = P at *; generalize 256 ^ lb = Q at *; have e3 : P * (valD 256 r + c * Q) = P * (valD 256 (o.drop p) + a * valD 256 (lebs C)) := by rw [hv]
        rw [Nat.mul_add, Nat.mul_add] at e3; have e4 : P * Q * c = P * (c * Q) := by rw [Nat.mul_assoc, Nat.mul_comm Q]
        have e5 : (valD 256 ((lebs A).take p) + a * P) * valD 256 (lebs C) = valD 256 ((lebs A).take p) * valD 256 (lebs C) + P * (a * valD 256 (lebs C)) := by
          rw [Nat.add_mul, Nat.mul_comm a P, Nat.mul_assoc]
        rw [e4, e5, ← hval]; omega
      have h0c : ((0 : Nat) : Int) + (c : Int) = (c : Int) := by omega
      simp -implicitDefEqProofs only [hz, hld, h0c, hset, Z5i, hlen, ← hla, ← hlb, go_sem]; refine ⟨⟨by omega, by omega⟩, by omega, by simp only [InR]; omega, ⟨by omega, by omega⟩, ⟨by omega, rfl⟩, by simp only [InR]; omega, (p + 1, o.take p ++ r ++ [c]), ⟨by simp only; omega, .inl rfl⟩, ⟨hlt, by simp [htl, hrn]; omega, fun d hd => ?_, hvn⟩, by simp only; omega⟩; rcases List.mem_append.1 hd with hd | hd
      · rcases List.mem_append.1 hd with hd | hd
        · exact hod d (List.mem_of_mem_take hd)
        · exact hrd d hd
      · rw [List.mem_singleton] at hd; subst hd; exact hc
  · have hpn : p = la := by omega
    have hz : ¬ (0 : Int) ≤ (la : Int) - 1 - (p : Int) := by omega
    have hrow : o ++ List.replicate (la - p) 0 = o := by rw [hpn]; simp
    rw [hpn, List.take_of_length_le (by omega : (lebs A).length ≤ la)] at hval; have hol : o.length = la + lb := by omega
    rw [hrow]; simp -implicitDefEqProofs only [hz, ← hla, ← hlb, go_sem]; refine AWp.seq (Wd [] ?_); simp -implicitDefEqProofs only [Z5i, hol, Int.toNat_natCast, go_sem]; refine ⟨⟨by omega, by omega⟩, ?_⟩; refine AWp.seq (AWp.seq (Wd [] ?_)); simp -implicitDefEqProofs only [go_sem]; refine AWp.block ?_; obtain ⟨n, hn⟩ : ∃ n, n = la + lb := ⟨_, rfl⟩; rw [← hn]; rw [← hn] at hol; have hDl : o.reverse.length = n := by rw [List.length_reverse, hol]
    refine AWp.loopI (fun i : Nat => ⟨mkF 87 [(5, .own 0 n), (9, .own 1 n), (10, .p (.int .i64 i))], [.row 3 1 (revR o) .own, .row 5 1 (Z3i n (o.reverse.take i)) .own]⟩)
      (fun i => i ≤ n) (fun i => n - i) 0 (by simp [go_sem, Z3i, u8d]) (Nat.zero_le _) ?_
    intro i hin; simp -implicitDefEqProofs only [go_sem]; refine Wd [] ?_; by_cases hlt3 : i < n
    · have hlt3' : (i : Int) < (n : Int) := by omega
      have hiD : i < o.reverse.length := by omega
      have hg : (revR o).getD i default = .int .i64 ((o.reverse[i] : Nat) : Int) := Z2 _ _ _ _ hiD; have hd256 : o.reverse[i] < 256 := hod _ (List.mem_reverse.1 (List.getElem_mem hiD)); have hw8 : IntKind.u8.wrap ((o.reverse[i] : Nat) : Int) = ((o.reverse[i] : Nat) : Int) := by rw [Zmn, Nat.mod_eq_of_lt hd256]
      have htk : o.reverse.take (i + 1) = o.reverse.take i ++ [o.reverse[i]] := List.take_succ_eq_append_getElem hiD; have htl : (o.reverse.take i).length = i := by rw [List.length_take]; omega
      have hset : (Z3i n (o.reverse.take i)).set i (.int .u8 ((o.reverse[i] : Nat) : Int)) = Z3i n (o.reverse.take (i + 1)) := by
        have := Zc5 (n := n) (d := o.reverse[i]) (L := o.reverse.take i) (by omega); rw [htl] at this; rw [htk]; exact this
      have hhl := Zc6 (n := n) (L := o.reverse.take i) (by omega); simp -implicitDefEqProofs only [hlt3', hg, hw8, Int.toNat_natCast, hset, Z5i, hol, hhl, go_sem]; exact ⟨hlt3, ⟨hlt3, rfl⟩, by simp only [InR]; omega, i + 1, ⟨by omega, .inl rfl⟩, by omega, by omega⟩
    · have hin2 : i = n := by omega
      have hlt3' : ¬ (i : Int) < (n : Int) := by omega
      have hrow2 : Z3i n (o.reverse.take i) = o.reverse.map u8d := by
        rw [List.take_of_length_le (by omega)]; unfold Z3i; rw [hDl, Nat.sub_self]; simp
      have hod2 : ∀ d ∈ o.reverse, d < 256 := fun d hd => hod d (List.mem_reverse.1 hd)
      have hval2 : beN (o.reverse.map UInt8.ofNat) = beN A * beN C := by
        rw [Z7k _ hod2, List.reverse_reverse, hval, Z1g, Z1g]; rfl
      have e113 := q113 (o.reverse.map UInt8.ofNat) (by simp; omega); rw [hval2] at e113; have hmap : o.reverse.map u8d = (o.reverse.map UInt8.ofNat).map u8V := by
        rw [List.map_map]; refine List.map_congr_left fun d hd => ?_
        have := hod2 d hd; show PV.int .u8 (d : Int) = PV.int .u8 ((UInt8.ofNat d).toNat : Int); rw [UInt8.toNat_ofNat', Nat.mod_eq_of_lt this]
      rw [hrow2]; simp -implicitDefEqProofs only [hlt3', Z5i, hol, go_sem]; refine AWp.seq (Wd [] ?_); simp -implicitDefEqProofs only [go_sem]; refine ⟨⟨5, rfl, rfl⟩, _, hmap, Z0 e113 (.pures rfl) ?_⟩; simp -implicitDefEqProofs only [go_sem]; refine Wd [] ?_; simp -implicitDefEqProofs only [go_sem]

def tms (b i : Nat) : List AV := (List.range 8).map fun k => .p (.str (if k < i then magB (b * 2 ^ k) else []))
theorem Z7s (b i : Nat) : (tms b i).length = 8 := by unfold tms; simp
theorem Zgf {b i k : Nat} (hk : k < 8) : (tms b i).getD k .junk = .p (.str (if k < i then magB (b * 2 ^ k) else [])) := by
  unfold tms; rw [List.getD_eq_getElem?_getD, List.getElem?_map, List.getElem?_range hk]
  rfl
theorem tms_get? {b i k : Nat} (hk : k < 8) : (tms b i)[k]? = some (.p (.str (if k < i then magB (b * 2 ^ k) else []))) := by
  unfold tms; rw [List.getElem?_map, List.getElem?_range hk]
  rfl
theorem Zny {b i : Nat} (hi : i < 8) : (tms b i).set i (.p (.str (magB (b * 2 ^ i)))) = tms b (i + 1) := by
  refine List.ext_getElem? fun k => ?_
  rw [List.getElem?_set]; by_cases hk : k < 8
  · rw [tms_get? (i := i + 1) hk]
    by_cases he : i = k
    · subst he
      rw [if_pos rfl, if_pos (by rw [Z7s]; exact hi), if_pos (by omega)]
    · rw [if_neg he, tms_get? hk]
      by_cases h : k < i
      · rw [if_pos h, if_pos (by omega)]
      · rw [if_neg h, if_neg (by omega)]
  · rw [List.getElem?_eq_none (l := tms b (i + 1)) (by rw [Z7s]; omega), if_neg (by omega)]
    exact List.getElem?_eq_none (by rw [Z7s]; omega)
theorem Zmg {A : List UInt8} {i : Nat} (hi : i < A.length) : beN (A.take (i + 1)) = beN (A.take i) * 256 + A[i].toNat := by
  rw [List.take_succ_eq_append_getElem hi, Z2k]
theorem Zjr (L : List Nat) (d : Nat) (hd : d < 256) : beN ((L ++ [d]).map UInt8.ofNat) = beN (L.map UInt8.ofNat) * 256 + d := by
  rw [List.map_append, List.map_cons, List.map_nil, Z2k, UInt8.toNat_ofNat', Nat.mod_eq_of_lt hd]

theorem Zi0 {n m : Nat} (h : n < 256 ^ m) : (magB n).length ≤ m := by
  apply Classical.byContradiction
  intro hn; have h1 := Zhz (n := n) (k := (magB n).length - 1) (by omega); have h2 : 256 ^ m ≤ 256 ^ ((magB n).length - 1) := Nat.pow_le_pow_right (by decide) (by omega); omega
theorem Z6m (b i : Nat) : b * 2 ^ i + b * 2 ^ i = b * 2 ^ (i + 1) := by rw [Nat.pow_succ, ← Nat.mul_assoc]; omega

theorem Zjd {x y : Nat} : 0 ≤ cmpN x y ↔ y ≤ x := by
  unfold cmpN
  split
  · omega
  · split
    · omega
    · omega

theorem q245 (a b : Nat) (ha : (magB a).length ≤ 900) (hb : (magB b).length ≤ 900) (hb0 : b ≠ 0) : PFn Tryz.prog 245 [.str (magB a), .str (magB b)] [.str (magB (a / b)), .str (magB (a % b))] := by
  obtain ⟨A, hA⟩ : ∃ A, A = magB a := ⟨_, rfl⟩; obtain ⟨n, hn⟩ : ∃ n, n = A.length := ⟨_, rfl⟩; have hAv : beN A = a := by rw [hA, Zv]
  have hml : ∀ k, k ≤ 8 → (magB (b * 2 ^ k)).length ≤ 901 := fun k hk => by
    have h0 : (magB (b * 2 ^ k)).length ≤ (magB b).length + 1 := Zi0 (by
      have h1 := Z4d b; have h2 : 2 ^ k ≤ 2 ^ 8 := Nat.pow_le_pow_right (by decide) hk; have h3 : b * 2 ^ k ≤ b * 2 ^ 8 := Nat.mul_le_mul_left _ h2; rw [Nat.pow_succ]
      omega)
    omega
  rw [← hA] at ha ⊢; refine PFn.of_body hΓ Tryz.func245 (by kernel_rfl) rfl (AWp.seq (Wd [] ?_)); simp -implicitDefEqProofs only [Tryz.ntmps245, Tryz.results245, Nat.reduceAdd, Nat.reduceSub, go_sem]; refine AWp.seq (Wd [] ?_); simp -implicitDefEqProofs only [go_sem]; refine AWp.seq (Wd [] ?_); simp -implicitDefEqProofs only [go_sem]; refine ⟨by decide, by decide, ?_⟩; refine AWp.seq (AWp.seq (Wd [] ?_)); simp -implicitDefEqProofs only [go_sem]; refine AWp.block ?_
  refine AWp.loopI (fun i : Nat => ⟨mkF 76 [(0, .p (.str A)), (1, .p (.str (magB b))), (6, .ptr 0 0), (7, .p (.int .i64 i))], [.box (tms b i)]⟩)
    (fun i => 1 ≤ i ∧ i ≤ 8) (fun i => 8 - i) 1 (by simp [go_sem, tms, List.range, List.range.loop]) (by omega) ?_
  intro i hi; refine Wd [(6, 1000)] ?_; by_cases hlt : i < 8
  · have hlt' : (i : Int) < 8 := by omega
    have hgA : (tms b i).getD (((i : Int) - 1).toNat * 1) .junk = .p (.str (magB (b * 2 ^ (i - 1)))) := by
      rw [show ((i : Int) - 1).toNat * 1 = i - 1 by omega, Zgf (by omega), if_pos (by omega)]
    have e106 := q106 (magB (b * 2 ^ (i - 1))) (magB (b * 2 ^ (i - 1))) (by have := hml (i - 1) (by omega); omega) (by have := hml (i - 1) (by omega); omega); rw [Zv, Z6m, show i - 1 + 1 = i by omega] at e106; simp -implicitDefEqProofs only [hlt', go_sem]; refine AWp.planL (.q 0 (.q 1 (.q 2 (.q 3 (.q 4 (.q 5 (.q 6 (.q 7 (.q 8 (.e 9 (.s 0 (.q 10 (.e 11 .fin .nil))) .nil)))))))))) hΓ hmix (by kernel_rfl) ?_; simp -implicitDefEqProofs only [hlt', hgA, go_sem]; have hl8 := Z7s b i; refine ⟨by simp only [InR]; omega, ⟨by omega, by omega⟩, by omega, by simp only [InR]; omega, ⟨by omega, by omega⟩, by omega, ?_⟩; refine Z0 e106 (.pures rfl) ?_; simp -implicitDefEqProofs only [Int.toNat_natCast, Nat.mul_one, Zny hlt, go_sem]; exact ⟨hlt, by omega, by simp only [InR]; omega, i + 1, ⟨by simp, rfl⟩, by omega, by omega⟩
  · have hi8 : i = 8 := by omega
    subst hi8; have hlt' : ¬ ((8 : Nat) : Int) < 8 := by omega
    simp -implicitDefEqProofs only [hlt', go_sem]; refine AWp.seq (Wd [] ?_); simp -implicitDefEqProofs only [Int.toNat_natCast, go_sem]; refine ⟨⟨by omega, by omega⟩, ?_⟩; refine AWp.seq (Wd [] ?_); simp -implicitDefEqProofs only [go_sem]; refine AWp.seq (AWp.seq (Wd [] ?_)); simp -implicitDefEqProofs only [go_sem]; refine AWp.block ?_; have hr0 : ∀ r, r < b → (magB r).length ≤ 900 := fun r h => Nat.le_trans (Nat.le_of_not_lt fun hn => by have := Z22 hn; omega) hb
    refine AWp.loopI (fun z : List Nat × Nat => ⟨mkF 76 [(0, .p (.str A)), (6, .ptr 0 0), (8, .own 1 n), (9, .p (.str (magB z.2))), (10, .p (.int .i64 z.1.length))], [.box (tms b 8), .row 5 1 (Z3i n z.1) .own]⟩)
      (fun z => z.1.length ≤ n ∧ (∀ d ∈ z.1, d < 256) ∧ z.2 < b ∧ beN (A.take z.1.length) = beN (z.1.map UInt8.ofNat) * b + z.2) (fun z => n - z.1.length) ([], 0) (by rw [hn]; simp [go_sem, Z3i, u8d, magB_zero]) ⟨by simp, by simp, by simp only; omega, by simp [beN]⟩ ?_
    rintro ⟨L, r⟩ ⟨hL, hLd, hr, hv⟩; simp only at hL hLd hr hv; refine Wd [] ?_; by_cases hlt : L.length < n
    · have hlt1 : (L.length : Int) < (A.length : Int) := by omega
      have hlA : L.length < A.length := by omega
      have hT : List.take (((L.length : Int) + 1).toNat - L.length) (A.drop L.length) = [A[L.length]] := by
        rw [show ((L.length : Int) + 1).toNat - L.length = 1 by omega, List.drop_eq_getElem_cons hlA, List.take_succ_cons, List.take_zero]
      obtain ⟨x, hx⟩ : ∃ x, x = A[L.length] := ⟨_, rfl⟩; rw [← hx] at hT; have e113 := q113 (magB r ++ [x]) (by have := hr0 r hr; simp; omega); rw [Z2k, Zv] at e113; obtain ⟨R, hR⟩ : ∃ R, R = r * 256 + x.toNat := ⟨_, rfl⟩; have hRb : R < b * 2 ^ 8 := by have := x.toNat_lt; rw [show (2 : Nat) ^ 8 = 256 from rfl]; omega
      rw [← hR] at e113; have hrl := hr0 r hr; simp -implicitDefEqProofs only [hlt1, hT, Int.toNat_natCast, go_sem]; refine ⟨by simp only [InR]; omega, ⟨by omega, by omega⟩, by omega, ?_⟩; refine Z0 e113 (.pures rfl) ?_; simp -implicitDefEqProofs only [go_sem]
      refine AWp.loopI (fun z : Nat × Nat × Nat => ⟨mkF 76 [(0, .p (.str A)), (6, .ptr 0 0), (8, .own 1 n), (9, .p (.str (magB z.2.1))), (10, .p (.int .i64 L.length)), (11, .p (.int .i64 z.1)), (12, .p (.int .i64 ((z.2.2 : Int) - 1)))], [.box (tms b 8), .row 5 1 (Z3i n L) .own]⟩)
        (fun z => z.2.2 ≤ 8 ∧ z.2.1 + z.1 * b = R ∧ z.2.1 < b * 2 ^ z.2.2 ∧ z.1 + 2 ^ z.2.2 ≤ 256) (fun z => z.2.2) (0, R, 8) (by simp [go_sem]) ⟨by simp, by simp, hRb, by simp⟩ ?_
      rintro ⟨d, ρ, j⟩ ⟨hj, hd1, hρ, hd2⟩; simp only at hj hd1 hρ hd2; refine Wd [] ?_
      cases j with
      | zero =>
        have hz : ¬ (0 : Int) ≤ ((0 : Nat) : Int) - 1 := by omega
        rw [Nat.pow_zero] at hρ hd2; have hw8 : IntKind.u8.wrap (d : Int) = d := InR.wrap (k := .u8) (by simp only [InR]; omega); have hset : (Z3i n L).set L.length (.int .u8 (d : Int)) = Z3i n (L ++ [d]) := Zc5 hlt; have hlen := Zc6 hL; have hnew : beN (A.take (L.length + 1)) = beN ((L ++ [d]).map UInt8.ofNat) * b + ρ := by
          rw [Zmg hlA, hv, Zjr L d (by omega), ← hx, Nat.add_mul, Nat.add_mul, Nat.mul_right_comm]; omega
        simp -implicitDefEqProofs only [hz, hw8, hset, go_sem]; refine ⟨hlt, ⟨by omega, rfl⟩, by simp only [InR]; omega, (L ++ [d], ρ), ⟨⟨rfl, by simp⟩, .inl rfl⟩, ⟨by simp; omega, fun y hy => ?_, by simp only; omega, by rw [List.length_append, List.length_singleton]; exact hnew⟩, by simp; omega⟩; rcases List.mem_append.1 hy with hy | hy
        · exact hLd y hy
        · rw [List.mem_singleton.1 hy]; omega
      | succ k =>
        have hk7 : (0 : Int) ≤ ((k + 1 : Nat) : Int) - 1 := by omega
        have hgk : (tms b 8).getD ((((k + 1 : Nat) : Int) - 1).toNat * 1) .junk = .p (.str (magB (b * 2 ^ k))) := by
          rw [show (((k + 1 : Nat) : Int) - 1).toNat * 1 = k by omega, Zgf (by omega), if_pos (by omega)]
        have e97 := u97 ρ (b * 2 ^ k); have hl8 := Z7s b 8; have h2k : (2 : Nat) ^ (k + 1) = 2 ^ k * 2 := Nat.pow_succ _ _; have hb2k : b * 2 ^ (k + 1) = b * 2 ^ k + b * 2 ^ k := (Z6m b k).symm; simp -implicitDefEqProofs only [hk7, hgk, go_sem]; refine ⟨by omega, by omega, ?_⟩; refine Z0 e97 (.pures rfl) ?_; by_cases hge : b * 2 ^ k ≤ ρ
        · have c1 : (0 : Int) ≤ cmpN ρ (b * 2 ^ k) := Zjd.2 hge
          have hρl : (magB ρ).length ≤ 901 := by
            have h0 : (magB ρ).length ≤ (magB b).length + 1 := Zi0 (by
              have h3 := Z4d b; rw [show (2 : Nat) ^ 8 = 256 from rfl] at hRb; rw [Nat.pow_succ]; have : d * b ≥ 0 := Nat.zero_le _
              omega)
            omega
          have e209 := q209 (magB ρ) (magB (b * 2 ^ k)) (by omega) (Nat.le_of_not_lt fun h => by have := Z22 h; omega) (by rw [Zv, Zv]; exact hge); rw [Zv, Zv] at e209; simp -implicitDefEqProofs only [c1, hgk, go_sem]; refine ⟨by omega, by omega, ?_⟩; refine Z0 e209 (.pures rfl) ?_; have hwk : IntKind.u64.wrap (((k + 1 : Nat) : Int) - 1) = (k : Int) := by
            rw [show (((k + 1 : Nat) : Int) - 1) = (k : Int) by omega]; exact InR.wrap (k := .u64) (by simp only [InR]; omega)
          have hz2 : (1 : Int) * 2 ^ k = ((2 ^ k : Nat) : Int) := by rw [Int.one_mul, Int.natCast_pow]; rfl
          have hnm : (d + 2 ^ k) * b = d * b + b * 2 ^ k := by rw [Nat.add_mul, Nat.mul_comm (2 ^ k)]
          simp -implicitDefEqProofs only [hwk, Int.toNat_natCast, hz2, go_sem]; exact ⟨⟨by omega, by simp only [InR]; omega⟩, by simp only [InR]; omega, by simp only [InR]; omega, (d + 2 ^ k, ρ - b * 2 ^ k, k), ⟨rfl, by simp only; omega, by simp only; omega⟩, ⟨by simp only; omega, by simp only; omega, by simp only; omega, by simp only; omega⟩, by simp⟩
        · have c1 : ¬ (0 : Int) ≤ cmpN ρ (b * 2 ^ k) := fun h => hge (Zjd.1 h)
          simp -implicitDefEqProofs only [c1, go_sem]; exact ⟨by simp only [InR]; omega, (d, ρ, k), ⟨by simp, by simp⟩, ⟨by simp only; omega, hd1, by simp only; omega, by simp only; omega⟩, by simp⟩
    · have hLn : L.length = n := by omega
      have hlt1 : ¬ (L.length : Int) < (A.length : Int) := by omega
      have hval : a = beN (L.map UInt8.ofNat) * b + r := by
        rw [hLn, List.take_of_length_le (by omega), hAv] at hv; exact hv
      have hdv : a / b = beN (L.map UInt8.ofNat) := by
        rw [hval, Nat.mul_comm, Nat.mul_add_div (by omega), Nat.div_eq_of_lt hr, Nat.add_zero]
      have hmd : a % b = r := by
        rw [hval, Nat.mul_comm, Nat.mul_add_mod, Nat.mod_eq_of_lt hr]
      have hrow : Z3i n L = L.map u8d := by unfold Z3i; rw [hLn, Nat.sub_self]; simp
      have e113 := q113 (L.map UInt8.ofNat) (by simp; omega); rw [← hdv] at e113; rw [hmd]; have hmap : L.map u8d = (L.map UInt8.ofNat).map u8V := by
        rw [List.map_map]; refine List.map_congr_left fun d hd => ?_
        have := hLd d hd; show PV.int .u8 (d : Int) = PV.int .u8 ((UInt8.ofNat d).toNat : Int); rw [UInt8.toNat_ofNat', Nat.mod_eq_of_lt this]
      simp -implicitDefEqProofs only [hlt1, hrow, go_sem]; refine Wd [] ?_; simp -implicitDefEqProofs only [go_sem]; refine ⟨⟨5, rfl, rfl⟩, _, hmap, Z0 e113 (.pures rfl) ?_⟩; simp -implicitDefEqProofs only [go_sem]

theorem Z2c {n : Nat} (h : (magB n).length < 8) : n < 256 ^ 7 := Nat.lt_of_lt_of_le (Z4d n) (Nat.pow_le_pow_right (by decide) (by omega))

theorem q72 (a b : Nat) (ha : a < capN) (hb : b < capN) : PFn Tryz.prog 167 [intN false a, intN false b] [intN false (a + b)] := by
  have ea := u96 a; have eb := u96 b; by_cases hs : (magB a).length < 8 ∧ (magB b).length < 8
  · have h7a := Z2c hs.1
    have h7b := Z2c hs.2; have va := u110 a h7a; have vb := u110 b h7b; have eo := u76 (a + b) (by omega); have hi : InR IntKind.i64 ((a : Int) + b) := by simp only [InR]; omega
    have la : ((magB a).length : Int) < 8 := by omega
    have lb : ((magB b).length : Int) < 8 := by omega
    rw [Int.natCast_add] at eo; simp only [intF] at ea eb va vb eo ⊢; generalize magB (a + b) = zz at *; generalize magB a = x at *; generalize magB b = y at *; refine PFn.of_body hΓ Tryz.func167 (by kernel_rfl) rfl (AWp.seq (Wd [] ?_)); simp -implicitDefEqProofs only [Tryz.ntmps167, Tryz.results167, Nat.reduceAdd, Nat.reduceSub, go_sem]; refine Wd [(1, 4), (3, 6), (5, 8), (10, 8), (11, 8)] ?_; simp -implicitDefEqProofs only [la, lb, go_sem]; refine Z1 ea (.still rfl) ?_; simp -implicitDefEqProofs only [la, lb, go_sem]; refine Z1 eb (.still rfl) ?_; simp -implicitDefEqProofs only [la, lb, go_sem]; refine Z1 va (.still rfl) ?_; simp -implicitDefEqProofs only [la, lb, go_sem]; refine Z1 vb (.still rfl) ?_; simp -implicitDefEqProofs only [go_sem]; refine ⟨hi, Z1 eo (.still rfl) ?_⟩; simp -implicitDefEqProofs only [go_sem]
  · have e106 := q106 (magB a) (magB b) (by have := Z6j ha; omega) (by have := Z6j hb; omega)
    rw [Zv, Zv] at e106; simp only [intF] at ea eb ⊢; generalize magB (a + b) = zz at *; generalize magB a = x at *; generalize magB b = y at *; refine PFn.of_body hΓ Tryz.func167 (by kernel_rfl) rfl (AWp.seq (Wd [] ?_)); simp -implicitDefEqProofs only [Tryz.ntmps167, Tryz.results167, Nat.reduceAdd, Nat.reduceSub, go_sem]; refine Wd [(1, 4), (3, 6), (5, 8), (10, 8), (11, 8)] ?_; by_cases hx : x.length < 8
    · have hy : ¬ y.length < 8 := fun h => hs ⟨hx, h⟩
      have lx : (x.length : Int) < 8 := by omega
      have ly : ¬ (y.length : Int) < 8 := by omega
      simp -implicitDefEqProofs only [lx, ly, go_sem]; refine Z1 ea (.still rfl) ?_; simp -implicitDefEqProofs only [lx, ly, go_sem]; refine Z1 eb (.still rfl) ?_; simp -implicitDefEqProofs only [lx, ly, beq_self_eq_true, go_sem]; refine Z1 e106 (.still rfl) ?_; simp -implicitDefEqProofs only [go_sem]; omega
    · have lx : ¬ (x.length : Int) < 8 := by omega
      simp -implicitDefEqProofs only [lx, go_sem]; refine Z1 ea (.still rfl) ?_; simp -implicitDefEqProofs only [lx, go_sem]; refine Z1 eb (.still rfl) ?_; simp -implicitDefEqProofs only [lx, beq_self_eq_true, go_sem]; refine Z1 e106 (.still rfl) ?_; simp -implicitDefEqProofs only [go_sem]; omega

theorem q73 (a b : Nat) (ha : a < capN) (hb : b < capN) : PFn Tryz.prog 168 [intN false a, intN false b] [intN false (a * b)] := by
  have ea := u96 a; have eb := u96 b; by_cases hz : a = 0 ∨ b = 0
  · have h0 : a * b = 0 := by rcases hz with h | h <;> subst h <;> simp
    rw [h0]; simp only [intF] at ea eb ⊢; rw [magB_zero]; by_cases ha0 : a = 0
    · subst ha0
      rw [magB_zero] at ea ⊢; generalize magB b = y at *; refine PFn.of_body hΓ Tryz.func168 (by kernel_rfl) rfl (AWp.seq (Wd [] ?_)); simp -implicitDefEqProofs only [Tryz.ntmps168, Tryz.results168, Nat.reduceAdd, Nat.reduceSub, go_sem]; refine Wd [(1, 4), (5, 6), (6, 10)] ?_; simp -implicitDefEqProofs only [go_sem]; refine Z1 ea (.still rfl) ?_; simp -implicitDefEqProofs only [go_sem]; refine Z1 eb (.still rfl) ?_; simp -implicitDefEqProofs only [go_sem]
    · have hb0 : b = 0 := hz.resolve_left ha0
      subst hb0; rw [magB_zero] at eb ⊢; have hx : ¬ magB a = [] := fun e => ha0 (Z1l e)
      generalize magB a = x at *; refine PFn.of_body hΓ Tryz.func168 (by kernel_rfl) rfl (AWp.seq (Wd [] ?_)); simp -implicitDefEqProofs only [Tryz.ntmps168, Tryz.results168, Nat.reduceAdd, Nat.reduceSub, go_sem]; refine Wd [(1, 4), (5, 6), (6, 10)] ?_; simp -implicitDefEqProofs only [go_sem]; refine Z1 ea (.still rfl) ?_; simp -implicitDefEqProofs only [go_sem]; refine Z1 eb (.still rfl) ?_; simp -implicitDefEqProofs only [hx, go_sem]
  have hx : ¬ magB a = [] := fun e => hz (.inl (Z1l e))
  have hy : ¬ magB b = [] := fun e => hz (.inr (Z1l e))
  by_cases hs : (magB a).length + (magB b).length < 8
  · have pa := List.length_pos_iff.2 hx
    have pb := List.length_pos_iff.2 hy; have h7a := Z2c (n := a) (by omega); have h7b := Z2c (n := b) (by omega); have va := u110 a h7a; have vb := u110 b h7b; have hab : a * b < 256 ^ 7 := by
      have h1 := Z4d a; have h2 := Z4d b; have h3 : a * b < 256 ^ (magB a).length * 256 ^ (magB b).length := Nat.mul_lt_mul'' h1 h2; rw [← Nat.pow_add] at h3; exact Nat.lt_of_lt_of_le h3 (Nat.pow_le_pow_right (by decide) (by omega))
    have eo := u76 (a * b) (by omega); have hi : InR IntKind.i64 ((a : Int) * b) := by
      rw [← Int.natCast_mul]; simp only [InR]; omega
    have ls : ((magB a).length : Int) + ((magB b).length : Int) < 8 := by omega
    have li : InR IntKind.i64 (((magB a).length : Int) + ((magB b).length : Int)) := by simp only [InR]; omega
    rw [Int.natCast_mul] at eo; simp only [intF] at ea eb va vb eo ⊢; generalize magB (a * b) = zz at *; generalize magB a = x at *; generalize magB b = y at *; refine PFn.of_body hΓ Tryz.func168 (by kernel_rfl) rfl (AWp.seq (Wd [] ?_)); simp -implicitDefEqProofs only [Tryz.ntmps168, Tryz.results168, Nat.reduceAdd, Nat.reduceSub, go_sem]; refine Wd [(1, 4), (5, 6), (6, 10)] ?_; simp -implicitDefEqProofs only [go_sem]; refine Z1 ea (.still rfl) ?_; simp -implicitDefEqProofs only [go_sem]; refine Z1 eb (.still rfl) ?_; simp -implicitDefEqProofs only [hx, hy, ls, go_sem]; refine ⟨li, Z1 va (.still rfl) ?_⟩; simp -implicitDefEqProofs only [go_sem]; refine Z1 vb (.still rfl) ?_; simp -implicitDefEqProofs only [go_sem]; refine ⟨hi, Z1 eo (.still rfl) ?_⟩; simp -implicitDefEqProofs only [go_sem]
  · have ca := Z6j ha
    have cb := Z6j hb; have e108 := q108 (magB a) (magB b) (by omega) (by omega); rw [Zv, Zv] at e108; have ls : ¬ ((magB a).length : Int) + ((magB b).length : Int) < 8 := by omega
    have li : InR IntKind.i64 (((magB a).length : Int) + ((magB b).length : Int)) := by simp only [InR]; omega
    simp only [intF] at ea eb ⊢; generalize magB (a * b) = zz at *; generalize magB a = x at *; generalize magB b = y at *; refine PFn.of_body hΓ Tryz.func168 (by kernel_rfl) rfl (AWp.seq (Wd [] ?_)); simp -implicitDefEqProofs only [Tryz.ntmps168, Tryz.results168, Nat.reduceAdd, Nat.reduceSub, go_sem]; refine Wd [(1, 4), (5, 6), (6, 10)] ?_; simp -implicitDefEqProofs only [go_sem]; refine Z1 ea (.still rfl) ?_; simp -implicitDefEqProofs only [go_sem]; refine Z1 eb (.still rfl) ?_; simp -implicitDefEqProofs only [hx, hy, ls, go_sem]; refine ⟨li, Z1 e108 (.still rfl) ?_⟩; simp -implicitDefEqProofs only [go_sem]; exact ⟨by omega, rfl⟩

theorem Zel {m n : Nat} (h : m ≤ n) : (magB m).length ≤ (magB n).length := Nat.le_of_not_lt fun hn => by
  have := Z22 hn; omega
theorem q212s (s : Bool) (a b : Nat) (ha : (magB a).length ≤ 900) (hb : (magB b).length ≤ 900) : PFn Tryz.prog 212 [.agg [.bool s, .str (magB a)], intN false b] [intN false (Nat.gcd a b)] := by
  have ea := q113 (magB a) (by omega); have eb := q113 (magB b) (by omega); rw [Zv] at ea eb; simp only [intF]; refine PFn.of_body hΓ Tryz.func212 (by kernel_rfl) rfl (AWp.seq (Wd [] ?_)); simp -implicitDefEqProofs only [Tryz.ntmps212, Tryz.results212, Nat.reduceAdd, Nat.reduceSub, go_sem]; refine AWp.seq (Wd [(1, 8)] ?_); simp -implicitDefEqProofs only [go_sem]; refine Z1 ea (.pures rfl) ?_; simp -implicitDefEqProofs only [go_sem]; refine Z1 eb (.pures rfl) ?_; simp -implicitDefEqProofs only [go_sem]; refine AWp.seq (AWp.block ?_)
  refine AWp.loopI (fun z : Nat × Nat => ⟨mkF 53 [(4, .ptr 2 0), (5, .p (.str (magB z.1))), (6, .p (.str (magB z.2)))], [.box [.p (.bool s), .p (.str (magB a))], .box [.p (.bool false), .p (.str (magB b))], .box [.p (.bool false), .p (.str [])]]⟩)
    (fun z => (magB z.1).length ≤ 900 ∧ (magB z.2).length ≤ 900 ∧ Nat.gcd z.1 z.2 = Nat.gcd a b) (fun z => z.2) (a, b) (by simp [go_sem]) ⟨ha, hb, rfl⟩ ?_
  rintro ⟨x, y⟩ ⟨hx, hy, hg⟩; simp only at hx hy hg; by_cases hgo : y ≠ 0 ∧ (7 < (magB x).length ∨ 7 < (magB y).length)
  · obtain ⟨hy0, h7⟩ := hgo
    have hyn : ¬ magB y = [] := fun e => hy0 (Z1l e)
    have e245 := q245 x y hx hy hy0; have hml := Nat.mod_lt x (Nat.pos_of_ne_zero hy0); have hcond : ∀ K : Prop, (7 < (magB x).length → K) → (¬ 7 < (magB x).length → 7 < (magB y).length → K) → K := fun K h1 h2 => (Classical.em (7 < (magB x).length)).elim h1 fun h => h2 h (h7.resolve_left h)
    refine Wd [] ?_; by_cases hx7 : 7 < (magB x).length
    · have hx7' : (7 : Int) < ((magB x).length : Int) := by omega
      simp -implicitDefEqProofs only [hyn, hx7', go_sem]; refine Z0 e245 (.still rfl) ?_; simp -implicitDefEqProofs only [go_sem]; exact ⟨(y, x % y), ⟨rfl, rfl⟩, ⟨hy, Nat.le_trans (Zel (Nat.le_of_lt hml)) hy, by rw [← hg]; simp only; rw [Nat.gcd_comm y, ← Nat.gcd_rec, Nat.gcd_comm]⟩, hml⟩
    · have hx7' : ¬ (7 : Int) < ((magB x).length : Int) := by omega
      have hy7' : (7 : Int) < ((magB y).length : Int) := by omega
      simp -implicitDefEqProofs only [hyn, hx7', hy7', go_sem]; refine Z0 e245 (.still rfl) ?_; simp -implicitDefEqProofs only [go_sem]; exact ⟨(y, x % y), ⟨rfl, rfl⟩, ⟨hy, Nat.le_trans (Zel (Nat.le_of_lt hml)) hy, by rw [← hg]; simp only; rw [Nat.gcd_comm y, ← Nat.gcd_rec, Nat.gcd_comm]⟩, hml⟩
  refine Wd [] ?_; by_cases hy0 : y = 0
  · subst hy0
    rw [magB_zero]; simp -implicitDefEqProofs only [go_sem]; rw [Nat.gcd_zero_right] at hg; rw [← hg]; refine AWp.seq (Wd [] ?_); simp -implicitDefEqProofs only [go_sem]
  have hyn : ¬ magB y = [] := fun e => hy0 (Z1l e)
  have hx7' : ¬ (7 : Int) < ((magB x).length : Int) := fun h => hgo ⟨hy0, .inl (by omega)⟩
  have hy7' : ¬ (7 : Int) < ((magB y).length : Int) := fun h => hgo ⟨hy0, .inr (by omega)⟩
  have vx := u124 (magB x) (by omega); have vy := u124 (magB y) (by omega); rw [Zv] at vx vy; simp -implicitDefEqProofs only [hyn, hx7', hy7', go_sem]; have hx56 : x < 256 ^ 7 := Z2c (by omega); have hy56 : y < 256 ^ 7 := Z2c (by omega); refine AWp.seq (Wd [] ?_); simp -implicitDefEqProofs only [hyn, go_sem]; refine AWp.seq (Wd [] ?_); simp -implicitDefEqProofs only [go_sem]; refine Z0 vx (.pures rfl) ?_; simp -implicitDefEqProofs only [go_sem]; refine Z0 vy (.pures rfl) ?_; simp -implicitDefEqProofs only [go_sem]; refine AWp.seq (AWp.block ?_)
  refine AWp.loopI (fun z : Nat × Nat => ⟨mkF 53 [(4, .ptr 2 0), (9, .p (.int .i64 z.1)), (10, .p (.int .i64 z.2))], [.box [.p (.bool s), .p (.str (magB a))], .box [.p (.bool false), .p (.str (magB b))], .box [.p (.bool false), .p (.str [])]]⟩)
    (fun z => z.1 < 256 ^ 7 ∧ z.2 < 256 ^ 7 ∧ Nat.gcd z.1 z.2 = Nat.gcd a b) (fun z => z.2) (x, y) (by simp [go_sem]) ⟨hx56, hy56, hg⟩ ?_
  clear hx hy hg hgo hy0 hyn hx7' hy7' vx vy hx56 hy56 x y; rintro ⟨m, n⟩ ⟨hm, hn, hg⟩; simp only at hm hn hg; refine Wd [(9, 6)] ?_; by_cases hn0 : 0 < n
  · have hn0' : (0 : Int) < (n : Int) := by omega
    have hnz : ¬ (n : Int) = 0 := by omega
    have hq4 : Int.tmod (m : Int) (n : Int) = ((m % n : Nat) : Int) := rfl; have hml := Nat.mod_lt m hn0; simp -implicitDefEqProofs only [hn0', hnz, hq4, go_sem]; exact ⟨(n, m % n), ⟨rfl, rfl⟩, ⟨hn, by simp only; omega, by rw [← hg]; simp only; rw [Nat.gcd_comm n, ← Nat.gcd_rec, Nat.gcd_comm]⟩, hml⟩
  · have hnz : n = 0 := by omega
    subst hnz; rw [Nat.gcd_zero_right] at hg; have e1 := u76 m (by omega); rw [← hg]; have hn0' : ¬ (0 : Int) < ((0 : Nat) : Int) := by omega
    simp -implicitDefEqProofs only [hn0', go_sem]; refine Wd [] ?_; simp -implicitDefEqProofs only [go_sem]; simp only [intF] at e1; refine Z0 e1 (.pures rfl) ?_; simp -implicitDefEqProofs only [go_sem]
theorem q212 (a b : Nat) (ha : (magB a).length ≤ 900) (hb : (magB b).length ≤ 900) : PFn Tryz.prog 212 [intN false a, intN false b] [intN false (Nat.gcd a b)] := q212s false a b ha hb
theorem q213 (a b : Nat) (ha : (magB a).length ≤ 900) (hb : (magB b).length ≤ 900) (hb0 : b ≠ 0) : PFn Tryz.prog 213 [intN false a, intN false b] [intN false (a / b), intN false (a % b), .int .i64 0] := by
  have ea := u96 a; have eb := u96 b; have hbn : ¬ magB b = [] := fun e => hb0 (Z1l e)
  by_cases hs : (magB a).length < 8 ∧ (magB b).length < 8
  · have h7a := Z2c hs.1
    have h7b := Z2c hs.2; have va := u124 (magB a) (by omega); have vb := u124 (magB b) (by omega); rw [Zv] at va vb; have hdl : a / b ≤ a := Nat.div_le_self a b; have hml : a % b < b := Nat.mod_lt a (by omega); have e1 := u76 (a / b) (by omega); have e2 := u76 (a % b) (by omega); have la : ((magB a).length : Int) < 8 := by omega
    have lb : ((magB b).length : Int) < 8 := by omega
    simp only [intF] at ea eb e1 e2 ⊢; refine PFn.of_body hΓ Tryz.func213 (by kernel_rfl) rfl (AWp.seq (Wd [] ?_)); simp -implicitDefEqProofs only [Tryz.ntmps213, Tryz.results213, Nat.reduceAdd, Nat.reduceSub, go_sem]; refine Wd [(1, 4), (6, 8), (7, 8), (13, 3), (17, 1000)] ?_; simp -implicitDefEqProofs only [la, lb, hbn, go_sem]; refine Z1 ea (.still rfl) ?_; simp -implicitDefEqProofs only [la, lb, hbn, go_sem]; refine Z1 eb (.still rfl) ?_; simp -implicitDefEqProofs only [la, lb, hbn, go_sem]; refine Z1 va (.still rfl) ?_; simp -implicitDefEqProofs only [go_sem]; refine Z1 vb (.still rfl) ?_; have hib : ¬ (b : Int) = 0 := by omega
    simp -implicitDefEqProofs only [hib, go_sem]; rw [Int.natCast_ediv] at e1; rw [Int.natCast_emod] at e2; refine ⟨⟨by omega, by simp only [InR]; omega⟩, Z1 e1 (.still rfl) ?_⟩; simp -implicitDefEqProofs only [hib, go_sem]; refine ⟨by omega, Z1 e2 (.still rfl) ?_⟩; simp -implicitDefEqProofs only [bne_self_eq_false, go_sem]; refine AWp.planL (.q 0 (.q 1 (.e 2 (.s 1 (.e 3 (.q 4 .fin) .nil)) .nil))) hΓ hmix (by kernel_rfl) ?_; simp -implicitDefEqProofs only [go_sem]
  · have e245 := q245 a b ha hb hb0
    simp only [intF] at ea eb ⊢; refine PFn.of_body hΓ Tryz.func213 (by kernel_rfl) rfl (AWp.seq (Wd [] ?_)); simp -implicitDefEqProofs only [Tryz.ntmps213, Tryz.results213, Nat.reduceAdd, Nat.reduceSub, go_sem]; refine Wd [(1, 4), (6, 8), (7, 8), (13, 3), (17, 1000)] ?_; by_cases hx : (magB a).length < 8
    · have hy : ¬ (magB b).length < 8 := fun h => hs ⟨hx, h⟩
      have lx : ((magB a).length : Int) < 8 := by omega
      have ly : ¬ ((magB b).length : Int) < 8 := by omega
      simp -implicitDefEqProofs only [lx, ly, hbn, go_sem]; refine Z1 ea (.still rfl) ?_; simp -implicitDefEqProofs only [lx, ly, hbn, go_sem]; refine Z1 eb (.still rfl) ?_; simp -implicitDefEqProofs only [lx, ly, hbn, go_sem]; refine Z0 e245 (.still rfl) ?_; simp -implicitDefEqProofs only [bne_self_eq_false, go_sem]; refine AWp.planL (.q 0 (.q 1 (.e 2 (.s 1 (.e 3 (.q 4 .fin) .nil)) .nil))) hΓ hmix (by kernel_rfl) ?_; simp -implicitDefEqProofs only [go_sem]
    · have lx : ¬ ((magB a).length : Int) < 8 := by omega
      simp -implicitDefEqProofs only [lx, hbn, go_sem]; refine Z1 ea (.still rfl) ?_; simp -implicitDefEqProofs only [lx, hbn, go_sem]; refine Z1 eb (.still rfl) ?_; simp -implicitDefEqProofs only [lx, hbn, go_sem]; refine Z0 e245 (.still rfl) ?_; simp -implicitDefEqProofs only [bne_self_eq_false, go_sem]; refine AWp.planL (.q 0 (.q 1 (.e 2 (.s 1 (.e 3 (.q 4 .fin) .nil)) .nil))) hΓ hmix (by kernel_rfl) ?_; simp -implicitDefEqProofs only [go_sem]
end Go.Proofs.YtpljmccnfmkmfaaGreat
end

section
namespace Go.Proofs.YtpljmccnfmkmfaaGreat.Kn
open Go Go.AM

def ratQ (a b : Nat) : PV := .agg [.bool false, .str (magB a), .bool false, .str (magB b)]
theorem Zn1 (n d : Nat) : ratV n d = ratQ (lowN n d) (lowD n d) := rfl

theorem Zlm {a b x y n d m e : Nat} (f1 : a * d = n * b) (f2 : x * e = m * y) : (a * y + x * b) * (d * e) = (n * e + m * d) * (b * y) := by grind
theorem Zll {n d m e : Nat} (hd : d ≠ 0) (he : e ≠ 0) : ratV (lowN n d * lowD m e + lowN m e * lowD n d) (lowD n d * lowD m e) = ratV (n * e + m * d) (d * e) :=
  (low_eq (Nat.mul_ne_zero (Z0z hd) (Z0z he)) (Nat.mul_ne_zero hd he)).2 (Zlm Z3x Z3x)
theorem Zne (n d : Nat) : lowN n d ≤ n ∧ lowD n d ≤ d := ⟨Nat.div_le_self _ _, Nat.div_le_self _ _⟩


theorem cap9 {n : Nat} (h : n < capN) : (magB n).length ≤ 900 := by have := Z6j h; omega
theorem w171 (n : Nat) : PFn Tryz.prog 171 [intN false n] [.int .i64 (cmpN n 0)] := by
  have e := u74 n 0; simp only [Z9, magB_zero] at e ⊢; refine PFn.of_body hΓ Tryz.func171 (by kernel_rfl) rfl (Wd [] ?_); simp -implicitDefEqProofs only [Tryz.ntmps171, Tryz.results171, Nat.reduceAdd, Nat.reduceSub, go_sem]; refine Z0 e (.still rfl) ?_; simp -implicitDefEqProofs only [go_sem]
theorem w169 (n d : Nat) (hn : n < capN) (hd : d < capN) (hd0 : d ≠ 0) : PFn Tryz.prog 169 [intN false n, intN false d] [ratV n d] := by
  have c1 := w171 d; rw [Z1r (Nat.pos_of_ne_zero hd0)] at c1; have h11 : ¬ (1 : Int) < 0 := by omega
  have hG := Zdg hn hd; have hg0 : Nat.gcd n d ≠ 0 := fun h => hd0 (Nat.eq_zero_of_gcd_eq_zero_right h)
  have eg := q212 n d (cap9 hn) (cap9 hd); have d1 := q213 n (Nat.gcd n d) (cap9 hn) (cap9 hG) hg0; have d2 := q213 d (Nat.gcd n d) (cap9 hd) (cap9 hG) hg0; simp only [Z9] at c1 eg d1 d2 ⊢; unfold ratV; refine PFn.of_body hΓ Tryz.func169 (by kernel_rfl) rfl (AWp.seq (Wd [] ?_)); simp -implicitDefEqProofs only [Tryz.ntmps169, Tryz.results169, Nat.reduceAdd, Nat.reduceSub, go_sem]; refine Wd [(2, 4)] ?_; simp -implicitDefEqProofs only [go_sem]; refine Z0 c1 (.still rfl) ?_; simp -implicitDefEqProofs only [h11, go_sem]; refine Z0 eg (.still rfl) ?_; simp -implicitDefEqProofs only [go_sem]; refine Z0 d1 (.still rfl) ?_; simp -implicitDefEqProofs only [go_sem]; refine Z0 d2 (.still rfl) ?_; simp -implicitDefEqProofs only [go_sem]; omega
theorem w178 (n d : Nat) (hn : n < capN) (hd : d < capN) (hd0 : d ≠ 0) : PFn Tryz.prog 178 [intN false n, intN false d] [ratV n d, .int .i64 0] := by
  have c1 := w171 d; rw [Z1r (Nat.pos_of_ne_zero hd0)] at c1; have h10 : ¬ (1 : Int) = 0 := by omega
  have e := w169 n d hn hd hd0; simp only [Z9] at c1 e ⊢; refine PFn.of_body hΓ Tryz.func178 (by kernel_rfl) rfl (Wd [] ?_); simp -implicitDefEqProofs only [Tryz.ntmps178, Tryz.results178, Nat.reduceAdd, Nat.reduceSub, go_sem]; refine Z0 c1 (.still rfl) ?_; simp -implicitDefEqProofs only [h10, go_sem]; refine Z0 e (.still rfl) ?_; simp -implicitDefEqProofs only [ratV, go_sem]
theorem w119 (n d : Nat) (hn : n < 9223372036854775808) (hd : d < 9223372036854775808) (hd0 : d ≠ 0) : PFn Tryz.prog 119 [.int .i64 n, .int .i64 d] [ratV n d, .int .i64 0] := by
  have hc : (9223372036854775808 : Nat) < capN := Z4s (k := 8) (by decide) (by decide); have e1 := u76 n hn; have e2 := u76 d hd; have e3 := w178 n d (by omega) (by omega) hd0; simp only [Z9] at e1 e2 e3 ⊢; refine PFn.of_body hΓ Tryz.func119 (by kernel_rfl) rfl (Wd [] ?_); simp -implicitDefEqProofs only [Tryz.ntmps119, Tryz.results119, Nat.reduceAdd, Nat.reduceSub, go_sem]; refine Z0 e1 (.pures rfl) ?_; simp -implicitDefEqProofs only [go_sem]; refine Z0 e2 (.pures rfl) ?_; simp -implicitDefEqProofs only [go_sem]; refine Z0 e3 (.still rfl) ?_; simp -implicitDefEqProofs only [ratV, go_sem]
theorem w93 (n d : Nat) (hn : n < 9223372036854775808) (hd : d < 9223372036854775808) (hd0 : d ≠ 0) : PFn Tryz.prog 93 [.int .i64 n, .int .i64 d] [ratV n d] := by
  have e := w119 n d hn hd hd0; obtain ⟨x, y, hR⟩ : ∃ x y, ratV n d = ratQ x y := ⟨_, _, Zn1 _ _⟩; rw [hR] at e ⊢; unfold ratQ at e ⊢; refine PFn.of_body hΓ Tryz.func93 (by kernel_rfl) rfl (Wd [] ?_); simp -implicitDefEqProofs only [Tryz.ntmps93, Tryz.results93, Nat.reduceAdd, Nat.reduceSub, go_sem]; refine Z0 e (.pures rfl) ?_; simp -implicitDefEqProofs only [go_sem]
theorem w166 (n d : Nat) (hn : n < capN) (hd : d < capN) (hd0 : d ≠ 0) : PFn Tryz.prog 166 [ratV n d] [ratV n d] := by
  obtain ⟨h1, h2⟩ := Z6d hn hd; have c1 := w171 (lowD n d); rw [Z1r (Nat.pos_of_ne_zero (Z0z hd0))] at c1; have h10 : ¬ (1 : Int) = 0 := by omega
  have e := w169 (lowN n d) (lowD n d) h1 h2 (Z0z hd0); rw [Zi2 hd0] at e; rw [Z17] at e ⊢; simp only [Z9] at c1 e; refine PFn.of_body hΓ Tryz.func166 (by kernel_rfl) rfl (Wd [] ?_); simp -implicitDefEqProofs only [Tryz.ntmps166, Tryz.results166, Nat.reduceAdd, Nat.reduceSub, go_sem]; refine Z0 c1 (.still rfl) ?_; simp -implicitDefEqProofs only [h10, go_sem]; refine ⟨by omega, Z0 e (.still rfl) ?_⟩; simp -implicitDefEqProofs only [go_sem]
theorem w106 (n d m e : Nat) (hn : n < capN) (hd : d < capN) (hm : m < capN) (he : e < capN) (hd0 : d ≠ 0) (he0 : e ≠ 0) (h1 : n * e + m * d < capN) (h2 : d * e < capN) :
    PFn Tryz.prog 106 [ratV n d, ratV m e] [ratV (n * e + m * d) (d * e)] := by
  obtain ⟨a1, a2⟩ := Z6d hn hd; obtain ⟨b1, b2⟩ := Z6d hm he; have l1 := Zne n d; have l2 := Zne m e; have k1 : lowN n d * lowD m e ≤ n * e := Nat.mul_le_mul l1.1 l2.2; have k2 : lowN m e * lowD n d ≤ m * d := Nat.mul_le_mul l2.1 l1.2; have k3 : lowD n d * lowD m e ≤ d * e := Nat.mul_le_mul l1.2 l2.2; have e1 := w166 n d hn hd hd0; have e2 := w166 m e hm he he0; have m1 := q73 (lowN n d) (lowD m e) a1 b2; have m2 := q73 (lowN m e) (lowD n d) b1 a2; have m3 := q73 (lowD n d) (lowD m e) a2 b2; have s1 := q72 (lowN n d * lowD m e) (lowN m e * lowD n d) (by omega) (by omega); have e4 := w169 (lowN n d * lowD m e + lowN m e * lowD n d) (lowD n d * lowD m e) (by omega) (by omega) (Nat.mul_ne_zero (Z0z hd0) (Z0z he0)); rw [Zll hd0 he0] at e4; obtain ⟨x, y, hR⟩ : ∃ x y, ratV (n * e + m * d) (d * e) = ratQ x y := ⟨_, _, Zn1 _ _⟩; rw [hR] at e4 ⊢; clear hR; rw [Z17 n d] at e1 ⊢; rw [Z17 m e] at e2 ⊢; unfold ratQ at e4 ⊢; simp only [Z9] at m1 m2 m3 s1 e4; generalize magB (lowN n d * lowD m e + lowN m e * lowD n d) = z4 at *; generalize magB (lowN n d * lowD m e) = z1 at *; generalize magB (lowN m e * lowD n d) = z2 at *; generalize magB (lowD n d * lowD m e) = z3 at *; generalize magB (lowN n d) = A at *; generalize magB (lowD n d) = B at *; generalize magB (lowN m e) = C at *; generalize magB (lowD m e) = D at *; refine PFn.of_body hΓ Tryz.func106 (by kernel_rfl) rfl (AWp.seq (Wd [] ?_)); simp -implicitDefEqProofs only [Tryz.ntmps106, Tryz.results106, Nat.reduceAdd, Nat.reduceSub, go_sem]; refine AWp.seq (Wd [(1, 4)] ?_); simp -implicitDefEqProofs only [go_sem]; refine Z1 e1 (.still rfl) ?_; simp -implicitDefEqProofs only [go_sem]; refine Z1 e2 (.still rfl) ?_; simp -implicitDefEqProofs only [go_sem]
  refine AWp.seqM (fun _ : Unit => ⟨mkF 28 [(2, .ptr 0 0), (3, .ptr 1 0), (4, .ptr 2 0), (5, .ptr 3 0)], [.box [.p (.bool false), .p (.str A), .p (.bool false), .p (.str B)], .box [.p (.bool false), .p (.str C), .p (.bool false), .p (.str D)], .box [.p (.bool false), .p (.str []), .p (.bool false), .p (.str [])], .box [.p (.bool false), .p (.str z4)]]⟩)
    (fun _ => True) (Wd [(2, 1000)] ?_) ?_
  · simp -implicitDefEqProofs only [go_sem]
    refine AWp.planL (.q 0 (.q 1 (.q 2 (.q 3 (.q 5 (.q 6 (.q 7 (.q 8 (.e 4 (.s 5 (.s 6 (.s 7 (.s 8 (.e 9 (.e 10 (.e 11 (.s 0 (.s 1 (.s 2 (.s 3 (.s 5 (.s 6 (.s 7 (.s 8 (.e 12 .fin .nil))))))))) .nil) (.e 11 (.s 0 (.s 1 (.s 2 (.s 3 (.s 5 (.s 6 (.s 7 (.s 8 (.e 10 (.e 12 .fin .nil) .nil))))))))) .nil)) (.e 11 (.s 0 (.s 1 (.s 2 (.s 3 (.s 5 (.s 6 (.s 7 (.s 8 (.e 9 (.e 10 (.e 12 .fin .nil) .nil) .nil))))))))) .nil)))))) (.e 11 (.s 0 (.s 1 (.s 2 (.s 3 (.s 5 (.s 6 (.s 7 (.s 8 (.e 4 (.s 5 (.s 6 (.s 7 (.s 8 (.e 9 (.e 10 (.e 12 .fin .nil) .nil) .nil))))) .nil))))))))) .nil)))))))))) hΓ hmix (by kernel_rfl) ?_; simp -implicitDefEqProofs only [go_sem]; refine ⟨by omega, by omega, ?_, ?_⟩
    · refine Z0 m1 (.still rfl) ?_
      simp -implicitDefEqProofs only [go_sem]; refine ⟨by omega, ?_, ?_⟩
      · refine Z0 m2 (.still rfl) ?_
        simp -implicitDefEqProofs only [go_sem]; refine ⟨?_, ?_⟩
        · refine Z0 s1 (.still rfl) ?_
          simp -implicitDefEqProofs only [go_sem]; exact ⟨by omega, by omega, (), trivial⟩
        · refine ⟨by omega, by omega, Z0 s1 (.still rfl) ?_⟩
          simp -implicitDefEqProofs only [go_sem]; exact ⟨(), trivial⟩
      · refine ⟨by omega, by omega, Z0 m2 (.still rfl) ?_⟩
        simp -implicitDefEqProofs only [go_sem]; refine Z0 s1 (.still rfl) ?_; simp -implicitDefEqProofs only [go_sem]; exact ⟨(), trivial⟩
    · refine ⟨by omega, by omega, Z0 m1 (.still rfl) ?_⟩
      simp -implicitDefEqProofs only [go_sem]; refine ⟨by omega, Z0 m2 (.still rfl) ?_⟩; simp -implicitDefEqProofs only [go_sem]; refine Z0 s1 (.still rfl) ?_; simp -implicitDefEqProofs only [go_sem]; exact ⟨(), trivial⟩
  intro _ _; refine Wd [(3, 7)] ?_; simp -implicitDefEqProofs only [go_sem]; refine Z1 m3 (.still rfl) ?_; simp -implicitDefEqProofs only [go_sem]; refine Z1 e4 (.still rfl) ?_; simp -implicitDefEqProofs only [go_sem]
def blF : Nat → Nat → Nat
  | 0, _ => 0
  | f + 1, d => if d = 0 then 0 else blF f (d / 2) + 1
theorem Zns : ∀ f d, blF f d ≤ f
  | 0, _ => Nat.le_refl _
  | f + 1, d => by
    have := Zns f (d / 2); unfold blF
    split <;> omega
theorem Zmb (f : Nat) {d : Nat} (h : d ≠ 0) : blF (f + 1) d = blF f (d / 2) + 1 := if_neg h
theorem w247 (a : Nat) (ha0 : a ≠ 0) (ha : a < 256) : PFn Tryz.prog 247 [intN false a] [.int .i64 (blF 8 a)] := by
  have e113 := q113 (magB a) (by have := Zi0 (n := a) (m := 1) (by omega); omega); rw [Zv] at e113; have hb := Zem a ha0 ha; rw [hb] at e113; simp only [Z9, hb]; have hu : ((UInt8.ofNat a).toNat : Nat) = a := by rw [UInt8.toNat_ofNat', Nat.mod_eq_of_lt ha]
  have hw : IntKind.i64.wrap (a : Int) = a := InR.wrap (k := .i64) (by simp only [InR]; omega); have hg0 : ([UInt8.ofNat a]).getD (Int.toNat 0) 0 = UInt8.ofNat a := rfl; refine PFn.of_body hΓ Tryz.func247 (by kernel_rfl) rfl (AWp.seq (Wd [] ?_)); simp -implicitDefEqProofs only [Tryz.ntmps247, Tryz.results247, Nat.reduceAdd, Nat.reduceSub, go_sem]; refine AWp.seq (Wd [] ?_); simp -implicitDefEqProofs only [go_sem]; refine Z0 e113 (.pures rfl) ?_; simp -implicitDefEqProofs only [go_sem]; refine AWp.seq (Wd [] ?_); simp -implicitDefEqProofs only [go_sem]; refine AWp.seq (Wd [] ?_); simp -implicitDefEqProofs only [go_sem]; refine ⟨by simp only [InR]; omega, by simp only [InR]; omega, ?_⟩; refine AWp.seq (AWp.seq (Wd [] ?_)); simp -implicitDefEqProofs only [hg0, hu, hw, go_sem]; refine ⟨by omega, ?_⟩; refine AWp.block ?_
  refine AWp.loopI (fun z : Nat × Nat => ⟨mkF 25 [(4, .p (.int .i64 z.1)), (5, .p (.int .i64 z.2))], [.box [.p (.bool false), .p (.str [UInt8.ofNat a])]]⟩)
    (fun z => z.1 ≤ 8 ∧ z.1 + blF (8 - z.1) z.2 = blF 8 a ∧ z.2 < 2 ^ (8 - z.1)) (fun z => z.2) (0, a) (by simp [go_sem]) ⟨by simp, by simp, ha⟩ ?_
  rintro ⟨i, d⟩ ⟨hi, hbl, hd⟩; simp only at hi hbl hd; refine Wd [] ?_; by_cases hd0 : 0 < d
  · have hd0' : (0 : Int) < (d : Int) := by omega
    have hi8 : i < 8 := by
      apply Classical.byContradiction
      intro h; rw [show 8 - i = 0 by omega] at hd; omega
    obtain ⟨f, hf⟩ : ∃ f, 8 - i = f + 1 := ⟨7 - i, by omega⟩; rw [hf, Nat.pow_succ] at hd; rw [hf, Zmb f (by omega)] at hbl; have hf7 : 2 ^ f ≤ 2 ^ 7 := Nat.pow_le_pow_right (by decide) (by omega); simp -implicitDefEqProofs only [hd0', go_sem]; exact ⟨by simp only [InR]; omega, ⟨by omega, by simp only [InR]; omega⟩, (i + 1, d / 2), ⟨by simp, by simp⟩, ⟨by simp only; omega, by simp only; rw [show 8 - (i + 1) = f by omega]; omega, by simp only; rw [show 8 - (i + 1) = f by omega]; omega⟩, by simp only; omega⟩
  · have hd0' : ¬ (0 : Int) < (d : Int) := by omega
    have hdz : d = 0 := by omega
    subst hdz; have hz : ∀ f, blF f 0 = 0 := fun f => by cases f <;> rfl
    rw [hz, Nat.add_zero] at hbl; simp -implicitDefEqProofs only [hd0', go_sem]; refine Wd [] ?_; simp -implicitDefEqProofs only [go_sem]; omega

theorem both {P : Bool → Prop} (h1 : P true) (h2 : P true → P false) : ∀ s, P s
  | true => h1
  | false => h2 h1
theorem Zt4 (o s k : Nat) : o * s * (s * s) ^ k = o * s ^ (2 * k + 1) := by
  rw [← Nat.pow_two, ← Nat.pow_mul, Nat.pow_succ, Nat.mul_assoc, Nat.mul_comm s]
theorem Zok (o s k : Nat) : o * (s * s) ^ k = o * s ^ (2 * k) := by
  rw [← Nat.pow_two, ← Nat.pow_mul]
theorem w214 (a n : Nat) (ha0 : a ≠ 0) (ha : a < 256) (hn : n ≤ 4096) (hc : a ^ n < capN) : PFn Tryz.prog 214 [intN false a, .int .i64 n] [intN false (a ^ n), .int .i64 0] := by
  have e247 := w247 a ha0 ha; have hbl := Zns 8 a; have hbn : blF 8 a * n ≤ 8 * n := Nat.mul_le_mul_right _ hbl; have e1 := u76 1 (by omega); have ea := u96 a; simp only [Z9] at e247 e1 ea ⊢; generalize blF 8 a = k at *; have hkn : (k : Int) * (n : Int) = ((k * n : Nat) : Int) := (Int.natCast_mul k n).symm; have n1 : ¬ (n : Int) < 0 := by omega
  have n2 : ¬ (4096 : Int) < (n : Int) := by omega
  have n3 : ¬ (65536 : Int) < ((k * n : Nat) : Int) := by omega
  refine PFn.of_body hΓ Tryz.func214 (by kernel_rfl) rfl (AWp.seq (Wd [] ?_)); simp -implicitDefEqProofs only [Tryz.ntmps214, Tryz.results214, Nat.reduceAdd, Nat.reduceSub, go_sem]; refine AWp.seq (Wd [] ?_); simp -implicitDefEqProofs only [n1, n2, go_sem]; refine AWp.seq (Wd [] ?_); simp -implicitDefEqProofs only [go_sem]; refine Z0 e247 (.still rfl) ?_; simp -implicitDefEqProofs only [hkn, n3, go_sem]; refine ⟨by simp only [InR]; omega, ?_⟩
  refine AWp.seqM (fun s : Bool => ⟨mkF 40 [(1, .p (.int .i64 n)), (4, .ptr 1 0), (6, .ptr (if s = true then 2 else 3) 0), (7, .ptr (if s = true then 3 else 2) 0)], [.box [.p (.bool false), .p (.str (magB a))], .box [.p (.bool false), .p (.str [])], .box [.p (.bool false), .p (.str (magB (if s = true then 1 else a)))], .box [.p (.bool false), .p (.str (magB (if s = true then a else 1)))]]⟩)
    (fun _ => True) (Wd [(5, 1000)] ?_) ?_
  · simp -implicitDefEqProofs only [go_sem]
    refine AWp.planL (.q 1 (.e 0 (.s 1 (.e 2 (.e 3 (.s 1 (.e 4 (.s 1 (.e 5 (.e 6 .fin .nil) .nil)) .nil)) (.e 4 (.s 1 (.e 3 (.s 1 (.e 5 (.e 6 .fin .nil) .nil)) .nil)) .nil)) (.e 3 (.s 1 (.e 2 (.e 4 (.s 1 (.e 5 (.e 6 .fin .nil) .nil)) .nil) (.e 4 (.s 1 (.e 2 (.e 5 (.e 6 .fin .nil) .nil) .nil)) .nil))) (.e 4 (.s 1 (.e 2 (.e 3 (.s 1 (.e 5 (.e 6 .fin .nil) .nil)) .nil) (.e 3 (.s 1 (.e 2 (.e 5 (.e 6 .fin .nil) .nil) .nil)) .nil))) .nil)))) (.e 3 (.s 1 (.e 0 (.s 1 (.e 2 (.e 4 (.s 1 (.e 5 (.e 6 .fin .nil) .nil)) .nil) (.e 4 (.s 1 (.e 2 (.e 5 (.e 6 .fin .nil) .nil) .nil)) .nil))) (.e 4 (.s 1 (.e 0 (.s 1 (.e 2 (.e 5 (.e 6 .fin .nil) .nil) .nil)) .nil)) .nil))) (.e 4 (.s 1 (.e 0 (.s 1 (.e 2 (.e 3 (.s 1 (.e 5 (.e 6 .fin .nil) .nil)) .nil) (.e 3 (.s 1 (.e 2 (.e 5 (.e 6 .fin .nil) .nil) .nil)) .nil))) (.e 3 (.s 1 (.e 0 (.s 1 (.e 2 (.e 5 (.e 6 .fin .nil) .nil) .nil)) .nil)) .nil))) .nil)))) hΓ hmix (by kernel_rfl) ?_; simp -implicitDefEqProofs only [go_sem]
    repeat' (first | exact ⟨true, ⟨rfl, rfl⟩, rfl, rfl⟩ | exact ⟨false, ⟨rfl, rfl⟩, rfl, rfl⟩ | (refine Z0 e1 (.pures rfl) ?_; simp -implicitDefEqProofs only [go_sem]) | (refine Z0 ea (.still rfl) ?_; simp -implicitDefEqProofs only [go_sem]) | refine And.intro ?_ ?_ | omega)
  refine fun s _ => ?_
  revert s
  refine both ?_ ?_
  · simp only [if_true]
    refine AWp.seq (AWp.block ?_)
    refine AWp.loopI (fun z : Nat × Nat × Nat => ⟨mkF 40 [(1, .p (.int .i64 z.2.2)), (4, .ptr 1 0), (6, .ptr 2 0), (7, .ptr 3 0)], [.box [.p (.bool false), .p (.str (magB a))], .box [.p (.bool false), .p (.str [])], .box [.p (.bool false), .p (.str (magB z.1))], .box [.p (.bool false), .p (.str (magB z.2.1))]]⟩)
      (fun z => z.2.2 ≤ 4096 ∧ z.1 * z.2.1 ^ z.2.2 = a ^ n ∧ z.1 ≠ 0 ∧ z.2.1 ≠ 0) (fun z => z.2.2) (1, a, n) (by simp [go_sem]) ⟨hn, by simp, by simp, ha0⟩ ?_
    rintro ⟨o, q, m⟩ ⟨hm, hv, ho, hq⟩; simp only at hm hv ho hq; refine Wd [] ?_; by_cases hm0 : 0 < m
    · have hm0' : (0 : Int) < (m : Int) := by omega
      have hqm : q ≤ q ^ m := Nat.le_self_pow (by omega) q; have hpm : 0 < q ^ m := Nat.pow_pos (Nat.pos_of_ne_zero hq); have hqa : q < capN := by
        have : q ^ m ≤ o * q ^ m := Nat.le_mul_of_pos_left _ (Nat.pos_of_ne_zero ho); omega
      have hoa : o < capN := by
        have : o ≤ o * q ^ m := Nat.le_mul_of_pos_right _ hpm; omega
      have m1 := q73 o q hoa hqa; have m2 := q73 q q hqa hqa; simp only [Z9] at m1 m2; obtain ⟨k, hk⟩ : ∃ k, k = m / 2 := ⟨_, rfl⟩; have hki : (m : Int) / 2 = (k : Int) := by omega
      by_cases hodd : m % 2 = 1
      · have hodd' : (m : Int) % 2 = 1 := by omega
        have hmk : m = 2 * k + 1 := by omega
        by_cases hk0 : 0 < k
        · have hk0' : (0 : Int) < (k : Int) := by omega
          simp -implicitDefEqProofs only [hm0', hodd', hki, hk0', go_sem]; refine ⟨by omega, Z0 m1 (.still rfl) ?_⟩; simp -implicitDefEqProofs only [hm0', hodd', hki, hk0', go_sem]; refine ⟨⟨by omega, by simp only [InR]; omega⟩, Z0 m2 (.still rfl) ?_⟩; simp -implicitDefEqProofs only [go_sem]; exact ⟨(o * q, q * q, k), ⟨rfl, rfl, rfl⟩, ⟨by simp only; omega, by simp only; rw [Zt4, ← hmk]; exact hv, Nat.mul_ne_zero ho hq, Nat.mul_ne_zero hq hq⟩, by simp only; omega⟩
        · have hk0' : ¬ (0 : Int) < (k : Int) := by omega
          simp -implicitDefEqProofs only [hm0', hodd', hki, hk0', go_sem]; refine ⟨by omega, Z0 m1 (.still rfl) ?_⟩; simp -implicitDefEqProofs only [hm0', hodd', hki, hk0', go_sem]; have hk00 : k = 0 := by omega
          have hv1 : o * q = a ^ n := by
            rw [hmk, hk00, Nat.mul_zero, Nat.zero_add, Nat.pow_one] at hv; exact hv
          exact ⟨⟨by omega, by simp only [InR]; omega⟩, (o * q, q, k), ⟨rfl, rfl, rfl⟩, ⟨by simp only; omega, by simp only; rw [hk00, Nat.pow_zero, Nat.mul_one]; exact hv1, Nat.mul_ne_zero ho hq, hq⟩, by simp only; omega⟩
      · have hodd' : ¬ (m : Int) % 2 = 1 := by omega
        have hmk : m = 2 * k := by omega
        have hk0 : 0 < k := by omega
        have hk0' : (0 : Int) < (k : Int) := by omega
        simp -implicitDefEqProofs only [hm0', hodd', hki, hk0', go_sem]; refine ⟨by omega, ⟨by omega, by simp only [InR]; omega⟩, Z0 m2 (.still rfl) ?_⟩; simp -implicitDefEqProofs only [go_sem]; exact ⟨(o, q * q, k), ⟨rfl, rfl, rfl⟩, ⟨by simp only; omega, by simp only; rw [Zok, ← hmk]; exact hv, ho, Nat.mul_ne_zero hq hq⟩, by simp only; omega⟩
    · have hm0' : ¬ (0 : Int) < (m : Int) := by omega
      have hmz : m = 0 := by omega
      subst hmz; rw [Nat.pow_zero, Nat.mul_one] at hv; subst hv; simp -implicitDefEqProofs only [hm0', go_sem]; refine Wd [] ?_; simp -implicitDefEqProofs only [go_sem]
  · intro h
    refine AWp.swap 2 3 rfl rfl (by simp) (by simp) ?_; exact h

theorem rat_inv (d : Nat) : ratV 1 d = .agg [.bool false, .str (magB 1), .bool false, .str (magB d)] := by
  unfold ratV; rw [Nat.gcd_one_left, Nat.div_one, Nat.div_one]
theorem w170 (q n : Nat) (hq0 : q ≠ 0) (hq : q < 256) (hn : n ≤ 4096) (hc : q ^ n < capN) : PFn Tryz.prog 170 [ratV 1 q, .int .i64 n] [ratV 1 (q ^ n), .int .i64 0] := by
  have hqc : q < capN := Nat.lt_trans hq (Z4s (n := 256) (k := 2) (by decide) (by decide)); have e1 := w166 1 q one_cap hqc hq0; have p1 := w214 1 n (by omega) (by omega) hn (by rw [Nat.one_pow]; exact one_cap); have p2 := w214 q n hq0 hq hn hc; rw [Nat.one_pow] at p1; rw [rat_inv] at e1 ⊢; rw [rat_inv]; simp only [Z9] at p1 p2; generalize magB (q ^ n) = z at *; generalize magB q = y at *; generalize magB 1 = x at *; refine PFn.of_body hΓ Tryz.func170 (by kernel_rfl) rfl (AWp.seq (Wd [] ?_)); simp -implicitDefEqProofs only [Tryz.ntmps170, Tryz.results170, Nat.reduceAdd, Nat.reduceSub, go_sem]; refine AWp.seq (Wd [] ?_); simp -implicitDefEqProofs only [go_sem]; refine Z0 e1 (.still rfl) ?_; simp -implicitDefEqProofs only [go_sem]; refine AWp.seq (Wd [] ?_); simp -implicitDefEqProofs only [go_sem]; refine ⟨by omega, Z0 p1 (.still rfl) ?_⟩; simp -implicitDefEqProofs only [go_sem]; refine AWp.seq (Wd [] ?_); simp -implicitDefEqProofs only [go_sem]; refine AWp.seq (Wd [] ?_); simp -implicitDefEqProofs only [go_sem]; refine Z0 p2 (.still rfl) ?_; simp -implicitDefEqProofs only [go_sem]; refine Wd [] ?_; simp -implicitDefEqProofs only [go_sem]; omega
theorem w107 (q n : Nat) (hq0 : q ≠ 0) (hq : q < 256) (hn : n ≤ 4096) (hc : q ^ n < capN) : PFn Tryz.prog 107 [.int .i64 q, .int .i64 n] [ratV 1 (q ^ n)] := by
  have e1 := w93 1 q (by omega) (by omega) hq0; have e2 := w170 q n hq0 hq hn hc; rw [rat_inv] at e1 e2 ⊢; rw [rat_inv] at e2; generalize magB (q ^ n) = z at *; generalize magB q = y at *; generalize magB 1 = x at *; refine PFn.of_body hΓ Tryz.func107 (by kernel_rfl) rfl (AWp.seq (Wd [] ?_)); simp -implicitDefEqProofs only [Tryz.ntmps107, Tryz.results107, Nat.reduceAdd, Nat.reduceSub, go_sem]; refine AWp.seq (Wd [] ?_); simp -implicitDefEqProofs only [go_sem]; refine Z0 e1 (.pures rfl) ?_; simp -implicitDefEqProofs only [go_sem]; refine Z0 e2 (.still rfl) ?_; simp -implicitDefEqProofs only [go_sem]; refine Wd [] ?_; simp -implicitDefEqProofs only [go_sem]
end Go.Proofs.YtpljmccnfmkmfaaGreat.Kn
end

section
namespace Go.Proofs.YtpljmccnfmkmfaaGreat
open Go Go.AM

theorem cm28 (q : Int) (ws : List (List UInt8)) (hc : Z6 q ws = 0) : PFn Tryz.prog 44 [Z7 q ws] [Kn.ratV (Kn.krS q.toNat (ws.map List.length)) (q.toNat ^ 32), .int .i64 0] := by
  have hv := valid_of hc; have h2 := hv.q2; have h16 := hv.q16; have hq : ((q.toNat : Nat) : Int) = q := by omega
  have hlen := hv.len; have e45 := t45 q ws; rw [hc] at e45; have hz : ((0 : Int) = 0) = True := by simp
  have ek := Kn.v50 q.toNat (ws.map List.length) (by omega) (by omega) (by simp; omega) (fun n hn => by
    obtain ⟨w, hw, rfl⟩ := List.mem_map.1 hn; obtain ⟨h1, h3, _⟩ := hv.words w hw; have := List.length_pos_iff.2 h1
    omega)
  rw [hq] at ek; refine PFn.of_body hΓ Tryz.func44 (by kernel_rfl) rfl (Wd [] ?_); simp -implicitDefEqProofs only [Tryz.ntmps44, Tryz.results44, Nat.reduceAdd, Nat.reduceSub, Z7, go_sem]; refine Z0 e45 (.still rfl) ?_; simp -implicitDefEqProofs only [go_sem]; refine AWp.adopt (l := []) 4 3 1 (by rfl) (by simp) ?_; simp -implicitDefEqProofs only [go_sem]
  refine AWp.loopI (fun i : Nat => ⟨mkF 30 [(1, .ptr 0 0), (2, .ptr 1 0), (4, .own 2 ((ws.map List.length).take i).length), (12, .p (.sl (ws.map .str))), (13, .p (.int .i64 ws.length)), (14, .p (.int .i64 i))], [Zn q ws, .box [.p (.bool false), .p (.str []), .p (.bool false), .p (.str [])], .row 3 1 (((ws.map List.length).take i).map Kn.nV) .lax]⟩)
    (fun i => i ≤ ws.length) (fun i => ws.length - i) 0 (by simp [go_sem, Zn]) (by simp) ?_
  intro i hi; refine Wd [] ?_; by_cases hlt : i < ws.length
  · have hlt' : (i : Int) < (ws.length : Int) := by omega
    have hgi : (ws.map PV.str).getD i default = .str ws[i] := Z2 _ _ _ _ hlt; have htk : (ws.map List.length).take (i + 1) = (ws.map List.length).take i ++ [ws[i].length] := by
      rw [List.take_succ_eq_append_getElem (by simpa using hlt), List.getElem_map]
    have hli : ((ws.map List.length).take i).length = i := by simp; omega
    have hs1 : Zc [PV.int .i64 (ws[i].length : Int)] 1 := by simp [Zc, PV.cells]
    have ho1 : Z0k [PV.int .i64 (ws[i].length : Int)] := by simp [Z0k, PV.cells, PV.isAgg]
    simp -implicitDefEqProofs only [hlt', hgi, Zn, Int.toNat_natCast, go_sem]; refine ⟨⟨hs1, by omega⟩, ⟨hs1, ho1⟩, ⟨by simp, by rw [hli]; omega, by rw [hli]; omega⟩, by simp only [InR]; omega, i + 1, ⟨⟨by rw [htk]; simp, by simp⟩, .inr ?_⟩, hlt, by omega⟩; rw [htk]; simp [Kn.nV]
  · have hlt' : ¬ (i : Int) < (ws.length : Int) := by omega
    have : i = ws.length := by omega
    subst this; rw [List.take_of_length_le (by simp)]; simp -implicitDefEqProofs only [Int.lt_irrefl, Nat.lt_irrefl, Zn, go_sem]; refine Z0 ek (.owned rfl rfl) ?_; simp -implicitDefEqProofs only [Kn.ratV, go_sem]

theorem aggR {A B C D : List UInt8} {x y : AV} {K : AV → Prop} (hx : x.pure = some (.agg [.bool false, .str A, .bool false, .str B])) (hy : y.pure = some (.agg [.bool false, .str C, .bool false, .str D]))
    (hK : K (.p (.bool (decide (A = C) && decide (B = D))))) : aggK Γ .eql 55 x y K := by
  have he : ∃ te fs, Γ 55 = some te ∧ te.td = .struct fs ∧ te.eqs = true ∧ Z5v Γ fs [.bool false, .str A, .bool false, .str B] [.bool false, .str C, .bool false, .str D] =
      some (((false == false) && (decide (A = C) && true)) && (((false == false) && (decide (B = D) && true)) && true)) := ⟨_, _, rfl, rfl, rfl, rfl⟩
  obtain ⟨te, fs, h1, h2, h3, h4⟩ := he; have e : (((false == false) && (decide (A = C) && true)) && (((false == false) && (decide (B = D) && true)) && true)) = (decide (A = C) && decide (B = D)) := by simp
  rw [e] at h4; unfold aggK; rw [hx, hy]; simp only [tyAt, h1, h2, h3, h4]; exact ⟨⟨trivial, rfl, rfl⟩, hK⟩

theorem Zkz {q : Nat} (hq : q ≤ 16) : q ^ 32 < capN := by
  have h1 : q ^ 32 ≤ 16 ^ 32 := Nat.pow_le_pow_left hq 32; have h2 : 16 ^ 32 < capN := Nat.lt_of_lt_of_le (by decide : 16 ^ 32 < 256 ^ 17) (Nat.pow_le_pow_right (by decide) (by decide)); omega

theorem cm14 (q : Nat) (ns : List Nat) (hq : 2 ≤ q) (hq16 : q ≤ 16) (hn : ns.length < 20) (h32 : ∀ n ∈ ns, 1 ≤ n ∧ n ≤ 32) :
    PFn Tryz.prog 46 [.int .i64 q, .sl (ns.map Kn.nV)] [.bool (decide (Kn.krS q ns ≤ q ^ 32)), .int .i64 0] := by
  have e50 := Kn.v50 q ns hq hq16 (by omega) h32; have hkl := Kn.krS_le hq16 ns; have hc1 := Zkz hq16; have hcap : (ns.length * 16 ^ 32) * 1 < capN := by
    have h2 : ns.length * 16 ^ 32 ≤ 20 * 16 ^ 32 := Nat.mul_le_mul_right _ (by omega); have h3 : 20 * 16 ^ 32 < capN := Nat.lt_of_lt_of_le (by decide : 20 * 16 ^ 32 < 256 ^ 18) (Nat.pow_le_pow_right (by decide) (by decide)); omega
  have hq0 : q ^ 32 ≠ 0 := Nat.pos_iff_ne_zero.1 (Nat.pow_pos (by omega)); have h1c := Kn.one_cap; have e58 := Kn.v58; have e51 := Kn.v51 (Kn.krS q ns) (q ^ 32) 1 1 (by omega) hc1 h1c h1c hq0 (by omega) (by omega) (by omega); rw [Nat.mul_one, Nat.one_mul] at e51; unfold Kn.ratV at e50 e51 e58; refine PFn.of_body hΓ Tryz.func46 (by kernel_rfl) rfl (AWp.seq (Wd [] ?_)); simp -implicitDefEqProofs only [Tryz.ntmps46, Tryz.results46, Nat.reduceAdd, Nat.reduceSub, go_sem]; refine AWp.seq (Wd [] ?_); simp -implicitDefEqProofs only [go_sem]; refine Z0 e50 (.pures rfl) ?_; simp -implicitDefEqProofs only [go_sem]; refine Wd [(2, 11)] ?_; simp -implicitDefEqProofs only [go_sem]; refine Z1 e58 (.pures rfl) ?_; simp -implicitDefEqProofs only [go_sem]; refine Z1 e51 (.still rfl) ?_; simp -implicitDefEqProofs only [go_sem]; by_cases h : Kn.krS q ns ≤ q ^ 32
  · have hc : cmpN (Kn.krS q ns) (q ^ 32) ≤ 0 := by
      by_cases he : Kn.krS q ns = q ^ 32
      · rw [he, Z8m]; decide
      · rw [Z46 (by omega)]; decide
    rw [decide_eq_true h, decide_eq_true hc]
  · rw [Z1r (by omega), decide_eq_false h]
    rfl

end Go.Proofs.YtpljmccnfmkmfaaGreat
end

