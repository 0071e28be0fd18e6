/-
  Texts of this claim, joined.
-/
import Derived.WalkKit
import Derived.KernelRfl
import Derived.LoopTactic
import Derived.Test.YtpljmccnfmkmfaaGreatJe01266d4e944
import Derived.Test.YtpljmccnfmkmfaaGreatJd16cf1e4a705
import Derived.Test.YtpljmccnfmkmfaaGreatJ7cb4b7e9e247
import Derived.Test.YtpljmccnfmkmfaaGreatJ530593ee3862

set_option linter.unnecessarySimpa false
set_option linter.unusedSimpArgs false
set_option maxRecDepth 100000
set_option maxHeartbeats 4000000
section
namespace Go.Proofs.YtpljmccnfmkmfaaGreat
open Go Go.RowKit Go.Proofs

theorem Z5t (n : Nat) (h0 : n ≠ 0) (h : n < 256) : magB n = [UInt8.ofNat n] := by
  have := Z1k (c := n) (n := 0) h; rw [Nat.mul_zero, Nat.add_zero, if_neg (fun e => h0 e.1), magB_zero] at this; exact this

theorem m108 (n : Nat) (hn : n < 9223372036854775808) (w : World) : Calls Tryz.prog 224 #[.int .i64 n] w fun e w' => e = .returned (.string ⟨(magB n).toArray⟩) ∧ Below w.heap.size w w' := by
  go_enter Tryz.func224, Tryz.ntmps224
  go_wp2
  · have h0 : ((n : Int) == 0) = true := by assumption
    have : n = 0 := by simpa using h0
    subst this
    go_ret
    exact ⟨rfl, Below.refl _ _⟩
  · have h0 : ((n : Int) == 0) = false := by assumption
    have h256 : (n : Int) < 256 := by assumption
    have h0' : n ≠ 0 := by simpa using h0
    have hc := run_convert_bytes_back (P := Tryz.prog) (w.alloc (.cells #[Value.int .u8 n] 5)) 65 9 5 ⟨w.heap.size, 0, none⟩ 1 [UInt8.ofNat n] Tryz.underlying65 Tryz.underlying5 Tryz.underlying9 (by
      intro j hj; have hj0 : j = 0 := by simpa using hj
      subst hj0; have hmod : n % 256 = n := Nat.mod_eq_of_lt (by omega); simp [Addr.add, UInt8.toNat_ofNat', hmod])
    rw [show (Value.slice (some { block := w.heap.size, off := 0 }) 1 1) = .slice (some ⟨w.heap.size, 0, none⟩) [UInt8.ofNat n].length 1 from rfl, hc]; simp only [Result.andThen]; rw [Oper.upon_value]
    go_wp2
    go_ret
    exact ⟨by rw [Z5t n h0' (by omega)]; rfl, (Below.refl _ _).alloc (Nat.le_refl _) _⟩
  · go_loopw [0, 4] (fun x k wr => ∃ (m p : Nat) (L : List UInt8), x = .int .i64 m ∧ k = .int .i64 p ∧ p + L.length = 8 ∧ magB n = magB m ++ L ∧ m ≤ n ∧ Below w.heap.size w wr ∧ wr.heap.size = w.heap.size + 1 ∧
        (∀ i, i < 8 → (wr.cell? ⟨w.heap.size, i, none⟩).isSome = true ∧ wr.frozen? ⟨w.heap.size, i, none⟩ = false) ∧ (∀ i (hi : i < L.length), wr.cell? ⟨w.heap.size, p + i, none⟩ = some (.int .u8 (L[i].toNat : Int))))
      (fun x _ _ => (intOf x).toNat)
    case atStart =>
      refine ⟨n, 8, [], rfl, rfl, rfl, by simp, Nat.le_refl _, (Below.refl _ _).alloc (Nat.le_refl _) _, World.size_alloc _ _, fun i hi => ?_, fun i hi => by simp at hi⟩; rw [World.cell?_alloc_new, World.frozen?_alloc_new]; refine ⟨?_, rfl⟩; simp [hi]
    case round =>
      obtain ⟨m, p, L, rfl, rfl, hpL, hL, hmn, hB, hsz, hc, hl⟩ := hrel; have hp : m > 0 → 0 < p := fun h => by
        have h1 := congrArg List.length hL; rw [List.length_append] at h1; have h2 := Z3e (k := 8) (n := n) (by omega); have h3 : (magB m).length ≠ 0 := fun e => by have := Zq (List.length_eq_zero_iff.1 e); omega
        omega
      by_cases hm : m > 0
      · have hp' := hp hm
        obtain ⟨p, rfl⟩ : ∃ r, p = r + 1 := ⟨p - 1, by omega⟩; obtain ⟨u, hu⟩ := Option.isSome_iff_exists.1 (hc p (by omega)).1; have hfp' := (hc p (by omega)).2; clear hp
        go_wp2
        refine ⟨⟨m / 256, p, UInt8.ofNat (m % 256) :: L, ?_, rfl, ?_, ?_, ?_, ?_, ?_, ?_, ?_⟩, ?_⟩
        · rw [Int.natCast_ediv]; rfl
        · rw [List.length_cons]; omega
        · have h4 := Z1k (c := m % 256) (n := m / 256) (Nat.mod_lt _ (by decide))
          rw [Nat.mod_add_div, if_neg (fun e => by omega)] at h4; rw [hL, h4, List.append_assoc]; rfl
        · exact Nat.le_trans (Nat.div_le_self _ _) hmn
        · exact hB.setCell (Nat.le_refl _) _
        · rw [World.size_setCell]; exact hsz
        · intro i hi
          rw [World.frozen?_setCell]; refine ⟨?_, (hc i hi).2⟩; by_cases e : i = p
          · subst e; rw [World.cell?_setCell_same (h := hu)]; rfl
          · rw [World.cell?_setCell_other (h := show (⟨w.heap.size, p, none⟩ : Addr) ≠ ⟨w.heap.size, i, none⟩ from fun e2 => e (by injection e2 with _ e3; exact e3.symm))]; exact (hc i hi).1
        · intro i hi
          cases i with
          | zero =>
            rw [Nat.add_zero, World.cell?_setCell_same (h := hu)]; have : m % 256 < 256 := Nat.mod_lt _ (by decide); simp [UInt8.toNat_ofNat']
          | succ i =>
            rw [World.cell?_setCell_other (h := show (⟨w.heap.size, p, none⟩ : Addr) ≠ ⟨w.heap.size, p + (i + 1), none⟩ from fun e2 => by injection e2 with _ e3; omega), show p + (i + 1) = p + 1 + i by omega]; exact hl i (by simpa using hi)
        · simp [intOf]; omega
      · have hm0 : m = 0 := by omega
        subst hm0; clear hp; rw [magB_zero, List.nil_append] at hL; have hLn : L ≠ [] := fun e => by
          rw [e] at hL; have := Zq hL; omega
        have hLl := List.length_pos_iff.2 hLn; have eL : Tryz.prog.arrayLen 216 = 8 := by kernel_rfl
        have eE : Tryz.prog.elem 216 = 5 := by kernel_rfl
        have hsl := run_sliceAt_array_l (P := Tryz.prog) wr 216 ⟨w.heap.size, 0, none⟩ (by rw [eL, eE]; exact Tryz.underlying216) .i64 (p : Int) (by omega) (by rw [eL]; omega); rw [eL, eE] at hsl; have hcv := run_convert_bytes_back (P := Tryz.prog) wr 65 9 5 ⟨w.heap.size, p, none⟩ L.length L Tryz.underlying65 Tryz.underlying5 Tryz.underlying9 (fun j hj => by
          have h5 := hl j hj; by_cases e : j = 0
          · subst e; simpa [Addr.add] using h5
          · simpa [Addr.add, e] using h5)
        go_wp2
        rw [show 8 - p = L.length by omega, hcv]; simp only [Result.andThen]; rw [Oper.upon_value]
        go_wp2
        go_ret
        exact ⟨by rw [hL]; rfl, hB⟩

def beN (l : List UInt8) : Nat := l.foldl (fun a b => a * 256 + b.toNat) 0
theorem Z1w (l : List UInt8) (b : UInt8) : beN (l ++ [b]) = beN l * 256 + b.toNat := by unfold beN; rw [List.foldl_append]; rfl
theorem Z2n : ∀ (k : Nat) (l : List UInt8), l.length = k → beN l < 256 ^ k
  | 0, l, h => by rw [List.length_eq_zero_iff.1 h]; decide
  | k + 1, l, h => by
    have hne : l ≠ [] := fun e => by rw [e] at h; cases h
    rw [← List.dropLast_concat_getLast hne, Z1w]; have h1 := Z2n k l.dropLast (by rw [List.length_dropLast]; omega); have h2 := (l.getLast hne).toNat_lt; rw [Nat.pow_succ]; omega
theorem Z7 (n : Nat) : beN (magB n) = n := by
  induction n using Nat.strongRecOn with
  | _ n ih =>
    by_cases h : n = 0
    · subst h; rfl
    · have h4 := Z1k (c := n % 256) (n := n / 256) (Nat.mod_lt _ (by decide))
      rw [Nat.mod_add_div, if_neg (fun e => by omega)] at h4; rw [h4, Z1w, ih _ (by omega), UInt8.toNat_ofNat']; have : n % 256 % 2 ^ 8 = n % 256 := by omega
      rw [this]; omega

theorem Zll (a b : Nat) (ha : a < 256 ^ 6) (hb : b < 256) : bits .or .i64 ((a : Int) * 256) (wrap64 (b : Int)) = ((a * 256 + b : Nat) : Int) := by
  have h1 : ((a : Int) * 256) = ((a * 256 : Nat) : Int) := by omega
  have h2 : wrap64 (b : Int) = (b : Int) := by unfold wrap64; omega
  have h3 := Nat.shiftLeft_add_eq_or_of_lt (b := b) (i := 8) (by omega) a; rw [h1, h2]; have g1 : a * 256 < 18446744073709551616 := by omega
  have e : (BitVec.ofInt 64 ((a * 256 : Nat) : Int) ||| BitVec.ofInt 64 (b : Int)).toNat = a * 256 + b := by
    rw [BitVec.toNat_or, BitVec.ofInt_natCast, BitVec.ofInt_natCast, BitVec.toNat_ofNat, BitVec.toNat_ofNat, Nat.mod_eq_of_lt g1, Nat.mod_eq_of_lt (show b < 2 ^ 64 by omega)]; rw [Nat.shiftLeft_eq] at h3; exact h3.symm
  show IntKind.wrap .i64 ((BitVec.ofInt 64 ((a * 256 : Nat) : Int) ||| BitVec.ofInt 64 (b : Int)).toNat : Nat) = _; rw [e]; exact AM.InR.wrap (k := .i64) (by simp only [AM.InR]; omega)

theorem m124 (s : ByteArray) (hs : s.size ≤ 7) (w : World) : Calls Tryz.prog 244 #[.string s] w fun e w' => e = .returned (.int .i64 (beN s.data.toList)) ∧ w' = w := by
  go_enter Tryz.func244, Tryz.ntmps244
  go_wp2
  go_loop [3, 4] (fun x k => ∃ i : Nat, i ≤ s.size ∧ k = .int .i64 i ∧ x = .int .i64 (beN (s.data.toList.take i)))
    (fun _ k => s.size - (intOf k).toNat)
  case atStart => exact ⟨0, by omega, rfl, rfl⟩
  case round =>
    obtain ⟨i, hi, rfl, rfl⟩ := hrel; by_cases hlt : i < s.size
    · have hlt' : (i : Int) < s.size := by omega
      have hlen : s.data.toList.length = s.size := by simp
      have htl : (s.data.toList.take i).length = i := by rw [List.length_take]; omega
      have hbd := Z2n i _ htl; have hbd6 : beN (s.data.toList.take i) < 256 ^ 6 := Nat.lt_of_lt_of_le hbd (Nat.pow_le_pow_right (by decide) (by omega)); have hor := Zll (beN (s.data.toList.take i)) s[i].toNat hbd6 s[i].toNat_lt; have hnext : beN (s.data.toList.take (i + 1)) = beN (s.data.toList.take i) * 256 + s[i].toNat := by
        rw [List.take_succ_eq_append_getElem (by omega), Z1w]; rfl
      go_wp2
      refine ⟨⟨i + 1, by omega, by simp, ?_⟩, ?_⟩
      · rw [hnext, Int.natCast_add, Int.natCast_mul]; rfl
      · simp only [intOf]; omega
    · have hlt' : ¬ (i : Int) < s.size := by omega
      have hie : i = s.size := by omega
      go_wp2
      go_ret
      exact ⟨by rw [List.take_of_length_le (by simp)]; rfl, rfl⟩
end Go.Proofs.YtpljmccnfmkmfaaGreat
end

section
namespace Go.Proofs.YtpljmccnfmkmfaaGreat
open Go Go.AM

/-! ### The order of words -/
def ltW (a b : List UInt8) : Prop := a.length < b.length ∨ (a.length = b.length ∧ bLt a b = true)
theorem Z63 (x y : UInt8) (a b : List UInt8) : bLt (x :: a) (y :: b) = true ↔ x.toNat < y.toNat ∨ (x.toNat = y.toNat ∧ bLt a b = true) := by
  have e : bLt (x :: a) (y :: b) = (match Nat.blt x.toNat y.toNat with | true => true | false => (match Nat.beq x.toNat y.toNat with | true => bLt a b | false => false)) := rfl; rw [e]
  cases h1 : Nat.blt x.toNat y.toNat
  · have h2 : ¬ x.toNat < y.toNat := fun h => by rw [(Nat.blt_eq (x := x.toNat)).symm.mp h] at h1; cases h1
    cases h3 : Nat.beq x.toNat y.toNat
    · have : ¬ x.toNat = y.toNat := fun h => by rw [h] at h3; simp at h3
      simp [h2, this]
    · have := Nat.eq_of_beq_eq_true h3
      simp [h2, this]
  · have := (Nat.blt_eq (x := x.toNat)).mp h1
    simp [this]
theorem Zaj : ∀ {a b c : List UInt8}, bLt a b = true → bLt b c = true → bLt a c = true
  | a, [], c, h, _ => by cases a <;> cases h
  | [], _ :: _, [], _, h => by cases h
  | [], _ :: _, _ :: _, _, _ => rfl
  | x :: a, y :: b, [], _, h => by cases h
  | x :: a, y :: b, z :: c, h1, h2 => by
    rw [Z63] at h1 h2 ⊢; rcases h1 with h1 | ⟨h1, h3⟩
    · rcases h2 with h2 | ⟨h2, _⟩
      · exact .inl (by omega)
      · exact .inl (by omega)
    · rcases h2 with h2 | ⟨h2, h4⟩
      · exact .inl (by omega)
      · exact .inr ⟨by omega, Zaj h3 h4⟩
theorem Z85 : ∀ a : List UInt8, bLt a a = false
  | [] => rfl
  | x :: a => by
    rw [Bool.eq_false_iff]; intro h; rw [Z63] at h; rcases h with h | ⟨_, h⟩
    · omega
    · rw [Z85 a] at h; cases h
theorem Zm5 (a b : List UInt8) : cmpW a b < 0 ↔ ltW a b := by
  unfold cmpW ltW; by_cases h1 : a.length < b.length
  · rw [if_pos h1]; simp [h1]
  · by_cases h2 : b.length < a.length
    · rw [if_neg h1, if_pos h2]; simp [h1]; omega
    · rw [if_neg h1, if_neg h2]
      have h3 : a.length = b.length := by omega
      unfold cmpB
      cases bLt a b
      · cases bEq a b <;> simp [h1]
      · simp [h3]
theorem Zf8 {a b c : List UInt8} (h1 : ltW a b) (h2 : ltW b c) : ltW a c := by
  rcases h1 with h1 | ⟨h1, h3⟩ <;> rcases h2 with h2 | ⟨h2, h4⟩
  · exact .inl (by omega)
  · exact .inl (by omega)
  · exact .inl (by omega)
  · exact .inr ⟨by omega, Zaj h3 h4⟩
theorem Zaa {l : List Int} (h : Z2j l = 0) : ∀ x ∈ l, x = 0 := by
  intro x hx; unfold Z2j at h
  cases hf : l.find? (fun x => decide (x ≠ 0)) with
  | none => simpa using List.find?_eq_none.1 hf x hx
  | some y =>
    have h1 := List.find?_some hf; rw [hf] at h; simp only [decide_eq_true_eq] at h1; exact absurd h h1

structure Valid (q : Int) (ws : List (List UInt8)) : Prop where
  q2 : 2 ≤ q
  q16 : q ≤ 16
  pos : 0 < ws.length
  len : ws.length ≤ 64
  ne : ∀ i, i < ws.length → ws.getD i [] ≠ []
  short : ∀ i, i < ws.length → (ws.getD i []).length ≤ 32
  word : ∀ i, i < ws.length → Zj q (ws.getD i []) = 0
  lt : ∀ i j, i < j → j < ws.length → ltW (ws.getD i []) (ws.getD j [])

theorem Z2b {q : Int} {ws : List (List UInt8)} (h : Zb q ws = 0) : Valid q ws := by
  unfold Zb at h
  split at h
  · omega
  rename_i h1
  split at h
  · omega
  rename_i h2
  split at h
  · omega
  rename_i h3
  have h4 : ∀ i, i < ws.length → Zk q ws i = 0 := fun i hi => Zaa h _ (List.mem_map.2 ⟨i, List.mem_range.2 hi, rfl⟩)
  have h5 : ∀ i, i < ws.length → ws.getD i [] ≠ [] ∧ ¬ 32 < (ws.getD i []).length ∧ Zj q (ws.getD i []) = 0 ∧ ¬ (0 < i ∧ 0 ≤ cmpW (ws.getD (i - 1) []) (ws.getD i [])) := fun i hi => by
    have := h4 i hi; unfold Zk at this; simp only at this
    split at this
    · omega
    rename_i g1
    split at this
    · omega
    rename_i g2
    split at this
    · omega
    rename_i g3
    split at this
    · omega
    rename_i g4
    exact ⟨g1, g2, by omega, g4⟩
  have step : ∀ i, i + 1 < ws.length → ltW (ws.getD i []) (ws.getD (i + 1) []) := fun i hi => by
    have := (h5 (i + 1) hi).2.2.2; rw [← Zm5]; simp only [Nat.add_sub_cancel] at this; omega
  refine ⟨by omega, by omega, by omega, by omega, fun i hi => (h5 i hi).1, fun i hi => by have := (h5 i hi).2.1; omega, fun i hi => (h5 i hi).2.2.1, ?_⟩; intro i j hij hj; obtain ⟨d, rfl⟩ : ∃ d, j = i + 1 + d := ⟨j - i - 1, by omega⟩; clear hij
  induction d with
  | zero => exact step i hj
  | succ d ih => exact Zf8 (ih (by omega)) (step (i + 1 + d) hj)

end Go.Proofs.YtpljmccnfmkmfaaGreat
end

section
namespace Go.Proofs.YtpljmccnfmkmfaaGreat
open Go Go.AM Go.RowKit

theorem u99 (n : Nat) (hn : n < 9223372036854775808) : PFn Tryz.prog 224 [.int .i64 n] [.str (magB n)] := by
  refine ⟨Z05 Tryz.func224 (by kernel_rfl) rfl, fun I w cargs himm hlen hargs => ?_⟩; obtain ⟨a, rfl⟩ : ∃ a, cargs = [a] := by
    match cargs, hlen with
    | [a], _ => exact ⟨a, rfl⟩
  have h0 := hargs 0 (by simp); simp only [List.getD_cons_zero] at h0; rw [h0.int_inv]; refine Calls.mono (P := Tryz.prog) (m108 n hn w) ?_; rintro e w' ⟨rfl, hB⟩; exact ⟨_, I, rfl, Z0m hB, fun _ h => h, fun g h => .inl h, .p _ _ (.str ⟨(magB n).toArray⟩)⟩
theorem u124 (l : List UInt8) (hl : l.length ≤ 7) : PFn Tryz.prog 244 [.str l] [.int .i64 (beN l)] := by
  refine ⟨Z05 Tryz.func244 (by kernel_rfl) rfl, fun I w cargs himm hlen hargs => ?_⟩; obtain ⟨a, rfl⟩ : ∃ a, cargs = [a] := by
    match cargs, hlen with
    | [a], _ => exact ⟨a, rfl⟩
  have h0 := hargs 0 (by simp); simp only [List.getD_cons_zero] at h0; obtain ⟨s, rfl, rfl⟩ : ∃ s : ByteArray, a = .string s ∧ l = s.data.toList := by
    cases h0 with
    | str s => exact ⟨s, rfl, rfl⟩
  refine Calls.mono (P := Tryz.prog) (m124 s (by simpa using hl) w) ?_; rintro e w' ⟨rfl, rfl⟩; exact ⟨_, I, rfl, Z0m (Below.refl _ _), fun _ h => h, fun g h => .inl h, .p _ _ (.int _ _)⟩

theorem intF (n : Nat) : intN false n = .agg [.bool false, .str (magB n)] := rfl
theorem mag7 {n : Nat} (h : n < 256 ^ 7) : (magB n).length ≤ 7 := Z3e h
theorem Z9x (n : Nat) (h : n ≠ 0) : ∃ b l, magB n = b :: l ∧ b ≠ 0 := by
  induction n using Nat.strongRecOn with
  | _ n ih =>
    have h4 := Z1k (c := n % 256) (n := n / 256) (Nat.mod_lt _ (by decide)); rw [Nat.mod_add_div, if_neg (fun e => by omega)] at h4; by_cases h0 : n / 256 = 0
    · refine ⟨UInt8.ofNat (n % 256), [], by rw [h4, h0, magB_zero]; rfl, fun e => ?_⟩
      have := congrArg UInt8.toNat e; rw [UInt8.toNat_ofNat'] at this; have z : (0 : UInt8).toNat = 0 := rfl; rw [z] at this; omega
    · obtain ⟨b, l, h1, h2⟩ := ih (n / 256) (by omega) h0
      exact ⟨b, l ++ [UInt8.ofNat (n % 256)], by rw [h4, h1]; rfl, h2⟩

theorem u110 (n : Nat) (hn : n < 256 ^ 7) : PFn Tryz.prog 206 [intN false n] [.int .i64 n] := by
  have e := u124 (magB n) (mag7 hn); rw [Z7] at e; rw [intF]; generalize magB n = l at *; refine PFn.of_body hΓ Tryz.func206 (by kernel_rfl) rfl (Wd [] ?_); simp -implicitDefEqProofs only [Tryz.ntmps206, Tryz.results206, Nat.reduceAdd, Nat.reduceSub, go_sem]; refine Z0 e (.pures rfl) ?_; simp -implicitDefEqProofs only [go_sem]
theorem u109e : PFn Tryz.prog 243 [.str []] [.str []] := by
  refine PFn.of_body hΓ Tryz.func243 (by kernel_rfl) rfl (Wd [] ?_); simp -implicitDefEqProofs only [Tryz.ntmps243, Tryz.results243, Nat.reduceAdd, Nat.reduceSub, go_sem]; refine AWp.loopI (fun _ : Unit => ⟨mkF 14 [(0, .p (.str []))], []⟩) (fun _ => True) (fun _ => 0) () (by simp [go_sem]) trivial ?_; rintro _ _; simp -implicitDefEqProofs only [go_sem]; refine Wd [] ?_; have z : ¬ (0 : Int) < ((0 : Nat) : Int) := by decide
  simp -implicitDefEqProofs only [List.length_nil, z, go_sem]
theorem u96 (n : Nat) : PFn Tryz.prog 205 [intN false n] [intN false n] := by
  rw [intF]; refine PFn.of_body hΓ Tryz.func205 (by kernel_rfl) rfl (Wd [] ?_); by_cases h : n = 0
  · subst h
    rw [magB_zero]; have z : ¬ (0 : Int) < ((0 : Nat) : Int) := by decide
    simp -implicitDefEqProofs only [Tryz.ntmps205, Tryz.results205, Nat.reduceAdd, Nat.reduceSub, List.length_nil, z, go_sem]; refine Z0 u109e (.pures rfl) ?_; simp -implicitDefEqProofs only [go_sem]; omega
  · obtain ⟨b, l, h1, h2⟩ := Z9x n h
    rw [h1]; have z : (0 : Int) < ((l.length + 1 : Nat) : Int) := by omega
    have z3 : ¬ ((((b :: l).getD (Int.toNat 0) 0).toNat : Nat) : Int) = 0 := fun e => h2 (by
      have e1 : b.toNat = 0 := by simpa using e
      exact UInt8.toNat_inj.1 e1)
    simp -implicitDefEqProofs only [Tryz.ntmps205, Tryz.results205, Nat.reduceAdd, Nat.reduceSub, List.length_cons, z, z3, go_sem]
theorem u76 (n : Nat) (hn : n < 9223372036854775808) : PFn Tryz.prog 179 [.int .i64 n] [intN false n] := by
  have e := u99 n hn; have h0 : (0 : Int) ≤ n := by omega
  rw [intF]; generalize magB n = l at *; refine PFn.of_body hΓ Tryz.func179 (by kernel_rfl) rfl (Wd [] ?_); simp -implicitDefEqProofs only [Tryz.ntmps179, Tryz.results179, Nat.reduceAdd, Nat.reduceSub, h0, go_sem]; refine Z0 e (.pures rfl) ?_; simp -implicitDefEqProofs only [go_sem]


theorem Z4p (a : UInt8) (l : List UInt8) : beN (a :: l) = a.toNat * 256 ^ l.length + beN l := by
  have : ∀ (l : List UInt8) (n : Nat), l.foldl (fun a b => a * 256 + b.toNat) n = n * 256 ^ l.length + beN l := fun l => by
    induction l with
    | nil => intro n; simp [beN]
    | cons b l ih =>
      intro n; unfold beN; rw [List.foldl_cons, List.foldl_cons, ih, ih, List.length_cons, Nat.pow_succ, Nat.zero_mul, Nat.zero_add, Nat.add_mul, Nat.mul_assoc, Nat.mul_comm 256, Nat.add_assoc]
  unfold beN; rw [List.foldl_cons, this, Nat.zero_mul, Nat.zero_add]; rfl
theorem Zh0 : ∀ (a b : List UInt8), a.length = b.length → (bLt a b = true ↔ beN a < beN b)
  | [], [], _ => by simp [bLt, beN]
  | x :: a, y :: b, h => by
    have hl : a.length = b.length := by simpa using h
    have ih := Zh0 a b hl; have h1 := Z2n _ a rfl; have h2 := Z2n _ b rfl; rw [Z63, ih, Z4p, Z4p, hl]; rw [hl] at h1; have hpos : 0 < 256 ^ b.length := Nat.pow_pos (by decide); generalize 256 ^ b.length = p at *
    constructor
    · rintro (g | ⟨g, g2⟩)
      · have : (x.toNat + 1) * p ≤ y.toNat * p := Nat.mul_le_mul_right _ g
        rw [Nat.add_mul] at this; omega
      · rw [g]; omega
    · intro g
      rcases Nat.lt_trichotomy x.toNat y.toNat with k | k | k
      · exact .inl k
      · rw [k] at g; exact .inr ⟨k, by omega⟩
      · have : (y.toNat + 1) * p ≤ x.toNat * p := Nat.mul_le_mul_right _ k
        rw [Nat.add_mul] at this; omega
theorem Z6o {n : Nat} {k : Nat} (h : (magB n).length = k + 1) : 256 ^ k ≤ n := by
  have hn : n ≠ 0 := fun e => by subst e; rw [magB_zero] at h; cases h
  obtain ⟨b, l, h1, h2⟩ := Z9x n hn; have h3 := Z7 n; rw [h1, Z4p] at h3; rw [h1] at h; have h4 : l.length = k := by simpa using h
  rw [h4] at h3; have hb : 1 ≤ b.toNat := Nat.pos_of_ne_zero fun e => h2 (UInt8.toNat_inj.1 e)
  have : 1 * 256 ^ k ≤ b.toNat * 256 ^ k := Nat.mul_le_mul_right _ hb; omega
theorem Z3d (n : Nat) : n < 256 ^ (magB n).length := by
  have := Z2n _ (magB n) rfl
  rwa [Z7] at this
theorem Z1i {a b : Nat} (h : (magB a).length < (magB b).length) : a < b := by
  obtain ⟨k, hk⟩ : ∃ k, (magB b).length = k + 1 := ⟨(magB b).length - 1, by omega⟩; have h1 := Z6o hk; have h2 := Z3d a; have h3 : 256 ^ (magB a).length ≤ 256 ^ k := Nat.pow_le_pow_right (by decide) (by omega); omega
theorem Zm1 {a b : Nat} (h : magB a = magB b) : a = b := by rw [← Z7 a, h, Z7]

theorem u97 (a b : Nat) : PFn Tryz.prog 208 [.str (magB a), .str (magB b)] [.int .i64 (cmpN a b)] := by
  rcases Nat.lt_trichotomy (magB a).length (magB b).length with h | h | h
  · rw [Z2k (Z1i h)]
    have h1 : ¬ ((magB a).length : Int) = (magB b).length := by omega
    have h2 : ((magB a).length : Int) < (magB b).length := by omega
    refine PFn.of_body hΓ Tryz.func208 (by kernel_rfl) rfl (Wd [] ?_); simp -implicitDefEqProofs only [Tryz.ntmps208, Tryz.results208, Nat.reduceAdd, Nat.reduceSub, h1, h2, go_sem]
  · have h1 : ((magB a).length : Int) = (magB b).length := by omega
    have hlt := Zh0 _ _ h; rw [Z7, Z7] at hlt; have hbl : Op.bytesLess (magB a) (magB b) = bLt (magB a) (magB b) := (Zgz _ _).symm; rcases Nat.lt_trichotomy a b with g | g | g
    · have hb : Op.bytesLess (magB a) (magB b) = true := by rw [hbl]; exact hlt.2 g
      rw [Z2k g]; refine PFn.of_body hΓ Tryz.func208 (by kernel_rfl) rfl (Wd [] ?_); simp -implicitDefEqProofs only [Tryz.ntmps208, Tryz.results208, Nat.reduceAdd, Nat.reduceSub, h1, hb, go_sem]
    · subst g
      have hb : Op.bytesLess (magB a) (magB a) = false := by rw [hbl]; exact Z85 _
      rw [Z24]; generalize magB a = x at *; refine PFn.of_body hΓ Tryz.func208 (by kernel_rfl) rfl (Wd [] ?_); simp -implicitDefEqProofs only [Tryz.ntmps208, Tryz.results208, Nat.reduceAdd, Nat.reduceSub, hb, Bool.false_or, Bool.or_true, Bool.or_false, go_sem]
    · have hb : Op.bytesLess (magB a) (magB b) = false := by
        rw [hbl, Bool.eq_false_iff]; exact fun e => by have := hlt.1 e; omega
      have hne : ¬ magB a = magB b := fun e => by have := Zm1 e; omega
      rw [Z0b g]; refine PFn.of_body hΓ Tryz.func208 (by kernel_rfl) rfl (Wd [] ?_); simp -implicitDefEqProofs only [Tryz.ntmps208, Tryz.results208, Nat.reduceAdd, Nat.reduceSub, h1, hb, hne, Bool.false_or, Bool.or_true, Bool.or_false, decide_false, go_sem]
  · rw [Z0b (Z1i h)]
    have h1 : ¬ ((magB a).length : Int) = (magB b).length := by omega
    have h2 : ¬ ((magB a).length : Int) < (magB b).length := by omega
    refine PFn.of_body hΓ Tryz.func208 (by kernel_rfl) rfl (Wd [] ?_); simp -implicitDefEqProofs only [Tryz.ntmps208, Tryz.results208, Nat.reduceAdd, Nat.reduceSub, h1, h2, go_sem]

theorem u74 (a b : Nat) : PFn Tryz.prog 215 [intN false a, intN false b] [.int .i64 (cmpN a b)] := by
  have ea := u96 a; have eb := u96 b; have ec := u97 a b; simp only [intF] at ea eb ⊢; generalize magB a = x at *; generalize magB b = y at *; generalize cmpN a b = z at *; refine PFn.of_body hΓ Tryz.func215 (by kernel_rfl) rfl (AWp.seq (Wd [] ?_)); simp -implicitDefEqProofs only [Tryz.ntmps215, Tryz.results215, Nat.reduceAdd, Nat.reduceSub, go_sem]; refine Wd [(1, 4)] ?_; simp -implicitDefEqProofs only [go_sem]; refine Z1 ea (.still rfl) ?_; simp -implicitDefEqProofs only [go_sem]; refine Z1 eb (.still rfl) ?_; have hz : (false != false) = false := rfl; simp -implicitDefEqProofs only [hz, go_sem]; refine Z0 ec (.pures rfl) ?_; simp -implicitDefEqProofs only [go_sem]

/-! ### Leading zeros -/
def Z6a : List UInt8 → List UInt8
  | [] => []
  | b :: l => if b = 0 then Z6a l else b :: l
theorem Zjd (l : List UInt8) : beN (0 :: l) = beN l := by rw [Z4p]; have : (0 : UInt8).toNat = 0 := rfl; rw [this]; omega
theorem Zk7 : ∀ (k : Nat) (b : UInt8) (l : List UInt8), l.length = k → b ≠ 0 → magB (beN (b :: l)) = b :: l
  | 0, b, l, hl, hb => by
    have : l = [] := List.length_eq_zero_iff.1 hl; subst this; have h0 : b.toNat ≠ 0 := fun e => hb (UInt8.toNat_inj.1 e)
    have e : beN [b] = b.toNat + 256 * 0 := by simp [beN]
    rw [e, Z1k (UInt8.toNat_lt b), if_neg (fun h => h0 h.1), magB_zero]; simp
  | k + 1, b, l, hl, hb => by
    have hne : l ≠ [] := fun e => by rw [e] at hl; cases hl
    obtain ⟨t, c, rfl⟩ : ∃ t c, l = t ++ [c] := ⟨l.dropLast, l.getLast hne, (List.dropLast_concat_getLast hne).symm⟩; have ih := Zk7 k b t (by simpa using hl) hb; have e : beN (b :: (t ++ [c])) = c.toNat + 256 * beN (b :: t) := by
      rw [← List.cons_append, Z1w]; omega
    rw [e, Z1k (UInt8.toNat_lt c), if_neg (fun h => by rw [h.2, magB_zero] at ih; cases ih), ih]; simp
theorem Z69 : ∀ l : List UInt8, Z6a l = magB (beN l)
  | [] => rfl
  | b :: l => by
    unfold Z6a; by_cases h : b = 0
    · rw [if_pos h, h, Zjd, Z69 l]
    · rw [if_neg h, Zk7 _ b l rfl h]
theorem Z0r (l : List UInt8) : beN l = Z3p l := by
  have : ∀ k (l : List UInt8), l.length = k → beN l = Z3p l := by
    intro k
    induction k with
    | zero => intro l hl; rw [List.length_eq_zero_iff.1 hl]; rfl
    | succ k ih =>
      intro l hl; have hne : l ≠ [] := fun e => by rw [e] at hl; cases hl
      obtain ⟨t, c, rfl⟩ : ∃ t c, l = t ++ [c] := ⟨l.dropLast, l.getLast hne, (List.dropLast_concat_getLast hne).symm⟩; rw [Z1w, ih t (by simpa using hl)]; unfold Z3p lebs; rw [List.reverse_append, List.map_append]; simp [valD]; omega
  exact this _ l rfl

theorem q113 (l : List UInt8) (hl : l.length ≤ 1000000) : PFn Tryz.prog 243 [.str l] [.str (magB (beN l))] := by
  rw [← Z69]; refine PFn.of_body hΓ Tryz.func243 (by kernel_rfl) rfl (Wd [] ?_); simp -implicitDefEqProofs only [Tryz.ntmps243, Tryz.results243, Nat.reduceAdd, Nat.reduceSub, go_sem]; refine AWp.loopI (fun x : List UInt8 => ⟨mkF 14 [(0, .p (.str x))], []⟩) (fun x => Z6a x = Z6a l ∧ x.length ≤ 1000000) (fun x => x.length) l (by simp [go_sem]) ⟨rfl, hl⟩ ?_; rintro x ⟨hx, hxl⟩; simp -implicitDefEqProofs only [go_sem]; refine Wd [] ?_
  match x, hx, hxl with
  | [], hx, _ =>
    have z : ¬ (0 : Int) < ((0 : Nat) : Int) := by decide
    have z2 : Z6a [] = [] := rfl; rw [z2] at hx; simp -implicitDefEqProofs only [List.length_nil, z, go_sem]; exact hx
  | b :: t, hx, hxl =>
    have z : (0 : Int) < ((t.length + 1 : Nat) : Int) := by omega
    have hlen : t.length + 1 ≤ 1000000 := hxl; by_cases hb : b = 0
    · subst hb
      have hx2 : Z6a t = Z6a l := by rw [← hx]; rfl
      simp -implicitDefEqProofs only [List.length_cons, z, go_sem]; refine ⟨fun _ => ⟨⟨by omega, by omega⟩, t, rfl, ⟨hx2, by omega⟩, by omega⟩, fun h => absurd rfl h⟩
    · have hx2 : Z6a l = b :: t := by rw [← hx]; unfold Z6a; rw [if_neg hb]
      have z3 : ¬ ((((b :: t).getD (Int.toNat 0) 0).toNat : Nat) : Int) = 0 := fun e => hb (by
        have e1 : b.toNat = 0 := by simpa using e
        exact UInt8.toNat_inj.1 e1)
      simp -implicitDefEqProofs only [List.length_cons, z, z3, go_sem]; exact hx2.symm
theorem q91 (neg : Bool) (mag : List UInt8) (hl : mag.length ≤ 1000000) : PFn Tryz.prog 205 [intV neg mag] [intN neg (beN mag)] := by
  have e113 := q113 mag hl; have hm := Z69 mag; unfold intV
  match mag, hm, hl with
  | [], hm, _ =>
    have z : ¬ (0 : Int) < ((0 : Nat) : Int) := by decide
    have hb : beN [] = 0 := rfl; rw [hb, Za4]; rw [hb, magB_zero] at e113; unfold intV; refine PFn.of_body hΓ Tryz.func205 (by kernel_rfl) rfl (Wd [] ?_); simp -implicitDefEqProofs only [Tryz.ntmps205, Tryz.results205, Nat.reduceAdd, Nat.reduceSub, List.length_nil, z, go_sem]; refine Z0 e113 (.pures rfl) ?_
    cases neg
    · simp -implicitDefEqProofs only [go_sem]
      omega
    · simp -implicitDefEqProofs only [go_sem]
      omega
  | b :: t, hm, hl =>
    have hlen : t.length + 1 ≤ 1000000 := hl; have z : (0 : Int) < ((t.length + 1 : Nat) : Int) := by omega
    by_cases hb : b = 0
    · subst hb
      have z3 : (((0 :: t : List UInt8).getD (Int.toNat 0) 0).toNat : Int) = 0 := rfl; obtain ⟨n, hn⟩ : ∃ n, n = beN (0 :: t) := ⟨_, rfl⟩; rw [← hn] at e113 ⊢; unfold intN intV; by_cases h0 : n = 0
      · rw [h0, magB_zero] at e113 ⊢
        refine PFn.of_body hΓ Tryz.func205 (by kernel_rfl) rfl (Wd [] ?_)
        cases neg
        · simp -implicitDefEqProofs only [Tryz.ntmps205, Tryz.results205, Nat.reduceAdd, Nat.reduceSub, List.length_cons, z, z3, go_sem]
          refine Z0 e113 (.pures rfl) ?_; simp -implicitDefEqProofs only [go_sem]
          first | omega | exact ⟨by omega, by simp [h0]⟩
        · simp -implicitDefEqProofs only [Tryz.ntmps205, Tryz.results205, Nat.reduceAdd, Nat.reduceSub, List.length_cons, z, z3, go_sem]
          refine Z0 e113 (.pures rfl) ?_; simp -implicitDefEqProofs only [go_sem]; omega
      · have hne : ¬ magB n = [] := fun e => h0 (Zq e)
        refine PFn.of_body hΓ Tryz.func205 (by kernel_rfl) rfl (Wd [] ?_)
        cases neg
        · simp -implicitDefEqProofs only [Tryz.ntmps205, Tryz.results205, Nat.reduceAdd, Nat.reduceSub, List.length_cons, z, z3, go_sem]
          refine Z0 e113 (.pures rfl) ?_; simp -implicitDefEqProofs only [go_sem]
          first | omega | exact ⟨by omega, by simp [h0]⟩
        · simp -implicitDefEqProofs only [Tryz.ntmps205, Tryz.results205, Nat.reduceAdd, Nat.reduceSub, List.length_cons, z, z3, go_sem]
          refine Z0 e113 (.pures rfl) ?_; simp -implicitDefEqProofs only [hne, go_sem]; exact ⟨by omega, by simp [h0]⟩
    · have hx2 : magB (beN (b :: t)) = b :: t := by rw [← hm]; unfold Z6a; rw [if_neg hb]
      have z3 : ¬ ((((b :: t).getD (Int.toNat 0) 0).toNat : Nat) : Int) = 0 := fun e => hb (by
        have e1 : b.toNat = 0 := by simpa using e
        exact UInt8.toNat_inj.1 e1)
      have hn0 : beN (b :: t) ≠ 0 := fun e => by rw [e, magB_zero] at hx2; cases hx2
      have hd : (neg && decide (beN (b :: t) ≠ 0)) = neg := by rw [decide_eq_true hn0, Bool.and_true]
      unfold intN intV; rw [hd, hx2]; refine PFn.of_body hΓ Tryz.func205 (by kernel_rfl) rfl (Wd [] ?_); simp -implicitDefEqProofs only [Tryz.ntmps205, Tryz.results205, Nat.reduceAdd, Nat.reduceSub, List.length_cons, z, z3, go_sem]

end Go.Proofs.YtpljmccnfmkmfaaGreat
end

section
namespace Go.Proofs.YtpljmccnfmkmfaaGreat.Kn
open Go Go.AM

theorem Z2n : ∀ l : List UInt8, beN l < 256 ^ l.length
  | [] => by decide
  | a :: l => by
    rw [Z4p, List.length_cons, Nat.pow_succ]; have h1 := Z2n l; have h2 : a.toNat < 256 := a.toNat_lt; have h3 : a.toNat * 256 ^ l.length ≤ 255 * 256 ^ l.length := Nat.mul_le_mul_right _ (by omega); omega
theorem beN3 {l : List UInt8} (h : l.length ≤ 3) : beN l < 16777216 := Nat.lt_of_lt_of_le (Z2n l) (by
  have : (16777216 : Nat) = 256 ^ 3 := by decide
  rw [this]; exact Nat.pow_le_pow_right (by decide) h)
theorem cap24 {n : Nat} (h : n < 16777216) : n < capN := Z1u (k := 3) h (by decide)
theorem g156 (s : Bool) (A : List UInt8) (hA : A.length ≤ 3) : PFn Tryz.prog 156 [intV s A] [natV (digD B32 (beN A))] := by
  have := u69 s A (by omega)
  rwa [← Z0r] at this
theorem g139 (s : Bool) (n : Nat) (hn : n < capN) : PFn Tryz.prog 139 [.bool s, natV (digD B32 n)] [intN s n] := by
  have e2 := u66 s (digD B32 n) (Z02 _) (by have := Z0i hn; omega)
  rwa [Z8 (by decide)] at e2
theorem Zf (s : Bool) : intN s 0 = .agg [.bool false, .str []] := by
  unfold intN intV; rw [magB_zero]; simp
theorem g189 (s : Bool) (A : List UInt8) (hA : A.length ≤ 3) : PFn Tryz.prog 189 [intV s A] [intN (!s) (beN A)] := by
  have e1 := g156 s A hA; have e2 := g139 (!s) (beN A) (cap24 (beN3 hA)); unfold intN intV at *; generalize natV (digD B32 (beN A)) = X at *; generalize beN A = n at *
  cases s
  · skip
    refine PFn.of_body hΓ Tryz.func189 (by kernel_rfl) rfl (Wd [(1, 6)] ?_); simp +contextual -implicitDefEqProofs only [Tryz.ntmps189, Tryz.results189, Nat.reduceAdd, Nat.reduceSub, go_sem]; refine Z1 e1 (.still rfl) ?_; simp -implicitDefEqProofs only [go_sem]; refine Z1 e2 (.still rfl) ?_; simp -implicitDefEqProofs only [go_sem]
  · skip
    refine PFn.of_body hΓ Tryz.func189 (by kernel_rfl) rfl (Wd [(1, 6)] ?_); simp +contextual -implicitDefEqProofs only [Tryz.ntmps189, Tryz.results189, Nat.reduceAdd, Nat.reduceSub, go_sem]; refine Z1 e1 (.still rfl) ?_; simp -implicitDefEqProofs only [go_sem]; refine Z1 e2 (.still rfl) ?_; simp -implicitDefEqProofs only [go_sem]
theorem g99 (s : Bool) (A : List UInt8) (hA : A.length ≤ 3) : PFn Tryz.prog 99 [intV s A, intN false 0] [intN s (beN A)] := by
  have hn := cap24 (beN3 hA); have ea := g156 s A hA; have eb := g156 false [] (by simp); have e2 := g139 s (beN A) hn; have hb0 : beN [] = 0 := rfl; rw [hb0] at eb; rw [Zf]; have la := Z0i hn
  cases s
  · have e1 := u105 (digD B32 (beN A)) (digD B32 0) (Z02 _) (Z02 0) (by omega) (by have := Z0i Z0a; omega)
    rw [Z8 (by decide), Z8 (by decide), Nat.add_zero] at e1; unfold intN intV at *; refine PFn.of_body hΓ Tryz.func99 (by kernel_rfl) rfl (Wd [(1, 6), (3, 6), (5, 6), (6, 6)] ?_); simp +contextual -implicitDefEqProofs only [Tryz.ntmps99, Tryz.results99, Nat.reduceAdd, Nat.reduceSub, go_sem]; refine Z1 ea (.still rfl) ?_; simp -implicitDefEqProofs only [go_sem]; refine Z1 eb (.still rfl) ?_; simp -implicitDefEqProofs only [beq_self_eq_true, go_sem]; refine Z1 e1 (.pures rfl) ?_; simp -implicitDefEqProofs only [go_sem]; refine Z1 e2 (.pures rfl) ?_; simp -implicitDefEqProofs only [go_sem]
  · have ec := u106 (digD B32 (beN A)) (digD B32 0) (Zv (by decide) _) (Zv (by decide) 0) (by omega) (by have := Z0i Z0a; omega)
    rw [Z8 (by decide), Z8 (by decide)] at ec; have hd0 : digD B32 0 = [] := Z56.2 rfl; have e1 := u107 (digD B32 (beN A)) (digD B32 0) (Z02 _) (Z02 0) (by omega) (by rw [hd0]; simp) (by rw [Z8 (by decide), Z8 (by decide)]; omega); rw [Z8 (by decide), Z8 (by decide), Nat.sub_zero] at e1; have hft : (true == false) = false := rfl; have hm1 : ¬ cmpN (beN A) 0 < 0 := by unfold cmpN; rw [if_neg (by omega)]; split <;> decide
    unfold intN intV at *; refine PFn.of_body hΓ Tryz.func99 (by kernel_rfl) rfl (Wd [(1, 6), (3, 6), (5, 6), (6, 6)] ?_); simp +contextual -implicitDefEqProofs only [Tryz.ntmps99, Tryz.results99, Nat.reduceAdd, Nat.reduceSub, go_sem]; refine Z1 ea (.still rfl) ?_; simp -implicitDefEqProofs only [go_sem]; refine Z1 eb (.still rfl) ?_; simp -implicitDefEqProofs only [hft, go_sem]; refine Z0 ec (.pures rfl) ?_; simp -implicitDefEqProofs only [hm1, go_sem]; refine Z1 e1 (.pures rfl) ?_; simp -implicitDefEqProofs only [go_sem]; refine Z1 e2 (.pures rfl) ?_; simp -implicitDefEqProofs only [go_sem]
def sgC (s : Bool) (n : Nat) : Int := if n = 0 then 0 else if s then -1 else 1
theorem g104 (s : Bool) (A : List UInt8) (hA : A.length ≤ 3) : PFn Tryz.prog 104 [intV s A, intN false 0] [.int .i64 (sgC s (beN A))] := by
  have e0 := g189 false [] (by simp); have e1 := g99 s A hA; have hb0 : beN [] = 0 := rfl; rw [hb0, Zf] at e0; rw [Zf] at e1 ⊢; have eS : PFn Tryz.prog 164 [intV s A, .agg [.bool false, .str []]] [intN s (beN A)] := by
    unfold intN intV at *; refine PFn.of_body hΓ Tryz.func164 (by kernel_rfl) rfl (Wd [(1, 4)] ?_); simp -implicitDefEqProofs only [Tryz.ntmps164, Tryz.results164, Nat.reduceAdd, Nat.reduceSub, go_sem]; refine Z1 e0 (.still rfl) ?_; simp -implicitDefEqProofs only [go_sem]; refine Z1 e1 (.still rfl) ?_; simp -implicitDefEqProofs only [go_sem]
  unfold sgC; generalize beN A = n at *; by_cases h0 : n = 0
  · rw [if_pos h0]
    rw [h0, Zf] at eS; unfold intV at eS ⊢; refine PFn.of_body hΓ Tryz.func104 (by kernel_rfl) rfl (Wd [] ?_); simp -implicitDefEqProofs only [Tryz.ntmps104, Tryz.results104, Nat.reduceAdd, Nat.reduceSub, go_sem]; refine Z0 eS (.still rfl) ?_; simp -implicitDefEqProofs only [go_sem]
  rw [if_neg h0]; have hm : ¬ magB n = [] := fun e => h0 (Zq e)
  have hI : intN s n = .agg [.bool s, .str (magB n)] := by unfold intN intV; rw [decide_eq_true h0, Bool.and_true]
  rw [hI] at eS; unfold intV at eS ⊢
  cases s
  · refine PFn.of_body hΓ Tryz.func104 (by kernel_rfl) rfl (Wd [] ?_)
    simp -implicitDefEqProofs only [Tryz.ntmps104, Tryz.results104, Nat.reduceAdd, Nat.reduceSub, go_sem]; refine Z0 eS (.still rfl) ?_; simp -implicitDefEqProofs only [hm, go_sem]
  · refine PFn.of_body hΓ Tryz.func104 (by kernel_rfl) rfl (Wd [] ?_)
    simp -implicitDefEqProofs only [Tryz.ntmps104, Tryz.results104, Nat.reduceAdd, Nat.reduceSub, go_sem]; refine Z0 eS (.still rfl) ?_; simp -implicitDefEqProofs only [hm, go_sem]
theorem g190 (S T : Bool) (A B : List UInt8) (hA : A.length ≤ 3) (hB : B.length ≤ 3) : PFn Tryz.prog 190 [intV S A, intV T B] [intN false (Nat.gcd (beN A) (beN B))] := by
  have ea := g156 S A hA; have eb := g156 T B hB; have ha := cap24 (beN3 hA); have hb := cap24 (beN3 hB); obtain ⟨a, hae⟩ : ∃ a, a = beN A := ⟨_, rfl⟩; obtain ⟨b, hbe⟩ : ∃ b, b = beN B := ⟨_, rfl⟩; rw [← hae] at ea ha ⊢; rw [← hbe] at eb hb ⊢; have hG := Z54 ha hb; have e2 := u66 false (digD B32 (Nat.gcd a b)) (Z02 _) (by have := Z1l hG; omega); rw [Z8 (by decide)] at e2; unfold intV at ea eb; unfold intN intV; refine PFn.of_body hΓ Tryz.func190 (by kernel_rfl) rfl (Wd [(2, 1000)] ?_); simp -implicitDefEqProofs only [Tryz.ntmps190, Tryz.results190, Nat.reduceAdd, Nat.reduceSub, go_sem]; refine AWp.planL (.q 0 (.q 2 (.e 1 (.s 2 (.e 3 (.e 4 .fin .nil) .nil)) .nil))) hΓ hmix (by kernel_rfl) ?_; simp -implicitDefEqProofs only [go_sem]; refine Z0 ea (.still rfl) ?_; simp -implicitDefEqProofs only [go_sem]; refine Z0 eb (.still rfl) ?_; simp -implicitDefEqProofs only [go_sem]; refine Zl (v166 _ _ ⟨_, rfl⟩ ⟨_, rfl⟩) (by simp) ?_; rintro v h' ⟨rfl, rfl⟩; simp -implicitDefEqProofs only [Za, List.foldl, List.cons_append, List.nil_append, List.length_cons, List.length_nil, Nat.reduceAdd, go_sem]; rw [show (#[12, 13] : Array Nat) = [12, 13].toArray from rfl]; refine AWp.rangeFunc (ks := []) (R := fun _ h' => h' = gcH [.p (.bool S), .p (.str A)] [.p (.bool T), .p (.str B)] (.p (natV (digD B32 (Nat.gcd a b)))) (Nat.gcd a b) 0 (.lp _ _ _ _ _)) rfl (c193 (A := [.p (.bool S), .p (.str A)]) (B := [.p (.bool T), .p (.str B)]) (.full []) a b (.lp _ _ _ _ _) ha hb ?_) (by simp) (by simp) ?_
  · intro L x y
    unfold gcH natV; refine YC.of_body (Γ := Γ) rfl rfl (by simp) ?_; intro rr; refine Wd [] ?_; simp -implicitDefEqProofs only [setP, go_sem]; unfold Zcy; refine ⟨rfl, ?_⟩; simp -implicitDefEqProofs only [go_sem]; refine Wd [] ?_; simp -implicitDefEqProofs only [go_sem]; unfold Z87; simp -implicitDefEqProofs only [go_sem]; refine ⟨_, ?_, .inl rfl, ?_⟩
    rotate_left
    · rw [List.take_length]
    · simp
  · rintro v h' rfl
    unfold Z88 gcH; simp -implicitDefEqProofs only [Za, List.foldl, go_sem]; refine Z0 e2 (.pures rfl) ?_; unfold intN intV; simp -implicitDefEqProofs only [go_sem]

theorem g191 (s : Bool) (A : List UInt8) (b : Nat) (hA : A.length ≤ 3) (hb : b < capN) (hb0 : b ≠ 0) (hd : beN A % b = 0) : PFn Tryz.prog 191 [intV s A, intN false b] [intN s (beN A / b), intN false 0, .int .i64 0] := by
  have ea := g156 s A hA; have ha := cap24 (beN3 hA); obtain ⟨a, hae⟩ : ∃ a, a = beN A := ⟨_, rfl⟩; rw [← hae] at ea ha hd ⊢; have eb := u69n false b hb; have hq : a / b < capN := Nat.lt_of_le_of_lt (Nat.div_le_self _ _) ha; have e1 := g139 s (a / b) hq; have e2 := g139 false 0 Z0a; have ev := Zkn a b ha hb hb0; rw [hd] at ev; have hd0 : digD B32 0 = [] := Z56.2 rfl; rw [hd0] at e2 ev; rw [Zf] at e2 ⊢; have hbl : ¬ ((digD B32 b).length : Int) = 0 := by
    have : digD B32 b ≠ [] := fun h => hb0 (Z56.1 h)
    have := List.length_pos_iff.2 this; omega
  rw [Z4 b] at eb ⊢; unfold intN intV at *
  cases s
  · have hff : (false != false) = false := rfl
    refine PFn.of_body hΓ Tryz.func191 (by kernel_rfl) rfl (Wd [(1, 1000), (7, 1000)] ?_); simp -implicitDefEqProofs only [Tryz.ntmps191, Tryz.results191, Nat.reduceAdd, Nat.reduceSub, go_sem]; refine AWp.planL (.q 0 (.q 2 (.e 1 (.s 2 (.e 3 (.q 4 (.q 5 .fin)) .nil)) .nil))) hΓ hmix (by kernel_rfl) ?_; simp -implicitDefEqProofs only [go_sem]; refine Z0 ea (.still rfl) ?_; simp -implicitDefEqProofs only [go_sem]; refine Z0 eb (.still rfl) ?_; simp -implicitDefEqProofs only [natV, List.length_map, hbl, go_sem]; refine Z0 ev (.pures rfl) ?_; simp -implicitDefEqProofs only [hff, go_sem]; refine AWp.planL (.q 0 (.q 1 (.q 2 (.q 3 (.q 4 (.q 5 (.q 7 (.q 8 (.q 9 (.e 6 (.s 7 (.s 8 (.s 9 (.e 10 (.e 11 (.e 12 (.q 13 .fin) .nil) .nil) .nil)))) .nil)))))))))) hΓ hmix (by kernel_rfl) ?_; simp -implicitDefEqProofs only [hff, go_sem]; refine Z0 e1 (.pures rfl) ?_; simp -implicitDefEqProofs only [go_sem]; refine Z0 e2 (.pures rfl) ?_; simp -implicitDefEqProofs only [go_sem]
  · have hff : (true != false) = true := rfl
    refine PFn.of_body hΓ Tryz.func191 (by kernel_rfl) rfl (Wd [(1, 1000), (7, 1000)] ?_); simp -implicitDefEqProofs only [Tryz.ntmps191, Tryz.results191, Nat.reduceAdd, Nat.reduceSub, go_sem]; refine AWp.planL (.q 0 (.q 2 (.e 1 (.s 2 (.e 3 (.q 4 (.q 5 .fin)) .nil)) .nil))) hΓ hmix (by kernel_rfl) ?_; simp -implicitDefEqProofs only [go_sem]; refine Z0 ea (.still rfl) ?_; simp -implicitDefEqProofs only [go_sem]; refine Z0 eb (.still rfl) ?_; simp -implicitDefEqProofs only [natV, List.length_map, hbl, go_sem]; refine Z0 ev (.pures rfl) ?_; simp -implicitDefEqProofs only [hff, natV, List.length_map, List.length_nil, List.map_nil, go_sem]; unfold natV at e1 e2; refine ⟨fun h => absurd h (by omega), fun _ => ?_⟩; refine AWp.planL (.q 0 (.q 1 (.q 2 (.q 3 (.q 4 (.q 5 (.q 7 (.q 8 (.q 9 (.e 6 (.s 7 (.s 8 (.s 9 (.e 10 (.e 11 (.e 12 (.q 13 .fin) .nil) .nil) .nil)))) .nil)))))))))) hΓ hmix (by kernel_rfl) ?_; simp -implicitDefEqProofs only [hff, go_sem]; refine Z0 e1 (.pures rfl) ?_; simp -implicitDefEqProofs only [go_sem]; refine Z0 e2 (.pures rfl) ?_; simp -implicitDefEqProofs only [go_sem]
theorem g105 (s : Bool) (a b : Nat) (ha : a < capN) (hb : b < capN) : PFn Tryz.prog 105 [intN s a, intN false b] [intN s (a * b)] := by
  cases s
  · exact u36 a b ha hb
  have ea := u69n true a ha; have eb := u69n false b hb; have la := Z0i ha; have lb := Z0i hb; have e1 := u68 (digD B32 a) (digD B32 b) (Z02 a) (Z02 b) (by omega) (by omega); rw [Z8 (by decide), Z8 (by decide)] at e1; have hl : (digD B32 (a * b)).length ≤ 100 := by
    refine Z2a (by decide) ?_; rw [show (100 : Nat) = 50 + 50 from rfl, Nat.pow_add, ← Z90]; exact Nat.mul_lt_mul_of_lt_of_lt ha hb
  have e2 := u66 true (digD B32 (a * b)) (Z02 _) (by omega); rw [Z8 (by decide)] at e2; by_cases h0 : a = 0
  · rw [h0, Nat.zero_mul, Zf]
    have e := u36 0 b Z0a hb
    rwa [Nat.zero_mul, Zf] at e
  have hI : intN true a = .agg [.bool true, .str (magB a)] := Z2h h0; rw [hI] at ea ⊢; have hff : (true != false) = true := rfl; unfold intN intV at *; refine PFn.of_body hΓ Tryz.func105 (by kernel_rfl) rfl (Wd [(1, 11)] ?_); simp -implicitDefEqProofs only [Tryz.ntmps105, Tryz.results105, Nat.reduceAdd, Nat.reduceSub, Bool.false_and, Bool.true_and, go_sem]; refine Z1 ea (.still rfl) ?_; simp -implicitDefEqProofs only [Bool.false_and, go_sem]; refine Z1 eb (.still rfl) ?_; simp -implicitDefEqProofs only [go_sem]; refine Z1 e1 (.pures rfl) ?_; simp -implicitDefEqProofs only [hff, go_sem]; refine Z1 e2 (.pures rfl) ?_; simp -implicitDefEqProofs only [go_sem]

def canV (s : Bool) (A : List UInt8) (t : Bool) (B : List UInt8) : PV :=
  if beN A = 0 ∨ beN B = 0 then .agg [.bool false, .str [], .bool false, .str (magB 1)] else .agg [.bool (s != t), .str (magB (beN A / Nat.gcd (beN A) (beN B))), .bool false, .str (magB (beN B / Nat.gcd (beN A) (beN B)))]
theorem mag3 {A : List UInt8} (h : A.length ≤ 3) : (magB (beN A)).length ≤ 3 := by
  have h1 := Z2n A; rcases Nat.lt_or_ge 3 (magB (beN A)).length with h2 | h2
  · obtain ⟨k, hk⟩ : ∃ k, (magB (beN A)).length = k + 1 := ⟨(magB (beN A)).length - 1, by omega⟩
    have h3 := Z6o hk; have h4 : 256 ^ A.length ≤ 256 ^ k := Nat.pow_le_pow_right (by decide) (by omega); omega
  · exact h2
theorem g138 (s t : Bool) (A B : List UInt8) (hA : A.length ≤ 3) (hB : B.length ≤ 3) : PFn Tryz.prog 138 [intV s A, intV t B] [canV s A t B] := by
  have c1 := g104 t B hB; have c2 := g104 s A hA; have e1 := u34 1 (by omega); rw [Zf] at c1 c2; unfold canV; by_cases hd : beN B = 0
  · rw [if_pos (.inr hd)]
    unfold sgC at c1; rw [if_pos hd] at c1; rw [Z4] at e1; unfold intV at *; refine PFn.of_body hΓ Tryz.func138 (by kernel_rfl) rfl (Wd [(5, 1000)] ?_); simp -implicitDefEqProofs only [Tryz.ntmps138, Tryz.results138, Nat.reduceAdd, Nat.reduceSub, go_sem]; refine Z0 c1 (.still rfl) ?_; simp -implicitDefEqProofs only [go_sem]; refine Z0 e1 (.pures rfl) ?_; simp -implicitDefEqProofs only [go_sem]
  have hc1 : ∃ c : Int, sgC t (beN B) = c ∧ ¬ c = 0 ∧ (c < 0 ↔ t = true) := by
    unfold sgC; rw [if_neg hd]
    cases t
    · exact ⟨1, rfl, by decide, by decide⟩
    · exact ⟨-1, rfl, by decide, by decide⟩
  obtain ⟨c, hc, h10, hct⟩ := hc1; rw [hc] at c1; by_cases hn : beN A = 0
  · rw [if_pos (.inl hn)]
    unfold sgC at c2; rw [if_pos hn] at c2; rw [Z4] at e1; unfold intV at *; refine PFn.of_body hΓ Tryz.func138 (by kernel_rfl) rfl (Wd [(5, 1000)] ?_); simp -implicitDefEqProofs only [Tryz.ntmps138, Tryz.results138, Nat.reduceAdd, Nat.reduceSub, go_sem]; refine Z0 c1 (.still rfl) ?_; simp -implicitDefEqProofs only [h10, go_sem]; refine Z0 c2 (.still rfl) ?_; simp -implicitDefEqProofs only [go_sem]; refine Z0 e1 (.pures rfl) ?_; simp -implicitDefEqProofs only [go_sem]
  rw [if_neg (by omega)]; have hc2 : ∃ c : Int, sgC s (beN A) = c ∧ ¬ c = 0 := by
    unfold sgC; rw [if_neg hn]
    cases s
    · exact ⟨1, rfl, by decide⟩
    · exact ⟨-1, rfl, by decide⟩
  obtain ⟨c', hc', h20⟩ := hc2; rw [hc'] at c2; have hg0 : Nat.gcd (beN A) (beN B) ≠ 0 := fun h => hn (Nat.eq_zero_of_gcd_eq_zero_left h)
  have hG := Z54 (cap24 (beN3 hA)) (cap24 (beN3 hB)); have hq1 : beN A / Nat.gcd (beN A) (beN B) ≠ 0 := fun h => hn (by have := Nat.div_mul_cancel (Nat.gcd_dvd_left (beN A) (beN B)); rw [h] at this; omega)
  have hI : ∀ (b : Bool) {n : Nat}, n ≠ 0 → intN b n = .agg [.bool b, .str (magB n)] := fun b n h => by unfold intN intV; rw [decide_eq_true h, Bool.and_true]
  cases t
  · have hcn : ¬ c < 0 := fun h => by have := hct.1 h; cases this
    have eg := g190 s false A B hA hB; have d1 := g191 s A _ hA hG hg0 (Nat.mod_eq_zero_of_dvd (Nat.gcd_dvd_left _ _)); have d2 := g191 false B _ hB hG hg0 (Nat.mod_eq_zero_of_dvd (Nat.gcd_dvd_right _ _)); rw [hI s hq1, Zf, hI false hg0] at d1; rw [Z4 (beN B / _), Zf, hI false hg0] at d2; rw [hI false hg0] at eg; have hx : (s != false) = s := by cases s <;> rfl
    rw [hx]; unfold intV at *; refine PFn.of_body hΓ Tryz.func138 (by kernel_rfl) rfl (Wd [(5, 1000)] ?_); simp -implicitDefEqProofs only [Tryz.ntmps138, Tryz.results138, Nat.reduceAdd, Nat.reduceSub, go_sem]; refine Z0 c1 (.still rfl) ?_; simp -implicitDefEqProofs only [h10, go_sem]; refine Z0 c2 (.still rfl) ?_; simp -implicitDefEqProofs only [h10, h20, hcn, go_sem]; refine Z0 eg (.still rfl) ?_; simp -implicitDefEqProofs only [go_sem]; refine Z0 d1 (.still rfl) ?_; simp -implicitDefEqProofs only [go_sem]; refine Z0 d2 (.still rfl) ?_; simp -implicitDefEqProofs only [go_sem]; omega
  · have hcn : c < 0 := hct.2 rfl
    have n1 := g189 s A hA; have n2 := g189 true B hB; have hA' := mag3 hA; have hB' := mag3 hB; rw [hI _ hn] at n1; rw [hI _ hd] at n2; have eg := g190 (!s) false (magB (beN A)) (magB (beN B)) hA' hB'; have d1 := g191 (!s) (magB (beN A)) (Nat.gcd (beN A) (beN B)) hA' hG hg0 (by rw [Z7]; exact Nat.mod_eq_zero_of_dvd (Nat.gcd_dvd_left _ _)); have d2 := g191 false (magB (beN B)) (Nat.gcd (beN A) (beN B)) hB' hG hg0 (by rw [Z7]; exact Nat.mod_eq_zero_of_dvd (Nat.gcd_dvd_right _ _)); rw [Z7, hI _ hq1, Zf, hI false hg0] at d1; rw [Z7, Z4 (beN B / _), Zf, hI false hg0] at d2; rw [Z7, Z7, hI false hg0] at eg; have hx : (s != true) = !s := by cases s <;> rfl
    have hy : (!true) = false := rfl; rw [hx]; rw [hy] at n2; generalize (!s) = S at *; unfold intV at *; refine PFn.of_body hΓ Tryz.func138 (by kernel_rfl) rfl (Wd [(5, 4)] ?_); simp -implicitDefEqProofs only [Tryz.ntmps138, Tryz.results138, Nat.reduceAdd, Nat.reduceSub, go_sem]; refine Z0 c1 (.still rfl) ?_; simp -implicitDefEqProofs only [h10, go_sem]; refine Z0 c2 (.still rfl) ?_; simp -implicitDefEqProofs only [h10, h20, hcn, go_sem]; refine Z1 n1 (.still rfl) ?_; simp -implicitDefEqProofs only [go_sem]; refine Z1 n2 (.still rfl) ?_; simp -implicitDefEqProofs only [go_sem]; refine Z0 eg (.still rfl) ?_; simp -implicitDefEqProofs only [go_sem]; refine Z0 d1 (.still rfl) ?_; simp -implicitDefEqProofs only [go_sem]; refine Z0 d2 (.still rfl) ?_; simp -implicitDefEqProofs only [go_sem]; omega
end Go.Proofs.YtpljmccnfmkmfaaGreat.Kn
end

