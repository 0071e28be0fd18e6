/-
  The shelf's contracts for (*strings.Builder).WriteString and String at this program.
  The order of words; valid codes.
  code.Encode.
  code.counts and code.Count: the number of readings.
  integer.compare, subtract, Neg, Sub and Compare.
-/
import Derived.Shelf.Strings.Builder1
import Derived.Test.YtgkbafkmbokkaaaProg
import Derived.Test.YtgkbafkmbokkaaaJ5140b6250559
import Derived.Test.YtgkbafkmbokkaaaJ16a1c712b009
import Derived.Test.YtgkbafkmbokkaaaJbdef5c08b229
import Derived.Test.YtgkbafkmbokkaaaJ4754b2c93dca

section
namespace Go.Proofs
open Go.Shelf
def Try.lays166_ren : Go.Shelf.Ren := ⟨fun | 166 => 70 | 240 => 92 | 276 => 108 | n => n, fun | 70 => 88 | 9 => 9 | 3 => 3 | 75 => 92 | 0 => 0 | 72 => 90 | 37 => 61 | 4 => 4 | 164 => 114 | 20 => 20 | 5 => 5 | 80 => 95 | n => n, fun | n => n⟩
theorem Try.lays166 : Go.Proofs.Lays.n166 Try.prog Try.lays166_ren := {
  mixed := by kernel_rfl
  f166 := Try.func70.trans (congrArg some (by kernel_rfl))
  f240 := Try.func92.trans (congrArg some (by kernel_rfl))
  f276 := Try.func108.trans (congrArg some (by kernel_rfl))
  t0 := Try.underlying0
  a0 := Try.isAgg0
  z0 := Try.sizeOf0
  v0 := Try.zeroValue0
  t3 := Try.underlying3
  a3 := Try.isAgg3
  z3 := Try.sizeOf3
  v3 := Try.zeroValue3
  t4 := Try.underlying4
  a4 := Try.isAgg4
  z4 := Try.sizeOf4
  v4 := Try.zeroValue4
  t9 := Try.underlying9
  a9 := Try.isAgg9
  z9 := Try.sizeOf9
  v9 := Try.zeroValue9
  t20 := Try.underlying20
  a20 := Try.isAgg20
  z20 := Try.sizeOf20
  v20 := Try.zeroValue20
  t37 := Try.underlying61
  a37 := Try.isAgg61
  z37 := Try.sizeOf61
  v37 := Try.zeroValue61
  t70 := Try.underlying88
  a70 := Try.isAgg88
  z70 := Try.sizeOf88
  v70 := Try.zeroValue88
  t72 := Try.underlying90
  a72 := Try.isAgg90
  z72 := Try.sizeOf90
  v72 := Try.zeroValue90
  t75 := Try.underlying92
  a75 := Try.isAgg92
  z75 := Try.sizeOf92
  v75 := Try.zeroValue92
  t164 := Try.underlying114
  a164 := Try.isAgg114
  z164 := Try.sizeOf114
  v164 := Try.zeroValue114 }
def Try.lays169_ren : Go.Shelf.Ren := ⟨fun | 169 => 71 | n => n, fun | 70 => 88 | 9 => 9 | 0 => 0 | 72 => 90 | 37 => 61 | 127 => 107 | 3 => 3 | 5 => 5 | n => n, fun | n => n⟩
theorem Try.lays169 : Go.Proofs.Lays.n169 Try.prog Try.lays169_ren := {
  mixed := by kernel_rfl
  f169 := Try.func71.trans (congrArg some (by kernel_rfl))
  t0 := Try.underlying0
  a0 := Try.isAgg0
  z0 := Try.sizeOf0
  v0 := Try.zeroValue0
  t3 := Try.underlying3
  a3 := Try.isAgg3
  z3 := Try.sizeOf3
  v3 := Try.zeroValue3
  t9 := Try.underlying9
  a9 := Try.isAgg9
  z9 := Try.sizeOf9
  v9 := Try.zeroValue9
  t37 := Try.underlying61
  a37 := Try.isAgg61
  z37 := Try.sizeOf61
  v37 := Try.zeroValue61
  t70 := Try.underlying88
  a70 := Try.isAgg88
  z70 := Try.sizeOf88
  v70 := Try.zeroValue88
  t72 := Try.underlying90
  a72 := Try.isAgg90
  z72 := Try.sizeOf90
  v72 := Try.zeroValue90
  t127 := Try.underlying107
  a127 := Try.isAgg107
  z127 := Try.sizeOf107
  v127 := Try.zeroValue107 }
theorem Try.Builder_Extra_166 : Builder.Extra Try.prog Try.lays166_ren := {
  sizeBuilder := by kernel_rfl
  liesBuilder := by kernel_rfl
  t5 := Try.underlying5
  a5 := Try.isAgg5
  z5 := Try.sizeOf5
  v5 := Try.zeroValue5
  infoByte := by kernel_rfl
  cellsByte := by kernel_rfl
  sizeByte := by kernel_rfl
  neB5 := by decide }
theorem Try.Builder_Extra_169 : Builder.Extra Try.prog Try.lays169_ren := {
  sizeBuilder := by kernel_rfl
  liesBuilder := by kernel_rfl
  t5 := Try.underlying5
  a5 := Try.isAgg5
  z5 := Try.sizeOf5
  v5 := Try.zeroValue5
  infoByte := by kernel_rfl
  cellsByte := by kernel_rfl
  sizeByte := by kernel_rfl
  neB5 := by decide }
end Go.Proofs
end

section
namespace Go.Proofs.Ytgkbafkmbokkaaa
open Go Go.AM
set_option maxRecDepth 100000
set_option linter.unusedSimpArgs false

/-! ### The order of words -/
def ltW (a b : List UInt8) : Prop := a.length < b.length ∨ (a.length = b.length ∧ bLt a b = true)
theorem bLt_cons (x y : UInt8) (a b : List UInt8) : bLt (x :: a) (y :: b) = true ↔ x.toNat < y.toNat ∨ (x.toNat = y.toNat ∧ bLt a b = true) := by
  have e : bLt (x :: a) (y :: b) = (match Nat.blt x.toNat y.toNat with | true => true | false => (match Nat.beq x.toNat y.toNat with | true => bLt a b | false => false)) := rfl
  rw [e]
  cases h1 : Nat.blt x.toNat y.toNat
  · have h2 : ¬ x.toNat < y.toNat := fun h => by rw [(Nat.blt_eq (x := x.toNat)).symm.mp h] at h1; cases h1
    cases h3 : Nat.beq x.toNat y.toNat
    · have : ¬ x.toNat = y.toNat := fun h => by rw [h] at h3; simp at h3
      simp [h2, this]
    · have := Nat.eq_of_beq_eq_true h3
      simp [h2, this]
  · have := (Nat.blt_eq (x := x.toNat)).mp h1
    simp [this]
theorem bLt_trans : ∀ {a b c : List UInt8}, bLt a b = true → bLt b c = true → bLt a c = true
  | a, [], c, h, _ => by cases a <;> cases h
  | [], _ :: _, [], _, h => by cases h
  | [], _ :: _, _ :: _, _, _ => rfl
  | x :: a, y :: b, [], _, h => by cases h
  | x :: a, y :: b, z :: c, h1, h2 => by
    rw [bLt_cons] at h1 h2 ⊢
    rcases h1 with h1 | ⟨h1, h3⟩
    · rcases h2 with h2 | ⟨h2, _⟩
      · exact .inl (by omega)
      · exact .inl (by omega)
    · rcases h2 with h2 | ⟨h2, h4⟩
      · exact .inl (by omega)
      · exact .inr ⟨by omega, bLt_trans h3 h4⟩
theorem bLt_irrefl : ∀ a : List UInt8, bLt a a = false
  | [] => rfl
  | x :: a => by
    rw [Bool.eq_false_iff]
    intro h
    rw [bLt_cons] at h
    rcases h with h | ⟨_, h⟩
    · omega
    · rw [bLt_irrefl a] at h; cases h
theorem ltW_iff (a b : List UInt8) : cmpW a b < 0 ↔ ltW a b := by
  unfold cmpW ltW
  by_cases h1 : a.length < b.length
  · rw [if_pos h1]; simp [h1]
  · by_cases h2 : b.length < a.length
    · rw [if_neg h1, if_pos h2]; simp [h1]; omega
    · rw [if_neg h1, if_neg h2]
      have h3 : a.length = b.length := by omega
      unfold cmpB
      cases bLt a b
      · cases bEq a b <;> simp [h1]
      · simp [h3]
theorem ltW_trans {a b c : List UInt8} (h1 : ltW a b) (h2 : ltW b c) : ltW a c := by
  rcases h1 with h1 | ⟨h1, h3⟩ <;> rcases h2 with h2 | ⟨h2, h4⟩
  · exact .inl (by omega)
  · exact .inl (by omega)
  · exact .inl (by omega)
  · exact .inr ⟨by omega, bLt_trans h3 h4⟩
theorem ltW_irrefl (a : List UInt8) : ¬ ltW a a := by
  rintro (h | ⟨_, h⟩)
  · omega
  · rw [bLt_irrefl] at h; cases h

theorem firstNZ_zero {l : List Int} (h : firstNZ l = 0) : ∀ x ∈ l, x = 0 := by
  intro x hx
  unfold firstNZ at h
  cases hf : l.find? (fun x => decide (x ≠ 0)) with
  | none => simpa using List.find?_eq_none.1 hf x hx
  | some y =>
    have h1 := List.find?_some hf
    rw [hf] at h
    simp only [decide_eq_true_eq] at h1
    exact absurd h h1

/-- What a valid code is. -/
structure Valid (q : Int) (ws : List (List UInt8)) : Prop where
  q2 : 2 ≤ q
  q16 : q ≤ 16
  pos : 0 < ws.length
  len : ws.length ≤ 64
  ne : ∀ i, i < ws.length → ws.getD i [] ≠ []
  short : ∀ i, i < ws.length → (ws.getD i []).length ≤ 32
  word : ∀ i, i < ws.length → wordCheck q (ws.getD i []) = 0
  lt : ∀ i j, i < j → j < ws.length → ltW (ws.getD i []) (ws.getD j [])

theorem valid_of {q : Int} {ws : List (List UInt8)} (h : codeCheck q ws = 0) : Valid q ws := by
  unfold codeCheck at h
  split at h
  · omega
  rename_i h1
  split at h
  · omega
  rename_i h2
  split at h
  · omega
  rename_i h3
  have h4 : ∀ i, i < ws.length → wordErr q ws i = 0 := fun i hi => firstNZ_zero h _ (List.mem_map.2 ⟨i, List.mem_range.2 hi, rfl⟩)
  have h5 : ∀ i, i < ws.length → ws.getD i [] ≠ [] ∧ ¬ 32 < (ws.getD i []).length ∧ wordCheck q (ws.getD i []) = 0 ∧ ¬ (0 < i ∧ 0 ≤ cmpW (ws.getD (i - 1) []) (ws.getD i [])) := fun i hi => by
    have := h4 i hi
    unfold wordErr at this
    simp only at this
    split at this
    · omega
    rename_i g1
    split at this
    · omega
    rename_i g2
    split at this
    · omega
    rename_i g3
    split at this
    · omega
    rename_i g4
    exact ⟨g1, g2, by omega, g4⟩
  have step : ∀ i, i + 1 < ws.length → ltW (ws.getD i []) (ws.getD (i + 1) []) := fun i hi => by
    have := (h5 (i + 1) hi).2.2.2
    rw [← ltW_iff]
    simp only [Nat.add_sub_cancel] at this
    omega
  refine ⟨by omega, by omega, by omega, by omega, fun i hi => (h5 i hi).1, fun i hi => by have := (h5 i hi).2.1; omega, fun i hi => (h5 i hi).2.2.1, ?_⟩
  intro i j hij hj
  obtain ⟨d, rfl⟩ : ∃ d, j = i + 1 + d := ⟨j - i - 1, by omega⟩
  clear hij
  induction d with
  | zero => exact step i hj
  | succ d ih => exact ltW_trans (ih (by omega)) (step (i + 1 + d) hj)

theorem distinct_of {q : Int} {ws : List (List UInt8)} (h : codeCheck q ws = 0) : ∀ i j, i < ws.length → j < ws.length → ws.getD i [] = ws.getD j [] → i = j := by
  intro i j hi hj e
  have v := (valid_of h).lt
  rcases Nat.lt_trichotomy i j with h1 | h1 | h1
  · exact absurd (e ▸ v i j h1 hj) (ltW_irrefl _)
  · exact h1
  · exact absurd (e ▸ v j i h1 hi) (ltW_irrefl _)

theorem getD_in {ws : List (List UInt8)} {i : Nat} (h : i < ws.length) : ws.getD i [] ∈ ws := by
  rw [List.getD_eq_getElem?_getD, List.getElem?_eq_getElem h, Option.getD_some]; exact List.getElem_mem h
theorem Valid.ne' {q : Int} {ws : List (List UInt8)} (hv : Valid q ws) : ∀ x ∈ ws, x ≠ [] := fun x hx => by
  obtain ⟨j, hj, rfl⟩ := List.getElem_of_mem hx
  have := hv.ne j hj
  rwa [List.getD_eq_getElem?_getD, List.getElem?_eq_getElem hj, Option.getD_some] at this

end Go.Proofs.Ytgkbafkmbokkaaa
end

section
namespace Go.Proofs.Ytgkbafkmbokkaaa
open Go Go.AM Go.RowKit
set_option maxRecDepth 100000
set_option linter.unusedSimpArgs false

/-- Words put together. -/
def encL (ws : List (List UInt8)) (ks : List Int) : List UInt8 := (ks.map fun k => ws.getD k.toNat []).flatten
def encIn (ws : List (List UInt8)) (ks : List Int) : Bool := ks.all fun k => decide (0 ≤ k) && decide (k < ws.length)
def encE (q : Int) (ws : List (List UInt8)) (ks : List Int) : Int := if codeCheck q ws = 0 then (if encIn ws ks = true then (if 65536 < (encL ws ks).length then 4 else 0) else 2) else 1
def encS (q : Int) (ws : List (List UInt8)) (ks : List Int) : List UInt8 := if encE q ws ks = 0 then encL ws ks else []
theorem encL_take {ws : List (List UInt8)} {ks : List Int} {i : Nat} (hi : i < ks.length) : encL ws (ks.take (i + 1)) = encL ws (ks.take i) ++ ws.getD ks[i].toNat [] := by
  unfold encL; rw [List.take_succ_eq_append_getElem hi, List.map_append, List.flatten_append]; simp only [List.map_cons, List.map_nil, List.flatten_cons, List.flatten_nil, List.append_nil]
theorem encL_le (ws : List (List UInt8)) (ks : List Int) (i : Nat) : (encL ws (ks.take i)).length ≤ (encL ws ks).length := by
  have : encL ws ks = encL ws (ks.take i) ++ encL ws (ks.drop i) := by
    unfold encL; rw [← List.flatten_append, ← List.map_append, List.take_append_drop]
  rw [this, List.length_append]; omega
theorem encIn_take {ws : List (List UInt8)} {ks : List Int} {i : Nat} (hi : i < ks.length) : encIn ws (ks.take (i + 1)) = (encIn ws (ks.take i) && (decide (0 ≤ ks[i]) && decide (ks[i] < ws.length))) := by
  unfold encIn; rw [List.take_succ_eq_append_getElem hi, List.all_append]; simp
theorem encIn_bad {ws : List (List UInt8)} {ks : List Int} {i : Nat} (hi : i < ks.length) (h : ks[i] < 0 ∨ (ws.length : Int) ≤ ks[i]) : encIn ws ks = false := by
  unfold encIn
  rw [List.all_eq_false]
  refine ⟨ks[i], List.getElem_mem hi, ?_⟩
  simp
  omega

/-- The frame beside the builder. -/
def encT (ks : List Int) : List AV := mkF 55 [(1, .p (.sl (ks.map (.int .i64)))), (2, .ptr 0 0)]
def encTk (ks : List Int) (k : Nat) : List AV := mkF 55 [(1, .p (.sl (ks.map (.int .i64)))), (2, .ptr 0 0), (41, .p (.sl (ks.map (.int .i64)))), (42, .p (.int .i64 ks.length)), (43, .p (.int .i64 k))]

theorem encTk_m {ks : List Int} {k : Nat} {X : Ctx} {I : Nat → Prop} {μ : Nat → Value} {ob : Nat → Option Nat} {h : List AObj} {wb w : World} {a : Act} {l : List UInt8} (B : Bld X I μ ob h wb 90 5 9 (encTk ks k) l w a) :
    (match a.tmps.getD 43 undef with | .int _ k => ks.length - k.toNat | _ => 0) = ks.length - k := by
  have h1 := B.rep.evs (.tmp 43)
  have h2 : ev (encTk ks k) (.tmp 43) = .p (.int .i64 k) := rfl
  rw [h2] at h1
  have h3 : a.tmps.getD 43 undef = .int .i64 k := h1.int_inv
  rw [h3]; rfl

theorem u37 (q : Int) (ws : List (List UInt8)) (ks : List Int) (hk : ks.length ≤ 1000000) : PFn Try.prog 37 [codeV q ws, .sl (ks.map (.int .i64))] [.str (encS q ws ks), .int .i64 (encE q ws ks)] := by
  refine PFn.of_body hΓ Try.func37 (by kernel_rfl) rfl (AWp.seq (AWp.of_awpD [] hΓ hmix (by kernel_rfl) ?_))
  simp -implicitDefEqProofs only [Try.ntmps37, Try.results37, Nat.reduceAdd, Nat.reduceSub, codeV, go_sem]
  refine AWp.seq (AWp.of_awpD [] hΓ hmix (by kernel_rfl) ?_)
  simp -implicitDefEqProofs only [go_sem]
  refine callK_fn (t45 q ws) (.still rfl) ?_
  by_cases h : codeCheck q ws = 0
  rotate_left
  · have e1 : encE q ws ks = 1 := by unfold encE; rw [if_neg h]
    have e2 : encS q ws ks = [] := by unfold encS; rw [e1, if_neg (by decide)]
    rw [e1, e2]
    simp -implicitDefEqProofs only [h, go_sem]
  have hv := valid_of h
  have hlen := hv.len
  rw [h]
  simp -implicitDefEqProofs only [go_sem]
  refine AWp.seq (AWp.of_awpD [] hΓ hmix (by kernel_rfl) ?_)
  simp -implicitDefEqProofs only [go_sem]
  refine AWp.seq (AWp.of_awpD [] hΓ hmix (by kernel_rfl) ?_)
  simp -implicitDefEqProofs only [List.length_map, go_sem]
  refine AWp.loopI (fun i : Nat => ⟨mkF 55 [(1, .p (.sl (ks.map (.int .i64)))), (2, .ptr 0 0), (6, .p (.int .i64 (encL ws (ks.take i)).length)), (15, .p (.sl (ks.map (.int .i64)))), (16, .p (.int .i64 ks.length)), (17, .p (.int .i64 i))], [codeB q ws]⟩)
    (fun i => i ≤ ks.length ∧ encIn ws (ks.take i) = true ∧ (encL ws (ks.take i)).length ≤ 32 * i) (fun i => ks.length - i) 0 (by simp [go_sem, codeB, encL]) (by simp [encIn, encL]) ?_
  rintro i ⟨hi, hin, hbd⟩
  refine AWp.of_awpD [] hΓ hmix (by kernel_rfl) ?_
  by_cases hlt : i < ks.length
  · have hgk : (ks.map (PV.int .i64)).getD i default = .int .i64 ks[i] := by
      rw [getD_map_lt _ _ _ _ hlt]
    by_cases hbad : ks[i] < 0 ∨ (ws.length : Int) ≤ ks[i]
    · have e1 : encE q ws ks = 2 := by unfold encE; rw [if_pos h, encIn_bad hlt hbad]; rfl
      have e2 : encS q ws ks = [] := by unfold encS; rw [e1, if_neg (by decide)]
      rw [e1, e2]
      by_cases hneg : ks[i] < 0
      · simp -implicitDefEqProofs only [List.length_map, hlt, hgk, hneg, codeB, go_sem]
      · have hge : (ws.length : Int) ≤ ks[i] := hbad.resolve_left hneg
        simp -implicitDefEqProofs only [List.length_map, hlt, hgk, hneg, hge, codeB, go_sem]
    · have hneg : ¬ ks[i] < 0 := fun h => hbad (.inl h)
      have hge : ¬ (ws.length : Int) ≤ ks[i] := fun h => hbad (.inr h)
      have hkn : ks[i].toNat < ws.length := by omega
      have hgw : (ws.map PV.str).getD ks[i].toNat default = .str (ws.getD ks[i].toNat []) := by
        rw [getD_map_lt _ _ _ _ hkn, List.getD_eq_getElem?_getD, List.getElem?_eq_getElem hkn]; rfl
      have hsh := hv.short _ hkn
      have hst := encL_take (ws := ws) hlt
      have hl2 : (encL ws (ks.take (i + 1))).length = (encL ws (ks.take i)).length + (ws.getD ks[i].toNat []).length := by rw [hst, List.length_append]
      have hin2 : encIn ws (ks.take (i + 1)) = true := by
        rw [encIn_take hlt, hin, decide_eq_true (show 0 ≤ ks[i] by omega), decide_eq_true (show ks[i] < ws.length by omega)]; rfl
      simp -implicitDefEqProofs only [List.length_map, hlt, hgk, hneg, hge, hgw, codeB, go_sem]
      exact ⟨⟨by omega, by omega⟩, by simp only [InR]; omega, by simp only [InR]; omega, i + 1, ⟨by omega, by omega⟩, ⟨hlt, hin2, by omega⟩, by omega⟩
  · have hin' : i = ks.length := by omega
    rw [hin', List.take_length] at hin hbd ⊢
    have hz : ¬ (ks.length : Int) < ks.length := by omega
    simp -implicitDefEqProofs only [List.length_map, hz, go_sem]
    refine AWp.seq (AWp.of_awpD [] hΓ hmix (by kernel_rfl) ?_)
    by_cases hbig : 65536 < (encL ws ks).length
    · have hbig' : (65536 : Int) < (encL ws ks).length := by omega
      have e1 : encE q ws ks = 4 := by unfold encE; rw [if_pos h, if_pos hin, if_pos hbig]
      have e2 : encS q ws ks = [] := by unfold encS; rw [e1, if_neg (by decide)]
      rw [e1, e2]
      simp -implicitDefEqProofs only [hbig', go_sem]
    · have hbig' : ¬ (65536 : Int) < (encL ws ks).length := by omega
      have e1 : encE q ws ks = 0 := by unfold encE; rw [if_pos h, if_pos hin, if_neg hbig]
      have e2 : encS q ws ks = encL ws ks := by unfold encS; rw [e1, if_pos rfl]
      rw [e1, e2]
      simp -implicitDefEqProofs only [hbig', go_sem]
      refine AWp.bstart (T := 90) (e := 5) (s := 9) (by kernel_rfl) (by simp [go_sem]) ?_
      intro X I μ ob wb w a hE B
      have BT := B.weak (tm' := encT ks) (by simp [go_sem, encT])
      clear B
      have HW : ∀ (B b : Nat) (bs : List Value) (z : ByteArray) (w : World), Lib.IsBuilder 90 5 B b bs w → bs.length + z.size ≤ 140737488355328 → B ≤ w.heap.size →
          Calls Try.prog 70 #[.pointer (some ⟨b, 0, none⟩), .string z] w fun x w' => x = .returned (.tuple #[.int .i64 z.size, .nilIface]) ∧ (Lib.BuilderAt 90 5 B b (.pointer (some ⟨b, 0, none⟩)) (bs ++ Lib.strCells z) w' ∧ Below B w w') :=
        fun B b bs z w h1 h2 h3 => Any.Builder_WriteString Try.lays166 Try.Builder_Extra_166 B b bs z w h1 h2 h3
      have HS : ∀ (B b : Nat) (l : List UInt8) (w : World), Lib.IsBuilder 90 5 B b (Lib.byteCells l) w → B ≤ w.heap.size →
          Calls Try.prog 71 #[.pointer (some ⟨b, 0, none⟩)] w fun x w' => x = .returned (.string ⟨l.toArray⟩) ∧ Below B w w' :=
        fun B b l w h1 h2 => Any.Builder_String_any Try.lays169 Try.Builder_Extra_169 B b l w h1 h2
      have hW : EntersF Try.prog 70 := entersF_of Try.func70 (by kernel_rfl) rfl
      have hS : EntersF Try.prog 71 := entersF_of Try.func71 (by kernel_rfl) rfl
      refine wpIn_seq (wpIn_seq (wpIn_region ?_))
      refine simp_at (K := fun tm' => weakT tm' (encTk ks 0)) hΓ 0 3 rfl (by decide) (by kernel_rfl) BT ?_ ?_
      · simp -implicitDefEqProofs only [encT, encTk, List.drop, List.take, lexK_nil, lexK_plain, go_sem]
        rfl
      intro tm1 a1 B1 hd1 hw1
      have Bk := B1.weak hw1
      clear BT B1 hw1
      refine wpIn_block (wpIn_loop (fun a' w' => ∃ k, k ≤ ks.length ∧ Bld X I μ ob [codeB q ws] wb 90 5 9 (encTk ks k) (encL ws (ks.take k)) w' a') (fun a' _ => match a'.tmps.getD 43 undef with | .int _ k => ks.length - k.toNat | _ => 0) ⟨0, by omega, Bk⟩ ?_)
      rintro a2 w2 ⟨k, hkn, B2⟩
      rw [encTk_m B2]
      refine wpIn_seq (wpIn_region ?_)
      refine simp_at (K := fun tm' => ∃ v, tm' = putD (encTk ks k) (some 44) v ∧ v = .p (.bool (decide (k < ks.length)))) hΓ 0 1 rfl (by decide) (by kernel_rfl) B2 ?_ ?_
      · simp -implicitDefEqProofs only [encT, encTk, List.drop, List.take, lexK_nil, lexK_plain, go_sem]
        exact ⟨_, rfl, rfl⟩
      rintro tm3 a3 B3 hd3 ⟨v, rfl, rfl⟩
      have hc44 : a3.eval (.tmp 44) = .bool (decide (k < ks.length)) := by
        have h1 := B3.rep.evs (.tmp 44)
        have h2 : ev (putD (encTk ks k) (some 44) (.p (.bool (decide (k < ks.length))))) (.tmp 44) = .p (.bool (decide (k < ks.length))) := rfl
        rw [h2] at h1
        exact h1.bool_inv
      refine wpIn_seq (wpIn_cond_split hc44 (fun ht => wpIn_skip ?_) (fun hf => wpIn_exit ?_))
      · have hlt : k < ks.length := of_decide_eq_true ht
        have hkk := List.all_eq_true.1 hin ks[k] (List.getElem_mem hlt)
        simp only [Bool.and_eq_true, decide_eq_true_eq] at hkk
        have hkn2 : ks[k].toNat < ws.length := by omega
        have hgk : (ks.map (PV.int .i64)).getD k default = .int .i64 ks[k] := by rw [getD_map_lt _ _ _ _ hlt]
        have hgw : (ws.map PV.str).getD ks[k].toNat default = .str (ws.getD ks[k].toNat []) := by
          rw [getD_map_lt _ _ _ _ hkn2, List.getD_eq_getElem?_getD, List.getElem?_eq_getElem hkn2]; rfl
        have B4 := B3.weak (tm' := encTk ks k) (by simp [go_sem, encTk])
        clear B2 B3
        change (Code.seq _ _).wpIn _ _ _ _ _ _
        refine wpIn_seq (wpIn_block (wpIn_seq (wpIn_region ?_)))
        refine simp_at (K := fun tm' => weakT tm' (putD (encTk ks k) (some 11) (.p (.int .i64 ks[k])))) hΓ 0 3 rfl (by decide) (by kernel_rfl) B4 ?_ ?_
        · simp -implicitDefEqProofs only [encT, encTk, List.drop, List.take, lexK_nil, lexK_plain, go_sem, List.length_map, hlt, hgk]
        intro tm5 a5 B5 hd5 hw5
        have B6 := B5.weak hw5
        clear B4 B5 hw5
        change (Code.region _ _ _).wpIn _ _ _ _ _ _
        refine wpIn_region ?_
        refine simp_at (K := fun tm' => weakT tm' (putD (encTk ks k) (some 51) (.p (.str (ws.getD ks[k].toNat []))))) (rest := [5]) hΓ 0 5 rfl (by decide) (by kernel_rfl) B6 ?_ ?_
        · simp -implicitDefEqProofs only [encT, encTk, List.drop, List.take, lexK_nil, lexK_plain, go_sem, List.length_map, hgw, codeB]
          exact hkk
        intro tm7 a7 B7 hd7 hw7
        have B8 := B7.weak hw7
        clear B6 B7 hw7
        have hlk : (encL ws (ks.take k)).length + (ws.getD ks[k].toNat []).length ≤ 140737488355328 := by
          have h1 := encL_le ws ks (k + 1)
          rw [encL_take hlt, List.length_append] at h1
          omega
        refine write_ok (t := 51) (d := 52) (u := ws.getD ks[k].toNat []) rfl hW HW B8 (by decide) rfl hlk ?_
        intro a9 w9 B9 hd9
        have B10 := B9.weak (tm' := encTk ks k) (by simp [go_sem, encTk])
        rw [← encL_take hlt] at B10
        clear B8 B9
        change (Code.region _ _ _).wpIn _ _ _ _ _ _
        refine wpIn_region ?_
        refine simp_at (K := fun tm' => weakT tm' (encTk ks (k + 1))) hΓ 0 2 rfl (by decide) (by kernel_rfl) B10 ?_ ?_
        · simp -implicitDefEqProofs only [encT, encTk, List.drop, List.take, lexK_nil, lexK_plain, go_sem]
          exact ⟨by simp only [InR]; omega, by omega⟩
        intro tm11 a11 B11 hd11 hw11
        have B12 := B11.weak hw11
        refine ⟨⟨k + 1, hlt, B12⟩, ?_⟩
        rw [encTk_m B12]
        omega
      · have hnk : k = ks.length := by have := of_decide_eq_false hf; omega
        rw [hnk, List.take_length] at B3
        change (Code.seq _ _).wpIn _ _ _ _ _ _
        refine wpIn_seq (wpIn_region ?_)
        refine string_ok (k := 0) (rest := [1, 2]) (d := 54) rfl hS HS B3 ?_
        intro a4 w4 R4 hd4
        refine steps_at (KS := fun st => st.tmps.getD 4 .junk = .p (.str (encL ws ks)) ∧ st.tmps.getD 5 .junk = .p (.int .i64 0)) hΓ hE 1 rfl R4 ?_ ?_
        · exact ⟨rfl, rfl⟩
        intro st' a' w' hN ⟨h4, h5⟩
        refine wpIn_ret ⟨st', hN, ?_⟩
        rw [h4, h5]
        exact ⟨by simp [AM.Ends], rfl⟩
end Go.Proofs.Ytgkbafkmbokkaaa
end

section
namespace Go.Proofs.Ytgkbafkmbokkaaa
open Go Go.AM
set_option maxRecDepth 100000
set_option linter.unusedSimpArgs false

theorem cnt_cap {ws : List (List UInt8)} (hn : ∀ x ∈ ws, x ≠ []) (hws : ws.length ≤ 256) {w : List UInt8} (hw : w.length ≤ 40) : cnt ws w ≤ 256 ^ 40 := by
  refine Nat.le_trans (cnt_pow hn hws (by decide) w.length w (Nat.le_refl _)) (Nat.pow_le_pow_right (by decide) hw)
theorem cntL_cap {ws vs : List (List UInt8)} (hn : ∀ x ∈ ws, x ≠ []) (hws : ws.length ≤ 256) (hvs : vs.length ≤ 256) {w : List UInt8} (hw : w.length ≤ 40) : cntL ws vs w ≤ 256 ^ 41 := by
  refine Nat.le_trans (cntL_le (m := 256 ^ 40) fun x _ _ => cnt_cap hn hws (by simp; omega)) ?_
  rw [show (41 : Nat) = 40 + 1 from rfl, Nat.pow_succ, Nat.mul_comm]
  exact Nat.mul_le_mul_left _ hvs
theorem cap_41 {n : Nat} (h : n ≤ 256 ^ 41) : n < capN := Nat.lt_of_le_of_lt h (by unfold capN; exact Nat.pow_lt_pow_right (by decide) (by omega))
theorem cap_40 {n : Nat} (h : n ≤ 256 ^ 40) : n < capN := Nat.lt_of_le_of_lt h (by unfold capN; exact Nat.pow_lt_pow_right (by decide) (by omega))

/-- The row of counts: all offsets behind n, and the first k words at n. -/
def cntV (ws : List (List UInt8)) (w : List UInt8) (n k j : Nat) : Nat := if n < j then cnt ws (w.drop j) else if j = n then cntL ws (ws.take k) (w.drop n) else 0
def cntH (ws : List (List UInt8)) (w : List UInt8) (n k : Nat) : List PV := (List.range (w.length + 1)).map fun j => intN false (cntV ws w n k j)
/-- All counts. -/
def cntR (ws : List (List UInt8)) (w : List UInt8) (n : Nat) : List PV := (List.range (w.length + 1)).map fun j => intN false (if n ≤ j then cnt ws (w.drop j) else 0)
theorem cntH_len (ws : List (List UInt8)) (w : List UInt8) (n k : Nat) : (cntH ws w n k).length = w.length + 1 := by simp [cntH]
theorem cntR_len (ws : List (List UInt8)) (w : List UInt8) (n : Nat) : (cntR ws w n).length = w.length + 1 := by simp [cntR]
theorem cntH_get {ws : List (List UInt8)} {w : List UInt8} {n k j : Nat} (h : j ≤ w.length) : (cntH ws w n k)[j]? = some (intN false (cntV ws w n k j)) := by
  simp [cntH, List.getElem?_map, List.getElem?_range (show j < w.length + 1 by omega)]
theorem cntR_get {ws : List (List UInt8)} {w : List UInt8} {n j : Nat} (h : j ≤ w.length) : (cntR ws w n)[j]? = some (intN false (if n ≤ j then cnt ws (w.drop j) else 0)) := by
  simp [cntR, List.getElem?_map, List.getElem?_range (show j < w.length + 1 by omega)]
theorem cntR_H {ws : List (List UInt8)} {w : List UInt8} {n : Nat} : cntR ws w (n + 1) = cntH ws w n 0 := by
  unfold cntR cntH cntV
  apply List.map_congr_left
  intro j _
  congr 1
  by_cases h : n < j
  · rw [if_pos (show n + 1 ≤ j from h), if_pos h]
  · rw [if_neg (show ¬ n + 1 ≤ j from h), if_neg h]; split <;> rfl
theorem cntH_R {ws : List (List UInt8)} (hn : ∀ x ∈ ws, x ≠ []) {w : List UInt8} {n : Nat} (h : n < w.length) : cntH ws w n ws.length = cntR ws w n := by
  unfold cntR cntH cntV
  apply List.map_congr_left
  intro j _
  congr 1
  by_cases h1 : n < j
  · rw [if_pos h1, if_pos (by omega)]
  · rw [if_neg h1]
    by_cases h2 : j = n
    · subst h2
      rw [if_pos rfl, if_pos (Nat.le_refl _), List.take_length, cnt_step hn]
      intro e
      have := congrArg List.length e
      simp at this; omega
    · rw [if_neg h2, if_neg (by omega)]
theorem cntH_no {ws : List (List UInt8)} {w : List UInt8} {n k : Nat} (hk : k < ws.length) (h : ws[k].isPrefixOf (w.drop n) = false) : cntH ws w n (k + 1) = cntH ws w n k := by
  unfold cntH cntV
  apply List.map_congr_left
  intro j _
  congr 1
  by_cases h1 : n < j
  · rw [if_pos h1, if_pos h1]
  · rw [if_neg h1, if_neg h1]
    by_cases h2 : j = n
    · rw [if_pos h2, if_pos h2, List.take_succ_eq_append_getElem hk, cntL_snoc, h]; simp
    · rw [if_neg h2, if_neg h2]
theorem cntH_yes {ws : List (List UInt8)} {w : List UInt8} {n k : Nat} (hk : k < ws.length) (h : ws[k].isPrefixOf (w.drop n) = true) (hn : n ≤ w.length) :
    (cntH ws w n k).set n (intN false (cntL ws (ws.take k) (w.drop n) + cnt ws (w.drop (n + ws[k].length)))) = cntH ws w n (k + 1) := by
  apply List.ext_getElem?
  intro j
  by_cases hj : j ≤ w.length
  · rw [List.getElem?_set, cntH_get hj, cntH_get hj]
    by_cases h2 : n = j
    · subst h2
      rw [if_pos rfl, if_pos (by rw [cntH_len]; omega)]
      unfold cntV
      rw [if_neg (by omega), if_pos rfl, List.take_succ_eq_append_getElem hk, cntL_snoc, h, if_pos rfl, List.drop_drop]
    · rw [if_neg h2]
      unfold cntV
      by_cases h1 : n < j
      · rw [if_pos h1, if_pos h1]
      · rw [if_neg h1, if_neg h1, if_neg (by omega), if_neg (by omega)]
  · rw [List.getElem?_eq_none (by simp [cntH_len]; omega), List.getElem?_eq_none (by rw [cntH_len]; omega)]

theorem cntR_start (ws : List (List UInt8)) (w : List UInt8) : (List.replicate (w.length + 1) (intN false 0)).set w.length (intN false 1) = cntR ws w w.length := by
  apply List.ext_getElem?
  intro j
  by_cases hj : j ≤ w.length
  · rw [List.getElem?_set, cntR_get hj]
    by_cases h2 : w.length = j
    · subst h2
      rw [if_pos rfl, if_pos (by simp), if_pos (Nat.le_refl _), List.drop_length]; rfl
    · rw [if_neg h2, List.getElem?_replicate, if_pos (by omega), if_neg (by omega)]
  · rw [List.getElem?_eq_none (by simp; omega), List.getElem?_eq_none (by rw [cntR_len]; omega)]
theorem size_int (l : List Nat) : sizeOK (l.map (intN false)) 2 := fun x hx => by
  obtain ⟨b, _, rfl⟩ := List.mem_map.1 hx
  rfl
theorem cntH_size (ws : List (List UInt8)) (w : List UInt8) (n k : Nat) : sizeOK (cntH ws w n k) 2 := fun x hx => by
  obtain ⟨b, _, rfl⟩ := List.mem_map.1 hx
  rfl

theorem u64 (q : Int) (ws : List (List UInt8)) (w : List UInt8) (hn : ∀ x ∈ ws, x ≠ []) (hws : ws.length ≤ 256) (hw : w.length ≤ 40) :
    PFn Try.prog 64 [codeV q ws, .str w] [.sl (cntR ws w 0)] := by
  have eL : ((w.length : Int) + 1).toNat = w.length + 1 := by omega
  have e1 := u34 1 (by omega)
  refine PFn.of_body hΓ Try.func64 (by kernel_rfl) rfl (AWp.seq (AWp.of_awpD [] hΓ hmix (by kernel_rfl) ?_))
  simp -implicitDefEqProofs only [Try.ntmps64, Try.results64, Nat.reduceAdd, Nat.reduceSub, codeV, go_sem]
  refine AWp.seq (AWp.of_awpD [] hΓ hmix (by kernel_rfl) ?_)
  simp -implicitDefEqProofs only [eL, go_sem]
  refine ⟨by simp only [InR]; omega, ⟨by omega, by omega, by omega⟩, ?_⟩
  refine AWp.seq (AWp.of_awpD [] hΓ hmix (by kernel_rfl) ?_)
  simp -implicitDefEqProofs only [go_sem]
  refine callK_fn e1 (.pures rfl) ?_
  simp -implicitDefEqProofs only [intN_pos, go_sem]
  have hst := cntR_start ws w
  rw [List.replicate_succ] at hst
  simp only [intN_pos, magB_zero] at hst
  rw [hst]
  refine ⟨⟨by simp, rfl⟩, ?_⟩
  clear hst
  refine AWp.seq (AWp.of_awpD [] hΓ hmix (by kernel_rfl) ?_)
  simp -implicitDefEqProofs only [go_sem]
  refine ⟨by simp only [InR]; omega, ?_⟩
  refine AWp.loopI (fun n : Nat => ⟨mkF 54 [(1, .p (.str w)), (2, .ptr 0 0), (5, .own 1 (w.length + 1)), (6, .p (.int .i64 ((n : Int) - 1)))], [.box [.p (.int .i64 q), .p (.sl (ws.map .str))], .row 44 2 (cntR ws w n) .own]⟩)
    (fun n => n ≤ w.length) (fun n => n) w.length (by simp [go_sem]) (Nat.le_refl _) ?_
  intro n hnw
  refine AWp.of_awpD [(10, 15)] hΓ hmix (by kernel_rfl) ?_
  cases n with
  | zero =>
    have h1 : ¬ (0 : Int) ≤ ((0 : Nat) : Int) - 1 := by omega
    simp -implicitDefEqProofs only [h1, go_sem]
    refine AWp.freeze 1 rfl ?_
    refine AWp.of_awpD [] hΓ hmix (by kernel_rfl) ?_
    simp -implicitDefEqProofs only [Frozen, go_sem]
  | succ n =>
    have h1 : (0 : Int) ≤ ((n + 1 : Nat) : Int) - 1 := by omega
    have e2 : ((n + 1 : Nat) : Int) - 1 = n := by omega
    simp -implicitDefEqProofs only [h1, e2, List.length_map, go_sem]
    rw [cntR_H]
    refine AWp.loopI (fun k : Nat => ⟨mkF 54 [(1, .p (.str w)), (2, .ptr 0 0), (5, .own 1 (w.length + 1)), (6, .p (.int .i64 n)), (26, .p (.sl (ws.map .str))), (27, .p (.int .i64 ws.length)), (28, .p (.int .i64 k))], [.box [.p (.int .i64 q), .p (.sl (ws.map .str))], .row 44 2 (cntH ws w n k) .own]⟩)
      (fun k => k ≤ ws.length) (fun k => ws.length - k) 0 (by simp [go_sem]) (by omega) ?_
    intro k hk
    refine AWp.of_awpD [(10, 15)] hΓ hmix (by kernel_rfl) ?_
    by_cases hlt : k < ws.length
    · have hnn : n ≤ w.length := by omega
      simp -implicitDefEqProofs only [hlt, getD_map_lt, ↓reduceIte, go_sem]
      refine ⟨hnn, callK_fn (t69 (w.drop n) ws[k]) (.pures rfl) ?_⟩
      cases hp : ws[k].isPrefixOf (w.drop n)
      · simp -implicitDefEqProofs only [hlt, getD_map_lt, ↓reduceIte, go_sem]
        rw [← cntH_no hlt hp]
        exact ⟨by simp only [InR]; omega, k + 1, ⟨by omega, .inl rfl⟩, hlt, by omega⟩
      · have hpl := (List.isPrefixOf_iff_prefix.1 hp).length_le
        rw [List.length_drop] at hpl
        have hxp : 0 < ws[k].length := List.length_pos_iff.2 (hn _ (List.getElem_mem hlt))
        have hgn : (cntH ws w n k).getD n default = .agg [.bool false, .str (magB (cntL ws (ws.take k) (w.drop n)))] := by
          rw [List.getD_eq_getElem?_getD, cntH_get hnn, Option.getD_some]
          unfold cntV
          rw [if_neg (by omega), if_pos rfl, intN_pos]
        have hgm : (cntH ws w n k).getD (n + ws[k].length) default = .agg [.bool false, .str (magB (cnt ws (w.drop (n + ws[k].length))))] := by
          rw [List.getD_eq_getElem?_getD, cntH_get (by omega), Option.getD_some]
          unfold cntV
          rw [if_pos (by omega), intN_pos]
        have e3 : ((n : Int) + (ws[k].length : Int)).toNat = n + ws[k].length := by omega
        have e4 := u89 (cntL ws (ws.take k) (w.drop n)) (cnt ws (w.drop (n + ws[k].length))) (cap_41 (cntL_cap hn hws (by simp; omega) (by simp; omega))) (cap_40 (cnt_cap hn hws (by simp; omega)))
        have hy := cntH_yes hlt hp hnn
        simp -implicitDefEqProofs only [hlt, getD_map_lt, ↓reduceIte, cntH_len, e3, hgn, hgm, go_sem]
        refine ⟨by omega, by omega, by simp only [InR]; omega, ⟨by omega, by omega⟩, by omega, ?_⟩
        refine callVPK_fn e4 (.pures rfl) ?_
        simp -implicitDefEqProofs only [hlt, getD_map_lt, ↓reduceIte, cntH_len, e3, hy, go_sem]
        exact ⟨by omega, ⟨by omega, rfl, rfl⟩, by simp only [InR]; omega, k + 1, ⟨by omega, .inl rfl⟩, hlt, by omega⟩
    · have hkn : k = ws.length := by omega
      rw [hkn, cntH_R hn (by omega)]
      have hz : ¬ (ws.length : Int) < ws.length := by omega
      simp -implicitDefEqProofs only [hz, go_sem]
      exact ⟨by simp only [InR]; omega, n, ⟨rfl, .inl rfl⟩, by omega, by omega⟩

theorem u63 (q : Int) (ws : List (List UInt8)) (w : List UInt8) : PFn Try.prog 63 [codeV q ws, .str w] [.int .i64 (if codeCheck q ws = 0 then wordCheck q w else 1)] := by
  refine PFn.of_body hΓ Try.func63 (by kernel_rfl) rfl (AWp.of_awpD [] hΓ hmix (by kernel_rfl) ?_)
  simp +contextual -implicitDefEqProofs only [codeV, Try.ntmps63, Try.results63, Nat.reduceAdd, Nat.reduceSub, go_sem]
  refine callK_fn (t45 q ws) (.still rfl) ?_
  by_cases h : codeCheck q ws = 0
  · rw [h]
    simp -implicitDefEqProofs only [go_sem]
    refine callK_fn (t80 q w) (.pures rfl) ?_
    simp -implicitDefEqProofs only [go_sem]
  · simp -implicitDefEqProofs only [h, go_sem]

theorem u32 (q : Int) (ws : List (List UInt8)) (w : List UInt8) (hn : codeCheck q ws = 0 → ∀ x ∈ ws, x ≠ []) (hws : codeCheck q ws = 0 → ws.length ≤ 256) (hw : codeCheck q ws = 0 → wordCheck q w = 0 → w.length ≤ 40) :
    PFn Try.prog 32 [codeV q ws, .str w] (if codeCheck q ws = 0 then (if wordCheck q w = 0 then [intN false (cnt ws w), .int .i64 0] else [intN false 0, .int .i64 (wordCheck q w)]) else [intN false 0, .int .i64 1]) := by
  refine PFn.of_body hΓ Try.func32 (by kernel_rfl) rfl (AWp.of_awpD [] hΓ hmix (by kernel_rfl) ?_)
  simp +contextual -implicitDefEqProofs only [codeV, Try.ntmps32, Try.results32, Nat.reduceAdd, Nat.reduceSub, go_sem]
  refine callK_fn (u63 q ws w) (.still rfl) ?_
  by_cases h : codeCheck q ws = 0
  · by_cases h2 : wordCheck q w = 0
    · rw [h2]
      have e := u64 q ws w (hn h) (hws h) (hw h h2)
      simp -implicitDefEqProofs only [h, go_sem]
      refine callK_fn e (.still rfl) ?_
      have hg : (cntR ws w 0).getD (Int.toNat 0) default = .agg [.bool false, .str (magB (cnt ws w))] := by
        rw [show Int.toNat 0 = 0 from rfl, List.getD_eq_getElem?_getD, cntR_get (by omega), Option.getD_some, if_pos (Nat.le_refl _), List.drop_zero, intN_pos]
      simp -implicitDefEqProofs only [cntR_len, hg, intN_pos, go_sem]
      rw [if_pos h]
      exact ⟨by omega, rfl⟩
    · simp -implicitDefEqProofs only [h, h2, go_sem]
      rfl
  · have h10 : ¬ (1 : Int) = 0 := by decide
    simp -implicitDefEqProofs only [h, h10, go_sem]
    rfl
end Go.Proofs.Ytgkbafkmbokkaaa
end

section
namespace Go.Proofs.Ytgkbafkmbokkaaa
open Go Go.AM
set_option maxRecDepth 100000
set_option linter.unusedSimpArgs false

def cmpN (a b : Nat) : Int := if a < b then -1 else if a = b then 0 else 1
theorem cmpN_lt {a b : Nat} (h : a < b) : cmpN a b = -1 := if_pos h
theorem cmpN_gt {a b : Nat} (h : b < a) : cmpN a b = 1 := by unfold cmpN; rw [if_neg (by omega), if_neg (by omega)]
theorem cmpN_eq (a : Nat) : cmpN a a = 0 := by unfold cmpN; rw [if_neg (by omega), if_pos rfl]

theorem valD_split (B i : Nat) (l : List Nat) : valD B l = valD B (l.take i) + B ^ (l.take i).length * valD B (l.drop i) := by
  conv => lhs; rw [← List.take_append_drop i l]
  rw [valD_append]
theorem valD_ge {B : Nat} (hB : 0 < B) : ∀ {l : List Nat}, Canon B l → l ≠ [] → B ^ (l.length - 1) ≤ valD B l
  | [], _, h => absurd rfl h
  | [d], h, _ => by
    have : d ≠ 0 := fun e => by subst e; exact h.2 rfl
    simp [valD]; omega
  | d :: e :: l, h, _ => by
    have ih := valD_ge hB (canon_tail h) (by simp)
    have e1 : valD B (d :: e :: l) = d + B * valD B (e :: l) := rfl
    have e2 : B ^ ((d :: e :: l).length - 1) = B * B ^ ((e :: l).length - 1) := by
      simp only [List.length_cons, Nat.add_sub_cancel]
      rw [Nat.pow_succ, Nat.mul_comm]
    rw [e1, e2]
    have := Nat.mul_le_mul_left B ih
    omega
theorem len_lt {B : Nat} (hB : 0 < B) {x y : List Nat} (hx : Canon B x) (hy : Canon B y) (h : x.length < y.length) : valD B x < valD B y := by
  refine Nat.lt_of_lt_of_le (valD_lt hx.1) (Nat.le_trans (Nat.pow_le_pow_right hB ?_) (valD_ge hB hy (fun e => by subst e; simp at h)))
  omega
theorem dig_cmp {B : Nat} {x y : List Nat} {i : Nat} (hx : ∀ d ∈ x, d < B) (hl : x.length = y.length) (hi : i < x.length) (hd : x.drop (i + 1) = y.drop (i + 1)) (h : x.getD i 0 < y.getD i 0) : valD B x < valD B y := by
  rw [valD_split B i x, valD_split B i y]
  have h1 : (x.take i).length = i := by simp; omega
  have h2 : (y.take i).length = i := by simp; omega
  have h3 : valD B (x.take i) < B ^ i := by
    have := valD_lt (B := B) (l := x.take i) (fun d hd => hx d (List.mem_of_mem_take hd))
    rwa [h1] at this
  have e1 : valD B (x.drop i) = x.getD i 0 + B * valD B (x.drop (i + 1)) := by
    rw [List.drop_eq_getElem_cons hi, List.getD_eq_getElem?_getD, List.getElem?_eq_getElem hi]; rfl
  have e2 : valD B (y.drop i) = y.getD i 0 + B * valD B (y.drop (i + 1)) := by
    rw [List.drop_eq_getElem_cons (show i < y.length by omega), List.getD_eq_getElem?_getD, List.getElem?_eq_getElem (show i < y.length by omega)]; rfl
  rw [h1, h2, e1, e2, hd]
  generalize B * valD B (y.drop (i + 1)) = R
  have h4 : B ^ i * (x.getD i 0 + R + 1) ≤ B ^ i * (y.getD i 0 + R) := Nat.mul_le_mul_left _ (by omega)
  rw [Nat.mul_add] at h4
  omega

theorem u106 (x y : List Nat) (hx : Canon B32 x) (hy : Canon B32 y) (hxl : x.length ≤ 1000000) (_hyl : y.length ≤ 1000000) : PFn Try.prog 106 [natV x, natV y] [.int .i64 (cmpN (valD B32 x) (valD B32 y))] := by
  refine PFn.of_body hΓ Try.func106 (by kernel_rfl) rfl (AWp.seq (AWp.of_awpD [] hΓ hmix (by kernel_rfl) ?_))
  simp -implicitDefEqProofs only [Try.ntmps106, Try.results106, Nat.reduceAdd, Nat.reduceSub, natV, go_sem]
  by_cases h1 : x.length = y.length
  · have h1' : (x.length : Int) = y.length := by omega
    refine AWp.seq (AWp.of_awpD [] hΓ hmix (by kernel_rfl) ?_)
    simp -implicitDefEqProofs only [List.length_map, h1', go_sem]
    refine AWp.seq (AWp.of_awpD [] hΓ hmix (by kernel_rfl) ?_)
    simp -implicitDefEqProofs only [List.length_map, h1', go_sem]
    refine ⟨by simp only [InR]; omega, ?_⟩
    refine AWp.loopI (fun n : Nat => ⟨mkF 41 [(0, .p (natV x)), (1, .p (natV y)), (5, .p (.int .i64 ((n : Int) - 1)))], []⟩)
      (fun n => n ≤ x.length ∧ x.drop n = y.drop n) (fun n => n) x.length (by simp [go_sem, natV, h1]) ⟨Nat.le_refl _, by rw [List.drop_length, h1, List.drop_length]⟩ ?_
    rintro n ⟨hn, hd⟩
    refine AWp.of_awpD [(8, 9), (9, 9)] hΓ hmix (by kernel_rfl) ?_
    cases n with
    | zero =>
      have h2 : ¬ (0 : Int) ≤ ((0 : Nat) : Int) - 1 := by omega
      have : x = y := by simpa using hd
      simp -implicitDefEqProofs only [h2, go_sem]
      rw [this, cmpN_eq]
      refine AWp.of_awpD [] hΓ hmix (by kernel_rfl) ?_
      simp -implicitDefEqProofs only [go_sem]
    | succ n =>
      have h2 : (0 : Int) ≤ ((n + 1 : Nat) : Int) - 1 := by omega
      have e2 : ((n + 1 : Nat) : Int) - 1 = n := by omega
      have hnx : n < x.length := hn
      have hny : n < y.length := by omega
      have hgx : (x.map u32V).getD n default = .int .u32 ((x.getD n 0 : Nat) : Int) := by
        rw [getD_map_lt _ _ _ _ hnx, List.getD_eq_getElem?_getD, List.getElem?_eq_getElem hnx]; rfl
      have hgy : (y.map u32V).getD n default = .int .u32 ((y.getD n 0 : Nat) : Int) := by
        rw [getD_map_lt _ _ _ _ hny, List.getD_eq_getElem?_getD, List.getElem?_eq_getElem hny]; rfl
      rcases Nat.lt_trichotomy (x.getD n 0) (y.getD n 0) with h | h | h
      · have h3 : ¬ ((x.getD n 0 : Nat) : Int) = (y.getD n 0 : Nat) := by omega
        have h4 : ((x.getD n 0 : Nat) : Int) < (y.getD n 0 : Nat) := by omega
        have := dig_cmp hx.1 h1 hnx hd h
        simp -implicitDefEqProofs only [natV, List.length_map, h2, e2, hgx, hgy, h3, h4, hnx, hny, go_sem]
        rw [cmpN_lt this]
      · have hd' : x.drop n = y.drop n := by
          rw [List.drop_eq_getElem_cons hnx, List.drop_eq_getElem_cons hny, hd]
          congr 1
          rwa [List.getD_eq_getElem?_getD, List.getElem?_eq_getElem hnx, Option.getD_some, List.getD_eq_getElem?_getD, List.getElem?_eq_getElem hny, Option.getD_some] at h
        simp -implicitDefEqProofs only [natV, List.length_map, h2, e2, hgx, hgy, h, hnx, hny, go_sem]
        exact ⟨by simp only [InR]; omega, n, rfl, ⟨by omega, hd'⟩, by omega⟩
      · have h3 : ¬ ((x.getD n 0 : Nat) : Int) = (y.getD n 0 : Nat) := by omega
        have h4 : ¬ ((x.getD n 0 : Nat) : Int) < (y.getD n 0 : Nat) := by omega
        have := dig_cmp hy.1 h1.symm hny hd.symm h
        simp -implicitDefEqProofs only [natV, List.length_map, h2, e2, hgx, hgy, h3, h4, hnx, hny, go_sem]
        rw [cmpN_gt this]
  · have h1' : ¬ (x.length : Int) = y.length := by omega
    refine AWp.of_awpD [] hΓ hmix (by kernel_rfl) ?_
    by_cases h2 : x.length < y.length
    · have h2' : (x.length : Int) < y.length := by omega
      have := len_lt (B := B32) (by decide) hx hy h2
      simp -implicitDefEqProofs only [List.length_map, h1', h2', go_sem]
      rw [cmpN_lt this]
    · have h2' : ¬ (x.length : Int) < y.length := by omega
      have := len_lt (B := B32) (by decide) hy hx (by omega)
      simp -implicitDefEqProofs only [List.length_map, h1', h2', go_sem]
      rw [cmpN_gt this]

theorem u107 (X Y : List Nat) (hX : ∀ d ∈ X, d < B32) (hY : ∀ d ∈ Y, d < B32) (hXl : X.length ≤ 1000000) (hYX : Y.length ≤ X.length) (hle : valD B32 Y ≤ valD B32 X) : PFn Try.prog 107 [natV X, natV Y] [natV (digD B32 (valD B32 X - valD B32 Y))] := by
  have eL : ((X.length : Int)).toNat = X.length := by omega
  refine PFn.of_body hΓ Try.func107 (by kernel_rfl) rfl (AWp.seq (AWp.of_awpD [] hΓ hmix (by kernel_rfl) ?_))
  simp -implicitDefEqProofs only [Try.ntmps107, Try.results107, Nat.reduceAdd, Nat.reduceSub, natV, go_sem]
  refine AWp.seq (AWp.of_awpD [] hΓ hmix (by kernel_rfl) ?_)
  simp -implicitDefEqProofs only [natV, List.length_map, eL, go_sem]
  refine ⟨⟨by omega, by omega⟩, ?_⟩
  refine AWp.seq (AWp.of_awpD [] hΓ hmix (by kernel_rfl) ?_)
  simp -implicitDefEqProofs only [go_sem]
  refine AWp.seq (AWp.of_awpD [] hΓ hmix (by kernel_rfl) ?_)
  simp -implicitDefEqProofs only [List.length_map, go_sem]
  refine AWp.loopI (fun z : Nat × List Nat × Nat => ⟨mkF 47 [(0, .p (natV X)), (1, .p (natV Y)), (5, .own 0 X.length), (6, .p (.int .i64 z.2.2)), (13, .p (.int .i64 X.length)), (14, .p (.int .i64 z.1))], [.row 81 1 ((z.2.1 ++ List.replicate (X.length - z.1) 0).map u32V) .own]⟩)
    (fun z => z.1 ≤ X.length ∧ z.2.1.length = z.1 ∧ (∀ d ∈ z.2.1, d < B32) ∧ z.2.2 ≤ 1 ∧ valD B32 (X.take z.1) + z.2.2 * B32 ^ z.1 = valD B32 z.2.1 + valD B32 (Y.take z.1)) (fun z => X.length - z.1) (0, [], 0) (by simp [go_sem, natV, u32V]) (by simp [valD]) ?_
  rintro ⟨i, o, c⟩ ⟨hi, ho, hod, hc, hval⟩
  simp only at hi ho hod hc hval
  refine AWp.of_awpD [] hΓ hmix (by kernel_rfl) ?_
  by_cases hlt : i < X.length
  · have hgX : (X.map u32V).getD i default = .int .u32 ((X.getD i 0 : Nat) : Int) := by
      rw [getD_map_lt _ _ _ _ hlt, List.getD_eq_getElem?_getD, List.getElem?_eq_getElem hlt]; rfl
    have dX : X.getD i 0 < B32 := by
      rw [List.getD_eq_getElem?_getD, List.getElem?_eq_getElem hlt, Option.getD_some]; exact hX _ (List.getElem_mem hlt)
    have dY : Y.getD i 0 < B32 := by
      rw [List.getD_eq_getElem?_getD]
      cases hq : Y[i]? with
      | none => decide
      | some d => exact hY d (List.mem_of_getElem? hq)
    have hwX : IntKind.i64.wrap ((X.getD i 0 : Nat) : Int) = (X.getD i 0 : Nat) := InR.wrap (k := .i64) (by simp only [InR]; unfold B32 at dX; omega)
    have hwY : IntKind.i64.wrap ((Y.getD i 0 : Nat) : Int) = (Y.getD i 0 : Nat) := InR.wrap (k := .i64) (by simp only [InR]; unfold B32 at dY; omega)
    have tX := valD_take (l := X) B32 i
    have tY := valD_take (l := Y) B32 i
    generalize hxi : X.getD i 0 = xi at *
    generalize hyi : Y.getD i 0 = yi at *
    have hB : B32 = 4294967296 := rfl
    obtain ⟨s, b, hs, hb, hsb⟩ : ∃ s b : Nat, (b = 0 ∧ (s : Int) = (xi : Int) - c - yi ∨ b = 1 ∧ (s : Int) = (xi : Int) - c - yi + 4294967296 ∧ (xi : Int) - c - yi < 0) ∧ b ≤ 1 ∧ s < B32 := by
      by_cases hneg : (xi : Int) - c - yi < 0
      · exact ⟨((xi : Int) - c - yi + 4294967296).toNat, 1, .inr ⟨rfl, by omega, hneg⟩, by omega, by omega⟩
      · exact ⟨((xi : Int) - c - yi).toNat, 0, .inl ⟨rfl, by omega⟩, by omega, by omega⟩
    have hvl : valD B32 (X.take (i + 1)) + b * B32 ^ (i + 1) = valD B32 (o ++ [s]) + valD B32 (Y.take (i + 1)) := by
      rw [tX, tY, valD_append, ho, Nat.pow_succ]
      have e1 : valD B32 [s] = s := by simp [valD]
      rw [e1]
      generalize hP : B32 ^ i = P at *
      have e2 : xi + b * B32 = s + yi + c := by
        rcases hs with ⟨rfl, h⟩ | ⟨rfl, h, _⟩ <;> omega
      have e3 : (xi + b * B32) * P = (s + yi + c) * P := by rw [e2]
      rw [Nat.add_mul, Nat.add_mul, Nat.add_mul] at e3
      have e4 : b * (P * B32) = b * B32 * P := by rw [Nat.mul_comm P, Nat.mul_assoc]
      rw [e4, Nat.mul_comm P s]
      omega
    have hs32 : IntKind.u32.wrap (s : Int) = (s : Int) := InR.wrap (k := .u32) (by simp only [InR]; omega)
    have hset : ((o ++ List.replicate (X.length - i) 0).map u32V).set i (.int .u32 (s : Int)) = ((o ++ [s]) ++ List.replicate (X.length - (i + 1)) 0).map u32V := by
      have := set_mid o (X.length - (i + 1)) s
      rw [ho, show X.length - (i + 1) + 1 = X.length - i by omega] at this
      exact this
    have hod' : ∀ d ∈ o ++ [s], d < B32 := fun d hd => by
      rcases List.mem_append.1 hd with hd | hd
      · exact hod d hd
      · rw [List.mem_singleton] at hd; subst hd; exact hsb
    have hlen : i < (o ++ List.replicate (X.length - i) 0).length := by simp; omega
    by_cases hlt2 : (i : Int) < Y.length
    · have hlt2' : i < Y.length := by omega
      have hgY : (Y.map u32V).getD i default = .int .u32 (yi : Int) := by
        rw [getD_map_lt _ _ _ _ hlt2', ← hyi, List.getD_eq_getElem?_getD, List.getElem?_eq_getElem hlt2']; rfl
      rcases hs with ⟨rfl, h⟩ | ⟨rfl, h, hneg⟩
      · have hneg : ¬ (s : Int) < 0 := by omega
        simp -implicitDefEqProofs only [natV, List.length_map, hlt, hgX, hgY, hlt2', hwX, hwY, ← h, hneg, hs32, hset, go_sem]
        refine ⟨by simp only [InR]; omega, by simp only [InR]; omega, ⟨hlen, rfl⟩, by simp only [InR]; omega, (i + 1, o ++ [s], 0), ⟨⟨rfl, by simp⟩, .inl rfl⟩, ⟨hlt, by simp [ho], hod', by omega, hvl⟩, by simp only; omega⟩
      · simp -implicitDefEqProofs only [natV, List.length_map, hlt, hgX, hgY, hlt2', hwX, hwY, hneg, ← h, hs32, hset, go_sem]
        refine ⟨by simp only [InR]; omega, by simp only [InR]; omega, by simp only [InR]; omega, ⟨hlen, rfl⟩, by simp only [InR]; omega, (i + 1, o ++ [s], 1), ⟨⟨rfl, by simp⟩, .inl rfl⟩, ⟨hlt, by simp [ho], hod', by omega, hvl⟩, by simp only; omega⟩
    · have hy0 : yi = 0 := by rw [← hyi, List.getD_eq_getElem?_getD, List.getElem?_eq_none (by omega)]; rfl
      rcases hs with ⟨rfl, h⟩ | ⟨rfl, h, hneg⟩
      · have h' : (s : Int) = (xi : Int) - c := by omega
        have hneg : ¬ (s : Int) < 0 := by omega
        simp -implicitDefEqProofs only [natV, List.length_map, hlt, hgX, hlt2, hwX, hwY, ← h', hneg, hs32, hset, go_sem]
        refine ⟨by simp only [InR]; omega, ⟨hlen, rfl⟩, by simp only [InR]; omega, (i + 1, o ++ [s], 0), ⟨⟨rfl, by simp⟩, .inl rfl⟩, ⟨hlt, by simp [ho], hod', by omega, hvl⟩, by simp only; omega⟩
      · have h' : (s : Int) = (xi : Int) - c + 4294967296 := by omega
        have hneg' : (xi : Int) - c < 0 := by omega
        simp -implicitDefEqProofs only [natV, List.length_map, hlt, hgX, hlt2, hwX, hwY, hneg', ← h', hs32, hset, go_sem]
        refine ⟨by simp only [InR]; omega, by simp only [InR]; omega, ⟨hlen, rfl⟩, by simp only [InR]; omega, (i + 1, o ++ [s], 1), ⟨⟨rfl, by simp⟩, .inl rfl⟩, ⟨hlt, by simp [ho], hod', by omega, hvl⟩, by simp only; omega⟩
  · simp -implicitDefEqProofs only [natV, List.length_map, hlt, go_sem]
    have hin : i = X.length := by omega
    have hall : valD B32 o < B32 ^ o.length := valD_lt hod
    rw [hin, List.take_of_length_le (Nat.le_refl _), List.take_of_length_le hYX] at hval
    have hc0 : c = 0 := by
      rcases (by omega : c = 0 ∨ c = 1) with h | h
      · exact h
      · subst h
        rw [ho, hin] at hall
        omega
    subst hc0
    have hv : valD B32 o = valD B32 X - valD B32 Y := by simp at hval; omega
    have hrow : o ++ List.replicate (X.length - i) 0 = o := by rw [hin]; simp
    rw [hrow]
    refine AWp.freeze 0 rfl ?_
    refine AWp.of_awpD [] hΓ hmix (by kernel_rfl) ?_
    simp -implicitDefEqProofs only [Frozen, go_sem]
    have e91 := u91 o (by omega)
    rw [trimL_eq (B := B32) (by decide) hod, hv] at e91
    refine callK_fn e91 (.pures rfl) ?_
    simp -implicitDefEqProofs only [natV, go_sem]

theorem u90 (n : Nat) (hn : n < capN) : PFn Try.prog 90 [intN false n] [intN true n] := by
  have e1 := u69n false n hn
  have e2 := u66 true (digD B32 n) (dig_lt _) (by have := cap_dig hn; omega)
  rw [digD_val (by decide)] at e2
  refine PFn.of_body hΓ Try.func90 (by kernel_rfl) rfl (AWp.of_awpD [(1, 6)] hΓ hmix (by kernel_rfl) ?_)
  simp +contextual -implicitDefEqProofs only [intN_pos, Try.ntmps90, Try.results90, Nat.reduceAdd, Nat.reduceSub, go_sem]
  refine callVPK_fn e1 (.still rfl) ?_
  simp -implicitDefEqProofs only [go_sem]
  refine callVPK_fn e2 (.pures rfl) ?_
  simp -implicitDefEqProofs only [intN, intV, go_sem]

theorem intN_neg {n : Nat} (h : n ≠ 0) : intN true n = .agg [.bool true, .str (magB n)] := by simp [intN, intV, h]

theorem u89m (a b : Nat) (ha : a < capN) (hb : b < capN) (hb0 : b ≠ 0) : PFn Try.prog 89 [intN false a, intN true b] [if a < b then intN true (b - a) else intN false (a - b)] := by
  have ea := u69n false a ha
  have eb := u69n true b hb
  have la := cap_dig ha
  have lb := cap_dig hb
  have ec := u106 (digD B32 a) (digD B32 b) (digD_canon (by decide) a) (digD_canon (by decide) b) (by omega) (by omega)
  rw [digD_val (by decide), digD_val (by decide)] at ec
  rw [intN_neg hb0] at eb ⊢
  by_cases h : a < b
  · have hlen : (digD B32 a).length ≤ (digD B32 b).length := by
      rcases Nat.lt_or_ge (digD B32 b).length (digD B32 a).length with hl | hl
      · have := len_lt (B := B32) (by decide) (digD_canon (by decide) b) (digD_canon (by decide) a) hl
        rw [digD_val (by decide), digD_val (by decide)] at this
        omega
      · exact hl
    have e1 := u107 (digD B32 b) (digD B32 a) (dig_lt b) (dig_lt a) (by omega) hlen (by rw [digD_val (by decide), digD_val (by decide)]; omega)
    rw [digD_val (by decide), digD_val (by decide)] at e1
    have e2 := u66 true (digD B32 (b - a)) (dig_lt _) (by have := cap_dig (n := b - a) (by omega); omega)
    rw [digD_val (by decide)] at e2
    rw [cmpN_lt h] at ec
    have hft : (false == true) = false := rfl
    have hm1 : (-1 : Int) < 0 := by decide
    refine PFn.of_body hΓ Try.func89 (by kernel_rfl) rfl (AWp.of_awpD [(1, 6), (3, 6), (5, 6), (6, 6)] hΓ hmix (by kernel_rfl) ?_)
    simp +contextual -implicitDefEqProofs only [intN_pos, Try.ntmps89, Try.results89, Nat.reduceAdd, Nat.reduceSub, go_sem]
    refine callVPK_fn ea (.still rfl) ?_
    simp -implicitDefEqProofs only [go_sem]
    refine callVPK_fn eb (.still rfl) ?_
    simp -implicitDefEqProofs only [hft, go_sem]
    refine callK_fn ec (.pures rfl) ?_
    simp -implicitDefEqProofs only [hm1, go_sem]
    refine callVPK_fn e1 (.pures rfl) ?_
    simp -implicitDefEqProofs only [go_sem]
    refine callVPK_fn e2 (.pures rfl) ?_
    simp -implicitDefEqProofs only [h, intN_neg (show b - a ≠ 0 by omega), go_sem]
  · have hlen : (digD B32 b).length ≤ (digD B32 a).length := by
      rcases Nat.lt_or_ge (digD B32 a).length (digD B32 b).length with hl | hl
      · have := len_lt (B := B32) (by decide) (digD_canon (by decide) a) (digD_canon (by decide) b) hl
        rw [digD_val (by decide), digD_val (by decide)] at this
        omega
      · exact hl
    have e1 := u107 (digD B32 a) (digD B32 b) (dig_lt a) (dig_lt b) (by omega) hlen (by rw [digD_val (by decide), digD_val (by decide)]; omega)
    rw [digD_val (by decide), digD_val (by decide)] at e1
    have e2 := u66 false (digD B32 (a - b)) (dig_lt _) (by have := cap_dig (n := a - b) (by omega); omega)
    rw [digD_val (by decide)] at e2
    have hft : (false == true) = false := rfl
    have hm1 : ¬ cmpN a b < 0 := by unfold cmpN; rw [if_neg h]; split <;> decide
    refine PFn.of_body hΓ Try.func89 (by kernel_rfl) rfl (AWp.of_awpD [(1, 6), (3, 6), (5, 6), (6, 6)] hΓ hmix (by kernel_rfl) ?_)
    simp +contextual -implicitDefEqProofs only [intN_pos, Try.ntmps89, Try.results89, Nat.reduceAdd, Nat.reduceSub, go_sem]
    refine callVPK_fn ea (.still rfl) ?_
    simp -implicitDefEqProofs only [go_sem]
    refine callVPK_fn eb (.still rfl) ?_
    simp -implicitDefEqProofs only [hft, go_sem]
    refine callK_fn ec (.pures rfl) ?_
    simp -implicitDefEqProofs only [hm1, go_sem]
    refine callVPK_fn e1 (.pures rfl) ?_
    simp -implicitDefEqProofs only [go_sem]
    refine callVPK_fn e2 (.pures rfl) ?_
    simp -implicitDefEqProofs only [h, intN_pos, go_sem]
theorem u65 (a b : Nat) (ha : a < capN) (hb : b < capN) : PFn Try.prog 65 [intN false a, intN false b] [if a < b then intN true (b - a) else intN false (a - b)] := by
  have e1 := u90 b hb
  have e2 : PFn Try.prog 89 [intN false a, intN true b] [if a < b then intN true (b - a) else intN false (a - b)] := by
    by_cases h : b = 0
    · subst h
      have := u89 a 0 ha hb
      rw [if_neg (by omega)]
      exact this
    · exact u89m a b ha hb h
  by_cases h : a < b
  · rw [if_pos h] at e2 ⊢
    rw [intN_neg (show b - a ≠ 0 by omega)] at e2 ⊢
    refine PFn.of_body hΓ Try.func65 (by kernel_rfl) rfl (AWp.of_awpD [(1, 4)] hΓ hmix (by kernel_rfl) ?_)
    simp -implicitDefEqProofs only [Try.ntmps65, Try.results65, Nat.reduceAdd, Nat.reduceSub, intN_pos, go_sem]
    refine callVPK_fn e1 (.still rfl) ?_
    simp -implicitDefEqProofs only [go_sem]
    refine callVPK_fn e2 (.still rfl) ?_
    simp -implicitDefEqProofs only [go_sem]
  · rw [if_neg h] at e2 ⊢
    refine PFn.of_body hΓ Try.func65 (by kernel_rfl) rfl (AWp.of_awpD [(1, 4)] hΓ hmix (by kernel_rfl) ?_)
    simp -implicitDefEqProofs only [Try.ntmps65, Try.results65, Nat.reduceAdd, Nat.reduceSub, intN_pos, go_sem]
    refine callVPK_fn e1 (.still rfl) ?_
    simp -implicitDefEqProofs only [go_sem]
    refine callVPK_fn e2 (.still rfl) ?_
    simp -implicitDefEqProofs only [intN_pos, go_sem]
theorem u33 (a b : Nat) (ha : a < capN) (hb : b < capN) : PFn Try.prog 33 [intN false a, intN false b] [.int .i64 (cmpN a b)] := by
  have e := u65 a b ha hb
  by_cases h : a < b
  · rw [cmpN_lt h]
    rw [if_pos h, intN_neg (show b - a ≠ 0 by omega)] at e
    refine PFn.of_body hΓ Try.func33 (by kernel_rfl) rfl (AWp.of_awpD [] hΓ hmix (by kernel_rfl) ?_)
    simp -implicitDefEqProofs only [Try.ntmps33, Try.results33, Nat.reduceAdd, Nat.reduceSub, intN_pos, go_sem]
    refine callK_fn e (.still rfl) ?_
    simp -implicitDefEqProofs only [go_sem]
  · rw [if_neg h] at e
    by_cases h2 : a = b
    · subst h2
      rw [cmpN_eq]
      rw [Nat.sub_self] at e
      refine PFn.of_body hΓ Try.func33 (by kernel_rfl) rfl (AWp.of_awpD [] hΓ hmix (by kernel_rfl) ?_)
      simp -implicitDefEqProofs only [Try.ntmps33, Try.results33, Nat.reduceAdd, Nat.reduceSub, intN_pos, go_sem]
      refine callK_fn e (.still rfl) ?_
      simp -implicitDefEqProofs only [intN_pos, magB_zero, go_sem]
    · rw [cmpN_gt (by omega)]
      have hm : ¬ magB (a - b) = [] := fun e => by have := magB_nil e; omega
      refine PFn.of_body hΓ Try.func33 (by kernel_rfl) rfl (AWp.of_awpD [] hΓ hmix (by kernel_rfl) ?_)
      simp -implicitDefEqProofs only [Try.ntmps33, Try.results33, Nat.reduceAdd, Nat.reduceSub, intN_pos, go_sem]
      refine callK_fn e (.still rfl) ?_
      simp -implicitDefEqProofs only [intN_pos, hm, go_sem]
end Go.Proofs.Ytgkbafkmbokkaaa
end

