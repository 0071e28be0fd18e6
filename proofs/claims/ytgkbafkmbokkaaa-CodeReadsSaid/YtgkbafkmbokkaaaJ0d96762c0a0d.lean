/-
  The shelf's contracts for (*strings.Builder).WriteString and String at this program.
  code.Encode.
  The reference's turned, Reverse, Digit; Compose of both.
  Compose of the program and of the reference.
  Compose of the program: the same as the reference's.
  The law CodeChecks.
  The law CodeChanges.
  The law CodePrefixes.
  Codes composed of prefix codes are prefix codes with as many words.
  Readings as lists of indices: what they spell, their order, which there are.
  code.readings and code.Factor.
  slices.Index and Contains of words.
  The law CodeComposes.
  integer.multiply and Mul; words backwards.
-/
import Derived.Shelf.Strings.Builder1
import Derived.Test.YtgkbafkmbokkaaaProg
import Derived.Test.YtgkbafkmbokkaaaJ7f6da131cd26
import Derived.Test.YtgkbafkmbokkaaaJ32789e2d91b1
import Derived.Test.YtgkbafkmbokkaaaJacf0c6be7c94
import Derived.Test.YtgkbafkmbokkaaaJbc21b95c2746
import Derived.Test.YtgkbafkmbokkaaaJ43ee06514102
import Derived.Test.YtgkbafkmbokkaaaJ16a1c712b009
import Derived.Test.YtgkbafkmbokkaaaJ5140b6250559

section
namespace Go.Proofs
open Go.Shelf
def Try.lays166_ren : Go.Shelf.Ren := ⟨fun | 166 => 70 | 240 => 92 | 276 => 108 | n => n, fun | 70 => 88 | 9 => 9 | 3 => 3 | 75 => 92 | 0 => 0 | 72 => 90 | 37 => 61 | 4 => 4 | 164 => 114 | 20 => 20 | 5 => 5 | 80 => 95 | n => n, fun | n => n⟩
theorem Try.lays166 : Go.Proofs.Lays.n166 Try.prog Try.lays166_ren := {
  mixed := by kernel_rfl
  f166 := Try.func70.trans (congrArg some (by kernel_rfl))
  f240 := Try.func92.trans (congrArg some (by kernel_rfl))
  f276 := Try.func108.trans (congrArg some (by kernel_rfl))
  t0 := Try.underlying0
  a0 := Try.isAgg0
  z0 := Try.sizeOf0
  v0 := Try.zeroValue0
  t3 := Try.underlying3
  a3 := Try.isAgg3
  z3 := Try.sizeOf3
  v3 := Try.zeroValue3
  t4 := Try.underlying4
  a4 := Try.isAgg4
  z4 := Try.sizeOf4
  v4 := Try.zeroValue4
  t9 := Try.underlying9
  a9 := Try.isAgg9
  z9 := Try.sizeOf9
  v9 := Try.zeroValue9
  t20 := Try.underlying20
  a20 := Try.isAgg20
  z20 := Try.sizeOf20
  v20 := Try.zeroValue20
  t37 := Try.underlying61
  a37 := Try.isAgg61
  z37 := Try.sizeOf61
  v37 := Try.zeroValue61
  t70 := Try.underlying88
  a70 := Try.isAgg88
  z70 := Try.sizeOf88
  v70 := Try.zeroValue88
  t72 := Try.underlying90
  a72 := Try.isAgg90
  z72 := Try.sizeOf90
  v72 := Try.zeroValue90
  t75 := Try.underlying92
  a75 := Try.isAgg92
  z75 := Try.sizeOf92
  v75 := Try.zeroValue92
  t164 := Try.underlying114
  a164 := Try.isAgg114
  z164 := Try.sizeOf114
  v164 := Try.zeroValue114 }
def Try.lays169_ren : Go.Shelf.Ren := ⟨fun | 169 => 71 | n => n, fun | 70 => 88 | 9 => 9 | 0 => 0 | 72 => 90 | 37 => 61 | 127 => 107 | 3 => 3 | 5 => 5 | n => n, fun | n => n⟩
theorem Try.lays169 : Go.Proofs.Lays.n169 Try.prog Try.lays169_ren := {
  mixed := by kernel_rfl
  f169 := Try.func71.trans (congrArg some (by kernel_rfl))
  t0 := Try.underlying0
  a0 := Try.isAgg0
  z0 := Try.sizeOf0
  v0 := Try.zeroValue0
  t3 := Try.underlying3
  a3 := Try.isAgg3
  z3 := Try.sizeOf3
  v3 := Try.zeroValue3
  t9 := Try.underlying9
  a9 := Try.isAgg9
  z9 := Try.sizeOf9
  v9 := Try.zeroValue9
  t37 := Try.underlying61
  a37 := Try.isAgg61
  z37 := Try.sizeOf61
  v37 := Try.zeroValue61
  t70 := Try.underlying88
  a70 := Try.isAgg88
  z70 := Try.sizeOf88
  v70 := Try.zeroValue88
  t72 := Try.underlying90
  a72 := Try.isAgg90
  z72 := Try.sizeOf90
  v72 := Try.zeroValue90
  t127 := Try.underlying107
  a127 := Try.isAgg107
  z127 := Try.sizeOf107
  v127 := Try.zeroValue107 }
theorem Try.Builder_Extra_166 : Builder.Extra Try.prog Try.lays166_ren := {
  sizeBuilder := by kernel_rfl
  liesBuilder := by kernel_rfl
  t5 := Try.underlying5
  a5 := Try.isAgg5
  z5 := Try.sizeOf5
  v5 := Try.zeroValue5
  infoByte := by kernel_rfl
  cellsByte := by kernel_rfl
  sizeByte := by kernel_rfl
  neB5 := by decide }
theorem Try.Builder_Extra_169 : Builder.Extra Try.prog Try.lays169_ren := {
  sizeBuilder := by kernel_rfl
  liesBuilder := by kernel_rfl
  t5 := Try.underlying5
  a5 := Try.isAgg5
  z5 := Try.sizeOf5
  v5 := Try.zeroValue5
  infoByte := by kernel_rfl
  cellsByte := by kernel_rfl
  sizeByte := by kernel_rfl
  neB5 := by decide }
end Go.Proofs
end

section
namespace Go.Proofs.Ytgkbafkmbokkaaa
open Go Go.AM Go.RowKit
set_option maxRecDepth 100000
set_option linter.unusedSimpArgs false

/-- Words put together. -/
def encL (ws : List (List UInt8)) (ks : List Int) : List UInt8 := (ks.map fun k => ws.getD k.toNat []).flatten
def encIn (ws : List (List UInt8)) (ks : List Int) : Bool := ks.all fun k => decide (0 ≤ k) && decide (k < ws.length)
def encE (q : Int) (ws : List (List UInt8)) (ks : List Int) : Int := if codeCheck q ws = 0 then (if encIn ws ks = true then (if 65536 < (encL ws ks).length then 4 else 0) else 2) else 1
def encS (q : Int) (ws : List (List UInt8)) (ks : List Int) : List UInt8 := if encE q ws ks = 0 then encL ws ks else []
theorem encL_take {ws : List (List UInt8)} {ks : List Int} {i : Nat} (hi : i < ks.length) : encL ws (ks.take (i + 1)) = encL ws (ks.take i) ++ ws.getD ks[i].toNat [] := by
  unfold encL; rw [List.take_succ_eq_append_getElem hi, List.map_append, List.flatten_append]; simp only [List.map_cons, List.map_nil, List.flatten_cons, List.flatten_nil, List.append_nil]
theorem encL_le (ws : List (List UInt8)) (ks : List Int) (i : Nat) : (encL ws (ks.take i)).length ≤ (encL ws ks).length := by
  have : encL ws ks = encL ws (ks.take i) ++ encL ws (ks.drop i) := by
    unfold encL; rw [← List.flatten_append, ← List.map_append, List.take_append_drop]
  rw [this, List.length_append]; omega
theorem encIn_take {ws : List (List UInt8)} {ks : List Int} {i : Nat} (hi : i < ks.length) : encIn ws (ks.take (i + 1)) = (encIn ws (ks.take i) && (decide (0 ≤ ks[i]) && decide (ks[i] < ws.length))) := by
  unfold encIn; rw [List.take_succ_eq_append_getElem hi, List.all_append]; simp
theorem encIn_bad {ws : List (List UInt8)} {ks : List Int} {i : Nat} (hi : i < ks.length) (h : ks[i] < 0 ∨ (ws.length : Int) ≤ ks[i]) : encIn ws ks = false := by
  unfold encIn
  rw [List.all_eq_false]
  refine ⟨ks[i], List.getElem_mem hi, ?_⟩
  simp
  omega

/-- The frame beside the builder. -/
def encT (ks : List Int) : List AV := mkF 55 [(1, .p (.sl (ks.map (.int .i64)))), (2, .ptr 0 0)]
def encTk (ks : List Int) (k : Nat) : List AV := mkF 55 [(1, .p (.sl (ks.map (.int .i64)))), (2, .ptr 0 0), (41, .p (.sl (ks.map (.int .i64)))), (42, .p (.int .i64 ks.length)), (43, .p (.int .i64 k))]

theorem encTk_m {ks : List Int} {k : Nat} {X : Ctx} {I : Nat → Prop} {μ : Nat → Value} {ob : Nat → Option Nat} {h : List AObj} {wb w : World} {a : Act} {l : List UInt8} (B : Bld X I μ ob h wb 90 5 9 (encTk ks k) l w a) :
    (match a.tmps.getD 43 undef with | .int _ k => ks.length - k.toNat | _ => 0) = ks.length - k := by
  have h1 := B.rep.evs (.tmp 43)
  have h2 : ev (encTk ks k) (.tmp 43) = .p (.int .i64 k) := rfl
  rw [h2] at h1
  have h3 : a.tmps.getD 43 undef = .int .i64 k := h1.int_inv
  rw [h3]; rfl

theorem u37 (q : Int) (ws : List (List UInt8)) (ks : List Int) (hk : ks.length ≤ 1000000) : PFn Try.prog 37 [codeV q ws, .sl (ks.map (.int .i64))] [.str (encS q ws ks), .int .i64 (encE q ws ks)] := by
  refine PFn.of_body hΓ Try.func37 (by kernel_rfl) rfl (AWp.seq (AWp.of_awpD [] hΓ hmix (by kernel_rfl) ?_))
  simp -implicitDefEqProofs only [Try.ntmps37, Try.results37, Nat.reduceAdd, Nat.reduceSub, codeV, go_sem]
  refine AWp.seq (AWp.of_awpD [] hΓ hmix (by kernel_rfl) ?_)
  simp -implicitDefEqProofs only [go_sem]
  refine callK_fn (t45 q ws) (.still rfl) ?_
  by_cases h : codeCheck q ws = 0
  rotate_left
  · have e1 : encE q ws ks = 1 := by unfold encE; rw [if_neg h]
    have e2 : encS q ws ks = [] := by unfold encS; rw [e1, if_neg (by decide)]
    rw [e1, e2]
    simp -implicitDefEqProofs only [h, go_sem]
  have hv := valid_of h
  have hlen := hv.len
  rw [h]
  simp -implicitDefEqProofs only [go_sem]
  refine AWp.seq (AWp.of_awpD [] hΓ hmix (by kernel_rfl) ?_)
  simp -implicitDefEqProofs only [go_sem]
  refine AWp.seq (AWp.of_awpD [] hΓ hmix (by kernel_rfl) ?_)
  simp -implicitDefEqProofs only [List.length_map, go_sem]
  refine AWp.loopI (fun i : Nat => ⟨mkF 55 [(1, .p (.sl (ks.map (.int .i64)))), (2, .ptr 0 0), (6, .p (.int .i64 (encL ws (ks.take i)).length)), (15, .p (.sl (ks.map (.int .i64)))), (16, .p (.int .i64 ks.length)), (17, .p (.int .i64 i))], [codeB q ws]⟩)
    (fun i => i ≤ ks.length ∧ encIn ws (ks.take i) = true ∧ (encL ws (ks.take i)).length ≤ 32 * i) (fun i => ks.length - i) 0 (by simp [go_sem, codeB, encL]) (by simp [encIn, encL]) ?_
  rintro i ⟨hi, hin, hbd⟩
  refine AWp.of_awpD [] hΓ hmix (by kernel_rfl) ?_
  by_cases hlt : i < ks.length
  · have hgk : (ks.map (PV.int .i64)).getD i default = .int .i64 ks[i] := by
      rw [getD_map_lt _ _ _ _ hlt]
    by_cases hbad : ks[i] < 0 ∨ (ws.length : Int) ≤ ks[i]
    · have e1 : encE q ws ks = 2 := by unfold encE; rw [if_pos h, encIn_bad hlt hbad]; rfl
      have e2 : encS q ws ks = [] := by unfold encS; rw [e1, if_neg (by decide)]
      rw [e1, e2]
      by_cases hneg : ks[i] < 0
      · simp -implicitDefEqProofs only [List.length_map, hlt, hgk, hneg, codeB, go_sem]
      · have hge : (ws.length : Int) ≤ ks[i] := hbad.resolve_left hneg
        simp -implicitDefEqProofs only [List.length_map, hlt, hgk, hneg, hge, codeB, go_sem]
    · have hneg : ¬ ks[i] < 0 := fun h => hbad (.inl h)
      have hge : ¬ (ws.length : Int) ≤ ks[i] := fun h => hbad (.inr h)
      have hkn : ks[i].toNat < ws.length := by omega
      have hgw : (ws.map PV.str).getD ks[i].toNat default = .str (ws.getD ks[i].toNat []) := by
        rw [getD_map_lt _ _ _ _ hkn, List.getD_eq_getElem?_getD, List.getElem?_eq_getElem hkn]; rfl
      have hsh := hv.short _ hkn
      have hst := encL_take (ws := ws) hlt
      have hl2 : (encL ws (ks.take (i + 1))).length = (encL ws (ks.take i)).length + (ws.getD ks[i].toNat []).length := by rw [hst, List.length_append]
      have hin2 : encIn ws (ks.take (i + 1)) = true := by
        rw [encIn_take hlt, hin, decide_eq_true (show 0 ≤ ks[i] by omega), decide_eq_true (show ks[i] < ws.length by omega)]; rfl
      simp -implicitDefEqProofs only [List.length_map, hlt, hgk, hneg, hge, hgw, codeB, go_sem]
      exact ⟨⟨by omega, by omega⟩, by simp only [InR]; omega, by simp only [InR]; omega, i + 1, ⟨by omega, by omega⟩, ⟨hlt, hin2, by omega⟩, by omega⟩
  · have hin' : i = ks.length := by omega
    rw [hin', List.take_length] at hin hbd ⊢
    have hz : ¬ (ks.length : Int) < ks.length := by omega
    simp -implicitDefEqProofs only [List.length_map, hz, go_sem]
    refine AWp.seq (AWp.of_awpD [] hΓ hmix (by kernel_rfl) ?_)
    by_cases hbig : 65536 < (encL ws ks).length
    · have hbig' : (65536 : Int) < (encL ws ks).length := by omega
      have e1 : encE q ws ks = 4 := by unfold encE; rw [if_pos h, if_pos hin, if_pos hbig]
      have e2 : encS q ws ks = [] := by unfold encS; rw [e1, if_neg (by decide)]
      rw [e1, e2]
      simp -implicitDefEqProofs only [hbig', go_sem]
    · have hbig' : ¬ (65536 : Int) < (encL ws ks).length := by omega
      have e1 : encE q ws ks = 0 := by unfold encE; rw [if_pos h, if_pos hin, if_neg hbig]
      have e2 : encS q ws ks = encL ws ks := by unfold encS; rw [e1, if_pos rfl]
      rw [e1, e2]
      simp -implicitDefEqProofs only [hbig', go_sem]
      refine AWp.bstart (T := 90) (e := 5) (s := 9) (by kernel_rfl) (by simp [go_sem]) ?_
      intro X I μ ob wb w a hE B
      have BT := B.weak (tm' := encT ks) (by simp [go_sem, encT])
      clear B
      have HW : ∀ (B b : Nat) (bs : List Value) (z : ByteArray) (w : World), Lib.IsBuilder 90 5 B b bs w → bs.length + z.size ≤ 140737488355328 → B ≤ w.heap.size →
          Calls Try.prog 70 #[.pointer (some ⟨b, 0, none⟩), .string z] w fun x w' => x = .returned (.tuple #[.int .i64 z.size, .nilIface]) ∧ (Lib.BuilderAt 90 5 B b (.pointer (some ⟨b, 0, none⟩)) (bs ++ Lib.strCells z) w' ∧ Below B w w') :=
        fun B b bs z w h1 h2 h3 => Any.Builder_WriteString Try.lays166 Try.Builder_Extra_166 B b bs z w h1 h2 h3
      have HS : ∀ (B b : Nat) (l : List UInt8) (w : World), Lib.IsBuilder 90 5 B b (Lib.byteCells l) w → B ≤ w.heap.size →
          Calls Try.prog 71 #[.pointer (some ⟨b, 0, none⟩)] w fun x w' => x = .returned (.string ⟨l.toArray⟩) ∧ Below B w w' :=
        fun B b l w h1 h2 => Any.Builder_String_any Try.lays169 Try.Builder_Extra_169 B b l w h1 h2
      have hW : EntersF Try.prog 70 := entersF_of Try.func70 (by kernel_rfl) rfl
      have hS : EntersF Try.prog 71 := entersF_of Try.func71 (by kernel_rfl) rfl
      refine wpIn_seq (wpIn_seq (wpIn_region ?_))
      refine simp_at (K := fun tm' => weakT tm' (encTk ks 0)) hΓ 0 3 rfl (by decide) (by kernel_rfl) BT ?_ ?_
      · simp -implicitDefEqProofs only [encT, encTk, List.drop, List.take, lexK_nil, lexK_plain, go_sem]
        rfl
      intro tm1 a1 B1 hd1 hw1
      have Bk := B1.weak hw1
      clear BT B1 hw1
      refine wpIn_block (wpIn_loop (fun a' w' => ∃ k, k ≤ ks.length ∧ Bld X I μ ob [codeB q ws] wb 90 5 9 (encTk ks k) (encL ws (ks.take k)) w' a') (fun a' _ => match a'.tmps.getD 43 undef with | .int _ k => ks.length - k.toNat | _ => 0) ⟨0, by omega, Bk⟩ ?_)
      rintro a2 w2 ⟨k, hkn, B2⟩
      rw [encTk_m B2]
      refine wpIn_seq (wpIn_region ?_)
      refine simp_at (K := fun tm' => ∃ v, tm' = putD (encTk ks k) (some 44) v ∧ v = .p (.bool (decide (k < ks.length)))) hΓ 0 1 rfl (by decide) (by kernel_rfl) B2 ?_ ?_
      · simp -implicitDefEqProofs only [encT, encTk, List.drop, List.take, lexK_nil, lexK_plain, go_sem]
        exact ⟨_, rfl, rfl⟩
      rintro tm3 a3 B3 hd3 ⟨v, rfl, rfl⟩
      have hc44 : a3.eval (.tmp 44) = .bool (decide (k < ks.length)) := by
        have h1 := B3.rep.evs (.tmp 44)
        have h2 : ev (putD (encTk ks k) (some 44) (.p (.bool (decide (k < ks.length))))) (.tmp 44) = .p (.bool (decide (k < ks.length))) := rfl
        rw [h2] at h1
        exact h1.bool_inv
      refine wpIn_seq (wpIn_cond_split hc44 (fun ht => wpIn_skip ?_) (fun hf => wpIn_exit ?_))
      · have hlt : k < ks.length := of_decide_eq_true ht
        have hkk := List.all_eq_true.1 hin ks[k] (List.getElem_mem hlt)
        simp only [Bool.and_eq_true, decide_eq_true_eq] at hkk
        have hkn2 : ks[k].toNat < ws.length := by omega
        have hgk : (ks.map (PV.int .i64)).getD k default = .int .i64 ks[k] := by rw [getD_map_lt _ _ _ _ hlt]
        have hgw : (ws.map PV.str).getD ks[k].toNat default = .str (ws.getD ks[k].toNat []) := by
          rw [getD_map_lt _ _ _ _ hkn2, List.getD_eq_getElem?_getD, List.getElem?_eq_getElem hkn2]; rfl
        have B4 := B3.weak (tm' := encTk ks k) (by simp [go_sem, encTk])
        clear B2 B3
        change (Code.seq _ _).wpIn _ _ _ _ _ _
        refine wpIn_seq (wpIn_block (wpIn_seq (wpIn_region ?_)))
        refine simp_at (K := fun tm' => weakT tm' (putD (encTk ks k) (some 11) (.p (.int .i64 ks[k])))) hΓ 0 3 rfl (by decide) (by kernel_rfl) B4 ?_ ?_
        · simp -implicitDefEqProofs only [encT, encTk, List.drop, List.take, lexK_nil, lexK_plain, go_sem, List.length_map, hlt, hgk]
        intro tm5 a5 B5 hd5 hw5
        have B6 := B5.weak hw5
        clear B4 B5 hw5
        change (Code.region _ _ _).wpIn _ _ _ _ _ _
        refine wpIn_region ?_
        refine simp_at (K := fun tm' => weakT tm' (putD (encTk ks k) (some 51) (.p (.str (ws.getD ks[k].toNat []))))) (rest := [5]) hΓ 0 5 rfl (by decide) (by kernel_rfl) B6 ?_ ?_
        · simp -implicitDefEqProofs only [encT, encTk, List.drop, List.take, lexK_nil, lexK_plain, go_sem, List.length_map, hgw, codeB]
          exact hkk
        intro tm7 a7 B7 hd7 hw7
        have B8 := B7.weak hw7
        clear B6 B7 hw7
        have hlk : (encL ws (ks.take k)).length + (ws.getD ks[k].toNat []).length ≤ 140737488355328 := by
          have h1 := encL_le ws ks (k + 1)
          rw [encL_take hlt, List.length_append] at h1
          omega
        refine write_ok (t := 51) (d := 52) (u := ws.getD ks[k].toNat []) rfl hW HW B8 (by decide) rfl hlk ?_
        intro a9 w9 B9 hd9
        have B10 := B9.weak (tm' := encTk ks k) (by simp [go_sem, encTk])
        rw [← encL_take hlt] at B10
        clear B8 B9
        change (Code.region _ _ _).wpIn _ _ _ _ _ _
        refine wpIn_region ?_
        refine simp_at (K := fun tm' => weakT tm' (encTk ks (k + 1))) hΓ 0 2 rfl (by decide) (by kernel_rfl) B10 ?_ ?_
        · simp -implicitDefEqProofs only [encT, encTk, List.drop, List.take, lexK_nil, lexK_plain, go_sem]
          exact ⟨by simp only [InR]; omega, by omega⟩
        intro tm11 a11 B11 hd11 hw11
        have B12 := B11.weak hw11
        refine ⟨⟨k + 1, hlt, B12⟩, ?_⟩
        rw [encTk_m B12]
        omega
      · have hnk : k = ks.length := by have := of_decide_eq_false hf; omega
        rw [hnk, List.take_length] at B3
        change (Code.seq _ _).wpIn _ _ _ _ _ _
        refine wpIn_seq (wpIn_region ?_)
        refine string_ok (k := 0) (rest := [1, 2]) (d := 54) rfl hS HS B3 ?_
        intro a4 w4 R4 hd4
        refine steps_at (KS := fun st => st.tmps.getD 4 .junk = .p (.str (encL ws ks)) ∧ st.tmps.getD 5 .junk = .p (.int .i64 0)) hΓ hE 1 rfl R4 ?_ ?_
        · exact ⟨rfl, rfl⟩
        intro st' a' w' hN ⟨h4, h5⟩
        refine wpIn_ret ⟨st', hN, ?_⟩
        rw [h4, h5]
        exact ⟨by simp [AM.Ends], rfl⟩
end Go.Proofs.Ytgkbafkmbokkaaa
end

section
namespace Go.Proofs.Ytgkbafkmbokkaaa
open Go Go.AM
set_option maxRecDepth 100000
set_option linter.unusedSimpArgs false

theorem u60 (b : UInt8) : PFn Try.prog 60 [.int .u8 b.toNat] [.int .i64 (ixB b L16 0)] := by
  refine PFn.of_body hΓ Try.func60 (by kernel_rfl) rfl (AWp.of_awpD [] hΓ hmix (by kernel_rfl) ?_)
  simp +contextual -implicitDefEqProofs only [Try.ntmps60, Try.results60, Nat.reduceAdd, Nat.reduceSub, go_sem]
  refine AWp.loopI (fun k : Nat => ⟨mkF 13 [(0, .p (.int .u8 b.toNat)), (2, .p (.int .i64 0)), (3, .p (.int .i64 k))], []⟩)
    (fun k => k ≤ 16 ∧ ∀ j (hj : j < 16), j < k → L16[j]'hj ≠ b) (fun k => 16 - k) 0 (by simp [go_sem]) (by simp) ?_
  rintro k ⟨hk, h0⟩
  refine AWp.of_awpD [] hΓ hmix (by kernel_rfl) ?_
  simp +contextual -implicitDefEqProofs only [getD_map_lt, ↓reduceIte, go_sem]
  refine ⟨fun hlt => ⟨by omega, fun he => ?_, fun hne => ⟨by simp only [InR]; omega, k + 1, by simp, ⟨by omega, ?_⟩, by omega⟩⟩, fun hge => ?_⟩
  · have hk' : k < L16.length := by simp [L16]; omega
    have e : L16[k] = b := by
      rw [← UInt8.toNat_inj, ← he]
      show _ = (L16.getD k 0).toNat
      rw [List.getD_eq_getElem?_getD, List.getElem?_eq_getElem hk', Option.getD_some]
    rw [ixB_at b L16 0 k hk' (fun j hj => h0 j (by omega) hj) e]; simp
  · intro j hj hjk e
    by_cases hjk' : j < k
    · exact h0 j hj hjk' e
    · have : j = k := by omega
      subst this
      apply hne
      rw [← e]
      show (L16.getD j 0).toNat = _
      rw [List.getD_eq_getElem?_getD, List.getElem?_eq_getElem (by simpa [L16] using hj), Option.getD_some]; rfl
  · exact (ixB_none b L16 0 (fun j hj => h0 j (by simpa [L16] using hj) (by simp [L16] at hj; omega))).symm

theorem u59 (w : List UInt8) (hw : w.length ≤ 1000000) : PFn Try.prog 59 [.str w] [.str w.reverse] := by
  refine PFn.of_body hΓ Try.func59 (by kernel_rfl) rfl (AWp.of_awpD [] hΓ hmix (by kernel_rfl) ?_)
  simp +contextual -implicitDefEqProofs only [Try.ntmps59, Try.results59, Nat.reduceAdd, Nat.reduceSub, go_sem]
  refine AWp.loopI (fun k : Nat => ⟨mkF 19 [(0, .p (.str w)), (3, .p (.str (w.take k).reverse)), (4, .p (.int .i64 k))], []⟩)
    (fun k => k ≤ w.length) (fun k => w.length - k) 0 (by simp [go_sem]) (by omega) ?_
  intro k hk
  refine AWp.of_awpD [] hΓ hmix (by kernel_rfl) ?_
  by_cases hlt : k < w.length
  · have e1 : ((k : Int) + 1).toNat - k = 1 := by omega
    simp -implicitDefEqProofs only [hlt, e1, go_sem]
    have e2 : List.take 1 (w.drop k) ++ (w.take k).reverse = (w.take (k + 1)).reverse := by
      rw [List.take_succ_eq_append_getElem hlt, List.reverse_append, List.drop_eq_getElem_cons hlt]; rfl
    exact ⟨by simp only [InR]; omega, ⟨by omega, by omega⟩, by simp; omega, by simp only [InR]; omega, k + 1, ⟨e2.symm, by omega⟩, hlt, by omega⟩
  · simp -implicitDefEqProofs only [hlt, go_sem]
    rw [List.take_of_length_le (by omega)]

theorem u25 (q : Int) (ws : List (List UInt8)) : PFn Try.prog 25 [codeV q ws] [if codeCheck q ws = 0 then (if codeCheck q (made (revs ws)) = 0 then codeV q (made (revs ws)) else codeV 0 []) else codeV 0 [], .int .i64 (if codeCheck q ws = 0 then codeCheck q (made (revs ws)) else 1)] := by
  refine PFn.of_body hΓ Try.func25 (by kernel_rfl) rfl (AWp.of_awpD [] hΓ hmix (by kernel_rfl) ?_)
  simp +contextual -implicitDefEqProofs only [codeV, Try.ntmps25, Try.results25, Nat.reduceAdd, Nat.reduceSub, go_sem]
  refine callK_fn (t44 q ws) (.still rfl) ?_
  by_cases h : codeCheck q ws = 0
  · have hv := valid_of h
    have hws := hv.len
    have hsh : ∀ i (hi : i < ws.length), ws[i].length ≤ 32 := fun i hi => by
      have := hv.short i hi
      rwa [List.getD_eq_getElem?_getD, List.getElem?_eq_getElem hi, Option.getD_some] at this
    rw [h]
    simp -implicitDefEqProofs only [go_sem]
    refine AWp.adopt (l := []) 4 9 1 (by rfl) (by simp) ?_
    simp -implicitDefEqProofs only [go_sem]
    refine AWp.loopI (fun k : Nat => ⟨mkF 32 [(1, .ptr 0 0), (2, .ptr 1 0), (3, .p (.int .i64 0)), (4, .own 2 k), (5, .p (.int .i64 k))], [codeB q ws, .box [.p (.int .i64 0), .full []], .row 9 1 ((revs (ws.take k)).map .str) .lax]⟩)
      (fun k => k ≤ ws.length) (fun k => ws.length - k) 0 (by simp [go_sem, codeB, revs]) (by simp) ?_
    intro k hk
    by_cases hlt : k < ws.length
    · refine AWp.of_awpD [] hΓ hmix (by kernel_rfl) ?_
      simp -implicitDefEqProofs only [hlt, getD_map_lt, ↓reduceIte, codeB, go_sem]
      refine callK_fn (u59 ws[k] (by have := hsh k hlt; omega)) (.pures rfl) ?_
      simp -implicitDefEqProofs only [go_sem]
      have hs : revs (ws.take (k + 1)) = revs (ws.take k) ++ [ws[k].reverse] := by
        unfold revs; rw [List.take_succ_eq_append_getElem hlt, List.map_append]; rfl
      exact ⟨⟨size_str [_], by omega⟩, ⟨size_str [_], one_str [_]⟩, ⟨.inl (by omega), by omega, by omega⟩, by simp only [InR]; omega, k + 1, by rw [hs]; simp, hlt, by omega⟩
    · refine AWp.freeze 2 rfl ?_
      rw [List.take_of_length_le (by omega)]
      refine AWp.of_awpD [] hΓ hmix (by kernel_rfl) ?_
      simp -implicitDefEqProofs only [hlt, codeB, Frozen, go_sem]
      have e71 := u14 q (revs ws) (by simp [revs]; omega)
      by_cases hc : codeCheck q (made (revs ws)) = 0
      · rw [if_pos hc, hc] at e71
        refine callK_fn e71 (.pures rfl) ?_
        simp -implicitDefEqProofs only [codeV, hc, go_sem]
      · rw [if_neg hc] at e71
        refine callK_fn e71 (.pures rfl) ?_
        simp -implicitDefEqProofs only [codeV, hc, go_sem]
  · simp -implicitDefEqProofs only [h, go_sem]
end Go.Proofs.Ytgkbafkmbokkaaa
end

section
namespace Go.Proofs.Ytgkbafkmbokkaaa
open Go Go.AM
set_option maxRecDepth 100000
set_option linter.unusedSimpArgs false

/-- A letter's number. -/
def digN (b : UInt8) : Nat := (ixB b L16 0).toNat
/-- A word whose letters are put for words. -/
def compW (ds : List (List UInt8)) (w : List UInt8) : List UInt8 := (w.map fun b => ds.getD (digN b) []).flatten
theorem compW_snoc (ds : List (List UInt8)) (w : List UInt8) (b : UInt8) : compW ds (w ++ [b]) = compW ds w ++ ds.getD (digN b) [] := by
  unfold compW; rw [List.map_append, List.flatten_append]; simp
theorem compW_take (ds : List (List UInt8)) (w : List UInt8) {k : Nat} (hk : k < w.length) : compW ds (w.take (k + 1)) = compW ds (w.take k) ++ ds.getD (digN w[k]) [] := by
  rw [List.take_succ_eq_append_getElem hk, compW_snoc]
theorem compW_len {ds : List (List UInt8)} (h : ∀ x ∈ ds, x.length ≤ 32) : ∀ w : List UInt8, (compW ds w).length ≤ 32 * w.length
  | [] => by simp [compW]
  | b :: w => by
    have ih := compW_len h w
    have e : compW ds (b :: w) = ds.getD (digN b) [] ++ compW ds w := rfl
    rw [e, List.length_append, List.length_cons]
    have h1 : (ds.getD (digN b) []).length ≤ 32 := by
      rw [List.getD_eq_getElem?_getD]
      cases hx : ds[digN b]? with
      | none => simp
      | some x => exact h x (List.mem_of_getElem? hx)
    omega

/-- The letters of a valid code's words are numbers below its size. -/
theorem letter_of {q : Int} {w : List UInt8} (h : wordCheck q w = 0) {k : Nat} (hk : k < w.length) : 0 ≤ ixB w[k] L16 0 ∧ ixB w[k] L16 0 < q := by
  unfold wordCheck at h
  split at h
  · omega
  · split at h
    · omega
    · split at h
      · rename_i ho
        unfold okW at ho
        rw [List.all_eq_true] at ho
        have := ho w[k] (List.getElem_mem hk)
        simpa [okB] using this
      · omega

def compL (cs ds : List (List UInt8)) : List (List UInt8) := cs.map (compW ds)
def compQ (p q : Int) (cs ds : List (List UInt8)) : PV := if codeCheck p cs = 0 ∧ codeCheck q ds = 0 ∧ (ds.length : Int) = p ∧ codeCheck q (made (compL cs ds)) = 0 then codeV q (made (compL cs ds)) else codeV 0 []
def compE (p q : Int) (cs ds : List (List UInt8)) : Int := if codeCheck p cs = 0 ∧ codeCheck q ds = 0 then (if (ds.length : Int) = p then codeCheck q (made (compL cs ds)) else 11) else 1

theorem u27 (p q : Int) (cs ds : List (List UInt8)) : PFn Try.prog 27 [codeV p cs, codeV q ds] [compQ p q cs ds, .int .i64 (compE p q cs ds)] := by
  refine PFn.of_body hΓ Try.func27 (by kernel_rfl) rfl (AWp.of_awpD [] hΓ hmix (by kernel_rfl) ?_)
  simp -implicitDefEqProofs only [Try.ntmps27, Try.results27, Nat.reduceAdd, Nat.reduceSub, codeV, go_sem]
  refine callK_fn (t44 p cs) (.still rfl) ?_
  by_cases h1 : codeCheck p cs = 0
  rotate_left
  · unfold compQ compE
    rw [if_neg (fun e => h1 e.1), if_neg (fun e => h1 e.1)]
    simp -implicitDefEqProofs only [h1, codeV, go_sem]
  rw [h1]
  simp -implicitDefEqProofs only [go_sem]
  refine callK_fn (t44 q ds) (.still rfl) ?_
  by_cases h2 : codeCheck q ds = 0
  rotate_left
  · unfold compQ compE
    rw [if_neg (fun e => h2 e.2.1), if_neg (fun e => h2 e.2)]
    simp -implicitDefEqProofs only [h2, codeV, go_sem]
  rw [h2]
  by_cases h3 : (ds.length : Int) = p
  rotate_left
  · unfold compQ compE
    rw [if_neg (fun e => h3 e.2.2.1), if_pos ⟨h1, h2⟩, if_neg h3]
    simp -implicitDefEqProofs only [h3, codeV, go_sem]
  have hv := valid_of h1
  have hd := valid_of h2
  have hcl := hv.len
  have hdl := hd.len
  simp -implicitDefEqProofs only [h3, go_sem]
  have hsh : ∀ i (hi : i < cs.length), cs[i].length ≤ 32 := fun i hi => by
    have := hv.short i hi
    rwa [List.getD_eq_getElem?_getD, List.getElem?_eq_getElem hi, Option.getD_some] at this
  have hwd : ∀ x ∈ ds, x.length ≤ 32 := fun x hx => (hd.words x hx).2.1
  refine AWp.adopt (l := []) 6 9 1 (by rfl) (by simp) ?_
  simp -implicitDefEqProofs only [go_sem]
  refine AWp.loopI (fun k : Nat => ⟨mkF 67 [(2, .ptr 0 0), (3, .ptr 1 0), (4, .ptr 2 0), (5, .p (.int .i64 0)), (6, .own 3 k), (7, .p (.int .i64 k))], [codeB p cs, codeB q ds, .box [.p (.int .i64 0), .full []], .row 9 1 ((compL (cs.take k) ds).map .str) .lax]⟩)
    (fun k => k ≤ cs.length) (fun k => cs.length - k) 0 (by simp [go_sem, codeB, compL]) (by simp) ?_
  intro k hk
  by_cases hlt : k < cs.length
  · refine AWp.of_awpD [] hΓ hmix (by kernel_rfl) ?_
    simp -implicitDefEqProofs only [hlt, codeB, go_sem]
    refine AWp.loopI (fun j : Nat => ⟨mkF 67 [(2, .ptr 0 0), (3, .ptr 1 0), (4, .ptr 2 0), (5, .p (.int .i64 0)), (6, .own 3 k), (7, .p (.int .i64 k)), (8, .p (.str (compW ds (cs[k].take j)))), (9, .p (.int .i64 j))], [codeB p cs, codeB q ds, .box [.p (.int .i64 0), .full []], .row 9 1 ((compL (cs.take k) ds).map .str) .lax]⟩)
      (fun j => j ≤ cs[k].length) (fun j => cs[k].length - j) 0 (by simp [go_sem, codeB, compW]) (by simp) ?_
    intro j hj
    refine AWp.of_awpD [(13, 15)] hΓ hmix (by kernel_rfl) ?_
    by_cases hlt2 : j < cs[k].length
    · have hb : cs[k].getD j 0 = cs[k][j] := by rw [List.getD_eq_getElem?_getD, List.getElem?_eq_getElem hlt2]; rfl
      have hlet := letter_of (hv.words _ (List.getElem_mem hlt)).2.2 hlt2
      have hdn : digN cs[k][j] < ds.length := by unfold digN; omega
      have hg : (ds.map PV.str).getD (ixB cs[k][j] L16 0).toNat default = .str (ds.getD (digN cs[k][j]) []) := by
        show (ds.map PV.str).getD (digN cs[k][j]) default = _
        rw [getD_map_lt _ _ _ _ hdn, List.getD_eq_getElem?_getD, List.getElem?_eq_getElem hdn]; rfl
      have hw1 := compW_len hwd (cs[k].take j)
      have hw2 : (ds.getD (digN cs[k][j]) []).length ≤ 32 := hwd _ (getD_in hdn)
      have hkl := hsh k hlt
      simp -implicitDefEqProofs only [hlt, hlt2, hb, getD_map_lt, ↓reduceIte, codeB, go_sem]
      refine callVPK_fn (u60 cs[k][j]) (.pures rfl) ?_
      simp -implicitDefEqProofs only [hlt, hlt2, hb, hg, getD_map_lt, ↓reduceIte, codeB, go_sem]
      rw [List.length_take] at hw1
      exact ⟨by omega, by omega, by simp only [InR]; omega, j + 1, ⟨compW_take ds cs[k] hlt2, by omega⟩, hlt2, by omega⟩
    · rw [show cs[k].take j = cs[k] from List.take_of_length_le (by omega)]
      simp -implicitDefEqProofs only [hlt, hlt2, getD_map_lt, ↓reduceIte, codeB, go_sem]
      have hs : compL (cs.take (k + 1)) ds = compL (cs.take k) ds ++ [compW ds cs[k]] := by
        unfold compL; rw [List.take_succ_eq_append_getElem hlt, List.map_append]; rfl
      exact ⟨⟨size_str [_], by omega⟩, ⟨size_str [_], one_str [_]⟩, ⟨.inl (by omega), by omega, by omega⟩, by simp only [InR]; omega, k + 1, by rw [hs]; simp, hlt, by omega⟩
  · refine AWp.freeze 3 rfl ?_
    rw [List.take_of_length_le (by omega)]
    refine AWp.of_awpD [] hΓ hmix (by kernel_rfl) ?_
    simp -implicitDefEqProofs only [hlt, codeB, Frozen, go_sem]
    have e14 := u14 q (compL cs ds) (by simp [compL]; omega)
    unfold compQ compE
    rw [if_pos (show codeCheck p cs = 0 ∧ codeCheck q ds = 0 from ⟨h1, h2⟩), if_pos h3]
    by_cases hc : codeCheck q (made (compL cs ds)) = 0
    · rw [if_pos hc, hc] at e14
      rw [if_pos ⟨h1, h2, h3, hc⟩, hc]
      refine callK_fn e14 (.pures rfl) ?_
      simp -implicitDefEqProofs only [codeV, go_sem]
    · rw [if_neg hc] at e14
      rw [if_neg (fun e => hc e.2.2.2)]
      refine callK_fn e14 (.pures rfl) ?_
      simp -implicitDefEqProofs only [codeV, go_sem]
end Go.Proofs.Ytgkbafkmbokkaaa
end

section
namespace Go.Proofs.Ytgkbafkmbokkaaa
open Go Go.AM
set_option maxRecDepth 100000
set_option linter.unusedSimpArgs false

theorem least_of {P : Nat → Prop} : ∀ n, (∃ k, k < n ∧ P k) → ∃ k, k < n ∧ P k ∧ ∀ j, j < k → ¬ P j
  | 0, ⟨k, hk, _⟩ => absurd hk (Nat.not_lt_zero k)
  | n + 1, ⟨k, hk, hp⟩ => by
    by_cases h : ∃ k, k < n ∧ P k
    · obtain ⟨j, h1, h2, h3⟩ := least_of n h
      exact ⟨j, by omega, h2, h3⟩
    · have : k = n := by
        apply Classical.byContradiction
        intro hne
        exact h ⟨k, by omega, hp⟩
      subst this
      exact ⟨k, hk, hp, fun j hj hpj => h ⟨j, hj, hpj⟩⟩

/-- Codes whose words are too long are refused for that. -/
theorem long_check {q : Int} {l : List (List UInt8)} (h2 : 2 ≤ q) (h16 : q ≤ 16) (hlen : l.length ≤ 64) (hw : ∀ x ∈ l, x ≠ [] ∧ wordCheck q x = 0) (hx : ∃ x ∈ l, 32 < x.length) : codeCheck q (made l) = 4 := by
  have hml := made_le l
  have hget : ∀ j, j < (made l).length → (made l).getD j [] ∈ l := fun j hj => mem_made.1 (getD_in hj)
  obtain ⟨k, hk, hp, hlow⟩ := least_of (P := fun k => 32 < ((made l).getD k []).length) (made l).length (by
    obtain ⟨x, h1, h2⟩ := hx
    obtain ⟨i, hi, e⟩ := List.getElem_of_mem (mem_made.2 h1)
    exact ⟨i, hi, by show 32 < ((made l).getD i []).length; rw [List.getD_eq_getElem?_getD, List.getElem?_eq_getElem hi, Option.getD_some, e]; exact h2⟩)
  have e4 : wordErr q (made l) k = 4 := by
    unfold wordErr
    simp only
    rw [if_neg (hw _ (hget k hk)).1, if_pos hp]
  rw [codeCheck_at (by omega) (by omega) hk (fun j hj => ?_) (by omega), e4]
  unfold wordErr
  simp only
  obtain ⟨h3, h5⟩ := hw _ (hget j (by omega))
  rw [if_neg h3, if_neg (hlow j hj), if_neg (by simpa using h5), if_neg]
  rintro ⟨hj0, hc⟩
  have h6 : ltW ((made l).getD (j - 1) []) ((made l).getD j []) := by
    have := List.pairwise_iff_getElem.1 (made_strict l) (j - 1) j (by omega) (by omega) (by omega)
    rwa [List.getD_eq_getElem?_getD, List.getElem?_eq_getElem (by omega), Option.getD_some, List.getD_eq_getElem?_getD, List.getElem?_eq_getElem (by omega), Option.getD_some]
  have := (ltW_iff _ _).2 h6
  omega

theorem okW_of {q : Int} {w : List UInt8} (h : wordCheck q w = 0) : okW q w = true := by
  unfold wordCheck at h
  split at h
  · omega
  · split at h
    · omega
    · split at h
      · assumption
      · omega
theorem comp_word {p q : Int} {cs ds : List (List UInt8)} (hv : Valid p cs) (hd : Valid q ds) (hl : (ds.length : Int) = p) {w : List UInt8} (hw : w ∈ cs) : compW ds w ≠ [] ∧ wordCheck q (compW ds w) = 0 := by
  obtain ⟨h1, h2, h3⟩ := hv.words w hw
  have hdig : ∀ b ∈ w, ds.getD (digN b) [] ∈ ds := fun b hb => by
    obtain ⟨i, hi, rfl⟩ := List.getElem_of_mem hb
    have := letter_of h3 hi
    exact getD_in (by unfold digN; omega)
  have hwd : ∀ x ∈ ds, x.length ≤ 32 := fun x hx => (hd.words x hx).2.1
  have hlen := compW_len hwd w
  constructor
  · intro e
    cases w with
    | nil => exact h1 rfl
    | cons b w =>
      have e2 : compW ds (b :: w) = ds.getD (digN b) [] ++ compW ds w := rfl
      rw [e2] at e
      exact (hd.words _ (hdig b (by simp))).1 (List.append_eq_nil_iff.1 e).1
  · have ho : okW q (compW ds w) = true := by
      unfold okW compW
      rw [List.all_eq_true]
      intro b hb
      obtain ⟨l, hl1, hl2⟩ := List.mem_flatten.1 hb
      obtain ⟨c, hc, rfl⟩ := List.mem_map.1 hl1
      have := okW_of (hd.words _ (hdig c hc)).2.2
      unfold okW at this
      rw [List.all_eq_true] at this
      exact this b hl2
    have hq2 := hd.q2
    have hq16 := hd.q16
    unfold wordCheck
    rw [if_neg (by omega), if_neg (by omega), if_pos ho]

set_option maxHeartbeats 1000000 in
theorem u26 (p q : Int) (cs ds : List (List UInt8)) : PFn Try.prog 26 [codeV p cs, codeV q ds] [compQ p q cs ds, .int .i64 (compE p q cs ds)] := by
  refine PFn.of_body hΓ Try.func26 (by kernel_rfl) rfl (AWp.of_awpD [] hΓ hmix (by kernel_rfl) ?_)
  simp -implicitDefEqProofs only [Try.ntmps26, Try.results26, Nat.reduceAdd, Nat.reduceSub, codeV, go_sem]
  refine callK_fn (t45 p cs) (.still rfl) ?_
  by_cases h1 : codeCheck p cs = 0
  rotate_left
  · unfold compQ compE
    rw [if_neg (fun e => h1 e.1), if_neg (fun e => h1 e.1)]
    simp -implicitDefEqProofs only [h1, codeV, go_sem]
  rw [h1]
  simp -implicitDefEqProofs only [go_sem]
  refine callK_fn (t45 q ds) (.still rfl) ?_
  by_cases h2 : codeCheck q ds = 0
  rotate_left
  · unfold compQ compE
    rw [if_neg (fun e => h2 e.2.1), if_neg (fun e => h2 e.2)]
    simp -implicitDefEqProofs only [h2, codeV, go_sem]
  rw [h2]
  by_cases h3 : (ds.length : Int) = p
  rotate_left
  · unfold compQ compE
    rw [if_neg (fun e => h3 e.2.2.1), if_pos ⟨h1, h2⟩, if_neg h3]
    simp -implicitDefEqProofs only [h3, codeV, go_sem]
  have hv := valid_of h1
  have hd := valid_of h2
  have hcl := hv.len
  have hdl := hd.len
  simp -implicitDefEqProofs only [h3, go_sem]
  have hsh : ∀ i (hi : i < cs.length), cs[i].length ≤ 32 := fun i hi => by
    have := hv.short i hi
    rwa [List.getD_eq_getElem?_getD, List.getElem?_eq_getElem hi, Option.getD_some] at this
  have hwd : ∀ x ∈ ds, x.length ≤ 32 := fun x hx => (hd.words x hx).2.1
  refine AWp.adopt (l := []) 6 9 1 (by rfl) (by simp) ?_
  simp -implicitDefEqProofs only [go_sem]
  refine AWp.loopI (fun k : Nat => ⟨mkF 68 [(2, .ptr 0 0), (3, .ptr 1 0), (4, .ptr 2 0), (5, .p (.int .i64 0)), (6, .own 3 k), (31, .p (.sl (cs.map .str))), (32, .p (.int .i64 cs.length)), (33, .p (.int .i64 k))], codeB p cs :: codeB q ds :: .box [.p (.int .i64 0), .full []] :: .row 9 1 ((compL (cs.take k) ds).map .str) .lax :: List.replicate k .dead⟩)
    (fun k => k ≤ cs.length ∧ ∀ x ∈ compL (cs.take k) ds, x.length ≤ 32) (fun k => cs.length - k) 0 (by simp [go_sem, codeB, compL]) (by simp [compL]) ?_
  rintro k ⟨hk, hlow⟩
  obtain ⟨D, hD⟩ : ∃ D : List AObj, D = List.replicate k .dead := ⟨_, rfl⟩
  have hDk : D.map (AObj.kill 3) = D := by rw [hD]; simp [AObj.kill]
  have gL : ∀ o : AObj, (D ++ [o])[D.length]? = some o := fun o => by simp
  by_cases hlt : k < cs.length
  · rw [← hD]
    refine AWp.of_awpD [(13, 9)] hΓ hmix (by kernel_rfl) ?_
    simp -implicitDefEqProofs only [hlt, getD_map_lt, ↓reduceIte, codeB, go_sem]
    have hkl := hsh k hlt
    refine ⟨by omega, ?_⟩
    refine AWp.loopI (fun j : Nat => ⟨mkF 68 [(2, .ptr 0 0), (3, .ptr 1 0), (4, .ptr 2 0), (5, .p (.int .i64 0)), (6, .own 3 k), (8, .p (.str cs[k])), (9, .p (.str (compW ds (cs[k].take j)))), (31, .p (.sl (cs.map .str))), (32, .p (.int .i64 cs.length)), (33, .p (.int .i64 k)), (38, .own (D.length + 1 + 1 + 1 + 1) cs[k].length), (39, .p (.int .i64 cs[k].length)), (40, .p (.int .i64 j))], codeB p cs :: codeB q ds :: .box [.p (.int .i64 0), .full []] :: .row 9 1 ((compL (cs.take k) ds).map .str) .lax :: (D ++ [AObj.row 5 1 (cs[k].map u8V) .raw])⟩)
      (fun j => j ≤ cs[k].length) (fun j => cs[k].length - j) 0 (by simp [go_sem, codeB, compW, weakH_self]) (by simp) ?_
    intro j hj
    refine AWp.of_awpD [(13, 9)] hΓ hmix (by kernel_rfl) ?_
    by_cases hlt2 : j < cs[k].length
    · have hu : (cs[k].map u8V).getD j default = .int .u8 cs[k][j].toNat := by rw [getD_map_lt _ _ _ _ hlt2]; rfl
      have hlet := letter_of (hv.words _ (List.getElem_mem hlt)).2.2 hlt2
      have hdn : digN cs[k][j] < ds.length := by unfold digN; omega
      have hg : (ds.map PV.str).getD (ixB cs[k][j] L16 0).toNat default = .str (ds.getD (digN cs[k][j]) []) := by
        show (ds.map PV.str).getD (digN cs[k][j]) default = _
        rw [getD_map_lt _ _ _ _ hdn, List.getD_eq_getElem?_getD, List.getElem?_eq_getElem hdn]; rfl
      have hw1 := compW_len hwd (cs[k].take j)
      have hw2 : (ds.getD (digN cs[k][j]) []).length ≤ 32 := hwd _ (getD_in hdn)
      have e101 := t101 L16 cs[k][j].toNat
      have eb : ((cs[k][j].toNat : Nat) : Int).toNat.toUInt8 = cs[k][j] := by simp
      rw [eb] at e101
      simp -implicitDefEqProofs only [hlt, hlt2, hu, gL, ↓reduceIte, codeB, go_sem]
      refine callVPK_fn e101 (.pures rfl) ?_
      simp -implicitDefEqProofs only [hlt, hlt2, hg, ↓reduceIte, codeB, go_sem]
      rw [List.length_take] at hw1
      refine ⟨by omega, by omega, by simp only [InR]; omega, j + 1, ⟨⟨compW_take ds cs[k] hlt2, by omega⟩, weakH_self _⟩, hlt2, by omega⟩
    · rw [show cs[k].take j = cs[k] from List.take_of_length_le (by omega)]
      by_cases hlong : (32 : Int) < (compW ds cs[k]).length
      · simp -implicitDefEqProofs only [hlt, hlt2, hlong, ↓reduceIte, codeB, go_sem]
        have h4 : codeCheck q (made (compL cs ds)) = 4 := long_check hd.q2 hd.q16 (by simp [compL]; omega) (fun x hx => by
          obtain ⟨w, hw, rfl⟩ := List.mem_map.1 hx
          exact comp_word hv hd h3 hw) ⟨compW ds cs[k], List.mem_map.2 ⟨_, List.getElem_mem hlt, rfl⟩, by omega⟩
        unfold compQ compE
        rw [if_neg (fun e => by have := e.2.2.2; omega), if_pos (show codeCheck p cs = 0 ∧ codeCheck q ds = 0 from ⟨h1, h2⟩), if_pos h3, h4]
        exact ⟨rfl, rfl⟩
      · simp -implicitDefEqProofs only [hlt, hlt2, hlong, ↓reduceIte, codeB, hDk, List.map_append, go_sem]
        have hs : compL (cs.take (k + 1)) ds = compL (cs.take k) ds ++ [compW ds cs[k]] := by
          unfold compL; rw [List.take_succ_eq_append_getElem hlt, List.map_append]; rfl
        refine ⟨⟨size_str [_], by omega⟩, ⟨size_str [_], one_str [_]⟩, ⟨.inl (by omega), by omega, by omega⟩, by simp only [InR]; omega, k + 1, ⟨⟨by omega, by omega⟩, ?_, ?_⟩, ⟨hlt, fun x hx => ?_⟩, by omega⟩
        · rw [hs]; simp
        · rw [hD, List.replicate_succ']
          exact weakH_snoc (.inl rfl) _
        · rw [hs] at hx
          rcases List.mem_append.1 hx with hx | hx
          · exact hlow x hx
          · rw [List.mem_singleton] at hx; subst hx; omega
  · refine AWp.freeze 3 rfl ?_
    rw [List.take_of_length_le (by omega)]
    refine AWp.of_awpD [] hΓ hmix (by kernel_rfl) ?_
    simp -implicitDefEqProofs only [hlt, codeB, Frozen, go_sem]
    have e13 := t71 q (compL cs ds) (by simp [compL]; omega)
    unfold compQ compE
    rw [if_pos (show codeCheck p cs = 0 ∧ codeCheck q ds = 0 from ⟨h1, h2⟩), if_pos h3]
    by_cases hc : codeCheck q (made (compL cs ds)) = 0
    · rw [if_pos hc, hc] at e13
      rw [if_pos ⟨h1, h2, h3, hc⟩, hc]
      refine callK_fn e13 (.pures rfl) ?_
      simp -implicitDefEqProofs only [codeV, go_sem]
    · rw [if_neg hc] at e13
      rw [if_neg (fun e => hc e.2.2.2)]
      refine callK_fn e13 (.pures rfl) ?_
      simp -implicitDefEqProofs only [codeV, go_sem]
end Go.Proofs.Ytgkbafkmbokkaaa
end

section
namespace Go.Proofs.Ytgkbafkmbokkaaa
open Go Go.AM
set_option maxRecDepth 100000
set_option linter.unusedSimpArgs false

theorem small_of {ws : List (List UInt8)} (h : (greatC ws || ws.any greatW) = false) : ws.length ≤ 65 := by
  simp only [Bool.or_eq_false_iff, greatC, Bool.and_eq_false_iff, decide_eq_false_iff_not] at h
  omega

theorem u3 (p q : Int) (ws l : List (List UInt8)) (hws : ws.length ≤ 9223372036854775807) (hl : l.length ≤ 9223372036854775807) : PFn Try.prog 3 [codeV p ws, .int .i64 q, .sl (l.map .str)] [.bool true] := by
  refine PFn.of_body hΓ Try.func3 (by kernel_rfl) rfl (AWp.of_awpD [(11, 54)] hΓ hmix (by kernel_rfl) ?_)
  simp -implicitDefEqProofs only [Try.ntmps3, Try.results3, Nat.reduceAdd, Nat.reduceSub, codeV, go_sem]
  refine callK_fn (t11 p ws hws) (.still rfl) ?_
  cases hg : (greatC ws || ws.any greatW)
  rotate_left
  · simp -implicitDefEqProofs only [go_sem]
    refine callK_fn awake_ok (.pures rfl) ?_
    simp -implicitDefEqProofs only [go_sem]
  simp -implicitDefEqProofs only [go_sem]
  refine callK_fn (t11 0 l hl) (.still rfl) ?_
  cases hg2 : (greatC l || l.any greatW)
  rotate_left
  · simp -implicitDefEqProofs only [go_sem]
    refine callK_fn awake_ok (.pures rfl) ?_
    simp -implicitDefEqProofs only [go_sem]
  simp -implicitDefEqProofs only [go_sem]
  have hl2 := small_of hg2
  have e13 := t71 q l (by omega)
  have e14 := u14 q l (by omega)
  obtain ⟨mq, mw, hm, hmw⟩ : ∃ mq mw, (if codeCheck q (made l) = 0 then codeV q (made l) else codeV 0 []) = codeV mq mw ∧ mw.length ≤ 9223372036854775807 := by
    by_cases hc : codeCheck q (made l) = 0
    · exact ⟨q, made l, if_pos hc, by have := made_le l; omega⟩
    · exact ⟨0, [], if_neg hc, by simp⟩
  rw [hm] at e13 e14
  generalize codeCheck q (made l) = ec at e13 e14
  have e15 := t38 p ws
  have e16 := u16 p ws
  generalize (if codeCheck p ws = 0 then aloneB (fun w x => x.isPrefixOf w) ws else false) = bp at e15 e16
  have e17 := u17 p ws
  have e18 := u18 p ws
  generalize (if codeCheck p ws = 0 then aloneB (fun w x => x.isSuffixOf w) ws else false) = bs at e17 e18
  have e19 := u19 p ws
  have e20 := u20 p ws
  generalize (if codeCheck p ws = 0 then ((ws.getD 0 []).length : Int) else 0) = n1 at e19 e20
  generalize (if codeCheck p ws = 0 then ((ws.getD (ws.length - 1) []).length : Int) else 0) = n2 at e19 e20
  generalize (if codeCheck p ws = 0 then (0 : Int) else 1) = er at e15 e16 e17 e18 e19 e20
  have e21 := t45 p ws
  have e22 := t44 p ws
  generalize codeCheck p ws = cc at e21 e22
  have e23 := u23 mq mq mw mw hmw
  rw [decide_eq_true ⟨rfl, rfl⟩] at e23
  refine callK_fn e13 (.pures rfl) ?_
  simp -implicitDefEqProofs only [codeV, go_sem]
  refine callK_fn e14 (.pures rfl) ?_
  simp -implicitDefEqProofs only [codeV, go_sem]
  refine callK_fn e15 (.still rfl) ?_
  simp -implicitDefEqProofs only [go_sem]
  refine callK_fn e16 (.still rfl) ?_
  simp -implicitDefEqProofs only [go_sem]
  refine callK_fn e17 (.still rfl) ?_
  simp -implicitDefEqProofs only [go_sem]
  refine callK_fn e18 (.still rfl) ?_
  simp -implicitDefEqProofs only [go_sem]
  refine callK_fn e19 (.still rfl) ?_
  simp -implicitDefEqProofs only [go_sem]
  refine callK_fn e20 (.still rfl) ?_
  simp -implicitDefEqProofs only [go_sem]
  refine callVPK_fn e21 (.still rfl) ?_
  simp -implicitDefEqProofs only [go_sem]
  refine callVPK_fn e22 (.still rfl) ?_
  simp -implicitDefEqProofs only [beq_self_eq_true, go_sem]
  refine callVPK_fn e23 (.still rfl) ?_
  simp -implicitDefEqProofs only [beq_self_eq_true, go_sem]
  refine callVPK_fn awake_ok (.pures rfl) ?_
  simp -implicitDefEqProofs only [go_sem]
end Go.Proofs.Ytgkbafkmbokkaaa
end

section
namespace Go.Proofs.Ytgkbafkmbokkaaa
open Go Go.AM
set_option maxRecDepth 100000
set_option linter.unusedSimpArgs false

theorem u4 (p q : Int) (cs ds : List (List UInt8)) (hcs : cs.length ≤ 9223372036854775807) (hds : ds.length ≤ 9223372036854775807) : PFn Try.prog 4 [codeV p cs, codeV q ds] [.bool true] := by
  refine PFn.of_body hΓ Try.func4 (by kernel_rfl) rfl (AWp.of_awpD [] hΓ hmix (by kernel_rfl) ?_)
  simp +contextual -implicitDefEqProofs only [codeV, Try.ntmps4, Try.results4, Nat.reduceAdd, Nat.reduceSub, go_sem]
  refine callK_fn (t11 p cs hcs) (.still rfl) ?_
  cases hg : (greatC cs || cs.any greatW)
  rotate_left
  · simp -implicitDefEqProofs only [go_sem]
    refine callK_fn awake_ok (.pures rfl) ?_
    simp -implicitDefEqProofs only [go_sem]
  simp -implicitDefEqProofs only [go_sem]
  refine callK_fn (t11 q ds hds) (.still rfl) ?_
  cases hg2 : (greatC ds || ds.any greatW)
  rotate_left
  · simp -implicitDefEqProofs only [go_sem]
    refine callK_fn awake_ok (.pures rfl) ?_
    simp -implicitDefEqProofs only [go_sem]
  simp -implicitDefEqProofs only [go_sem]
  have hl1 := small_of hg
  have hl2 := small_of hg2
  have e24 := t39 p cs
  have e25 := u25 p cs
  have e26 := u26 p q cs ds
  have e27 := u27 p q cs ds
  obtain ⟨rq, rw', hr, hrl⟩ : ∃ rq rw', (if codeCheck p cs = 0 then (if codeCheck p (made (revs cs)) = 0 then codeV p (made (revs cs)) else codeV 0 []) else codeV 0 []) = codeV rq rw' ∧ rw'.length ≤ 9223372036854775807 := by
    have h0 := made_le (revs cs)
    have h00 : (revs cs).length = cs.length := by simp [revs]
    by_cases h1 : codeCheck p cs = 0
    · by_cases h2 : codeCheck p (made (revs cs)) = 0
      · exact ⟨p, made (revs cs), by rw [if_pos h1, if_pos h2], by omega⟩
      · exact ⟨0, [], by rw [if_pos h1, if_neg h2], by simp⟩
    · exact ⟨0, [], by rw [if_neg h1], by simp⟩
  obtain ⟨xq, xw, hx, hxl⟩ : ∃ xq xw, compQ p q cs ds = codeV xq xw ∧ xw.length ≤ 9223372036854775807 := by
    have h0 := made_le (compL cs ds)
    have h00 : (compL cs ds).length = cs.length := by simp [compL]
    unfold compQ
    by_cases h1 : codeCheck p cs = 0 ∧ codeCheck q ds = 0 ∧ (ds.length : Int) = p ∧ codeCheck q (made (compL cs ds)) = 0
    · exact ⟨q, made (compL cs ds), by rw [if_pos h1], by omega⟩
    · exact ⟨0, [], by rw [if_neg h1], by simp⟩
  rw [hr] at e24 e25
  rw [hx] at e26 e27
  generalize (if codeCheck p cs = 0 then codeCheck p (made (revs cs)) else 1) = er at e24 e25
  generalize compE p q cs ds = ex at e26 e27
  have e23 := u23 rq rq rw' rw' hrl
  have e23x := u23 xq xq xw xw hxl
  rw [decide_eq_true ⟨rfl, rfl⟩] at e23 e23x
  refine callK_fn e24 (.still rfl) ?_
  simp -implicitDefEqProofs only [codeV, go_sem]
  refine callK_fn e25 (.still rfl) ?_
  simp -implicitDefEqProofs only [codeV, go_sem]
  refine callK_fn e26 (.still rfl) ?_
  simp -implicitDefEqProofs only [codeV, go_sem]
  refine callK_fn e27 (.still rfl) ?_
  simp -implicitDefEqProofs only [codeV, go_sem]
  refine callK_fn e23 (.still rfl) ?_
  simp -implicitDefEqProofs only [codeV, go_sem]
  refine callK_fn e23x (.still rfl) ?_
  simp -implicitDefEqProofs only [codeV, go_sem]
  refine callK_fn awake_ok (.pures rfl) ?_
  simp -implicitDefEqProofs only [go_sem]
end Go.Proofs.Ytgkbafkmbokkaaa
end

section
namespace Go.Proofs.Ytgkbafkmbokkaaa
open Go Go.AM
set_option maxRecDepth 100000
set_option linter.unusedSimpArgs false

theorem alone_iff {pr : List UInt8 → List UInt8 → Bool} {ws : List (List UInt8)} (hd : ws.Nodup) : aloneB pr ws = true ↔ ∀ x ∈ ws, ∀ y ∈ ws, pr x y = true → x = y := by
  have get : ∀ i (h : i < ws.length), ws.getD i [] = ws[i] := fun i h => by rw [List.getD_eq_getElem?_getD, List.getElem?_eq_getElem h, Option.getD_some]
  unfold aloneB aloneN aloneTo
  simp only [List.all_eq_true, List.mem_range, Bool.or_eq_true, decide_eq_true_eq, Bool.not_eq_true']
  constructor
  · intro h x hx y hy hp
    obtain ⟨i, hi, rfl⟩ := List.getElem_of_mem hx
    obtain ⟨k, hk, rfl⟩ := List.getElem_of_mem hy
    rcases h i hi k hk with e | e
    · subst e; rfl
    · rw [get i hi, get k hk, hp] at e; cases e
  · intro h i hi k hk
    by_cases e : i = k
    · exact .inl e
    · right
      rw [get i hi, get k hk]
      cases hp : pr ws[i] ws[k] with
      | false => rfl
      | true =>
        have := h _ (List.getElem_mem hi) _ (List.getElem_mem hk) hp
        have hp := List.pairwise_iff_getElem.1 (show ws.Pairwise (· ≠ ·) from hd)
        rcases Nat.lt_trichotomy i k with hik | hik | hik
        · exact absurd this (hp i k hi hk hik)
        · exact absurd hik e
        · exact absurd this.symm (hp k i hk hi hik)
theorem strict_nodup {ws : List (List UInt8)} (h : ws.Pairwise ltW) : ws.Nodup := List.Pairwise.imp (fun {a b} (hab : ltW a b) (e : a = b) => ltW_irrefl b (by rw [e] at hab; exact hab)) h
/-- A suffix code exactly if the reversed one is a prefix code. -/
theorem alone_rev {ws : List (List UInt8)} (hs : ws.Pairwise ltW) : aloneB (fun w x => x.isPrefixOf w) (made (revs ws)) = aloneB (fun w x => x.isSuffixOf w) ws := by
  have h1 := alone_iff (pr := fun w x => x.isPrefixOf w) (strict_nodup (made_strict (revs ws)))
  have h2 := alone_iff (pr := fun w x => x.isSuffixOf w) (strict_nodup hs)
  rw [Bool.eq_iff_iff, h1, h2]
  have hm : ∀ x, x ∈ made (revs ws) ↔ x.reverse ∈ ws := fun x => by
    rw [mem_made]
    unfold revs
    rw [List.mem_map]
    constructor
    · rintro ⟨a, ha, rfl⟩; simpa using ha
    · intro h; exact ⟨_, h, by simp⟩
  constructor
  · intro h x hx y hy hp
    have := h x.reverse ((hm _).2 (by simpa using hx)) y.reverse ((hm _).2 (by simpa using hy)) (List.isPrefixOf_iff_prefix.2 (List.reverse_prefix.2 (List.isSuffixOf_iff_suffix.1 hp)))
    simpa using congrArg List.reverse this
  · intro h x hx y hy hp
    have := h x.reverse ((hm _).1 hx) y.reverse ((hm _).1 hy) (List.isSuffixOf_iff_suffix.2 (List.reverse_suffix.2 (List.isPrefixOf_iff_prefix.1 hp)))
    simpa using congrArg List.reverse this
theorem alone_cnt {ws : List (List UInt8)} (hn : ∀ x ∈ ws, x ≠ []) (hs : ws.Pairwise ltW) (h : aloneB (fun w x => x.isPrefixOf w) ws = true ∨ aloneB (fun w x => x.isSuffixOf w) ws = true) (w : List UInt8) : cnt ws w ≤ 1 := by
  have hd := strict_nodup hs
  refine cnt_one hn hd ?_ w
  rcases h with h | h
  · left
    intro x hx y hy hp
    exact ((alone_iff hd).1 h y hy x hx (List.isPrefixOf_iff_prefix.2 hp)).symm
  · right
    intro x hx y hy hp
    exact ((alone_iff hd).1 h y hy x hx (List.isSuffixOf_iff_suffix.2 hp)).symm

set_option maxHeartbeats 4000000 in
theorem u6 (q : Int) (ws : List (List UInt8)) (w : List UInt8) (hws : ws.length ≤ 9223372036854775807) : PFn Try.prog 6 [codeV q ws, .str w] [.bool true] := by
  refine PFn.of_body hΓ Try.func6 (by kernel_rfl) rfl (AWp.of_awpD [(24, 16)] hΓ hmix (by kernel_rfl) ?_)
  simp +contextual -implicitDefEqProofs only [codeV, Try.ntmps6, Try.results6, Nat.reduceAdd, Nat.reduceSub, go_sem]
  refine callK_fn (u28 q ws hws) (.still rfl) ?_
  cases hf : fineB q ws
  · simp -implicitDefEqProofs only [go_sem]
    refine callK_fn awake_ok (.pures rfl) ?_
    simp -implicitDefEqProofs only [go_sem]
  simp only [fineB, Bool.and_eq_true, decide_eq_true_eq] at hf
  have h := hf.2
  have hv := valid_of h
  have hlen := hv.len
  have hpos := hv.pos
  by_cases hwl : (20 : Int) < w.length
  · simp -implicitDefEqProofs only [hwl, go_sem]
    refine callK_fn awake_ok (.pures rfl) ?_
    simp -implicitDefEqProofs only [go_sem]
  have hr := rev_valid hv
  have e38 := t38 q ws
  have e17 := u17 q ws
  have e39 := t39 q ws
  have e38r := t38 q (made (revs ws))
  rw [if_pos h, if_pos h] at e38 e17 e39
  rw [if_pos hr, hr] at e39
  rw [if_pos hr, if_pos hr, alone_rev hv.strict] at e38r
  simp -implicitDefEqProofs only [hwl, go_sem]
  refine callK_fn e38 (.still rfl) ?_
  simp -implicitDefEqProofs only [go_sem]
  refine callK_fn e17 (.still rfl) ?_
  simp -implicitDefEqProofs only [go_sem]
  refine callK_fn e39 (.still rfl) ?_
  simp -implicitDefEqProofs only [codeV, go_sem]
  refine callK_fn e38r (.still rfl) ?_
  simp -implicitDefEqProofs only [ite_self, bne_self_eq_false, go_sem]
  clear e38 e17 e39 e38r
  generalize hS : aloneB (fun w x => x.isSuffixOf w) ws = S
  generalize hP : aloneB (fun w x => x.isPrefixOf w) ws = P
  refine AWp.loopI (fun i : Nat => ⟨mkF 121 [(1, .p (.str w)), (2, .ptr 0 0), (5, .p (.bool P)), (7, .p (.bool S)), (13, .p (.bool (!aloneN (fun w x => x.isPrefixOf w) ws i))), (61, .p (.sl (ws.map .str))), (62, .p (.int .i64 ws.length)), (63, .p (.int .i64 i))], [codeB q ws, codeB q (made (revs ws))]⟩)
    (fun i => i ≤ ws.length) (fun i => ws.length - i) 0 (by simp [go_sem, codeB, aloneN]) (by omega) ?_
  intro i hi
  refine AWp.of_awpD [(24, 16)] hΓ hmix (by kernel_rfl) ?_
  by_cases hlt : i < ws.length
  · simp -implicitDefEqProofs only [hlt, getD_map_lt, ↓reduceIte, codeB, go_sem]
    have hwi : ws.getD i [] = ws[i] := by rw [List.getD_eq_getElem?_getD, List.getElem?_eq_getElem hlt, Option.getD_some]
    refine AWp.loopI (fun k : Nat => ⟨mkF 121 [(1, .p (.str w)), (2, .ptr 0 0), (5, .p (.bool P)), (7, .p (.bool S)), (13, .p (.bool (!(aloneN (fun w x => x.isPrefixOf w) ws i && aloneTo (fun w x => x.isPrefixOf w) ws i k)))), (14, .p (.int .i64 i)), (15, .p (.str ws[i])), (61, .p (.sl (ws.map .str))), (62, .p (.int .i64 ws.length)), (63, .p (.int .i64 i)), (69, .p (.sl (ws.map .str))), (70, .p (.int .i64 ws.length)), (71, .p (.int .i64 k))], [codeB q ws, codeB q (made (revs ws))]⟩)
      (fun k => k ≤ ws.length) (fun k => ws.length - k) 0 (by simp [go_sem, codeB, aloneTo]) (by omega) ?_
    intro k hk
    refine AWp.of_awpD [(24, 16)] hΓ hmix (by kernel_rfl) ?_
    by_cases hlt2 : k < ws.length
    · have hwk : ws.getD k [] = ws[k] := by rw [List.getD_eq_getElem?_getD, List.getElem?_eq_getElem hlt2, Option.getD_some]
      have hto := aloneTo_succ (fun w x => x.isPrefixOf w) ws i k
      rw [hwi, hwk] at hto
      cases hb : (aloneN (fun w x => x.isPrefixOf w) ws i && aloneTo (fun w x => x.isPrefixOf w) ws i k)
      · have hb' : (aloneN (fun w x => x.isPrefixOf w) ws i && aloneTo (fun w x => x.isPrefixOf w) ws i (k + 1)) = false := by
          rw [hto, ← Bool.and_assoc, hb]; rfl
        simp -implicitDefEqProofs only [hlt, hlt2, getD_map_lt, ↓reduceIte, codeB, Bool.not_false, go_sem]
        exact ⟨by simp only [InR]; omega, k + 1, ⟨by rw [hb']; rfl, by omega⟩, hlt2, by omega⟩
      · by_cases hik : (i : Int) = k
        · have hb' : (aloneN (fun w x => x.isPrefixOf w) ws i && aloneTo (fun w x => x.isPrefixOf w) ws i (k + 1)) = true := by
            rw [hto, ← Bool.and_assoc, hb, decide_eq_true (show i = k by omega)]; rfl
          simp -implicitDefEqProofs only [hlt, hlt2, getD_map_lt, ↓reduceIte, codeB, Bool.not_true, hik, go_sem]
          exact ⟨by simp only [InR]; omega, k + 1, ⟨by rw [hb']; rfl, by omega⟩, hlt2, by omega⟩
        · have hb' : (aloneN (fun w x => x.isPrefixOf w) ws i && aloneTo (fun w x => x.isPrefixOf w) ws i (k + 1)) = !ws[k].isPrefixOf ws[i] := by
            rw [hto, ← Bool.and_assoc, hb, decide_eq_false (show ¬ i = k by omega)]; simp
          simp -implicitDefEqProofs only [hlt, hlt2, getD_map_lt, ↓reduceIte, codeB, Bool.not_true, hik, go_sem]
          refine callK_fn (t69 ws[i] ws[k]) (.pures rfl) ?_
          simp -implicitDefEqProofs only [hlt, hlt2, getD_map_lt, ↓reduceIte, codeB, Bool.not_true, hik, go_sem]
          exact ⟨by simp only [InR]; omega, k + 1, ⟨by rw [hb', Bool.not_not], by omega⟩, hlt2, by omega⟩
    · have hkn : k = ws.length := by omega
      have hz : ¬ (ws.length : Int) < ws.length := by omega
      have := aloneN_succ (fun w x => x.isPrefixOf w) ws i
      rw [hkn, ← this]
      simp -implicitDefEqProofs only [hz, codeB, go_sem]
      exact ⟨by simp only [InR]; omega, i + 1, ⟨rfl, by omega⟩, hlt, by omega⟩
  · have hin : i = ws.length := by omega
    have hz : ¬ (ws.length : Int) < ws.length := by omega
    have hal : aloneN (fun w x => x.isPrefixOf w) ws ws.length = P := hP
    rw [hin, hal]
    have hpe : (P == !P) = false := by cases P <;> rfl
    simp -implicitDefEqProofs only [hz, codeB, hpe, go_sem]
    have e32 := u32 q ws w (fun _ x hx => (hv.words x hx).1) (fun _ => by omega) (fun _ _ => by omega)
    rw [if_pos h] at e32
    by_cases h2 : wordCheck q w = 0
    · rw [if_pos h2, intN_pos] at e32
      refine callK_fn e32 (.still rfl) ?_
      cases hPS : (P || S)
      · have hP0 : P = false := by cases P <;> simp_all
        have hS0 : S = false := by cases S <;> simp_all
        rw [hP0, hS0]
        simp -implicitDefEqProofs only [go_sem]
        refine callVPK_fn awake_ok (.pures rfl) ?_
        simp -implicitDefEqProofs only [go_sem]
      · have hone : cnt ws w ≤ 1 := alone_cnt (fun x hx => (hv.words x hx).1) hv.strict (by
          rw [hP, hS]
          cases P
          · right; simpa using hPS
          · left; rfl) w
        have e1 := u34 1 (by omega)
        have e33 := u33 (cnt ws w) 1 (cap_41 (Nat.le_trans hone (by decide))) (cap_41 (by decide))
        have hle : cmpN (cnt ws w) 1 ≤ 0 := by
          unfold cmpN
          split
          · decide
          · rw [if_pos (by omega)]; decide
        rw [intN_pos] at e1
        rw [intN_pos, intN_pos] at e33
        have hPS' : (!P && !S) = false := by cases P <;> cases S <;> simp_all
        cases P
        · have hS1 : S = true := by simpa using hPS
          rw [hS1]
          simp -implicitDefEqProofs only [go_sem]
          refine callVPK_fn e1 (.pures rfl) ?_
          simp -implicitDefEqProofs only [go_sem]
          refine callVPK_fn e33 (.still rfl) ?_
          simp -implicitDefEqProofs only [hle, go_sem]
          refine callVPK_fn awake_ok (.pures rfl) ?_
          simp -implicitDefEqProofs only [go_sem]
        · simp -implicitDefEqProofs only [go_sem]
          refine callVPK_fn e1 (.pures rfl) ?_
          simp -implicitDefEqProofs only [go_sem]
          refine callVPK_fn e33 (.still rfl) ?_
          simp -implicitDefEqProofs only [hle, go_sem]
          refine callVPK_fn awake_ok (.pures rfl) ?_
          simp -implicitDefEqProofs only [go_sem]
    · rw [if_neg h2, intN_pos] at e32
      refine callK_fn e32 (.still rfl) ?_
      simp -implicitDefEqProofs only [h2, magB_zero, go_sem]
      refine aggE_ok (v := .p (.bool true)) (by kernel_rfl) ?_
      simp -implicitDefEqProofs only [go_sem]
      refine callK_fn awake_ok (.pures rfl) ?_
      simp -implicitDefEqProofs only [go_sem]
end Go.Proofs.Ytgkbafkmbokkaaa
end

section
namespace Go.Proofs.Ytgkbafkmbokkaaa
open Go Go.AM
set_option maxRecDepth 100000
set_option linter.unusedSimpArgs false

theorem ixB_hit (c : UInt8) : ∀ (l : List UInt8) (n : Nat), 0 ≤ ixB c l n → ∃ k : Nat, ixB c l n = ((n + k : Nat) : Int) ∧ l.getD k 0 = c
  | [], n, h => by simp [ixB] at h
  | a :: l, n, h => by
    unfold ixB at h ⊢
    split at h
    · rename_i hb
      refine ⟨0, rfl, ?_⟩
      have := Nat.eq_of_beq_eq_true hb
      simp only [List.getD_cons_zero]
      exact UInt8.toNat_inj.1 this
    · obtain ⟨k, h1, h2⟩ := ixB_hit c l (n + 1) h
      exact ⟨k + 1, by rw [h1]; congr 1; omega, by simpa using h2⟩
theorem digN_inj {b c : UInt8} (hb : 0 ≤ ixB b L16 0) (hc : 0 ≤ ixB c L16 0) (h : digN b = digN c) : b = c := by
  obtain ⟨k, h1, h2⟩ := ixB_hit b L16 0 hb
  obtain ⟨m, h3, h4⟩ := ixB_hit c L16 0 hc
  unfold digN at h
  rw [h1, h3] at h
  have : k = m := by omega
  rw [← h2, ← h4, this]
def LetOK (p : Int) (w : List UInt8) : Prop := ∀ b ∈ w, 0 ≤ ixB b L16 0 ∧ ixB b L16 0 < p
theorem letOK_of {p : Int} {w : List UInt8} (h : wordCheck p w = 0) : LetOK p w := fun b hb => by
  obtain ⟨i, hi, rfl⟩ := List.getElem_of_mem hb
  exact letter_of h hi

theorem comp_prefix {p q : Int} {ds : List (List UInt8)} (hd : Valid q ds) (hl : (ds.length : Int) = p) (hpf : ∀ x ∈ ds, ∀ y ∈ ds, x <+: y → x = y) : ∀ (u v : List UInt8), LetOK p u → LetOK p v → compW ds u <+: compW ds v → u <+: v
  | [], v, _, _, _ => List.nil_prefix
  | b :: u, [], hu, _, h => by
    have hb := hu b (by simp)
    have e : compW ds (b :: u) = ds.getD (digN b) [] ++ compW ds u := rfl
    rw [e] at h
    have h0 := List.prefix_nil.1 h
    exact absurd (List.append_eq_nil_iff.1 h0).1 (hd.ne _ (by unfold digN; omega))
  | b :: u, c :: v, hu, hv, h => by
    have hb := hu b (by simp)
    have hc := hv c (by simp)
    have hbl : digN b < ds.length := by unfold digN; omega
    have hcl : digN c < ds.length := by unfold digN; omega
    have e1 : compW ds (b :: u) = ds.getD (digN b) [] ++ compW ds u := rfl
    have e2 : compW ds (c :: v) = ds.getD (digN c) [] ++ compW ds v := rfl
    rw [e1, e2] at h
    have hm1 : ds.getD (digN b) [] ∈ ds := getD_in hbl
    have hm2 : ds.getD (digN c) [] ∈ ds := getD_in hcl
    have he : ds.getD (digN b) [] = ds.getD (digN c) [] := by
      rcases List.prefix_or_prefix_of_prefix ((List.prefix_append _ _).trans h) (List.prefix_append (ds.getD (digN c) []) (compW ds v)) with h1 | h1
      · exact hpf _ hm1 _ hm2 h1
      · exact (hpf _ hm2 _ hm1 h1).symm
    have hbc : digN b = digN c := by
      rcases Nat.lt_trichotomy (digN b) (digN c) with h1 | h1 | h1
      · have := hd.lt _ _ h1 hcl; rw [he] at this; exact absurd this (ltW_irrefl _)
      · exact h1
      · have := hd.lt _ _ h1 hbl; rw [he] at this; exact absurd this (ltW_irrefl _)
    have := digN_inj hb.1 hc.1 hbc
    subst this
    have h2 := (List.prefix_append_right_inj _).1 h
    obtain ⟨t, ht⟩ := comp_prefix hd hl hpf u v (fun x hx => hu x (by simp [hx])) (fun x hx => hv x (by simp [hx])) h2
    exact ⟨t, by rw [← ht]; rfl⟩

theorem nodup_map_on {α β : Type} {f : α → β} : ∀ {l : List α}, (∀ a ∈ l, ∀ b ∈ l, f a = f b → a = b) → l.Nodup → (l.map f).Nodup
  | [], _, _ => by simp
  | a :: l, hf, h => by
    rw [List.nodup_cons] at h
    rw [List.map_cons, List.nodup_cons]
    refine ⟨fun hm => ?_, nodup_map_on (fun x hx y hy => hf x (by simp [hx]) y (by simp [hy])) h.2⟩
    obtain ⟨b, hb, e⟩ := List.mem_map.1 hm
    exact h.1 (hf b (by simp [hb]) a (by simp) e ▸ hb)

theorem comp_alone {p q : Int} {cs ds : List (List UInt8)} (hv : Valid p cs) (hd : Valid q ds) (hl : (ds.length : Int) = p) (h1 : aloneB (fun w x => x.isPrefixOf w) cs = true) (h2 : aloneB (fun w x => x.isPrefixOf w) ds = true) :
    aloneB (fun w x => x.isPrefixOf w) (made (compL cs ds)) = true ∧ (made (compL cs ds)).length = cs.length := by
  have hc := (alone_iff (strict_nodup hv.strict)).1 h1
  have hdd := (alone_iff (strict_nodup hd.strict)).1 h2
  have hpf : ∀ x ∈ ds, ∀ y ∈ ds, x <+: y → x = y := fun x hx y hy h => (hdd y hy x hx (List.isPrefixOf_iff_prefix.2 h)).symm
  have key : ∀ u ∈ cs, ∀ v ∈ cs, compW ds u <+: compW ds v → u = v := fun u hu v hv' h => by
    have := comp_prefix hd hl hpf u v (letOK_of (hv.words u hu).2.2) (letOK_of (hv.words v hv').2.2) h
    exact (hc v hv' u hu (List.isPrefixOf_iff_prefix.2 this)).symm
  constructor
  · refine (alone_iff (strict_nodup (made_strict _))).2 fun x hx y hy h => ?_
    obtain ⟨u, hu, rfl⟩ := List.mem_map.1 (mem_made.1 hx)
    obtain ⟨v, hv', rfl⟩ := List.mem_map.1 (mem_made.1 hy)
    rw [key v hv' u hu (List.isPrefixOf_iff_prefix.1 h)]
  · have hnd : (compL cs ds).Nodup := nodup_map_on (fun u hu v hv' e => key u hu v hv' (by rw [e]; exact List.prefix_rfl)) (strict_nodup hv.strict)
    have a1 := nodup_len (l := made (compL cs ds)) (m := compL cs ds) (strict_nodup (made_strict _)) (fun x hx => mem_made.1 hx)
    have a2 := nodup_len (l := compL cs ds) (m := made (compL cs ds)) hnd (fun x hx => mem_made.2 hx)
    have a3 : (compL cs ds).length = cs.length := by simp [compL]
    omega

/-! ### Encode's digits -/
theorem encL_comp (ds : List (List UInt8)) (w : List UInt8) : encL ds (w.map fun b => ixB b L16 0) = compW ds w := by
  unfold encL compW digN; rw [List.map_map]; rfl
theorem encIn_comp {p : Int} {ds : List (List UInt8)} (hl : (ds.length : Int) = p) {w : List UInt8} (h : LetOK p w) : encIn ds (w.map fun b => ixB b L16 0) = true := by
  unfold encIn
  rw [List.all_eq_true]
  intro k hk
  obtain ⟨b, hb, rfl⟩ := List.mem_map.1 hk
  have := h b hb
  simp; omega
end Go.Proofs.Ytgkbafkmbokkaaa
end

section
namespace Go.Proofs.Ytgkbafkmbokkaaa
open Go Go.AM
set_option maxRecDepth 100000
set_option linter.unusedSimpArgs false

def encN (ws : List (List UInt8)) (r : List Nat) : List UInt8 := (r.map fun k => ws.getD k []).flatten
theorem encN_L (ws : List (List UInt8)) (r : List Nat) : encL ws (r.map fun (k : Nat) => (k : Int)) = encN ws r := by
  unfold encL encN; rw [List.map_map]; rfl
theorem encN_cons (ws : List (List UInt8)) (k : Nat) (r : List Nat) : encN ws (k :: r) = ws.getD k [] ++ encN ws r := rfl
theorem encN_In {ws : List (List UInt8)} {r : List Nat} (h : ∀ k ∈ r, k < ws.length) : encIn ws (r.map fun (k : Nat) => (k : Int)) = true := by
  unfold encIn
  rw [List.all_eq_true]
  intro x hx
  obtain ⟨k, hk, rfl⟩ := List.mem_map.1 hx
  have := h k hk
  simp only [Bool.and_eq_true, decide_eq_true_eq]; omega
theorem mem_rdTo {ws : List (List UInt8)} {w : List UInt8} {n : Nat} {r : List Nat} : r ∈ rdTo ws w n ↔ ∃ k r', k < n ∧ r = k :: r' ∧ (ws.getD k []).isPrefixOf w = true ∧ r' ∈ rdI ws (w.drop (ws.getD k []).length) := by
  unfold rdTo
  rw [List.mem_flatMap]
  constructor
  · rintro ⟨k, hk, hr⟩
    unfold rdAt at hr
    split at hr
    · rename_i hp
      obtain ⟨r', h1, rfl⟩ := List.mem_map.1 hr
      exact ⟨k, r', List.mem_range.1 hk, rfl, hp, h1⟩
    · cases hr
  · rintro ⟨k, r', hk, rfl, hp, h1⟩
    refine ⟨k, List.mem_range.2 hk, ?_⟩
    unfold rdAt
    rw [if_pos hp]
    exact List.mem_map.2 ⟨r', h1, rfl⟩
theorem getD_ne {ws : List (List UInt8)} (hn : ∀ x ∈ ws, x ≠ []) {k : Nat} (hk : k < ws.length) : 0 < (ws.getD k []).length := by
  rw [List.getD_eq_getElem?_getD, List.getElem?_eq_getElem hk, Option.getD_some]
  exact List.length_pos_iff.2 (hn _ (List.getElem_mem hk))
/-- Which readings there are: the lists that spell the word. -/
theorem mem_rdI {ws : List (List UInt8)} (hn : ∀ x ∈ ws, x ≠ []) : ∀ (r : List Nat) (w : List UInt8), r ∈ rdI ws w ↔ (∀ k ∈ r, k < ws.length) ∧ encN ws r = w
  | [], w => by
    cases w with
    | nil => simp [rdI_nil, encN]
    | cons b w =>
      rw [rdI_step hn (by simp), mem_rdTo]
      simp [encN]
  | k :: r, w => by
    cases w with
    | nil =>
      rw [rdI_nil]
      constructor
      · intro h; simp at h
      · rintro ⟨h1, h2⟩
        have := getD_ne hn (h1 k (by simp))
        rw [encN_cons, List.append_eq_nil_iff] at h2
        rw [h2.1] at this; simp at this
    | cons b w =>
      rw [rdI_step hn (by simp), mem_rdTo, encN_cons]
      constructor
      · rintro ⟨k', r', hk, he, hp, hr⟩
        injection he with e1 e2
        subst e1 e2
        obtain ⟨h1, h2⟩ := (mem_rdI hn r _).1 hr
        refine ⟨fun x hx => (List.mem_cons.1 hx).elim (fun e => e ▸ hk) (h1 x), ?_⟩
        rw [h2]
        obtain ⟨t, ht⟩ := List.isPrefixOf_iff_prefix.1 hp
        rw [← ht, List.drop_left]
      · rintro ⟨h1, h2⟩
        refine ⟨k, r, h1 k (by simp), rfl, List.isPrefixOf_iff_prefix.2 ⟨_, h2⟩, (mem_rdI hn r _).2 ⟨fun x hx => h1 x (by simp [hx]), ?_⟩⟩
        rw [← h2, List.drop_left]

/-- slices.Compare of lists of indices. -/
def cmpLs : List Nat → List Nat → Int
  | [], [] => 0
  | [], _ :: _ => -1
  | _ :: _, [] => 1
  | a :: l, b :: m => if a < b then -1 else if b < a then 1 else cmpLs l m
theorem cmpLs_same (a : Nat) (l m : List Nat) : cmpLs (a :: l) (a :: m) = cmpLs l m := by
  show (if a < a then -1 else if a < a then 1 else cmpLs l m) = _
  rw [if_neg (Nat.lt_irrefl _), if_neg (Nat.lt_irrefl _)]
theorem cmpLs_lt {a b : Nat} (l m : List Nat) (h : a < b) : cmpLs (a :: l) (b :: m) = -1 := if_pos h
theorem cmpLs_gt {a b : Nat} (l m : List Nat) (h : b < a) : cmpLs (a :: l) (b :: m) = 1 := by
  show (if a < b then -1 else if b < a then 1 else cmpLs l m) = _
  rw [if_neg (by omega), if_pos h]
/-- They come in ascending order. -/
theorem rdTo_sorted {ws : List (List UInt8)} {w : List UInt8} (h : ∀ k, k < ws.length → (rdAt ws w k).Pairwise fun a b => cmpLs a b = -1) : ∀ n, n ≤ ws.length → (rdTo ws w n).Pairwise fun a b => cmpLs a b = -1
  | 0, _ => by simp [rdTo]
  | n + 1, hn => by
    rw [rdTo_succ, List.pairwise_append]
    refine ⟨rdTo_sorted h n (by omega), h n hn, fun a ha b hb => ?_⟩
    obtain ⟨k, r', hk, rfl, _⟩ := mem_rdTo.1 ha
    unfold rdAt at hb
    split at hb
    · obtain ⟨r, _, rfl⟩ := List.mem_map.1 hb
      exact cmpLs_lt _ _ hk
    · cases hb
theorem rdI_sorted {ws : List (List UInt8)} (hn : ∀ x ∈ ws, x ≠ []) : ∀ (n : Nat) (w : List UInt8), w.length ≤ n → (rdI ws w).Pairwise fun a b => cmpLs a b = -1
  | 0, w, h => by
    have : w = [] := List.length_eq_zero_iff.1 (by omega)
    subst this; simp [rdI_nil]
  | n + 1, w, h => by
    cases w with
    | nil => simp [rdI_nil]
    | cons b w =>
      rw [rdI_step hn (by simp)]
      refine rdTo_sorted (fun k hk => ?_) _ (Nat.le_refl _)
      have hl := getD_ne hn hk
      unfold rdAt
      split
      · rw [List.pairwise_map]
        have := rdI_sorted hn n ((b :: w).drop (ws.getD k []).length) (by rw [List.length_cons] at h; rw [List.length_drop, List.length_cons]; omega)
        exact this.imp (fun {a b} e => by rw [cmpLs_same]; exact e)
      · exact List.Pairwise.nil
theorem encN_len {ws : List (List UInt8)} {m : Nat} (h : ∀ x ∈ ws, x.length ≤ m) : ∀ r : List Nat, (encN ws r).length ≤ m * r.length
  | [] => by simp [encN]
  | k :: r => by
    have h1 := encN_len h r
    have h2 : (ws.getD k []).length ≤ m := by
      by_cases hk : k < ws.length
      · rw [List.getD_eq_getElem?_getD, List.getElem?_eq_getElem hk, Option.getD_some]; exact h _ (List.getElem_mem hk)
      · rw [List.getD_eq_getElem?_getD, List.getElem?_eq_none (by omega)]; simp
    rw [encN_cons, List.length_append, List.length_cons, Nat.mul_succ]; omega
theorem len_encN {ws : List (List UInt8)} (hn : ∀ x ∈ ws, x ≠ []) : ∀ r : List Nat, (∀ k ∈ r, k < ws.length) → r.length ≤ (encN ws r).length
  | [], _ => by simp
  | k :: r, h => by
    have h1 := len_encN hn r (fun x hx => h x (by simp [hx]))
    have h2 := getD_ne hn (h k (by simp))
    rw [encN_cons, List.length_append, List.length_cons]; omega
theorem encN_word {q : Int} {ws : List (List UInt8)} (hv : Valid q ws) {r : List Nat} (h : ∀ k ∈ r, k < ws.length) (hl : (encN ws r).length ≤ 65536) : wordCheck q (encN ws r) = 0 := by
  have ho : okW q (encN ws r) = true := by
    unfold okW encN
    rw [List.all_eq_true]
    intro b hb
    obtain ⟨l, hl1, hl2⟩ := List.mem_flatten.1 hb
    obtain ⟨c, hc, rfl⟩ := List.mem_map.1 hl1
    have hk := h c hc
    have hx : ws.getD c [] ∈ ws := by rw [List.getD_eq_getElem?_getD, List.getElem?_eq_getElem hk, Option.getD_some]; exact List.getElem_mem hk
    have := okW_of (hv.words _ hx).2.2
    unfold okW at this
    rw [List.all_eq_true] at this
    exact this b hl2
  have hq2 := hv.q2
  have hq16 := hv.q16
  unfold wordCheck
  rw [if_neg (by omega), if_neg (by omega), if_pos ho]
end Go.Proofs.Ytgkbafkmbokkaaa
end

section
namespace Go.Proofs.Ytgkbafkmbokkaaa
open Go Go.AM
set_option maxRecDepth 100000
set_option linter.unusedSimpArgs false

/-- Memory as the iterator finds it. -/
def rd6 (q : Int) (ws : List (List UInt8)) (w : List UInt8) (rec : AObj) (outs : List (List Nat)) : List AObj :=
  [codeB q ws, .box [.own 2 outs.length], .row 53 1 (outs.map slV) (pk outs), codeB q ws, .box [.p (.str w)], rec]

theorem v93 {q : Int} {ws : List (List UInt8)} {w : List UInt8} {rec : AObj} (hn : ∀ x ∈ ws, x ≠ []) (hws : ws.length ≤ 256) (hw : w.length ≤ 40) (hout : (rdI ws w).length ≤ 4096) (hrec : ∀ k, k = 2 ∨ k = 10 → rec.kill k = rec)
    (hround : ∀ (outs : List (List Nat)) (path : List Nat) (m : Nat) (rk : RK), outs.length ≤ 4095 → rk ≠ .raw → path.length ≤ 40 → YC Try.prog 5 [.own ((List.replicate m AObj.dead).length + 1 + 1 + 1 + 1 + 1 + 1 + 1 + 1 + 1 + 1 + 1) path.length] (rdH q ws w rec outs path m ++ [.row 3 1 (path.map ivN) rk]) [2, 10] (fun v h' => v = .p (.bool true) ∧ h' = rdH q ws w rec (outs ++ [path]) path (m + 1)))
    (hround0 : ∀ (outs : List (List Nat)) (m : Nat), outs.length ≤ 4095 → YC Try.prog 5 [.full []] (rdH q ws w rec outs [] m) [2, 10] (fun v h' => v = .p (.bool true) ∧ h' = rdH q ws w rec (outs ++ [[]]) [] m)) :
    AC Try.prog 93 [.yld 5, .ptr 3 0, .ptr 4 0] (rd6 q ws w rec []) [2] (fun _ h' => ∃ m', h' = rdH q ws w rec (rdI ws w) [] m') := by
  refine AC.of_bodyE hΓ Try.func93 (by kernel_rfl) rfl (AWp.mono (Q := fun e st => AM.Ends e ∧ ∃ m', st.h = rdH q ws w rec (rdI ws w) [] m') ?_ ?_)
  rotate_left
  · rintro e ⟨tm, h'⟩ ⟨he, m', h2⟩
    simp only at h2
    subst h2
    refine ⟨he, _, Less.refl _, ?_⟩
    unfold DoneE
    simp +contextual -implicitDefEqProofs only [Try.results93, go_sem]
    exact ⟨_, by rw [rdH_len]; simp [rd6], .inl rfl, m', List.take_length⟩
  refine AWp.seq (AWp.of_awpD [] hΓ hmix (by kernel_rfl) ?_)
  simp -implicitDefEqProofs only [Try.ntmps93, Nat.reduceAdd, Nat.reduceSub, rd6, codeB, go_sem]
  refine AWp.seq (AWp.of_awpD [] hΓ hmix (by kernel_rfl) ?_)
  simp -implicitDefEqProofs only [go_sem]
  refine callK_fn (u64 q ws w hn hws hw) (.still rfl) ?_
  simp -implicitDefEqProofs only [go_sem]
  refine AWp.seq (AWp.of_awpD [] hΓ hmix (by kernel_rfl) ?_)
  simp -implicitDefEqProofs only [go_sem]
  refine AWp.seq (AWp.of_awpD [] hΓ hmix (by kernel_rfl) ?_)
  simp -implicitDefEqProofs only [go_sem]
  refine AWp.adoptBox (l := []) 8 3 1 rfl (by simp) ?_
  simp -implicitDefEqProofs only [List.set_cons_zero, List.set_cons_succ, go_sem]
  refine AWp.seq (AWp.of_awpD [] hΓ hmix (by kernel_rfl) ?_)
  simp -implicitDefEqProofs only [go_sem]
  refine AWp.of_awpD [] hΓ hmix (by kernel_rfl) ?_
  simp -implicitDefEqProofs only [go_sem]
  have hcall := v94 hn hws hw hrec hround hround0 w.length 0 [] [] 0 (by omega) (by omega) (by simpa using hw) (by simpa using hout)
  refine callK_ac (ks := [2, 10]) (R := fun v h' => ∃ m', 0 ≤ m' ∧ v = .p (.bool true) ∧ h' = rdH q ws w rec ([] ++ (rdI ws (w.drop 0)).map ([] ++ ·)) [] m') hcall (by simp) ?_
  rintro v h' ⟨m', _, rfl, rfl⟩
  simp -implicitDefEqProofs only [killAll, List.foldl, List.drop_zero, List.nil_append, List.map_id', go_sem]
  exact ⟨m', rfl⟩

/-- The closure that gives the readings out. -/
theorem v72 {h : List AObj} (q : Int) (ws : List (List UInt8)) (w : List UInt8) :
    AC Try.prog 72 [.agg [.p (.int .i64 q), .p (.sl (ws.map .str))], .p (.str w)] h [] (fun v h' => v = .fn 93 [.ptr h.length 0, .ptr (h.length + 1) 0] ∧ h' = h ++ [codeB q ws, .box [.p (.str w)]]) := by
  refine AC.of_bodyE hΓ Try.func72 (by kernel_rfl) rfl (AWp.mono (Q := fun e st => AM.Ends e ∧ st.tmps.getD 4 .junk = .fn 93 [.ptr h.length 0, .ptr (h.length + 1) 0] ∧ st.h = h ++ [codeB q ws, .box [.p (.str w)]]) ?_ ?_)
  rotate_left
  · rintro e ⟨tm, h'⟩ ⟨he, h1, h2⟩
    simp only at h1 h2
    subst h2
    refine ⟨he, _, Less.refl _, ?_⟩
    unfold DoneE
    simp +contextual -implicitDefEqProofs only [Try.results72, h1, go_sem]
    exact ⟨_, by simp, .inl rfl, List.take_length⟩
  refine AWp.of_awpD [] hΓ hmix (by kernel_rfl) ?_
  simp -implicitDefEqProofs only [Try.ntmps72, Nat.reduceAdd, Nat.reduceSub, codeB, go_sem]
  refine ⟨by simp, by simp⟩

theorem size_slv (p : List Nat) : sizeOK [slV p] 1 := fun x hx => by
  obtain rfl := List.mem_singleton.1 hx; rfl
theorem one_slv (p : List Nat) : oneOK [slV p] := fun x hx c hc => by
  obtain rfl := List.mem_singleton.1 hx
  obtain rfl : c = slV p := by simpa [slV, PV.cells] using hc
  rfl
theorem rdH_thaw {q : Int} {ws : List (List UInt8)} {w : List UInt8} {rec o : AObj} {outs : List (List Nat)} {path : List Nat} {m nm : Nat} {xs : List PV} (hr : rec.thaw nm xs = rec) (hnm : nm = m + 11) :
    ((rdH q ws w rec outs path m ++ [o]).map (AObj.thaw nm xs)).set nm .dead = rdH q ws w rec outs path (m + 1) := by
  have h2 : ¬ 2 = nm := by omega
  have h10 : ¬ 10 = nm := by omega
  have e : (rdH q ws w rec outs path m).map (AObj.thaw nm xs) = rdH q ws w rec outs path m := by
    unfold rdH
    rw [List.map_cons, List.map_cons, List.map_cons, List.map_cons, List.map_cons, List.map_cons, hr]
    simp [codeB, AObj.thaw, AV.thaw, AV.thaw.thawL, rdC, h2, h10]
  rw [List.map_append, e, List.set_append_right _ _ (by rw [rdH_len]; omega), rdH_len, hnm, Nat.sub_self]
  simp only [List.map_cons, List.set_cons_zero, List.map_nil]
  unfold rdH
  rw [List.replicate_succ']
  rfl

def facE (q : Int) (ws : List (List UInt8)) (w : List UInt8) : Int := if codeCheck q ws = 0 then (if wordCheck q w = 0 then (if 4096 < cnt ws w then 4 else 0) else wordCheck q w) else 1
def facR (q : Int) (ws : List (List UInt8)) (w : List UInt8) : List (List Nat) := if codeCheck q ws = 0 ∧ wordCheck q w = 0 ∧ cnt ws w ≤ 4096 then rdI ws w else []

theorem u39 (q : Int) (ws : List (List UInt8)) (w : List UInt8) (hw : codeCheck q ws = 0 → wordCheck q w = 0 → w.length ≤ 40) :
    PFn Try.prog 39 [codeV q ws, .str w] [.sl ((facR q ws w).map slV), .int .i64 (facE q ws w)] := by
  have e1 := u63 q ws w
  by_cases h : codeCheck q ws = 0
  rotate_left
  · rw [if_neg h] at e1
    unfold facR facE
    rw [if_neg (fun e => h e.1), if_neg h]
    refine PFn.of_body hΓ Try.func39 (by kernel_rfl) rfl (AWp.of_awpD [(4, 8)] hΓ hmix (by kernel_rfl) ?_)
    simp +contextual -implicitDefEqProofs only [codeV, Try.ntmps39, Try.results39, Nat.reduceAdd, Nat.reduceSub, go_sem]
    refine callK_fn e1 (.still rfl) ?_
    have h10 : ¬ (1 : Int) = 0 := by decide
    simp -implicitDefEqProofs only [h10, go_sem]
  by_cases h2 : wordCheck q w = 0
  rotate_left
  · rw [if_pos h] at e1
    unfold facR facE
    rw [if_neg (fun e => h2 e.2.1), if_pos h, if_neg h2]
    refine PFn.of_body hΓ Try.func39 (by kernel_rfl) rfl (AWp.of_awpD [(4, 8)] hΓ hmix (by kernel_rfl) ?_)
    simp +contextual -implicitDefEqProofs only [codeV, Try.ntmps39, Try.results39, Nat.reduceAdd, Nat.reduceSub, go_sem]
    refine callK_fn e1 (.still rfl) ?_
    simp -implicitDefEqProofs only [h2, go_sem]
  have hv := valid_of h
  have hn : ∀ x ∈ ws, x ≠ [] := fun x hx => (hv.words x hx).1
  have hws : ws.length ≤ 256 := by have := hv.len; omega
  have hwl := hw h h2
  have e2 := u64 q ws w hn hws hwl
  have e3 := u34 4096 (by omega)
  have hc40 := cnt_cap hn hws hwl
  have e4 := u33 (cnt ws w) 4096 (cap_40 hc40) (cap_40 (show 4096 ≤ 256 ^ 40 from by decide))
  have hg : (cntR ws w 0).getD (Int.toNat 0) default = .agg [.bool false, .str (magB (cnt ws w))] := by
    rw [show Int.toNat 0 = 0 from rfl, List.getD_eq_getElem?_getD, cntR_get (by omega), Option.getD_some, if_pos (Nat.le_refl _), List.drop_zero, intN_pos]
  simp only [intN_pos] at e3 e4
  rw [if_pos h, h2] at e1
  by_cases h3 : 4096 < cnt ws w
  · rw [cmpN_gt h3] at e4
    unfold facR facE
    rw [if_neg (fun e => by omega), if_pos h, if_pos h2, if_pos h3]
    refine PFn.of_body hΓ Try.func39 (by kernel_rfl) rfl (AWp.of_awpD [(4, 8)] hΓ hmix (by kernel_rfl) ?_)
    simp +contextual -implicitDefEqProofs only [codeV, Try.ntmps39, Try.results39, Nat.reduceAdd, Nat.reduceSub, go_sem]
    refine callK_fn e1 (.still rfl) ?_
    simp -implicitDefEqProofs only [go_sem]
    refine callVPK_fn e2 (.still rfl) ?_
    simp -implicitDefEqProofs only [cntR_len, hg, go_sem]
    refine ⟨by omega, callVPK_fn e3 (.pures rfl) ?_⟩
    simp -implicitDefEqProofs only [go_sem]
    refine callVPK_fn e4 (.still rfl) ?_
    have h01 : (0 : Int) < 1 := by decide
    simp -implicitDefEqProofs only [h01, go_sem]
  have hcm : ¬ 0 < cmpN (cnt ws w) 4096 := by
    unfold cmpN
    split
    · decide
    · rw [if_pos (by omega)]; decide
  generalize cmpN (cnt ws w) 4096 = cm at e4 hcm
  unfold facR facE
  rw [if_pos ⟨h, h2, by omega⟩, if_pos h, if_pos h2, if_neg h3]
  refine PFn.of_body hΓ Try.func39 (by kernel_rfl) rfl (AWp.seq (AWp.of_awpD [] hΓ hmix (by kernel_rfl) ?_))
  simp -implicitDefEqProofs only [Try.ntmps39, Try.results39, Nat.reduceAdd, Nat.reduceSub, codeV, go_sem]
  refine AWp.seq (AWp.of_awpD [(4, 8)] hΓ hmix (by kernel_rfl) ?_)
  simp -implicitDefEqProofs only [go_sem]
  refine callK_fn e1 (.still rfl) ?_
  simp -implicitDefEqProofs only [go_sem]
  refine AWp.seq (AWp.of_awpD [(4, 8)] hΓ hmix (by kernel_rfl) ?_)
  simp -implicitDefEqProofs only [go_sem]
  refine callVPK_fn e2 (.still rfl) ?_
  simp -implicitDefEqProofs only [cntR_len, hg, go_sem]
  refine ⟨by omega, callVPK_fn e3 (.pures rfl) ?_⟩
  simp -implicitDefEqProofs only [go_sem]
  refine callVPK_fn e4 (.still rfl) ?_
  simp -implicitDefEqProofs only [hcm, go_sem]
  refine AWp.seq (AWp.of_awpD [] hΓ hmix (by kernel_rfl) ?_)
  simp -implicitDefEqProofs only [go_sem]
  refine AWp.adoptBox (l := []) 1 53 1 rfl (by simp) ?_
  simp -implicitDefEqProofs only [List.set_cons_zero, List.set_cons_succ, go_sem]
  refine AWp.seq (AWp.of_awpD [] hΓ hmix (by kernel_rfl) ?_)
  simp -implicitDefEqProofs only [go_sem]
  refine callK_ac (v72 q ws w) (by simp) ?_
  rintro v h' ⟨rfl, rfl⟩
  simp -implicitDefEqProofs only [killAll, List.foldl, codeB, go_sem]
  rw [show (#[26] : Array Nat) = [26].toArray from rfl]
  have hout : (rdI ws w).length ≤ 4096 := by rw [rdI_len hn w.length w (Nat.le_refl _)]; omega
  refine AWp.rangeFunc (ks := [2]) (R := fun _ h' => ∃ m', h' = rdH q ws w (.lp _ _ _ _ _) (rdI ws w) [] m') rfl (v93 hn hws hwl hout ?_ ?_ ?_) (by simp) (by simp) ?_
  · rintro k (rfl | rfl) <;> rfl
  · intro outs path m rk ho hrk hp
    refine YC.of_body (Γ := Γ) rfl rfl (by simp) ?_
    intro rr
    generalize hnm : (List.replicate m AObj.dead).length + 1 + 1 + 1 + 1 + 1 + 1 + 1 + 1 + 1 + 1 + 1 = nm
    have hnm2 : nm = m + 11 := by rw [← hnm, List.length_replicate]
    refine AWp.freeze nm (E := 3) (s := 1) (xs := path.map ivN) (k := rk) (by
      show (rdH _ _ _ _ _ _ _ ++ [_])[nm]? = _
      rw [List.getElem?_append_right (by rw [rdH_len]; omega), rdH_len, hnm2, Nat.sub_self]; rfl) ?_
    unfold Frozen
    simp only
    rw [rdH_thaw (by simp [AObj.thaw, AV.thaw, AV.thaw.thawL]) hnm2]
    refine AWp.of_awpD [] hΓ hmix (by kernel_rfl) ?_
    simp -implicitDefEqProofs only [setP, AV.thaw, AV.thaw.thawL, List.map_cons, List.map_nil, rdH, go_sem]
    unfold BeginE
    refine ⟨rfl, ?_⟩
    simp -implicitDefEqProofs only [codeB, go_sem]
    refine AWp.of_awpD [] hΓ hmix (by kernel_rfl) ?_
    simp -implicitDefEqProofs only [go_sem]
    refine ⟨⟨size_slv path, by omega⟩, ⟨size_slv path, one_slv path⟩, ⟨pk_raw outs, .inr (by simp), by omega, by omega⟩, ?_⟩
    unfold RoundE
    simp -implicitDefEqProofs only [killAll, List.foldl, AObj.kill, AV.kill, AV.kill.killL, go_sem]
    rw [show AV.kill.killL 2 rdC = rdC from rfl, show List.map (AObj.kill 2) (List.replicate m .dead) = List.replicate m .dead by rw [List.map_replicate]; rfl]
    refine ⟨_, ?_, .inl rfl, ?_⟩
    rotate_left
    · rw [List.take_length]
      simp [codeB, pk_snoc, slV]
    · simp
  · intro outs m ho
    refine YC.of_body (Γ := Γ) rfl rfl (by simp) ?_
    intro rr
    refine AWp.of_awpD [] hΓ hmix (by kernel_rfl) ?_
    simp -implicitDefEqProofs only [setP, rdH, go_sem]
    unfold BeginE
    refine ⟨rfl, ?_⟩
    simp -implicitDefEqProofs only [codeB, go_sem]
    refine AWp.of_awpD [] hΓ hmix (by kernel_rfl) ?_
    simp -implicitDefEqProofs only [go_sem]
    refine ⟨⟨size_slv [], by omega⟩, ⟨size_slv [], one_slv []⟩, ⟨pk_raw outs, .inr (by simp), by omega, by omega⟩, ?_⟩
    unfold RoundE
    simp -implicitDefEqProofs only [killAll, List.foldl, AObj.kill, AV.kill, AV.kill.killL, go_sem]
    rw [show AV.kill.killL 2 rdC = rdC from rfl, show List.map (AObj.kill 2) (List.replicate m .dead) = List.replicate m .dead by rw [List.map_replicate]; rfl]
    refine ⟨_, ?_, .inl rfl, ?_⟩
    rotate_left
    · rw [List.take_length]
      simp [codeB, pk_snoc, slV]
    · simp
  · rintro v h' ⟨m', rfl⟩
    unfold RangeK
    simp -implicitDefEqProofs only [killAll, List.foldl, rdH, codeB, go_sem]
    refine AWp.freeze 2 rfl ?_
    refine AWp.of_awpD [] hΓ hmix (by kernel_rfl) ?_
    simp -implicitDefEqProofs only [Frozen, go_sem]
end Go.Proofs.Ytgkbafkmbokkaaa
end

section
namespace Go.Proofs.Ytgkbafkmbokkaaa
open Go Go.AM
set_option maxRecDepth 100000
set_option linter.unusedSimpArgs false

/-- Where a word is first, or -1. -/
def ixL (x : List UInt8) : List (List UInt8) → Nat → Int
  | [], _ => -1
  | a :: l, k => if a = x then k else ixL x l (k + 1)
theorem ixL_at (x : List UInt8) : ∀ (l : List (List UInt8)) (n k : Nat) (hk : k < l.length), (∀ j (hj : j < k), l[j] ≠ x) → l[k] = x → ixL x l n = ((n + k : Nat) : Int)
  | [], n, k, hk, _, _ => absurd hk (Nat.not_lt_zero k)
  | a :: l, n, 0, _, _, h => by
    have : a = x := h
    subst this; unfold ixL; simp
  | a :: l, n, k + 1, hk, h0, h => by
    have h1 : a ≠ x := h0 0 (by omega)
    unfold ixL
    rw [if_neg h1]
    refine (ixL_at x l (n + 1) k (by simpa using hk) (fun j hj => h0 (j + 1) (by omega)) h).trans ?_
    congr 1; omega
theorem ixL_none (x : List UInt8) : ∀ (l : List (List UInt8)) (n : Nat), x ∉ l → ixL x l n = -1
  | [], _, _ => rfl
  | a :: l, n, h => by
    simp only [List.mem_cons, not_or] at h
    unfold ixL
    rw [if_neg (fun e => h.1 e.symm)]
    exact ixL_none x l (n + 1) h.2
theorem ixL_mem (x : List UInt8) : ∀ (l : List (List UInt8)) (n : Nat), decide (0 ≤ ixL x l n) = decide (x ∈ l)
  | [], _ => by simp [ixL]
  | a :: l, n => by
    unfold ixL
    by_cases h : a = x
    · rw [if_pos h, decide_eq_true (by omega), decide_eq_true (by simp [h])]
    · rw [if_neg h, ixL_mem x l (n + 1)]
      exact decide_eq_decide.2 ⟨fun h' => by simp [h'], fun h' => (List.mem_cons.1 h').resolve_left (fun e => h e.symm)⟩

theorem t48 (ws : List (List UInt8)) (x : List UInt8) (hl : ws.length ≤ 9223372036854775807) : PFn Try.prog 79 [.sl (ws.map .str), .str x] [.int .i64 (ixL x ws 0)] := by
  refine PFn.of_body hΓ Try.func79 (by kernel_rfl) rfl (AWp.of_awpD [] hΓ hmix (by kernel_rfl) ?_)
  simp +contextual -implicitDefEqProofs only [Try.ntmps79, Try.results79, Nat.reduceAdd, Nat.reduceSub, go_sem]
  refine AWp.loopI (fun k : Nat => ⟨mkF 19 [(0, .p (.sl (ws.map .str))), (1, .p (.str x)), (7, .p (.int .i64 ws.length)), (8, .p (.int .i64 k))], []⟩)
    (fun k => k ≤ ws.length ∧ ∀ j (hj : j < ws.length), j < k → ws[j] ≠ x) (fun k => ws.length - k) 0 (by simp [go_sem]) (by simp) ?_
  rintro k ⟨hk, h0⟩
  refine AWp.of_awpD [] hΓ hmix (by kernel_rfl) ?_
  simp +contextual -implicitDefEqProofs only [getD_map_lt, ↓reduceIte, go_sem]
  refine ⟨fun hlt => ⟨fun he => ?_, fun hne => ⟨by simp only [InR]; omega, k + 1, by simp, ⟨hlt, fun j hj hjk => ?_⟩, by omega⟩⟩, fun hge => ?_⟩
  · rw [← he, ixL_at x ws 0 k hlt (fun j hj => h0 j (by omega) hj) he.symm]; simp
  · by_cases hjk' : j < k
    · exact h0 j hj hjk'
    · have : j = k := by omega
      subst this; exact fun e => hne e.symm
  · refine (ixL_none x ws 0 (fun hm => ?_)).symm
    obtain ⟨j, hj, e⟩ := List.getElem_of_mem hm
    exact h0 j hj (by omega) e

theorem t16 (ws : List (List UInt8)) (x : List UInt8) (hl : ws.length ≤ 9223372036854775807) : PFn Try.prog 44 [.sl (ws.map .str), .str x] [.bool (decide (x ∈ ws))] := by
  refine PFn.of_body hΓ Try.func44 (by kernel_rfl) rfl (AWp.of_awpD [] hΓ hmix (by kernel_rfl) ?_)
  simp +contextual -implicitDefEqProofs only [Try.ntmps44, Try.results44, Nat.reduceAdd, Nat.reduceSub, go_sem]
  refine callK_fn (t48 ws x hl) (.pures rfl) ?_
  simp -implicitDefEqProofs only [go_sem]
  exact ixL_mem x ws 0

end Go.Proofs.Ytgkbafkmbokkaaa
end

section
namespace Go.Proofs.Ytgkbafkmbokkaaa
open Go Go.AM
set_option maxRecDepth 100000
set_option linter.unusedSimpArgs false

def longB (l : List (List UInt8)) : Bool := l.any fun x => decide (32 < x.length)

theorem weakH_two (a b : AObj) : ∀ D : List AObj, weakH (D ++ [a, b]) (D ++ [.dead, .dead])
  | [] => ⟨.inl rfl, .inl rfl, trivial⟩
  | _ :: D => ⟨.inr (.inl rfl), weakH_two a b D⟩
/-- The inner loop's frame and heap: word k's digits, j of them. -/
def lzF (EE : Int) (k : Nat) (b : Bool) (cs : List (List UInt8)) (w : List UInt8) (n j : Nat) : List AV := mkF 178 [(2, .ptr 0 0), (3, .ptr 1 0), (5, .ptr 2 0), (6, .p (.int .i64 EE)), (7, .own 3 k), (8, .p (.bool b)), (10, .p (.str w)), (11, .own (n + 1 + 1 + 1 + 1 + 1) j), (53, .p (.sl (cs.map .str))), (54, .p (.int .i64 cs.length)), (55, .p (.int .i64 k)), (60, .own (n + 1 + 1 + 1 + 1) w.length), (61, .p (.int .i64 w.length)), (62, .p (.int .i64 j))]
def lzH (p q xq : Int) (cs ds xw : List (List UInt8)) (WS : List PV) (D : List AObj) (w : List UInt8) (j : Nat) : List AObj := codeB p cs :: codeB q ds :: codeB xq xw :: .row 9 1 WS .lax :: (D ++ [AObj.row 5 1 (w.map u8V) .raw, .row 3 1 (((w.take j).map fun b => ixB b L16 0).map (.int .i64)) .lax])

set_option maxHeartbeats 4000000 in
theorem u9 (p q : Int) (cs ds : List (List UInt8)) (hcs : cs.length ≤ 9223372036854775807) (hds : ds.length ≤ 9223372036854775807) : PFn Try.prog 9 [codeV p cs, codeV q ds] [.bool true] := by
  refine PFn.of_body hΓ Try.func9 (by kernel_rfl) rfl (AWp.of_awpD [] hΓ hmix (by kernel_rfl) ?_)
  simp +contextual -implicitDefEqProofs only [codeV, Try.ntmps9, Try.results9, Nat.reduceAdd, Nat.reduceSub, go_sem]
  refine callK_fn (u28 p cs hcs) (.still rfl) ?_
  cases hf1 : fineB p cs
  · simp -implicitDefEqProofs only [go_sem]
    refine callK_fn awake_ok (.pures rfl) ?_
    simp -implicitDefEqProofs only [go_sem]
  simp -implicitDefEqProofs only [go_sem]
  refine callK_fn (u28 q ds hds) (.still rfl) ?_
  cases hf2 : fineB q ds
  · simp -implicitDefEqProofs only [go_sem]
    refine callK_fn awake_ok (.pures rfl) ?_
    simp -implicitDefEqProofs only [go_sem]
  simp only [fineB, Bool.and_eq_true, decide_eq_true_eq] at hf1 hf2
  have h1 := hf1.2
  have h2 := hf2.2
  have hv := valid_of h1
  have hd := valid_of h2
  have hcl := hv.len
  have hdl := hd.len
  have e26 := u26 p q cs ds
  by_cases h3 : (ds.length : Int) = p
  rotate_left
  · have ex : compQ p q cs ds = codeV 0 [] := by unfold compQ; rw [if_neg (fun e => h3 e.2.2.1)]
    have ee : compE p q cs ds = 11 := by unfold compE; rw [if_pos ⟨h1, h2⟩, if_neg h3]
    rw [ex, ee] at e26
    simp -implicitDefEqProofs only [go_sem]
    refine callK_fn e26 (.still rfl) ?_
    simp -implicitDefEqProofs only [codeV, List.length_map, h3, go_sem]
    refine callK_fn awake_ok (.pures rfl) ?_
    simp -implicitDefEqProofs only [go_sem]
  have hwd : ∀ x ∈ ds, x.length ≤ 32 := fun x hx => (hd.words x hx).2.1
  obtain ⟨xq, xw, EE, hx, hEE, hor⟩ : ∃ xq xw EE, compQ p q cs ds = codeV xq xw ∧ compE p q cs ds = EE ∧ (longB (compL cs ds) = false ∧ xq = q ∧ xw = made (compL cs ds) ∧ EE = 0 ∨ longB (compL cs ds) = true ∧ EE = 4) := by
    have hcw : ∀ x ∈ compL cs ds, x ≠ [] ∧ wordCheck q x = 0 := fun x hx => by
      obtain ⟨w, hw, rfl⟩ := List.mem_map.1 hx
      exact comp_word hv hd h3 hw
    have hcl2 : (compL cs ds).length = cs.length := by simp [compL]
    cases hLB : longB (compL cs ds)
    · have hc0 : codeCheck q (made (compL cs ds)) = 0 := by
        refine check_of hd.q2 hd.q16 (fun e => ?_) (by have := made_le (compL cs ds); omega) (fun x hx => ?_) (made_strict _)
        · have hp := hv.pos
          have : compW ds cs[0] ∈ made (compL cs ds) := mem_made.2 (List.mem_map.2 ⟨_, List.getElem_mem hp, rfl⟩)
          rw [e] at this; cases this
        · have hx := mem_made.1 hx
          refine ⟨(hcw x hx).1, ?_, (hcw x hx).2⟩
          unfold longB at hLB
          have := List.any_eq_false.1 hLB x hx
          simp at this; omega
      refine ⟨q, made (compL cs ds), 0, ?_, ?_, .inl ⟨rfl, rfl, rfl, rfl⟩⟩
      · unfold compQ; rw [if_pos ⟨h1, h2, h3, hc0⟩]
      · unfold compE; rw [if_pos ⟨h1, h2⟩, if_pos h3, hc0]
    · have hc4 : codeCheck q (made (compL cs ds)) = 4 := by
        refine long_check hd.q2 hd.q16 (by omega) hcw ?_
        unfold longB at hLB
        obtain ⟨x, hx1, hx2⟩ := List.any_eq_true.1 hLB
        exact ⟨x, hx1, of_decide_eq_true hx2⟩
      refine ⟨0, [], 4, ?_, ?_, .inr ⟨rfl, rfl⟩⟩
      · unfold compQ; rw [if_neg (fun e => by have := e.2.2.2; omega)]
      · unfold compE; rw [if_pos ⟨h1, h2⟩, if_pos h3, hc4]
  rw [hEE] at e26
  rw [hx] at e26
  simp -implicitDefEqProofs only [go_sem]
  refine callK_fn e26 (.still rfl) ?_
  simp -implicitDefEqProofs only [codeV, List.length_map, h3, go_sem]
  refine AWp.adopt (l := []) 7 9 1 (by rfl) (by simp) ?_
  simp -implicitDefEqProofs only [go_sem]
  refine AWp.loopI (fun k : Nat => ⟨mkF 178 [(2, .ptr 0 0), (3, .ptr 1 0), (5, .ptr 2 0), (6, .p (.int .i64 EE)), (7, .own 3 k), (8, .p (.bool (longB (compL (cs.take k) ds)))), (53, .p (.sl (cs.map .str))), (54, .p (.int .i64 cs.length)), (55, .p (.int .i64 k))], codeB p cs :: codeB q ds :: codeB xq xw :: .row 9 1 ((compL (cs.take k) ds).map .str) .lax :: List.replicate (2 * k) .dead⟩)
    (fun k => k ≤ cs.length) (fun k => cs.length - k) 0 (by simp [go_sem, codeB, compL, longB]) (by omega) ?_
  intro k hk
  obtain ⟨D, hD⟩ : ∃ D : List AObj, D = List.replicate (2 * k) .dead := ⟨_, rfl⟩
  have hDk : ∀ n, D.map (AObj.kill n) = D := fun n => by rw [hD]; simp [AObj.kill]
  have g0 : ∀ a : AObj, (D ++ [a])[D.length]? = some a := fun a => by simp
  have gA : ∀ a b : AObj, (D ++ [a, b])[D.length]? = some a := fun a b => by simp
  have gB : ∀ a b : AObj, (D ++ [a, b])[D.length + 1]? = some b := fun a b => by simp
  have sB : ∀ a b b' : AObj, (D ++ [a, b]).set (D.length + 1) b' = D ++ [a, b'] := fun a b b' => by simp
  by_cases hlt : k < cs.length
  · rw [← hD]
    have hkl : cs[k].length ≤ 32 := by
      have := hv.short k hlt
      rwa [List.getD_eq_getElem?_getD, List.getElem?_eq_getElem hlt, Option.getD_some] at this
    simp -implicitDefEqProofs only [codeB, go_sem]
    refine AWp.seq (AWp.of_awpD [] hΓ hmix (by kernel_rfl) ?_)
    simp -implicitDefEqProofs only [hlt, getD_map_lt, ↓reduceIte, go_sem]
    refine AWp.seq (AWp.of_awpD [] hΓ hmix (by kernel_rfl) ?_)
    simp -implicitDefEqProofs only [hlt, getD_map_lt, ↓reduceIte, go_sem]
    refine AWp.seq (AWp.block (AWp.seq (AWp.of_awpD [] hΓ hmix (by kernel_rfl) ?_)))
    simp -implicitDefEqProofs only [hlt, getD_map_lt, ↓reduceIte, go_sem]
    refine AWp.seq (AWp.of_awpD [] hΓ hmix (by kernel_rfl) ?_)
    simp -implicitDefEqProofs only [go_sem]
    refine AWp.seq (AWp.seq (AWp.of_awpD [] hΓ hmix (by kernel_rfl) ?_))
    simp -implicitDefEqProofs only [go_sem]
    refine ⟨by omega, ?_⟩
    refine AWp.adopt (l := []) 11 3 1 (by rfl) (by simp) ?_
    simp -implicitDefEqProofs only [go_sem]
    refine AWp.block ?_
    refine AWp.mono (Q := fun e st => e = .exit 2 ∧ Weak st ⟨lzF EE k (longB (compL (cs.take k) ds)) cs cs[k] D.length cs[k].length, lzH p q xq cs ds xw ((compL (cs.take k) ds).map .str) D cs[k] cs[k].length⟩) ?_ ?_
    · refine AWp.loopI (fun j : Nat => ⟨lzF EE k (longB (compL (cs.take k) ds)) cs cs[k] D.length j, lzH p q xq cs ds xw ((compL (cs.take k) ds).map .str) D cs[k] j⟩)
        (fun j => j ≤ cs[k].length) (fun j => cs[k].length - j) 0 (by
          simp [go_sem, lzF, lzH, codeB, weakH_self]) (by omega) ?_
      intro j hj
      simp -implicitDefEqProofs only [lzF, lzH, codeB, go_sem]
      refine AWp.of_awpD [] hΓ hmix (by kernel_rfl) ?_
      by_cases hlt2 : j < cs[k].length
      · have hu : (cs[k].map u8V).getD j default = .int .u8 cs[k][j].toNat := by rw [getD_map_lt _ _ _ _ hlt2]; rfl
        have e101 := t101 L16 cs[k][j].toNat
        have eb : ((cs[k][j].toNat : Nat) : Int).toNat.toUInt8 = cs[k][j] := by simp
        rw [eb] at e101
        simp -implicitDefEqProofs only [lzF, lzH, hlt, hlt2, hu, gA, gB, ↓reduceIte, codeB, go_sem]
        refine callK_fn e101 (.pures rfl) ?_
        simp -implicitDefEqProofs only [gA, gB, sB, hDk, List.map_append, go_sem]
        have hne : ¬ D.length = D.length + 1 := by omega
        have hs1 : ∀ x : Int, sizeOK [PV.int .i64 x] 1 := fun x => by simp [sizeOK, PV.cells]
        have ho1 : ∀ x : Int, oneOK [PV.int .i64 x] := fun x => by simp [oneOK, PV.cells, PV.isAgg]
        have hints : (((cs[k].take (j + 1)).map fun b => ixB b L16 0).map (PV.int .i64)) = (((cs[k].take j).map fun b => ixB b L16 0).map (PV.int .i64)) ++ [PV.int .i64 (ixB cs[k][j] L16 0)] := by
          rw [List.take_succ_eq_append_getElem hlt2, List.map_append, List.map_append]; rfl
        have e3 : ∀ a b : AObj, D ++ [a, b] = (D ++ [a]) ++ [b] := fun a b => by simp
        refine ⟨⟨hs1 _, by omega⟩, ⟨hs1 _, ho1 _⟩, ⟨.inl (by omega), by omega, by omega⟩, by simp only [InR]; omega, j + 1, ⟨⟨rfl, by rw [if_neg hne], by omega⟩, ?_⟩, hlt2, by omega⟩
        rw [hints, e3, e3]
        refine weakH_snoc ?_ _
        exact .inr (.inr rfl)
      · have hj' : j = cs[k].length := by omega
        have hz : ¬ (cs[k].length : Int) < cs[k].length := by omega
        rw [hj']
        simp -implicitDefEqProofs only [hz, lzF, lzH, codeB, go_sem]
        exact weakH_self _
    rintro e st ⟨rfl, hw⟩
    show AWp _ _ _ _ _
    refine AWp.weak hw ?_
    clear hw
    have hwk := List.getElem_mem hlt
    have hlet := letOK_of (hv.words _ hwk).2.2
    have hcw := compW_len hwd cs[k]
    have e37 := u37 q ds (cs[k].map fun b => ixB b L16 0) (by simp; omega)
    have ee : encE q ds (cs[k].map fun b => ixB b L16 0) = 0 := by
      unfold encE; rw [if_pos h2, if_pos (encIn_comp h3 hlet), encL_comp, if_neg (by omega)]
    have es : encS q ds (cs[k].map fun b => ixB b L16 0) = compW ds cs[k] := by
      unfold encS; rw [if_pos ee, encL_comp]
    rw [ee, es] at e37
    have hs : compL (cs.take (k + 1)) ds = compL (cs.take k) ds ++ [compW ds cs[k]] := by
      unfold compL; rw [List.take_succ_eq_append_getElem hlt, List.map_append]; rfl
    have hlong : longB (compL (cs.take (k + 1)) ds) = (longB (compL (cs.take k) ds) || decide (32 < (compW ds cs[k]).length)) := by
      rw [hs]; unfold longB; rw [List.any_append]; simp
    have hkl3 : (compL (cs.take k) ds).length = k := by unfold compL; simp; omega
    simp -implicitDefEqProofs only [lzF, lzH, codeB, List.take_length, go_sem]
    refine AWp.of_awpD [] hΓ hmix (by kernel_rfl) ?_
    simp -implicitDefEqProofs only [go_sem]
    refine callK_fn e37 (.inr (.inr ⟨?_, rfl⟩)) ?_
    · simp [AV.purL, AV.pur, AV.pur1, AV.purL1, gB, codeV]
    cases hLB : longB (compL (cs.take k) ds)
    · rw [hLB, Bool.false_or] at hlong
      simp -implicitDefEqProofs only [codeB, hDk, gB, gA, List.map_append, hLB, go_sem]
      refine ⟨⟨size_str [_], by omega⟩, ⟨size_str [_], one_str [_]⟩, ⟨.inl (by omega), by omega, by omega⟩, ?_⟩
      refine AWp.of_awpD [] hΓ hmix (by kernel_rfl) ?_
      simp -implicitDefEqProofs only [codeB, go_sem]
      refine ⟨by simp only [InR]; omega, k + 1, ⟨⟨rfl, by rw [hlong]; exact decide_eq_decide.2 (by omega), by omega⟩, .inr (by rw [hs, List.map_append]; rfl), ?_⟩, hlt, by omega⟩
      rw [show 2 * (k + 1) = 2 * k + 1 + 1 by omega, List.replicate_succ', List.replicate_succ', ← hD, List.append_assoc]
      exact weakH_two _ _ D
    · rw [hLB, Bool.true_or] at hlong
      simp -implicitDefEqProofs only [codeB, hDk, gB, gA, List.map_append, hLB, go_sem]
      refine ⟨⟨size_str [_], by omega⟩, ⟨size_str [_], one_str [_]⟩, ⟨.inl (by omega), by omega, by omega⟩, ?_⟩
      refine AWp.of_awpD [] hΓ hmix (by kernel_rfl) ?_
      simp -implicitDefEqProofs only [codeB, go_sem]
      refine ⟨by simp only [InR]; omega, k + 1, ⟨⟨rfl, hlong, by omega⟩, .inr (by rw [hs, List.map_append]; rfl), ?_⟩, hlt, by omega⟩
      rw [show 2 * (k + 1) = 2 * k + 1 + 1 by omega, List.replicate_succ', List.replicate_succ', ← hD, List.append_assoc]
      exact weakH_two _ _ D
  · have hkn : k = cs.length := by omega
    rw [hkn, List.take_of_length_le (Nat.le_refl _)]
    have hz : ¬ (cs.length : Int) < cs.length := by omega
    simp -implicitDefEqProofs only [codeB, go_sem]
    refine AWp.freeze 3 rfl ?_
    refine AWp.of_awpD [] hΓ hmix (by kernel_rfl) ?_
    have hth : ∀ l, (List.replicate (2 * cs.length) AObj.dead).map (AObj.thaw 3 l) = List.replicate (2 * cs.length) AObj.dead := fun l => by simp [AObj.thaw]
    rcases hor with ⟨hLB, hxq, hxw, hE0⟩ | ⟨hLB, hE4⟩
    rotate_left
    · rw [hLB, hE4]
      simp -implicitDefEqProofs only [hz, Frozen, go_sem]
      refine callK_fn awake_ok (.pures rfl) ?_
      simp -implicitDefEqProofs only [go_sem]
    rw [hLB, hxq, hxw, hE0]
    have hvm : codeCheck q (made (compL cs ds)) = 0 := by
      have hh := hEE
      unfold compE at hh
      rw [if_pos ⟨h1, h2⟩, if_pos h3, hE0] at hh
      exact hh
    have hml := (valid_of hvm).len
    have e45 := t45 q (made (compL cs ds))
    rw [hvm] at e45
    have hll : (compL cs ds).length = cs.length := by simp [compL]
    generalize hM : made (compL cs ds) = M at *
    generalize hLL : compL cs ds = LL at *
    simp -implicitDefEqProofs only [hz, Frozen, hth, go_sem]
    refine callK_fn e45 (.still rfl) ?_
    simp -implicitDefEqProofs only [go_sem]
    refine AWp.loopI (fun i : Nat => ⟨mkF 178 [(2, .ptr 0 0), (3, .ptr 1 0), (5, .ptr 2 0), (7, .p (.sl (LL.map .str))), (111, .p (.sl (LL.map .str))), (112, .p (.int .i64 LL.length)), (113, .p (.int .i64 i))], codeB p cs :: codeB q ds :: codeB q M :: .dead :: List.replicate (2 * cs.length) .dead⟩)
      (fun i => i ≤ LL.length) (fun i => LL.length - i) 0 (by simp [go_sem, codeB, weakH_self]) (by omega) ?_
    intro i hi
    simp -implicitDefEqProofs only [codeB, go_sem]
    refine AWp.of_awpD [] hΓ hmix (by kernel_rfl) ?_
    by_cases hi2 : i < LL.length
    · have hmem : decide (LL[i] ∈ M) = true := decide_eq_true (by rw [← hM]; exact mem_made.2 (List.getElem_mem hi2))
      have e44 := t16 M LL[i] (by omega)
      rw [hmem] at e44
      simp -implicitDefEqProofs only [hi2, getD_map_lt, ↓reduceIte, go_sem]
      refine callK_fn e44 (.pures rfl) ?_
      simp -implicitDefEqProofs only [hi2, getD_map_lt, ↓reduceIte, go_sem]
      exact ⟨by simp only [InR]; omega, i + 1, ⟨by omega, .inr rfl, .inr rfl, .inr rfl, weakH_self _⟩, hi2, by omega⟩
    · have hi3 : i = LL.length := by omega
      have hz2 : ¬ (LL.length : Int) < LL.length := by omega
      rw [hi3]
      simp -implicitDefEqProofs only [hz2, List.length_map, go_sem]
      refine AWp.loopI (fun i : Nat => ⟨mkF 178 [(2, .ptr 0 0), (3, .ptr 1 0), (5, .ptr 2 0), (7, .p (.sl (LL.map .str))), (124, .p (.sl (M.map .str))), (125, .p (.int .i64 M.length)), (126, .p (.int .i64 i))], codeB p cs :: codeB q ds :: codeB q M :: .dead :: List.replicate (2 * cs.length) .dead⟩)
        (fun i => i ≤ M.length) (fun i => M.length - i) 0 (by simp [go_sem, codeB, weakH_self]) (by omega) ?_
      intro m hm
      simp -implicitDefEqProofs only [codeB, go_sem]
      refine AWp.of_awpD [] hΓ hmix (by kernel_rfl) ?_
      by_cases hm2 : m < M.length
      · have hmem : decide (M[m] ∈ LL) = true := decide_eq_true (by
          refine mem_made.1 ?_
          rw [hM]
          exact List.getElem_mem hm2)
        have e44 := t16 LL M[m] (by omega)
        rw [hmem] at e44
        simp -implicitDefEqProofs only [hm2, getD_map_lt, ↓reduceIte, go_sem]
        refine callK_fn e44 (.pures rfl) ?_
        simp -implicitDefEqProofs only [hm2, getD_map_lt, ↓reduceIte, go_sem]
        exact ⟨by simp only [InR]; omega, m + 1, ⟨by omega, .inr rfl, .inr rfl, .inr rfl, weakH_self _⟩, hm2, by omega⟩
      · have hm3 : m = M.length := by omega
        have hz3 : ¬ (M.length : Int) < M.length := by omega
        rw [hm3]
        have e1 := t38 p cs
        have e2 := t38 q ds
        have e3 := t38 q M
        rw [if_pos h1, if_pos h1] at e1
        rw [if_pos h2, if_pos h2] at e2
        rw [if_pos hvm, if_pos hvm] at e3
        simp -implicitDefEqProofs only [hz3, go_sem]
        refine callK_fn e1 (.still rfl) ?_
        simp -implicitDefEqProofs only [go_sem]
        refine callK_fn e2 (.still rfl) ?_
        simp -implicitDefEqProofs only [go_sem]
        refine callK_fn e3 (.still rfl) ?_
        cases hP : aloneB (fun w x => x.isPrefixOf w) cs
        · simp -implicitDefEqProofs only [ite_self, go_sem]
          refine callK_fn awake_ok (.pures rfl) ?_
          simp -implicitDefEqProofs only [go_sem]
        · cases hQ : aloneB (fun w x => x.isPrefixOf w) ds
          · simp -implicitDefEqProofs only [ite_self, go_sem]
            refine callK_fn awake_ok (.pures rfl) ?_
            simp -implicitDefEqProofs only [go_sem]
          · have hca := comp_alone hv hd h3 hP hQ
            rw [hLL, hM] at hca
            have hlq : (M.length : Int) = cs.length := by omega
            rw [hca.1]
            simp -implicitDefEqProofs only [ite_self, List.length_map, hlq, go_sem]
            refine callK_fn awake_ok (.pures rfl) ?_
            simp -implicitDefEqProofs only [go_sem]
end Go.Proofs.Ytgkbafkmbokkaaa
end

section
namespace Go.Proofs.Ytgkbafkmbokkaaa
open Go Go.AM
set_option maxRecDepth 100000
set_option linter.unusedSimpArgs false

theorem u35 (w : List UInt8) (hw : w.length ≤ 1000000) : PFn Try.prog 35 [.str w] [.str w.reverse] := by
  refine PFn.of_body hΓ Try.func35 (by kernel_rfl) rfl (AWp.of_awpD [] hΓ hmix (by kernel_rfl) ?_)
  simp +contextual -implicitDefEqProofs only [Try.ntmps35, Try.results35, Nat.reduceAdd, Nat.reduceSub, go_sem]
  refine ⟨by omega, ?_⟩
  refine callK_ac (c93 w rfl hw) (by simp) ?_
  rintro v h' ⟨rfl, rfl⟩
  simp -implicitDefEqProofs only [killAll, List.foldl, go_sem]
  exact ⟨⟨_, rfl, rfl⟩, w.reverse, rfl, rfl⟩

/-- The row at a step: what lies ahead of i, the new digits, the old ones behind them, zeros. -/
def mulR (o : List Nat) (i : Nat) (r : List Nat) (z : Nat) : List Nat := o.take i ++ r ++ o.drop (i + r.length) ++ List.replicate z 0
theorem mulR_get {o : List Nat} {i : Nat} {r : List Nat} {z : Nat} (h : i + r.length < o.length) : ((mulR o i r z).map u32V).getD (i + r.length) default = .int .u32 ((o.getD (i + r.length) 0 : Nat) : Int) := by
  have hl : (o.take i ++ r).length = i + r.length := by simp; omega
  unfold mulR
  rw [List.getD_eq_getElem?_getD, List.getElem?_map, List.append_assoc, List.getElem?_append_right (by omega), hl, Nat.sub_self, List.drop_eq_getElem_cons h, List.getD_eq_getElem?_getD, List.getElem?_eq_getElem h]; rfl
theorem mulR_set {o : List Nat} {i : Nat} {r : List Nat} {z v : Nat} (h : i + r.length < o.length) : ((mulR o i r z).map u32V).set (i + r.length) (u32V v) = (mulR o i (r ++ [v]) z).map u32V := by
  have hl : (o.take i ++ r).length = i + r.length := by simp; omega
  unfold mulR
  rw [← List.map_set, List.append_assoc (o.take i ++ r), List.set_append_right _ _ (by omega), hl, Nat.sub_self, List.drop_eq_getElem_cons h]
  simp [Nat.add_assoc]
theorem mulR_end {o : List Nat} {i : Nat} {r : List Nat} {z v : Nat} (h : i + r.length = o.length) : ((mulR o i r (z + 1)).map u32V).set (i + r.length) (u32V v) = ((o.take i ++ r ++ [v]) ++ List.replicate z 0).map u32V := by
  have hl : (o.take i ++ r).length = i + r.length := by simp; omega
  unfold mulR
  rw [h, List.drop_length, List.append_nil, ← List.map_set, ← h, List.set_append_right _ _ (by omega), hl, Nat.sub_self, List.replicate_succ]
  simp
theorem mulR_nil {o : List Nat} {i z : Nat} : mulR o i [] z = o ++ List.replicate z 0 := by unfold mulR; simp
theorem mulR_len {o : List Nat} {i : Nat} {r : List Nat} {z : Nat} (h : i + r.length ≤ o.length) : (mulR o i r z).length = o.length + z := by unfold mulR; simp; omega

theorem mul_bound {a b : Nat} (ha : a < B32) (hb : b < B32) : a * b ≤ 4294967295 * 4294967295 := Nat.mul_le_mul (by unfold B32 at ha; omega) (by unfold B32 at hb; omega)

set_option maxHeartbeats 1000000 in
theorem u68 (x y : List Nat) (hx : ∀ d ∈ x, d < B32) (hy : ∀ d ∈ y, d < B32) (hxl : x.length ≤ 500000) (hyl : y.length ≤ 500000) : PFn Try.prog 68 [natV x, natV y] [natV (digD B32 (valD B32 x * valD B32 y))] := by
  by_cases hx0 : x = []
  · have h1 : (x.length : Int) = 0 := by rw [hx0]; rfl
    rw [show valD B32 x * valD B32 y = 0 by rw [hx0]; exact Nat.zero_mul _, digD_zero]
    refine PFn.of_body hΓ Try.func68 (by kernel_rfl) rfl (AWp.of_awpD [] hΓ hmix (by kernel_rfl) ?_)
    simp -implicitDefEqProofs only [Try.ntmps68, Try.results68, Nat.reduceAdd, Nat.reduceSub, natV, List.length_map, h1, go_sem]
    try rfl
  by_cases hy0 : y = []
  · have h1 : ¬ (x.length : Int) = 0 := fun h => hx0 (List.length_eq_zero_iff.1 (by omega))
    have h2 : (y.length : Int) = 0 := by rw [hy0]; rfl
    rw [show valD B32 x * valD B32 y = 0 by rw [hy0]; exact Nat.mul_zero _, digD_zero]
    refine PFn.of_body hΓ Try.func68 (by kernel_rfl) rfl (AWp.of_awpD [] hΓ hmix (by kernel_rfl) ?_)
    simp -implicitDefEqProofs only [Try.ntmps68, Try.results68, Nat.reduceAdd, Nat.reduceSub, natV, List.length_map, h1, h2, go_sem]
    try rfl
  have hxp : 0 < x.length := List.length_pos_iff.2 hx0
  have hyp : 0 < y.length := List.length_pos_iff.2 hy0
  have h1 : ¬ (x.length : Int) = 0 := by omega
  have h2 : ¬ (y.length : Int) = 0 := by omega
  have eL : ((x.length : Int) + (y.length : Int)).toNat = x.length + y.length := by omega
  refine PFn.of_body hΓ Try.func68 (by kernel_rfl) rfl (AWp.seq (AWp.of_awpD [] hΓ hmix (by kernel_rfl) ?_))
  simp -implicitDefEqProofs only [Try.ntmps68, Try.results68, Nat.reduceAdd, Nat.reduceSub, natV, go_sem]
  refine AWp.seq (AWp.of_awpD [] hΓ hmix (by kernel_rfl) ?_)
  simp -implicitDefEqProofs only [List.length_map, h1, h2, go_sem]
  refine AWp.seq (AWp.of_awpD [] hΓ hmix (by kernel_rfl) ?_)
  simp -implicitDefEqProofs only [List.length_map, eL, go_sem]
  refine ⟨by simp only [InR]; omega, ⟨by omega, by omega, by omega⟩, ?_⟩
  refine AWp.seq (AWp.of_awpD [] hΓ hmix (by kernel_rfl) ?_)
  simp -implicitDefEqProofs only [List.length_map, go_sem]
  refine AWp.loopI (fun z : Nat × List Nat => ⟨mkF 76 [(0, .p (natV x)), (1, .p (natV y)), (5, .own 0 (x.length + y.length)), (26, .p (natV x)), (27, .p (.int .i64 x.length)), (28, .p (.int .i64 z.1))], [.row 81 1 ((z.2 ++ List.replicate (x.length - z.1) 0).map u32V) .own]⟩)
    (fun z => z.1 ≤ x.length ∧ z.2.length = z.1 + y.length ∧ (∀ d ∈ z.2, d < B32) ∧ valD B32 z.2 = valD B32 (x.take z.1) * valD B32 y) (fun z => x.length - z.1) (0, List.replicate y.length 0) (by
      simp [go_sem, natV, u32V, List.replicate_append_replicate, Nat.add_comm]) ⟨by simp, by simp, fun d hd => by rw [List.eq_of_mem_replicate hd]; decide, by simp [valD, valD_zeros]⟩ ?_
  rintro ⟨i, o⟩ ⟨hi, ho, hod, hval⟩
  simp only at hi ho hod hval
  refine AWp.of_awpD [] hΓ hmix (by kernel_rfl) ?_
  by_cases hlt : i < x.length
  · have hgx : (x.map u32V).getD i default = .int .u32 ((x.getD i 0 : Nat) : Int) := by
      rw [getD_map_lt _ _ _ _ hlt, List.getD_eq_getElem?_getD, List.getElem?_eq_getElem hlt]; rfl
    have dx : x.getD i 0 < B32 := by
      rw [List.getD_eq_getElem?_getD, List.getElem?_eq_getElem hlt, Option.getD_some]; exact hx _ (List.getElem_mem hlt)
    have tx := valD_take (l := x) B32 i
    generalize x.getD i 0 = a at *
    have hwa : IntKind.u64.wrap (a : Int) = a := InR.wrap (k := .u64) (by simp only [InR]; unfold B32 at dx; omega)
    simp -implicitDefEqProofs only [natV, List.length_map, hlt, hgx, go_sem]
    refine AWp.loopI (fun z : List Nat × Nat => ⟨mkF 76 [(0, .p (natV x)), (1, .p (natV y)), (5, .own 0 (x.length + y.length)), (6, .p (.int .i64 i)), (7, .p (.int .u32 a)), (8, .p (.int .u64 z.2)), (26, .p (natV x)), (27, .p (.int .i64 x.length)), (28, .p (.int .i64 i)), (33, .p (natV y)), (34, .p (.int .i64 y.length)), (35, .p (.int .i64 z.1.length))], [.row 81 1 ((mulR o i z.1 (x.length - i)).map u32V) .own]⟩)
      (fun z => z.1.length ≤ y.length ∧ (∀ d ∈ z.1, d < B32) ∧ z.2 < B32 ∧ valD B32 z.1 + z.2 * B32 ^ z.1.length = valD B32 ((o.drop i).take z.1.length) + a * valD B32 (y.take z.1.length)) (fun z => y.length - z.1.length) ([], 0) (by
        simp [go_sem, natV, mulR_nil]) ⟨by simp, by simp, by decide, by simp [valD]⟩ ?_
    rintro ⟨r, c⟩ ⟨hr, hrd, hc, hv⟩
    simp only at hr hrd hc hv
    refine AWp.of_awpD [] hΓ hmix (by kernel_rfl) ?_
    by_cases hlt2 : r.length < y.length
    · have hgy : (y.map u32V).getD r.length default = .int .u32 ((y.getD r.length 0 : Nat) : Int) := by
        rw [getD_map_lt _ _ _ _ hlt2, List.getD_eq_getElem?_getD, List.getElem?_eq_getElem hlt2]; rfl
      have dy : y.getD r.length 0 < B32 := by
        rw [List.getD_eq_getElem?_getD, List.getElem?_eq_getElem hlt2, Option.getD_some]; exact hy _ (List.getElem_mem hlt2)
      have hio : i + r.length < o.length := by omega
      have ty := valD_take (l := y) B32 r.length
      have to := valD_take (l := o.drop i) B32 r.length
      have hgo2 : (o.drop i).getD r.length 0 = o.getD (i + r.length) 0 := by
        rw [List.getD_eq_getElem?_getD, List.getElem?_drop, List.getD_eq_getElem?_getD]
      have hgo := mulR_get (z := x.length - i) hio
      have dO : o.getD (i + r.length) 0 < B32 := by
        rw [List.getD_eq_getElem?_getD, List.getElem?_eq_getElem hio, Option.getD_some]; exact hod _ (List.getElem_mem hio)
      rw [hgo2] at to
      generalize y.getD r.length 0 = b at *
      generalize hqv : o.getD (i + r.length) 0 = qv at *
      have hab := mul_bound dx dy
      obtain ⟨ab, habE⟩ : ∃ ab, ab = a * b := ⟨_, rfl⟩
      rw [← habE] at hab
      have habI : (a : Int) * (b : Int) = (ab : Int) := by rw [habE]; simp
      have hwb : IntKind.u64.wrap (b : Int) = b := InR.wrap (k := .u64) (by simp only [InR]; unfold B32 at dy; omega)
      have hwq : IntKind.u64.wrap (qv : Int) = qv := InR.wrap (k := .u64) (by simp only [InR]; unfold B32 at dO; omega)
      obtain ⟨s, hs⟩ : ∃ s, s = ab + qv + c := ⟨_, rfl⟩
      have hsI : (ab : Int) + (qv : Int) + (c : Int) = (s : Int) := by omega
      have hs32 : IntKind.u32.wrap (s : Int) = ((s % B32 : Nat) : Int) := wrap_u32 s
      have hsd : (s : Int) / 2 ^ Int.toNat 32 = ((s / B32 : Nat) : Int) := by
        have : (2 : Int) ^ Int.toNat 32 = ((B32 : Nat) : Int) := rfl
        rw [this, Int.natCast_ediv]
      have hsb : s < 4294967296 * 4294967296 := by unfold B32 at dO hc; omega
      have hset := mulR_set (z := x.length - i) (v := s % B32) hio
      have hlen := mulR_len (z := x.length - i) (Nat.le_of_lt hio)
      have eik : ((i : Int) + (r.length : Int)).toNat = i + r.length := by omega
      simp -implicitDefEqProofs only [natV, List.length_map, hlt2, hgy, hwa, hwb, habI, eik, hgo, hwq, hsI, hs32, hsd, hset, go_sem]
      have hrl : (r ++ [s % B32]).length = r.length + 1 := by simp
      have hvv : valD B32 (r ++ [s % B32]) + s / B32 * B32 ^ (r.length + 1) = valD B32 ((o.drop i).take (r.length + 1)) + a * valD B32 (y.take (r.length + 1)) := by
        rw [to, ty, valD_append, Nat.pow_succ]
        have e1 : valD B32 [s % B32] = s % B32 := by simp [valD]
        rw [e1]
        have e2 : s % B32 + B32 * (s / B32) = s := Nat.mod_add_div s B32
        generalize hP : B32 ^ r.length = P at *
        have e3 : P * (s % B32) + s / B32 * (P * B32) = P * s := by
          conv => rhs; rw [← e2, Nat.mul_add]
          rw [Nat.mul_comm (s / B32), Nat.mul_assoc]
        have e4 : P * s = ab * P + qv * P + c * P := by rw [hs, Nat.mul_comm, Nat.add_mul, Nat.add_mul]
        have e5 : a * (valD B32 (y.take r.length) + b * P) = a * valD B32 (y.take r.length) + ab * P := by rw [Nat.mul_add, habE, Nat.mul_assoc]
        omega
      have hset' : ((mulR o i r (x.length - i)).map u32V).set (i + r.length) (.int .u32 ((s % B32 : Nat) : Int)) = (mulR o i (r ++ [s % B32]) (x.length - i)).map u32V := hset
      have hcb : s / B32 < B32 := by unfold B32; omega
      refine ⟨by simp only [InR]; omega, by simp only [InR]; omega, ⟨by omega, by omega⟩, by omega, by simp only [InR]; unfold B32 at dO; omega, by simp only [InR]; omega, by simp only [InR]; omega, ⟨by omega, by omega⟩, ⟨by omega, by omega⟩, ⟨by omega, rfl⟩, by simp only [InR]; omega, (r ++ [s % B32], s / B32), ⟨⟨rfl, by simp⟩, .inl hset'.symm⟩, ⟨by simp only; omega, fun d hd => ?_, hcb, by simp only; rw [hrl]; exact hvv⟩, by simp only; omega⟩
      rcases List.mem_append.1 hd with hd | hd
      · exact hrd d hd
      · rw [List.mem_singleton] at hd; subst hd; exact Nat.mod_lt _ (by decide)
    · have hrn : r.length = y.length := by omega
      have hz : ¬ (y.length : Int) < y.length := by omega
      have hcw : IntKind.u32.wrap (c : Int) = (c : Int) := InR.wrap (k := .u32) (by unfold B32 at hc; simp only [InR]; omega)
      have hend := mulR_end (o := o) (i := i) (r := r) (z := x.length - (i + 1)) (v := c) (by omega)
      rw [show x.length - (i + 1) + 1 = x.length - i by omega, hrn] at hend
      have hend' : ((mulR o i r (x.length - i)).map u32V).set (i + y.length) (.int .u32 (c : Int)) = ((o.take i ++ r ++ [c]) ++ List.replicate (x.length - (i + 1)) 0).map u32V := hend
      have hlen := mulR_len (o := o) (i := i) (r := r) (z := x.length - i) (by omega)
      have eik : ((i : Int) + (y.length : Int)).toNat = i + y.length := by omega
      rw [hrn] at hv ⊢
      have hvt : (o.drop i).take y.length = o.drop i := List.take_of_length_le (by simp; omega)
      rw [hvt, List.take_of_length_le (Nat.le_refl _)] at hv
      have hvo := valD_split B32 i o
      have htl : (o.take i).length = i := by simp; omega
      rw [htl] at hvo
      have hvn : valD B32 (o.take i ++ r ++ [c]) = valD B32 (x.take (i + 1)) * valD B32 y := by
        rw [valD_append, valD_append, htl, tx]
        have e1 : valD B32 [c] = c := by simp [valD]
        have e2 : (o.take i ++ r).length = i + y.length := by simp [htl, hrn]
        rw [e1, e2, Nat.pow_add]
        generalize B32 ^ i = P at *
        generalize B32 ^ y.length = Q at *
        have e3 : P * (valD B32 r + c * Q) = P * (valD B32 (o.drop i) + a * valD B32 y) := by rw [hv]
        rw [Nat.mul_add, Nat.mul_add] at e3
        have e4 : P * Q * c = P * (c * Q) := by rw [Nat.mul_assoc, Nat.mul_comm Q]
        have e5 : (valD B32 (x.take i) + a * P) * valD B32 y = valD B32 (x.take i) * valD B32 y + P * (a * valD B32 y) := by
          rw [Nat.add_mul, Nat.mul_comm a P, Nat.mul_assoc]
        rw [e4, e5, ← hval]
        omega
      simp -implicitDefEqProofs only [natV, List.length_map, hz, hcw, eik, hend', go_sem]
      refine ⟨by simp only [InR]; omega, ⟨by omega, by omega⟩, ⟨by omega, rfl⟩, by simp only [InR]; omega, (i + 1, o.take i ++ r ++ [c]), ⟨rfl, .inl rfl⟩, ⟨hlt, by simp [htl, hrn]; omega, fun d hd => ?_, hvn⟩, by simp only; omega⟩
      rcases List.mem_append.1 hd with hd | hd
      · rcases List.mem_append.1 hd with hd | hd
        · exact hod d (List.mem_of_mem_take hd)
        · exact hrd d hd
      · rw [List.mem_singleton] at hd; subst hd; exact hc
  · simp -implicitDefEqProofs only [natV, List.length_map, hlt, go_sem]
    have hin : i = x.length := by omega
    have hrow : o ++ List.replicate (x.length - i) 0 = o := by rw [hin]; simp
    rw [hin, List.take_of_length_le (Nat.le_refl _)] at hval
    rw [hrow]
    refine AWp.freeze 0 rfl ?_
    refine AWp.of_awpD [] hΓ hmix (by kernel_rfl) ?_
    simp -implicitDefEqProofs only [Frozen, go_sem]
    have e91 := u91 o (by omega)
    rw [trimL_eq (B := B32) (by decide) hod, hval] at e91
    refine callK_fn e91 (.pures rfl) ?_
    simp -implicitDefEqProofs only [natV, go_sem]
end Go.Proofs.Ytgkbafkmbokkaaa
end

