/-
  The shelf's contracts for (*strings.Builder).WriteString and String at this program.
  code.Encode.
  The law ParserMeaning.
  The indices of a law's list; what Greedy says.
-/
import Derived.Shelf.Strings.Builder1
import Derived.Test.YtolopbodgkmenaaProg
import Derived.Test.YtolopbodgkmenaaJ6f46aa7faee8
import Derived.Test.YtolopbodgkmenaaJdf94063cf20a
import Derived.Test.YtolopbodgkmenaaJ36938a1b8a46
import Derived.Test.YtolopbodgkmenaaJ985e8e9e43a3

section
namespace Go.Proofs
open Go.Shelf
def Try.lays166_ren : Go.Shelf.Ren := ⟨fun | 166 => 69 | 240 => 89 | 276 => 99 | n => n, fun | 70 => 87 | 9 => 9 | 3 => 3 | 75 => 91 | 0 => 0 | 72 => 89 | 37 => 61 | 4 => 4 | 164 => 115 | 20 => 20 | 5 => 5 | 80 => 94 | n => n, fun | n => n⟩
theorem Try.lays166 : Go.Proofs.Lays.n166 Try.prog Try.lays166_ren := {
  mixed := by kernel_rfl
  f166 := Try.func69.trans (congrArg some (by kernel_rfl))
  f240 := Try.func89.trans (congrArg some (by kernel_rfl))
  f276 := Try.func99.trans (congrArg some (by kernel_rfl))
  t0 := Try.underlying0
  a0 := Try.isAgg0
  z0 := Try.sizeOf0
  v0 := Try.zeroValue0
  t3 := Try.underlying3
  a3 := Try.isAgg3
  z3 := Try.sizeOf3
  v3 := Try.zeroValue3
  t4 := Try.underlying4
  a4 := Try.isAgg4
  z4 := Try.sizeOf4
  v4 := Try.zeroValue4
  t9 := Try.underlying9
  a9 := Try.isAgg9
  z9 := Try.sizeOf9
  v9 := Try.zeroValue9
  t20 := Try.underlying20
  a20 := Try.isAgg20
  z20 := Try.sizeOf20
  v20 := Try.zeroValue20
  t37 := Try.underlying61
  a37 := Try.isAgg61
  z37 := Try.sizeOf61
  v37 := Try.zeroValue61
  t70 := Try.underlying87
  a70 := Try.isAgg87
  z70 := Try.sizeOf87
  v70 := Try.zeroValue87
  t72 := Try.underlying89
  a72 := Try.isAgg89
  z72 := Try.sizeOf89
  v72 := Try.zeroValue89
  t75 := Try.underlying91
  a75 := Try.isAgg91
  z75 := Try.sizeOf91
  v75 := Try.zeroValue91
  t164 := Try.underlying115
  a164 := Try.isAgg115
  z164 := Try.sizeOf115
  v164 := Try.zeroValue115 }
def Try.lays169_ren : Go.Shelf.Ren := ⟨fun | 169 => 70 | n => n, fun | 70 => 87 | 9 => 9 | 0 => 0 | 72 => 89 | 37 => 61 | 127 => 110 | 3 => 3 | 5 => 5 | n => n, fun | n => n⟩
theorem Try.lays169 : Go.Proofs.Lays.n169 Try.prog Try.lays169_ren := {
  mixed := by kernel_rfl
  f169 := Try.func70.trans (congrArg some (by kernel_rfl))
  t0 := Try.underlying0
  a0 := Try.isAgg0
  z0 := Try.sizeOf0
  v0 := Try.zeroValue0
  t3 := Try.underlying3
  a3 := Try.isAgg3
  z3 := Try.sizeOf3
  v3 := Try.zeroValue3
  t9 := Try.underlying9
  a9 := Try.isAgg9
  z9 := Try.sizeOf9
  v9 := Try.zeroValue9
  t37 := Try.underlying61
  a37 := Try.isAgg61
  z37 := Try.sizeOf61
  v37 := Try.zeroValue61
  t70 := Try.underlying87
  a70 := Try.isAgg87
  z70 := Try.sizeOf87
  v70 := Try.zeroValue87
  t72 := Try.underlying89
  a72 := Try.isAgg89
  z72 := Try.sizeOf89
  v72 := Try.zeroValue89
  t127 := Try.underlying110
  a127 := Try.isAgg110
  z127 := Try.sizeOf110
  v127 := Try.zeroValue110 }
theorem Try.Builder_Extra_166 : Builder.Extra Try.prog Try.lays166_ren := {
  sizeBuilder := by kernel_rfl
  liesBuilder := by kernel_rfl
  t5 := Try.underlying5
  a5 := Try.isAgg5
  z5 := Try.sizeOf5
  v5 := Try.zeroValue5
  infoByte := by kernel_rfl
  cellsByte := by kernel_rfl
  sizeByte := by kernel_rfl
  neB5 := by decide }
theorem Try.Builder_Extra_169 : Builder.Extra Try.prog Try.lays169_ren := {
  sizeBuilder := by kernel_rfl
  liesBuilder := by kernel_rfl
  t5 := Try.underlying5
  a5 := Try.isAgg5
  z5 := Try.sizeOf5
  v5 := Try.zeroValue5
  infoByte := by kernel_rfl
  cellsByte := by kernel_rfl
  sizeByte := by kernel_rfl
  neB5 := by decide }
end Go.Proofs
end

section
namespace Go.Proofs.Ytolopbodgkmenaa
open Go Go.AM Go.RowKit
set_option maxRecDepth 100000
set_option linter.unusedSimpArgs false

/-- Words put together. -/
def encL (ws : List (List UInt8)) (ks : List Int) : List UInt8 := (ks.map fun k => ws.getD k.toNat []).flatten
def encIn (ws : List (List UInt8)) (ks : List Int) : Bool := ks.all fun k => decide (0 ≤ k) && decide (k < ws.length)
def encE (q : Int) (ws : List (List UInt8)) (ks : List Int) : Int := if codeCheck q ws = 0 then (if encIn ws ks = true then (if 65536 < (encL ws ks).length then 4 else 0) else 2) else 1
def encS (q : Int) (ws : List (List UInt8)) (ks : List Int) : List UInt8 := if encE q ws ks = 0 then encL ws ks else []
theorem encL_take {ws : List (List UInt8)} {ks : List Int} {i : Nat} (hi : i < ks.length) : encL ws (ks.take (i + 1)) = encL ws (ks.take i) ++ ws.getD ks[i].toNat [] := by
  unfold encL; rw [List.take_succ_eq_append_getElem hi, List.map_append, List.flatten_append]; simp only [List.map_cons, List.map_nil, List.flatten_cons, List.flatten_nil, List.append_nil]
theorem encL_le (ws : List (List UInt8)) (ks : List Int) (i : Nat) : (encL ws (ks.take i)).length ≤ (encL ws ks).length := by
  have : encL ws ks = encL ws (ks.take i) ++ encL ws (ks.drop i) := by
    unfold encL; rw [← List.flatten_append, ← List.map_append, List.take_append_drop]
  rw [this, List.length_append]; omega
theorem encIn_take {ws : List (List UInt8)} {ks : List Int} {i : Nat} (hi : i < ks.length) : encIn ws (ks.take (i + 1)) = (encIn ws (ks.take i) && (decide (0 ≤ ks[i]) && decide (ks[i] < ws.length))) := by
  unfold encIn; rw [List.take_succ_eq_append_getElem hi, List.all_append]; simp
theorem encIn_bad {ws : List (List UInt8)} {ks : List Int} {i : Nat} (hi : i < ks.length) (h : ks[i] < 0 ∨ (ws.length : Int) ≤ ks[i]) : encIn ws ks = false := by
  unfold encIn
  rw [List.all_eq_false]
  refine ⟨ks[i], List.getElem_mem hi, ?_⟩
  simp
  omega

/-- The frame beside the builder. -/
def encT (ks : List Int) : List AV := mkF 55 [(1, .p (.sl (ks.map (.int .i64)))), (2, .ptr 0 0)]
def encTk (ks : List Int) (k : Nat) : List AV := mkF 55 [(1, .p (.sl (ks.map (.int .i64)))), (2, .ptr 0 0), (41, .p (.sl (ks.map (.int .i64)))), (42, .p (.int .i64 ks.length)), (43, .p (.int .i64 k))]

theorem encTk_m {ks : List Int} {k : Nat} {X : Ctx} {I : Nat → Prop} {μ : Nat → Value} {ob : Nat → Option Nat} {h : List AObj} {wb w : World} {a : Act} {l : List UInt8} (B : Bld X I μ ob h wb 89 5 9 (encTk ks k) l w a) :
    (match a.tmps.getD 43 undef with | .int _ k => ks.length - k.toNat | _ => 0) = ks.length - k := by
  have h1 := B.rep.evs (.tmp 43)
  have h2 : ev (encTk ks k) (.tmp 43) = .p (.int .i64 k) := rfl
  rw [h2] at h1
  have h3 : a.tmps.getD 43 undef = .int .i64 k := h1.int_inv
  rw [h3]; rfl

theorem p38 (q : Int) (ws : List (List UInt8)) (ks : List Int) (hk : ks.length ≤ 1000000) : PFn Try.prog 38 [codeV q ws, .sl (ks.map (.int .i64))] [.str (encS q ws ks), .int .i64 (encE q ws ks)] := by
  refine PFn.of_body hΓ Try.func38 (by kernel_rfl) rfl (AWp.seq (AWp.of_awpD [] hΓ hmix (by kernel_rfl) ?_))
  simp -implicitDefEqProofs only [Try.ntmps38, Try.results38, Nat.reduceAdd, Nat.reduceSub, codeV, go_sem]
  refine AWp.seq (AWp.of_awpD [] hΓ hmix (by kernel_rfl) ?_)
  simp -implicitDefEqProofs only [go_sem]
  refine callK_fn (t45 q ws) (.still rfl) ?_
  by_cases h : codeCheck q ws = 0
  rotate_left
  · have e1 : encE q ws ks = 1 := by unfold encE; rw [if_neg h]
    have e2 : encS q ws ks = [] := by unfold encS; rw [e1, if_neg (by decide)]
    rw [e1, e2]
    simp -implicitDefEqProofs only [h, go_sem]
  have hv := valid_of h
  have hlen := hv.len
  rw [h]
  simp -implicitDefEqProofs only [go_sem]
  refine AWp.seq (AWp.of_awpD [] hΓ hmix (by kernel_rfl) ?_)
  simp -implicitDefEqProofs only [go_sem]
  refine AWp.seq (AWp.of_awpD [] hΓ hmix (by kernel_rfl) ?_)
  simp -implicitDefEqProofs only [List.length_map, go_sem]
  refine AWp.loopI (fun i : Nat => ⟨mkF 55 [(1, .p (.sl (ks.map (.int .i64)))), (2, .ptr 0 0), (6, .p (.int .i64 (encL ws (ks.take i)).length)), (15, .p (.sl (ks.map (.int .i64)))), (16, .p (.int .i64 ks.length)), (17, .p (.int .i64 i))], [codeB q ws]⟩)
    (fun i => i ≤ ks.length ∧ encIn ws (ks.take i) = true ∧ (encL ws (ks.take i)).length ≤ 32 * i) (fun i => ks.length - i) 0 (by simp [go_sem, codeB, encL]) (by simp [encIn, encL]) ?_
  rintro i ⟨hi, hin, hbd⟩
  refine AWp.of_awpD [] hΓ hmix (by kernel_rfl) ?_
  by_cases hlt : i < ks.length
  · have hgk : (ks.map (PV.int .i64)).getD i default = .int .i64 ks[i] := by
      rw [getD_map_lt _ _ _ _ hlt]
    by_cases hbad : ks[i] < 0 ∨ (ws.length : Int) ≤ ks[i]
    · have e1 : encE q ws ks = 2 := by unfold encE; rw [if_pos h, encIn_bad hlt hbad]; rfl
      have e2 : encS q ws ks = [] := by unfold encS; rw [e1, if_neg (by decide)]
      rw [e1, e2]
      by_cases hneg : ks[i] < 0
      · simp -implicitDefEqProofs only [List.length_map, hlt, hgk, hneg, codeB, go_sem]
      · have hge : (ws.length : Int) ≤ ks[i] := hbad.resolve_left hneg
        simp -implicitDefEqProofs only [List.length_map, hlt, hgk, hneg, hge, codeB, go_sem]
    · have hneg : ¬ ks[i] < 0 := fun h => hbad (.inl h)
      have hge : ¬ (ws.length : Int) ≤ ks[i] := fun h => hbad (.inr h)
      have hkn : ks[i].toNat < ws.length := by omega
      have hgw : (ws.map PV.str).getD ks[i].toNat default = .str (ws.getD ks[i].toNat []) := by
        rw [getD_map_lt _ _ _ _ hkn, List.getD_eq_getElem?_getD, List.getElem?_eq_getElem hkn]; rfl
      have hsh := hv.short _ hkn
      have hst := encL_take (ws := ws) hlt
      have hl2 : (encL ws (ks.take (i + 1))).length = (encL ws (ks.take i)).length + (ws.getD ks[i].toNat []).length := by rw [hst, List.length_append]
      have hin2 : encIn ws (ks.take (i + 1)) = true := by
        rw [encIn_take hlt, hin, decide_eq_true (show 0 ≤ ks[i] by omega), decide_eq_true (show ks[i] < ws.length by omega)]; rfl
      simp -implicitDefEqProofs only [List.length_map, hlt, hgk, hneg, hge, hgw, codeB, go_sem]
      exact ⟨⟨by omega, by omega⟩, by simp only [InR]; omega, by simp only [InR]; omega, i + 1, ⟨by omega, by omega⟩, ⟨hlt, hin2, by omega⟩, by omega⟩
  · have hin' : i = ks.length := by omega
    rw [hin', List.take_length] at hin hbd ⊢
    have hz : ¬ (ks.length : Int) < ks.length := by omega
    simp -implicitDefEqProofs only [List.length_map, hz, go_sem]
    refine AWp.seq (AWp.of_awpD [] hΓ hmix (by kernel_rfl) ?_)
    by_cases hbig : 65536 < (encL ws ks).length
    · have hbig' : (65536 : Int) < (encL ws ks).length := by omega
      have e1 : encE q ws ks = 4 := by unfold encE; rw [if_pos h, if_pos hin, if_pos hbig]
      have e2 : encS q ws ks = [] := by unfold encS; rw [e1, if_neg (by decide)]
      rw [e1, e2]
      simp -implicitDefEqProofs only [hbig', go_sem]
    · have hbig' : ¬ (65536 : Int) < (encL ws ks).length := by omega
      have e1 : encE q ws ks = 0 := by unfold encE; rw [if_pos h, if_pos hin, if_neg hbig]
      have e2 : encS q ws ks = encL ws ks := by unfold encS; rw [e1, if_pos rfl]
      rw [e1, e2]
      simp -implicitDefEqProofs only [hbig', go_sem]
      refine AWp.bstart (T := 89) (e := 5) (s := 9) (by kernel_rfl) (by simp [go_sem]) ?_
      intro X I μ ob wb w a hE B
      have BT := B.weak (tm' := encT ks) (by simp [go_sem, encT])
      clear B
      have HW : ∀ (B b : Nat) (bs : List Value) (z : ByteArray) (w : World), Lib.IsBuilder 89 5 B b bs w → bs.length + z.size ≤ 140737488355328 → B ≤ w.heap.size →
          Calls Try.prog 69 #[.pointer (some ⟨b, 0, none⟩), .string z] w fun x w' => x = .returned (.tuple #[.int .i64 z.size, .nilIface]) ∧ (Lib.BuilderAt 89 5 B b (.pointer (some ⟨b, 0, none⟩)) (bs ++ Lib.strCells z) w' ∧ Below B w w') :=
        fun B b bs z w h1 h2 h3 => Any.Builder_WriteString Try.lays166 Try.Builder_Extra_166 B b bs z w h1 h2 h3
      have HS : ∀ (B b : Nat) (l : List UInt8) (w : World), Lib.IsBuilder 89 5 B b (Lib.byteCells l) w → B ≤ w.heap.size →
          Calls Try.prog 70 #[.pointer (some ⟨b, 0, none⟩)] w fun x w' => x = .returned (.string ⟨l.toArray⟩) ∧ Below B w w' :=
        fun B b l w h1 h2 => Any.Builder_String_any Try.lays169 Try.Builder_Extra_169 B b l w h1 h2
      have hW : EntersF Try.prog 69 := entersF_of Try.func69 (by kernel_rfl) rfl
      have hS : EntersF Try.prog 70 := entersF_of Try.func70 (by kernel_rfl) rfl
      refine wpIn_seq (wpIn_seq (wpIn_region ?_))
      refine simp_at (K := fun tm' => weakT tm' (encTk ks 0)) hΓ 0 3 rfl (by decide) (by kernel_rfl) BT ?_ ?_
      · simp -implicitDefEqProofs only [encT, encTk, List.drop, List.take, lexK_nil, lexK_plain, go_sem]
        rfl
      intro tm1 a1 B1 hd1 hw1
      have Bk := B1.weak hw1
      clear BT B1 hw1
      refine wpIn_block (wpIn_loop (fun a' w' => ∃ k, k ≤ ks.length ∧ Bld X I μ ob [codeB q ws] wb 89 5 9 (encTk ks k) (encL ws (ks.take k)) w' a') (fun a' _ => match a'.tmps.getD 43 undef with | .int _ k => ks.length - k.toNat | _ => 0) ⟨0, by omega, Bk⟩ ?_)
      rintro a2 w2 ⟨k, hkn, B2⟩
      rw [encTk_m B2]
      refine wpIn_seq (wpIn_region ?_)
      refine simp_at (K := fun tm' => ∃ v, tm' = putD (encTk ks k) (some 44) v ∧ v = .p (.bool (decide (k < ks.length)))) hΓ 0 1 rfl (by decide) (by kernel_rfl) B2 ?_ ?_
      · simp -implicitDefEqProofs only [encT, encTk, List.drop, List.take, lexK_nil, lexK_plain, go_sem]
        exact ⟨_, rfl, rfl⟩
      rintro tm3 a3 B3 hd3 ⟨v, rfl, rfl⟩
      have hc44 : a3.eval (.tmp 44) = .bool (decide (k < ks.length)) := by
        have h1 := B3.rep.evs (.tmp 44)
        have h2 : ev (putD (encTk ks k) (some 44) (.p (.bool (decide (k < ks.length))))) (.tmp 44) = .p (.bool (decide (k < ks.length))) := rfl
        rw [h2] at h1
        exact h1.bool_inv
      refine wpIn_seq (wpIn_cond_split hc44 (fun ht => wpIn_skip ?_) (fun hf => wpIn_exit ?_))
      · have hlt : k < ks.length := of_decide_eq_true ht
        have hkk := List.all_eq_true.1 hin ks[k] (List.getElem_mem hlt)
        simp only [Bool.and_eq_true, decide_eq_true_eq] at hkk
        have hkn2 : ks[k].toNat < ws.length := by omega
        have hgk : (ks.map (PV.int .i64)).getD k default = .int .i64 ks[k] := by rw [getD_map_lt _ _ _ _ hlt]
        have hgw : (ws.map PV.str).getD ks[k].toNat default = .str (ws.getD ks[k].toNat []) := by
          rw [getD_map_lt _ _ _ _ hkn2, List.getD_eq_getElem?_getD, List.getElem?_eq_getElem hkn2]; rfl
        have B4 := B3.weak (tm' := encTk ks k) (by simp [go_sem, encTk])
        clear B2 B3
        change (Code.seq _ _).wpIn _ _ _ _ _ _
        refine wpIn_seq (wpIn_block (wpIn_seq (wpIn_region ?_)))
        refine simp_at (K := fun tm' => weakT tm' (putD (encTk ks k) (some 11) (.p (.int .i64 ks[k])))) hΓ 0 3 rfl (by decide) (by kernel_rfl) B4 ?_ ?_
        · simp -implicitDefEqProofs only [encT, encTk, List.drop, List.take, lexK_nil, lexK_plain, go_sem, List.length_map, hlt, hgk]
        intro tm5 a5 B5 hd5 hw5
        have B6 := B5.weak hw5
        clear B4 B5 hw5
        change (Code.region _ _ _).wpIn _ _ _ _ _ _
        refine wpIn_region ?_
        refine simp_at (K := fun tm' => weakT tm' (putD (encTk ks k) (some 51) (.p (.str (ws.getD ks[k].toNat []))))) (rest := [5]) hΓ 0 5 rfl (by decide) (by kernel_rfl) B6 ?_ ?_
        · simp -implicitDefEqProofs only [encT, encTk, List.drop, List.take, lexK_nil, lexK_plain, go_sem, List.length_map, hgw, codeB]
          exact hkk
        intro tm7 a7 B7 hd7 hw7
        have B8 := B7.weak hw7
        clear B6 B7 hw7
        have hlk : (encL ws (ks.take k)).length + (ws.getD ks[k].toNat []).length ≤ 140737488355328 := by
          have h1 := encL_le ws ks (k + 1)
          rw [encL_take hlt, List.length_append] at h1
          omega
        refine write_ok (t := 51) (d := 52) (u := ws.getD ks[k].toNat []) rfl hW HW B8 (by decide) rfl hlk ?_
        intro a9 w9 B9 hd9
        have B10 := B9.weak (tm' := encTk ks k) (by simp [go_sem, encTk])
        rw [← encL_take hlt] at B10
        clear B8 B9
        change (Code.region _ _ _).wpIn _ _ _ _ _ _
        refine wpIn_region ?_
        refine simp_at (K := fun tm' => weakT tm' (encTk ks (k + 1))) hΓ 0 2 rfl (by decide) (by kernel_rfl) B10 ?_ ?_
        · simp -implicitDefEqProofs only [encT, encTk, List.drop, List.take, lexK_nil, lexK_plain, go_sem]
          exact ⟨by simp only [InR]; omega, by omega⟩
        intro tm11 a11 B11 hd11 hw11
        have B12 := B11.weak hw11
        refine ⟨⟨k + 1, hlt, B12⟩, ?_⟩
        rw [encTk_m B12]
        omega
      · have hnk : k = ks.length := by have := of_decide_eq_false hf; omega
        rw [hnk, List.take_length] at B3
        change (Code.seq _ _).wpIn _ _ _ _ _ _
        refine wpIn_seq (wpIn_region ?_)
        refine string_ok (k := 0) (rest := [1, 2]) (d := 54) rfl hS HS B3 ?_
        intro a4 w4 R4 hd4
        refine steps_at (KS := fun st => st.tmps.getD 4 .junk = .p (.str (encL ws ks)) ∧ st.tmps.getD 5 .junk = .p (.int .i64 0)) hΓ hE 1 rfl R4 ?_ ?_
        · exact ⟨rfl, rfl⟩
        intro st' a' w' hN ⟨h4, h5⟩
        refine wpIn_ret ⟨st', hN, ?_⟩
        rw [h4, h5]
        exact ⟨by simp [AM.Ends], rfl⟩
end Go.Proofs.Ytolopbodgkmenaa
end

section
namespace Go.Proofs.Ytolopbodgkmenaa
open Go Go.AM
set_option maxRecDepth 100000
set_option linter.unusedSimpArgs false

/-! ### What the readings of a parser mean -/
theorem letter_of {b : UInt8} (h : 0 ≤ ixB b L16 0) : L16.getD (digN b) 0 = b := by
  obtain ⟨k, h1, h2⟩ := ixB_hit b L16 0 h
  unfold digN
  rw [h1, show ((0 + k : Nat) : Int).toNat = k by omega]
  exact h2
theorem stepW_of {b : UInt8} (x : List UInt8) (h : 0 ≤ ixB b L16 0) : stepW x (digN b) = x ++ [b] := by unfold stepW; rw [letter_of h]
theorem stp_nx {q : Int} {ws : List (List UInt8)} {s d : Nat} (hs : s < (prefs ws).length) (hd : (d : Int) < q) : stp (nxP q ws) s d = nextN ws (prefs ws) (stepW ((prefs ws).getD s []) d) := by
  have hd' : d < q.toNat := by omega
  unfold stp nxP nxL
  simp [List.getD_eq_getElem?_getD, hs, hd']
theorem stp_em {q : Int} {ws : List (List UInt8)} {s d : Nat} (hs : s < (prefs ws).length) (hd : (d : Int) < q) : stp (emP q ws) s d = ixW ws (stepW ((prefs ws).getD s []) d) := by
  have hd' : d < q.toNat := by omega
  unfold stp emP emL
  simp [List.getD_eq_getElem?_getD, hs, hd']
theorem ixW_getD {ws : List (List UInt8)} {x : List UInt8} (h : x ∈ ws) : ws.getD (ixW ws x).toNat [] = x ∧ 0 ≤ ixW ws x ∧ ixW ws x < ws.length := by
  rw [ixW_in h]
  obtain ⟨h1, h2⟩ := ixN_get h
  refine ⟨?_, by omega, by omega⟩
  rw [Int.toNat_natCast, List.getD_eq_getElem?_getD, List.getElem?_eq_getElem h1, Option.getD_some, h2]
theorem encL_cons (ws : List (List UInt8)) (k : Int) (ks : List Int) : encL ws (k :: ks) = ws.getD k.toNat [] ++ encL ws ks := rfl
theorem encIn_cons (ws : List (List UInt8)) (k : Int) (ks : List Int) : encIn ws (k :: ks) = (decide (0 ≤ k) && decide (k < ws.length) && encIn ws ks) := rfl
theorem outs_cons (e : Int) (n : Nat) (d : List (Int × Nat)) : outs ((e, n) :: d) = if 0 ≤ e then e :: outs d else outs d := by
  unfold outs
  by_cases h : 0 ≤ e <;> simp [h]
theorem head0 {q : Int} {ws : List (List UInt8)} (hv : Valid q ws) : (prefs ws).getD 0 [] = [] := by
  obtain ⟨h1, h2⟩ := prefs_head hv
  rw [List.getD_eq_getElem?_getD, List.getElem?_eq_getElem h1, Option.getD_some, h2]
/-- The words said, and the state at the end, are the letters read. -/
theorem trail_says {q : Int} {ws : List (List UInt8)} (hv : Valid q ws) : ∀ (w : List UInt8) (s : Nat), okW q w = true → s < (prefs ws).length →
    encL ws (outs (trail (nxP q ws) (emP q ws) s w)) ++ (prefs ws).getD (endS s (trail (nxP q ws) (emP q ws) s w)) [] = (prefs ws).getD s [] ++ w.take (trail (nxP q ws) (emP q ws) s w).length ∧ encIn ws (outs (trail (nxP q ws) (emP q ws) s w)) = true
  | [], s, _, hs => by simp [trail, outs, encL, encIn, endS_nil]
  | b :: w, s, hw, hs => by
    have hd := dig_of hw b (by simp)
    have hw' : okW q w = true := by
      unfold okW at hw ⊢
      simp only [List.all_cons, Bool.and_eq_true] at hw
      exact hw.2
    have hdq : (digN b : Int) < q := by unfold digN; omega
    have hN := stp_nx (q := q) hs hdq
    have hE := stp_em (q := q) hs hdq
    rw [stepW_of _ hd.1] at hN hE
    unfold trail
    by_cases hn : stp (nxP q ws) s (digN b) < 0
    · rw [if_pos hn]; simp [outs, encL, encIn, endS_nil]
    · rw [if_neg hn]
      rw [outs_cons, endS_cons, List.length_cons, List.take_succ_cons]
      rw [hN] at hn ⊢
      rw [hE]
      generalize hx : (prefs ws).getD s [] = x at *
      have hp0 := (prefs_head hv).1
      by_cases hin : x ++ [b] ∈ ws
      · have e1 : nextN ws (prefs ws) (x ++ [b]) = 0 := by unfold nextN; rw [if_pos hin]
        obtain ⟨h1, h2, h3⟩ := ixW_getD hin
        rw [e1, if_pos h2, Int.toNat_zero, encL_cons, encIn_cons, h1]
        obtain ⟨i1, i2⟩ := trail_says hv w 0 hw' hp0
        rw [head0 hv, List.nil_append] at i1
        refine ⟨?_, by rw [i2, decide_eq_true h2, decide_eq_true h3]; rfl⟩
        rw [List.append_assoc, i1, List.append_assoc]; rfl
      · have e1 : nextN ws (prefs ws) (x ++ [b]) = ixW (prefs ws) (x ++ [b]) := by unfold nextN; rw [if_neg hin]
        rw [e1] at hn ⊢
        have hP : x ++ [b] ∈ prefs ws := ixW_ge.1 (by omega)
        obtain ⟨h1, h2, h3⟩ := ixW_getD hP
        rw [ixW_no hin, if_neg (by decide)]
        obtain ⟨i1, i2⟩ := trail_says hv w (ixW (prefs ws) (x ++ [b])).toNat hw' (by omega)
        rw [h1] at i1
        exact ⟨by rw [i1, List.append_assoc]; rfl, i2⟩
theorem trail_take (N E : List (List Int)) : ∀ (w : List UInt8) (s m : Nat), trail N E s (w.take m) = (trail N E s w).take m
  | [], s, m => by simp [trail]
  | b :: w, s, 0 => by simp [trail]
  | b :: w, s, m + 1 => by
    rw [List.take_succ_cons]
    unfold trail
    split
    · simp
    · rw [List.take_succ_cons, trail_take N E w _ m]
theorem wordCheck_take {q : Int} {w : List UInt8} (h : wordCheck q w = 0) (m : Nat) : wordCheck q (w.take m) = 0 := by
  have hk := word_ok h
  have ht : okW q (w.take m) = true := by
    unfold okW at hk ⊢
    exact List.all_eq_true.2 fun b hb => List.all_eq_true.1 hk.1 b (List.mem_of_mem_take hb)
  have hl : (w.take m).length ≤ w.length := by rw [List.length_take]; omega
  unfold wordCheck at h ⊢
  split at h
  · cases h
  · rename_i h1
    rw [if_neg h1, if_neg (by omega), ht]; rfl

theorem encS_of {q : Int} {ws : List (List UInt8)} {ks : List Int} (hc : codeCheck q ws = 0) (hi : encIn ws ks = true) (hl : (encL ws ks).length ≤ 65536) : encE q ws ks = 0 ∧ encS q ws ks = encL ws ks := by
  have e : encE q ws ks = 0 := by unfold encE; rw [if_pos hc, if_pos hi, if_neg (by omega)]
  exact ⟨e, by unfold encS; rw [if_pos e]⟩
theorem run_of {q : Int} {P : List (List UInt8)} {N E : List (List Int)} {w : List UInt8} {s : Nat} (hI : parCheck q P N E = 0) (hs : s < P.length) (hw : wordCheck q w = 0) :
    runE' q P N E s w = (if (trail N E s w).length < w.length then 13 else 0) := by
  unfold runE' posE
  rw [if_pos hI, if_pos hw, if_neg (by omega), Int.toNat_natCast]
theorem prB_true {q : Int} {ws : List (List UInt8)} (h : prB q ws = true) : (greatC ws || ws.any greatW) = false ∧ codeCheck q ws = 0 ∧ preB ws = true := by
  unfold prB at h
  simp only [Bool.and_eq_true, decide_eq_true_eq, Bool.not_eq_true'] at h
  exact h

set_option maxHeartbeats 2000000 in
theorem p6 (q : Int) (ws : List (List UInt8)) (w : List UInt8) (hws : ws.length ≤ 9223372036854775807) : PFn Try.prog 6 [codeV q ws, .str w] [.bool true] := by
  have e21 := p21 q ws hws
  have e37 := t78 q w
  have e12 := p12 q ws
  refine PFn.of_body hΓ Try.func6 (by kernel_rfl) rfl (AWp.seq (AWp.of_awpD [] hΓ hmix (by kernel_rfl) ?_))
  simp -implicitDefEqProofs only [Try.ntmps6, Try.results6, Nat.reduceAdd, Nat.reduceSub, codeV, go_sem]
  refine AWp.seq (AWp.seq (AWp.of_awpD [] hΓ hmix (by kernel_rfl) ?_))
  simp -implicitDefEqProofs only [go_sem]
  refine callK_fn e21 (.still rfl) ?_
  cases hpr : prB q ws
  · simp -implicitDefEqProofs only [go_sem]
    refine AWp.of_awpD [] hΓ hmix (by kernel_rfl) ?_
    simp -implicitDefEqProofs only [go_sem]
    refine callK_fn awake_ok (.pures rfl) ?_
    simp -implicitDefEqProofs only [go_sem]
  by_cases hl : 40 < w.length
  · have hl' : (40 : Int) < w.length := by omega
    simp -implicitDefEqProofs only [hl', go_sem]
    refine AWp.of_awpD [] hΓ hmix (by kernel_rfl) ?_
    simp -implicitDefEqProofs only [go_sem]
    refine callK_fn awake_ok (.pures rfl) ?_
    simp -implicitDefEqProofs only [go_sem]
  have hl' : ¬ (40 : Int) < w.length := by omega
  simp -implicitDefEqProofs only [hl', go_sem]
  refine callK_fn e37 (.pures rfl) ?_
  by_cases hw : wordCheck q w = 0
  rotate_left
  · simp -implicitDefEqProofs only [hw, go_sem]
    refine AWp.of_awpD [] hΓ hmix (by kernel_rfl) ?_
    simp -implicitDefEqProofs only [go_sem]
    refine callK_fn awake_ok (.pures rfl) ?_
    simp -implicitDefEqProofs only [go_sem]
  rw [hw]
  obtain ⟨hg, hc, hp⟩ := prB_true hpr
  have hv := valid_of hc
  have hI := parCheck_par hc hp
  obtain ⟨g1, g2⟩ := prefs_small hv hg
  obtain ⟨hP0, _⟩ := prefs_head hv
  have h1 : pR q ws = parV q ws := by unfold pR; rw [if_pos ⟨hc, hp⟩]
  have h2 : pE q ws = 0 := by unfold pE; rw [if_pos hc, if_pos hp]
  rw [h1, h2] at e12
  unfold parV at e12
  obtain ⟨s1, s2⟩ := trail_says hv w 0 (word_ok hw).1 hP0
  rw [head0 hv, List.nil_append] at s1
  have hlen := trail_len (nxP q ws) (emP q ws) w 0
  have hst : endS 0 (trail (nxP q ws) (emP q ws) 0 w) < (prefs ws).length := by
    have h3 := endS_lt (isPar_of hc hp).tbl.1 (by have := hv.q2; omega) w 0 (trail (nxP q ws) (emP q ws) 0 w).length (fun b hb => by have := dig_of (word_ok hw).1 b hb; unfold digN; omega) (isPar_of hc hp).tbl.2
    rw [List.take_length, nxP_length] at h3
    exact h3
  have hol := outs_len (trail (nxP q ws) (emP q ws) 0 w)
  generalize prefs ws = P at *
  generalize nxP q ws = N at *
  generalize emP q ws = E at *
  have e31 := p31 q P N E w g1 (fun x hx => by have := g2 x hx; omega)
  have hpo : posE q P N E w = 0 := by unfold posE; rw [if_pos hI, hw]
  rw [hpo, if_pos rfl] at e31
  have ta := trail_take N E w 0 (trail N E 0 w).length
  have tb := trail_take N E w 0 ((trail N E 0 w).length + 1)
  rw [List.take_length] at ta
  rw [show (trail N E 0 w).take ((trail N E 0 w).length + 1) = trail N E 0 w from List.take_of_length_le (by omega)] at tb
  have ra := run_of (s := 0) hI hP0 (wordCheck_take hw (trail N E 0 w).length)
  have rb := run_of (s := 0) hI hP0 (wordCheck_take hw ((trail N E 0 w).length + 1))
  rw [ta, List.length_take, if_neg (show ¬ (trail N E 0 w).length < min (trail N E 0 w).length w.length by omega)] at ra
  rw [tb, List.length_take] at rb
  have e29a := p29 q P N E ((0 : Nat) : Int) (w.take (trail N E 0 w).length) g1 (fun x hx => by have := g2 x hx; omega)
  have e29b := p29 q P N E ((0 : Nat) : Int) (w.take ((trail N E 0 w).length + 1)) g1 (fun x hx => by have := g2 x hx; omega)
  unfold runL runS at e29a e29b
  rw [ra, if_pos rfl, if_pos rfl, Int.toNat_natCast, ta] at e29a
  rw [rb, Int.toNat_natCast, tb] at e29b
  have hell := congrArg List.length s1
  rw [List.length_append, List.length_take] at hell
  obtain ⟨n1, n2⟩ := encS_of hc s2 (by omega)
  have e38 := p38 q ws (outs (trail N E 0 w)) (by omega)
  rw [n1, n2] at e38
  generalize hn : (trail N E 0 w).length = n at *
  generalize endS 0 (trail N E 0 w) = st at *
  generalize outs (trail N E 0 w) = ks at *
  have hgp : (P.map PV.str).getD st default = .str (P.getD st []) := by
    rw [getD_map_lt _ _ _ _ hst, List.getD_eq_getElem?_getD, List.getElem?_eq_getElem hst]; rfl
  have f1 : ¬ (n : Int) < 0 := by omega
  have f2 : ¬ (w.length : Int) < n := by omega
  have f3 : ¬ (st : Int) < 0 := by omega
  have f4 : ¬ (P.length : Int) ≤ st := by omega
  unfold slI at e29a e29b
  unfold psV at e12 e31 e29a e29b
  simp -implicitDefEqProofs only [go_sem]
  refine AWp.of_awpD [] hΓ hmix (by kernel_rfl) ?_
  simp -implicitDefEqProofs only [go_sem]
  refine AWp.of_awpD [(7, 12), (11, 15), (15, 13)] hΓ hmix (by kernel_rfl) ?_
  simp -implicitDefEqProofs only [go_sem]
  refine callK_fn e12 (.still rfl) ?_
  simp -implicitDefEqProofs only [go_sem]
  refine callK_fn e31 (.still rfl) ?_
  simp -implicitDefEqProofs only [f1, f2, go_sem]
  have hnw : n ≤ w.length := by omega
  refine ⟨hnw, callVPK_fn e29a (.still rfl) ?_⟩
  simp -implicitDefEqProofs only [f3, f4, List.length_map, go_sem]
  refine callK_fn e38 (.still rfl) ?_
  simp -implicitDefEqProofs only [hgp, s1, go_sem]
  refine ⟨hst, by omega, hnw, fun _ => callK_fn awake_ok (.pures rfl) ?_, fun hne => ?_⟩
  · simp -implicitDefEqProofs only [go_sem]
  have hlt : n < w.length := by omega
  rw [if_pos (show n < min (n + 1) w.length by omega), if_neg (by decide), if_neg (by decide)] at e29b
  have i1 : ((n : Int) + 1).toNat = n + 1 := by omega
  rw [i1]
  refine ⟨by simp only [InR]; omega, ⟨by omega, by omega⟩, callVPK_fn e29b (.still rfl) ?_⟩
  have z2 : ((0 : Nat) : Int) = 0 := rfl
  simp -implicitDefEqProofs only [List.map_nil, List.length_nil, z2, go_sem]
  refine callK_fn awake_ok (.pures rfl) ?_
  simp -implicitDefEqProofs only [go_sem]
end Go.Proofs.Ytolopbodgkmenaa
end

section
namespace Go.Proofs.Ytolopbodgkmenaa
open Go Go.AM
set_option maxRecDepth 100000
set_option linter.unusedSimpArgs false

/-! ### Plain facts of Greedy -/
theorem bestTo_ge (ws : List (List UInt8)) (w : List UInt8) : ∀ n i, i < n → (ws.getD i []).isPrefixOf w = true → 0 ≤ bestTo ws w n ∧ (ws.getD i []).length ≤ (ws.getD (bestTo ws w n).toNat []).length
  | n + 1, i, hi, hp => by
    unfold bestTo
    by_cases hc : (ws.getD n []).isPrefixOf w = true ∧ (bestTo ws w n < 0 ∨ (ws.getD (bestTo ws w n).toNat []).length < (ws.getD n []).length)
    · rw [if_pos hc, Int.toNat_natCast]
      refine ⟨by omega, ?_⟩
      by_cases e : i = n
      · subst e; omega
      · obtain ⟨h1, h2⟩ := bestTo_ge ws w n i (by omega) hp
        rcases hc.2 with h | h <;> omega
    · rw [if_neg hc]
      by_cases e : i = n
      · subst e
        refine ⟨?_, ?_⟩
        · exact Int.not_lt.1 fun h => hc ⟨hp, .inl h⟩
        · exact Nat.not_lt.1 fun h => hc ⟨hp, .inr h⟩
      · exact bestTo_ge ws w n i (by omega) hp
theorem best_ge {ws : List (List UInt8)} {w x : List UInt8} (hx : x ∈ ws) (hp : x.isPrefixOf w = true) : 0 ≤ best ws w ∧ x.length ≤ (bestW ws w).length := by
  obtain ⟨i, hi, rfl⟩ := List.getElem_of_mem hx
  have e : ws.getD i [] = ws[i] := by rw [List.getD_eq_getElem?_getD, List.getElem?_eq_getElem hi]; rfl
  rw [← e] at hp
  have := bestTo_ge ws w ws.length i hi hp
  rw [e] at this
  exact this
theorem best_front {ws : List (List UInt8)} {w : List UInt8} (h : 0 ≤ best ws w) : bestW ws w ++ w.drop (bestW ws w).length = w := by
  have := bestTo_pre ws w ws.length h
  have h2 := List.prefix_iff_eq_append.1 (List.isPrefixOf_iff_prefix.1 this)
  exact h2
theorem greedy_says {ws : List (List UInt8)} (hn : ∀ x ∈ ws, x ≠ []) : ∀ (n : Nat) (w : List UInt8), w.length ≤ n →
    encL ws (greedy ws w).1 ++ (greedy ws w).2 = w ∧ encIn ws (greedy ws w).1 = true ∧ best ws (greedy ws w).2 < 0 ∧
    ∀ i (_ : i < (greedy ws w).1.length), (greedy ws w).1.getD i 0 = best ws (w.drop (encL ws ((greedy ws w).1.take i)).length) ∧ 0 ≤ best ws (w.drop (encL ws ((greedy ws w).1.take i)).length) := by
  intro n
  induction n with
  | zero =>
    intro w hw
    have hw0 : w = [] := List.length_eq_zero_iff.1 (by omega)
    by_cases hb : best ws w < 0
    · rw [greedy_stop hb]
      exact ⟨rfl, rfl, hb, fun i hi => by simp at hi⟩
    · obtain ⟨h1, h2⟩ := best_pos hn (show 0 ≤ best ws w by omega)
      omega
  | succ n ih =>
    intro w hw
    by_cases hb : best ws w < 0
    · rw [greedy_stop hb]
      exact ⟨rfl, rfl, hb, fun i hi => by simp at hi⟩
    · have hb0 : 0 ≤ best ws w := by omega
      obtain ⟨h1, h2⟩ := best_pos hn hb0
      have hf := best_front hb0
      have hbi := best_in hb0
      obtain ⟨i1, i2, i3, i4⟩ := ih (w.drop (bestW ws w).length) (by rw [List.length_drop]; omega)
      rw [greedy_step hn hb]
      generalize greedy ws (w.drop (bestW ws w).length) = g at *
      refine ⟨?_, ?_, i3, ?_⟩
      · rw [encL_cons, show ws.getD (best ws w).toNat [] = bestW ws w from rfl, List.append_assoc, i1, hf]
      · rw [encIn_cons, i2, decide_eq_true hb0, decide_eq_true (show best ws w < ws.length by omega)]; rfl
      · intro i hi
        cases i with
        | zero =>
          simp only [List.getD_cons_zero, List.take_zero]
          exact ⟨rfl, hb0⟩
        | succ i =>
          simp only [List.getD_cons_succ, List.take_succ_cons]
          rw [encL_cons, List.length_append, ← List.drop_drop]
          exact i4 i (by simpa using hi)
theorem greedy_enc {q : Int} {ws : List (List UInt8)} (hv : Valid q ws) (hp : preB ws = true) : ∀ ks : List Int, encIn ws ks = true → greedy ws (encL ws ks) = (ks, [])
  | [], _ => rfl
  | k :: ks, h => by
    rw [encIn_cons] at h
    simp only [Bool.and_eq_true, decide_eq_true_eq] at h
    obtain ⟨⟨h0, h1⟩, h2⟩ := h
    have hk : k.toNat < ws.length := by omega
    have hx : ws.getD k.toNat [] ∈ ws := by rw [List.getD_eq_getElem?_getD, List.getElem?_eq_getElem hk]; exact List.getElem_mem hk
    rw [encL_cons]
    have hpx : (ws.getD k.toNat []) <+: (ws.getD k.toNat [] ++ encL ws ks) := List.prefix_append _ _
    obtain ⟨b1, b2⟩ := best_ge hx (List.isPrefixOf_iff_prefix.2 hpx)
    have b3 := List.isPrefixOf_iff_prefix.1 (bestTo_pre ws (ws.getD k.toNat [] ++ encL ws ks) ws.length b1)
    have b4 : ws.getD k.toNat [] <+: bestW ws (ws.getD k.toNat [] ++ encL ws ks) := List.prefix_of_prefix_length_le hpx b3 b2
    have b5 := best_in b1
    have e : (best ws (ws.getD k.toNat [] ++ encL ws ks)).toNat = k.toNat := by
      refine Classical.byContradiction fun hne => ?_
      have := alone_bad (pr := fun w x => x.isPrefixOf w) b5 hk hne (List.isPrefixOf_iff_prefix.2 b4)
      unfold preB at hp
      rw [this] at hp; cases hp
    have e2 : best ws (ws.getD k.toNat [] ++ encL ws ks) = k := by omega
    have e3 : bestW ws (ws.getD k.toNat [] ++ encL ws ks) = ws.getD k.toNat [] := by unfold bestW; rw [e]
    rw [greedy_step hv.ne' (by omega), e2, e3, List.drop_left, greedy_enc hv hp ks h2]
theorem okW_enc {q : Int} {ws : List (List UInt8)} (hv : Valid q ws) : ∀ ks : List Int, encIn ws ks = true → okW q (encL ws ks) = true
  | [], _ => rfl
  | k :: ks, h => by
    rw [encIn_cons] at h
    simp only [Bool.and_eq_true, decide_eq_true_eq] at h
    obtain ⟨⟨h0, h1⟩, h2⟩ := h
    have hk : k.toNat < ws.length := by omega
    have i := okW_enc hv ks h2
    have w := (word_ok (hv.word k.toNat hk)).1
    unfold okW at i w ⊢
    rw [encL_cons, List.all_append, i, w]; rfl
theorem encL_len {ws : List (List UInt8)} (h8 : ∀ w ∈ ws, w.length ≤ 8) : ∀ ks : List Int, (encL ws ks).length ≤ 8 * ks.length
  | [] => by simp [encL]
  | k :: ks => by
    have i := encL_len h8 ks
    rw [encL_cons, List.length_append, List.length_cons]
    have : (ws.getD k.toNat []).length ≤ 8 := by
      rw [List.getD_eq_getElem?_getD]
      cases h : ws[k.toNat]? with
      | none => simp
      | some x => exact h8 x (List.mem_of_getElem? h)
    omega
theorem wordCheck_enc {q : Int} {ws : List (List UInt8)} (hv : Valid q ws) {ks : List Int} (h : encIn ws ks = true) (hl : (encL ws ks).length ≤ 65536) : wordCheck q (encL ws ks) = 0 := by
  have h2 := hv.q2
  have h16 := hv.q16
  unfold wordCheck
  rw [if_neg (by omega), if_neg (by omega), if_pos (okW_enc hv ks h)]

/-! ### list -/
def ixsB (ws : List (List UInt8)) (bs : List UInt8) : List Int := (bs.take 12).map fun b => ((b.toNat % ws.length : Nat) : Int)
theorem ixsB_len (ws : List (List UInt8)) (bs : List UInt8) : (ixsB ws bs).length = min 12 bs.length := by unfold ixsB; simp
theorem ixsB_in {ws : List (List UInt8)} (hpos : 0 < ws.length) (bs : List UInt8) : encIn ws (ixsB ws bs) = true := by
  unfold encIn ixsB
  refine List.all_eq_true.2 fun k hk => ?_
  obtain ⟨b, _, rfl⟩ := List.mem_map.1 hk
  have := Nat.mod_lt b.toNat hpos
  simp only [Bool.and_eq_true, decide_eq_true_eq]
  omega

theorem p40 (q : Int) (ws : List (List UInt8)) (bs : List UInt8) (hpos : 0 < ws.length) (hws : ws.length ≤ 64) (hb : bs.length ≤ 9223372036854775807) : PFn Try.prog 40 [codeV q ws, .sl (bs.map u8V)] [slI (ixsB ws bs)] := by
  have hil := ixsB_len ws bs
  refine PFn.of_body hΓ Try.func40 (by kernel_rfl) rfl (AWp.seq (AWp.of_awpD [] hΓ hmix (by kernel_rfl) ?_))
  simp -implicitDefEqProofs only [Try.ntmps40, Try.results40, Nat.reduceAdd, Nat.reduceSub, codeV, go_sem]
  refine AWp.seq (AWp.of_awpD [] hΓ hmix (by kernel_rfl) ?_)
  simp -implicitDefEqProofs only [go_sem]
  refine AWp.adopt (l := []) 5 3 1 rfl (by simp) ?_
  simp -implicitDefEqProofs only [List.set_cons_zero, List.set_cons_succ, go_sem]
  refine AWp.of_awpD [] hΓ hmix (by kernel_rfl) ?_
  simp -implicitDefEqProofs only [go_sem]
  obtain ⟨m, hm, hm2⟩ : ∃ m : Nat, (if (12 : Int) < bs.length then (12 : Int) else bs.length) = m ∧ m = min 12 bs.length := by
    by_cases h : (12 : Int) < bs.length
    · exact ⟨12, by rw [if_pos h]; rfl, by omega⟩
    · exact ⟨bs.length, by rw [if_neg h], by omega⟩
  rw [hm]
  have hml : m ≤ bs.length := by omega
  have htk : (bs.map u8V).take m = (bs.take m).map u8V := by rw [List.map_take]
  have hlk : (bs.take m).length = m := by rw [List.length_take]; omega
  have hpos' : ¬ (ws.length : Int) = 0 := by omega
  have hil2 : (ixsB ws bs).length = m := by omega
  refine ⟨?_, ⟨by omega, by omega⟩, ?_⟩
  · simp [sizeOK, u8V, PV.cells]
  refine AWp.loopI (fun k : Nat => ⟨mkF 29 [(2, .ptr 0 0), (5, .own 1 k), (12, .p (.sl ((bs.map u8V).take m))), (13, .p (.int .i64 m)), (14, .p (.int .i64 k))], [codeB q ws, .row 3 1 (((ixsB ws bs).take k).map (.int .i64)) .lax]⟩)
    (fun k => k ≤ m) (fun k => m - k) 0 (by simp [go_sem, codeB]; omega) (by omega) ?_
  intro k hk
  simp -implicitDefEqProofs only [codeB, go_sem]
  refine AWp.of_awpD [] hΓ hmix (by kernel_rfl) ?_
  by_cases hlt : k < m
  · have hlt' : (k : Int) < m := by omega
    have hkb : k < bs.length := by omega
    have hu : ((bs.map u8V).take m).getD k default = .int .u8 bs[k].toNat := by rw [htk, getD_map_lt _ _ _ _ (by omega), List.getElem_take]; rfl
    have hki : k < (ixsB ws bs).length := by omega
    have hkx : ((bs[k].toNat : Int) % (ws.length : Int)) = (ixsB ws bs)[k] := by simp [ixsB]
    have hwr : IntKind.wrap .i64 (bs[k].toNat : Int) = bs[k].toNat := InR.wrap (by simp only [InR]; have := bs[k].toNat_lt; omega)
    simp -implicitDefEqProofs only [hlt', hu, hml, ↓reduceIte, List.length_map, List.length_take, go_sem]
    rw [hwr, hkx]
    have hs1 : sizeOK [PV.int .i64 (ixsB ws bs)[k]] 1 := by simp [sizeOK, PV.cells]
    have ho1 : oneOK [PV.int .i64 (ixsB ws bs)[k]] := by simp [oneOK, PV.cells, PV.isAgg]
    refine ⟨by omega, ⟨by omega, by omega⟩, ⟨hs1, by omega⟩, ⟨hs1, ho1⟩, ⟨.inl (by omega), by omega, by omega⟩, by simp only [InR]; omega, k + 1, ⟨⟨rfl, by omega⟩, .inr rfl, .inr ?_⟩, hlt, by omega⟩
    rw [List.take_succ_eq_append_getElem hki, List.map_append]; rfl
  · have hkm : k = m := by omega
    have hz : ¬ (k : Int) < m := by omega
    simp -implicitDefEqProofs only [hz, go_sem]
    rw [hkm, ← hil2, List.take_length]; rfl
end Go.Proofs.Ytolopbodgkmenaa
end

