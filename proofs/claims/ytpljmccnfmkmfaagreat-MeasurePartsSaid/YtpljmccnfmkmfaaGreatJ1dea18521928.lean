/-
  The shelf's contracts for (*strings.Builder).WriteString and String at this program.
  code.Encode.
  Reversed words: slices.Reverse of bytes, word.Reverse.
  code.Reverse.
  The law MeasureParts (f11).
  What a parameter that fits a shape is: codes, ambiguities, lists of words and numbers.
-/
import Derived.Shelf.Strings.Builder1
import Derived.Test.YtpljmccnfmkmfaaGreatProg
import Derived.Test.YtpljmccnfmkmfaaGreatJ71936c369bef
import Derived.Test.YtpljmccnfmkmfaaGreatJ5a034ce207fe
import Derived.Test.YtpljmccnfmkmfaaGreatJ3c93f543af5a
import Derived.Test.YtpljmccnfmkmfaaGreatJ7c9428a74848
import Derived.Test.YtpljmccnfmkmfaaGreatJbde26c392ee0
import Derived.Test.YtpljmccnfmkmfaaGreatJcc70636d389b

section
namespace Go.Proofs
open Go.Shelf
def Tryz.lays166_ren : Go.Shelf.Ren := ⟨fun | 166 => 120 | 240 => 180 | 276 => 225 | n => n, fun | 70 => 116 | 9 => 9 | 3 => 3 | 75 => 120 | 0 => 0 | 72 => 118 | 37 => 65 | 4 => 4 | 164 => 191 | 20 => 20 | 5 => 5 | 80 => 123 | n => n, fun | n => n⟩
theorem Tryz.lays166 : Go.Proofs.Lays.n166 Tryz.prog Tryz.lays166_ren := {
  mixed := by kernel_rfl
  f166 := Tryz.func120.trans (congrArg some (by kernel_rfl))
  f240 := Tryz.func180.trans (congrArg some (by kernel_rfl))
  f276 := Tryz.func225.trans (congrArg some (by kernel_rfl))
  t0 := Tryz.underlying0
  a0 := Tryz.isAgg0
  z0 := Tryz.sizeOf0
  v0 := Tryz.zeroValue0
  t3 := Tryz.underlying3
  a3 := Tryz.isAgg3
  z3 := Tryz.sizeOf3
  v3 := Tryz.zeroValue3
  t4 := Tryz.underlying4
  a4 := Tryz.isAgg4
  z4 := Tryz.sizeOf4
  v4 := Tryz.zeroValue4
  t9 := Tryz.underlying9
  a9 := Tryz.isAgg9
  z9 := Tryz.sizeOf9
  v9 := Tryz.zeroValue9
  t20 := Tryz.underlying20
  a20 := Tryz.isAgg20
  z20 := Tryz.sizeOf20
  v20 := Tryz.zeroValue20
  t37 := Tryz.underlying65
  a37 := Tryz.isAgg65
  z37 := Tryz.sizeOf65
  v37 := Tryz.zeroValue65
  t70 := Tryz.underlying116
  a70 := Tryz.isAgg116
  z70 := Tryz.sizeOf116
  v70 := Tryz.zeroValue116
  t72 := Tryz.underlying118
  a72 := Tryz.isAgg118
  z72 := Tryz.sizeOf118
  v72 := Tryz.zeroValue118
  t75 := Tryz.underlying120
  a75 := Tryz.isAgg120
  z75 := Tryz.sizeOf120
  v75 := Tryz.zeroValue120
  t164 := Tryz.underlying191
  a164 := Tryz.isAgg191
  z164 := Tryz.sizeOf191
  v164 := Tryz.zeroValue191 }
def Tryz.lays169_ren : Go.Shelf.Ren := ⟨fun | 169 => 121 | n => n, fun | 70 => 116 | 9 => 9 | 0 => 0 | 72 => 118 | 37 => 65 | 127 => 160 | 3 => 3 | 5 => 5 | n => n, fun | n => n⟩
theorem Tryz.lays169 : Go.Proofs.Lays.n169 Tryz.prog Tryz.lays169_ren := {
  mixed := by kernel_rfl
  f169 := Tryz.func121.trans (congrArg some (by kernel_rfl))
  t0 := Tryz.underlying0
  a0 := Tryz.isAgg0
  z0 := Tryz.sizeOf0
  v0 := Tryz.zeroValue0
  t3 := Tryz.underlying3
  a3 := Tryz.isAgg3
  z3 := Tryz.sizeOf3
  v3 := Tryz.zeroValue3
  t9 := Tryz.underlying9
  a9 := Tryz.isAgg9
  z9 := Tryz.sizeOf9
  v9 := Tryz.zeroValue9
  t37 := Tryz.underlying65
  a37 := Tryz.isAgg65
  z37 := Tryz.sizeOf65
  v37 := Tryz.zeroValue65
  t70 := Tryz.underlying116
  a70 := Tryz.isAgg116
  z70 := Tryz.sizeOf116
  v70 := Tryz.zeroValue116
  t72 := Tryz.underlying118
  a72 := Tryz.isAgg118
  z72 := Tryz.sizeOf118
  v72 := Tryz.zeroValue118
  t127 := Tryz.underlying160
  a127 := Tryz.isAgg160
  z127 := Tryz.sizeOf160
  v127 := Tryz.zeroValue160 }
theorem Tryz.Builder_Extra_166 : Builder.Extra Tryz.prog Tryz.lays166_ren := {
  sizeBuilder := by kernel_rfl
  liesBuilder := by kernel_rfl
  t5 := Tryz.underlying5
  a5 := Tryz.isAgg5
  z5 := Tryz.sizeOf5
  v5 := Tryz.zeroValue5
  infoByte := by kernel_rfl
  cellsByte := by kernel_rfl
  sizeByte := by kernel_rfl
  neB5 := by decide }
theorem Tryz.Builder_Extra_169 : Builder.Extra Tryz.prog Tryz.lays169_ren := {
  sizeBuilder := by kernel_rfl
  liesBuilder := by kernel_rfl
  t5 := Tryz.underlying5
  a5 := Tryz.isAgg5
  z5 := Tryz.sizeOf5
  v5 := Tryz.zeroValue5
  infoByte := by kernel_rfl
  cellsByte := by kernel_rfl
  sizeByte := by kernel_rfl
  neB5 := by decide }
end Go.Proofs
end

section
namespace Go.Proofs.YtpljmccnfmkmfaaGreat
open Go Go.AM Go.RowKit
set_option maxRecDepth 100000
set_option linter.unusedSimpArgs false

def encL (ws : List (List UInt8)) (ks : List Int) : List UInt8 := (ks.map fun k => ws.getD k.toNat []).flatten
def encIn (ws : List (List UInt8)) (ks : List Int) : Bool := ks.all fun k => decide (0 ≤ k) && decide (k < ws.length)
def encE (q : Int) (ws : List (List UInt8)) (ks : List Int) : Int := if codeCheck q ws = 0 then (if encIn ws ks = true then (if 65536 < (encL ws ks).length then 4 else 0) else 2) else 1
def encS (q : Int) (ws : List (List UInt8)) (ks : List Int) : List UInt8 := if encE q ws ks = 0 then encL ws ks else []
theorem encL_take {ws : List (List UInt8)} {ks : List Int} {i : Nat} (hi : i < ks.length) : encL ws (ks.take (i + 1)) = encL ws (ks.take i) ++ ws.getD ks[i].toNat [] := by
  unfold encL; rw [List.take_succ_eq_append_getElem hi, List.map_append, List.flatten_append]; simp only [List.map_cons, List.map_nil, List.flatten_cons, List.flatten_nil, List.append_nil]
theorem encL_le (ws : List (List UInt8)) (ks : List Int) (i : Nat) : (encL ws (ks.take i)).length ≤ (encL ws ks).length := by
  have : encL ws ks = encL ws (ks.take i) ++ encL ws (ks.drop i) := by
    unfold encL; rw [← List.flatten_append, ← List.map_append, List.take_append_drop]
  rw [this, List.length_append]; omega
theorem encIn_take {ws : List (List UInt8)} {ks : List Int} {i : Nat} (hi : i < ks.length) : encIn ws (ks.take (i + 1)) = (encIn ws (ks.take i) && (decide (0 ≤ ks[i]) && decide (ks[i] < ws.length))) := by
  unfold encIn; rw [List.take_succ_eq_append_getElem hi, List.all_append]; simp
theorem encIn_bad {ws : List (List UInt8)} {ks : List Int} {i : Nat} (hi : i < ks.length) (h : ks[i] < 0 ∨ (ws.length : Int) ≤ ks[i]) : encIn ws ks = false := by
  unfold encIn
  rw [List.all_eq_false]
  refine ⟨ks[i], List.getElem_mem hi, ?_⟩
  simp
  omega

def encT (ks : List Int) : List AV := mkF 55 [(1, .p (.sl (ks.map (.int .i64)))), (2, .ptr 0 0)]
def encTk (ks : List Int) (k : Nat) : List AV := mkF 55 [(1, .p (.sl (ks.map (.int .i64)))), (2, .ptr 0 0), (41, .p (.sl (ks.map (.int .i64)))), (42, .p (.int .i64 ks.length)), (43, .p (.int .i64 k))]

theorem encTk_m {ks : List Int} {k : Nat} {X : Ctx} {I : Nat → Prop} {μ : Nat → Value} {ob : Nat → Option Nat} {h : List AObj} {wb w : World} {a : Act} {l : List UInt8} (B : Bld X I μ ob h wb 118 5 9 (encTk ks k) l w a) :
    (match a.tmps.getD 43 undef with | .int _ k => ks.length - k.toNat | _ => 0) = ks.length - k := by
  have h1 := B.rep.evs (.tmp 43)
  have h2 : ev (encTk ks k) (.tmp 43) = .p (.int .i64 k) := rfl
  rw [h2] at h1
  have h3 : a.tmps.getD 43 undef = .int .i64 k := h1.int_inv
  rw [h3]; rfl

theorem p38 (q : Int) (ws : List (List UInt8)) (ks : List Int) (hk : ks.length ≤ 1000000) : PFn Tryz.prog 58 [codeV q ws, .sl (ks.map (.int .i64))] [.str (encS q ws ks), .int .i64 (encE q ws ks)] := by
  refine PFn.of_body hΓ Tryz.func58 (by kernel_rfl) rfl (AWp.seq (AWp.of_awpD [] hΓ hmix (by kernel_rfl) ?_))
  simp -implicitDefEqProofs only [Tryz.ntmps58, Tryz.results58, Nat.reduceAdd, Nat.reduceSub, codeV, go_sem]
  refine AWp.seq (AWp.of_awpD [] hΓ hmix (by kernel_rfl) ?_)
  simp -implicitDefEqProofs only [go_sem]
  refine callK_fn (t45 q ws) (.still rfl) ?_
  by_cases h : codeCheck q ws = 0
  rotate_left
  · have e1 : encE q ws ks = 1 := by unfold encE; rw [if_neg h]
    have e2 : encS q ws ks = [] := by unfold encS; rw [e1, if_neg (by decide)]
    rw [e1, e2]
    simp -implicitDefEqProofs only [h, go_sem]
  have hv := valid_of h
  have hlen := hv.len
  rw [h]
  simp -implicitDefEqProofs only [go_sem]
  refine AWp.seq (AWp.of_awpD [] hΓ hmix (by kernel_rfl) ?_)
  simp -implicitDefEqProofs only [go_sem]
  refine AWp.seq (AWp.of_awpD [] hΓ hmix (by kernel_rfl) ?_)
  simp -implicitDefEqProofs only [List.length_map, go_sem]
  refine AWp.loopI (fun i : Nat => ⟨mkF 55 [(1, .p (.sl (ks.map (.int .i64)))), (2, .ptr 0 0), (6, .p (.int .i64 (encL ws (ks.take i)).length)), (15, .p (.sl (ks.map (.int .i64)))), (16, .p (.int .i64 ks.length)), (17, .p (.int .i64 i))], [codeB q ws]⟩)
    (fun i => i ≤ ks.length ∧ encIn ws (ks.take i) = true ∧ (encL ws (ks.take i)).length ≤ 32 * i) (fun i => ks.length - i) 0 (by simp [go_sem, codeB, encL]) (by simp [encIn, encL]) ?_
  rintro i ⟨hi, hin, hbd⟩
  refine AWp.of_awpD [] hΓ hmix (by kernel_rfl) ?_
  by_cases hlt : i < ks.length
  · have hgk : (ks.map (PV.int .i64)).getD i default = .int .i64 ks[i] := by
      rw [getD_map_lt _ _ _ _ hlt]
    by_cases hbad : ks[i] < 0 ∨ (ws.length : Int) ≤ ks[i]
    · have e1 : encE q ws ks = 2 := by unfold encE; rw [if_pos h, encIn_bad hlt hbad]; rfl
      have e2 : encS q ws ks = [] := by unfold encS; rw [e1, if_neg (by decide)]
      rw [e1, e2]
      by_cases hneg : ks[i] < 0
      · simp -implicitDefEqProofs only [List.length_map, hlt, hgk, hneg, codeB, go_sem]
      · have hge : (ws.length : Int) ≤ ks[i] := hbad.resolve_left hneg
        simp -implicitDefEqProofs only [List.length_map, hlt, hgk, hneg, hge, codeB, go_sem]
    · have hneg : ¬ ks[i] < 0 := fun h => hbad (.inl h)
      have hge : ¬ (ws.length : Int) ≤ ks[i] := fun h => hbad (.inr h)
      have hkn : ks[i].toNat < ws.length := by omega
      have hgw : (ws.map PV.str).getD ks[i].toNat default = .str (ws.getD ks[i].toNat []) := by
        rw [getD_map_lt _ _ _ _ hkn, List.getD_eq_getElem?_getD, List.getElem?_eq_getElem hkn]; rfl
      have hsh := hv.short _ hkn
      have hst := encL_take (ws := ws) hlt
      have hl2 : (encL ws (ks.take (i + 1))).length = (encL ws (ks.take i)).length + (ws.getD ks[i].toNat []).length := by rw [hst, List.length_append]
      have hin2 : encIn ws (ks.take (i + 1)) = true := by
        rw [encIn_take hlt, hin, decide_eq_true (show 0 ≤ ks[i] by omega), decide_eq_true (show ks[i] < ws.length by omega)]; rfl
      simp -implicitDefEqProofs only [List.length_map, hlt, hgk, hneg, hge, hgw, codeB, go_sem]
      exact ⟨⟨by omega, by omega⟩, by simp only [InR]; omega, by simp only [InR]; omega, i + 1, ⟨by omega, by omega⟩, ⟨hlt, hin2, by omega⟩, by omega⟩
  · have hin' : i = ks.length := by omega
    rw [hin', List.take_length] at hin hbd ⊢
    have hz : ¬ (ks.length : Int) < ks.length := by omega
    simp -implicitDefEqProofs only [List.length_map, hz, go_sem]
    refine AWp.seq (AWp.of_awpD [] hΓ hmix (by kernel_rfl) ?_)
    by_cases hbig : 65536 < (encL ws ks).length
    · have hbig' : (65536 : Int) < (encL ws ks).length := by omega
      have e1 : encE q ws ks = 4 := by unfold encE; rw [if_pos h, if_pos hin, if_pos hbig]
      have e2 : encS q ws ks = [] := by unfold encS; rw [e1, if_neg (by decide)]
      rw [e1, e2]
      simp -implicitDefEqProofs only [hbig', go_sem]
    · have hbig' : ¬ (65536 : Int) < (encL ws ks).length := by omega
      have e1 : encE q ws ks = 0 := by unfold encE; rw [if_pos h, if_pos hin, if_neg hbig]
      have e2 : encS q ws ks = encL ws ks := by unfold encS; rw [e1, if_pos rfl]
      rw [e1, e2]
      simp -implicitDefEqProofs only [hbig', go_sem]
      refine AWp.bstart (T := 118) (e := 5) (s := 9) (by kernel_rfl) (by simp [go_sem]) ?_
      intro X I μ ob wb w a hE B
      have BT := B.weak (tm' := encT ks) (by simp [go_sem, encT])
      clear B
      have HW : ∀ (B b : Nat) (bs : List Value) (z : ByteArray) (w : World), Lib.IsBuilder 118 5 B b bs w → bs.length + z.size ≤ 140737488355328 → B ≤ w.heap.size →
          Calls Tryz.prog 120 #[.pointer (some ⟨b, 0, none⟩), .string z] w fun x w' => x = .returned (.tuple #[.int .i64 z.size, .nilIface]) ∧ (Lib.BuilderAt 118 5 B b (.pointer (some ⟨b, 0, none⟩)) (bs ++ Lib.strCells z) w' ∧ Below B w w') :=
        fun B b bs z w h1 h2 h3 => Any.Builder_WriteString Tryz.lays166 Tryz.Builder_Extra_166 B b bs z w h1 h2 h3
      have HS : ∀ (B b : Nat) (l : List UInt8) (w : World), Lib.IsBuilder 118 5 B b (Lib.byteCells l) w → B ≤ w.heap.size →
          Calls Tryz.prog 121 #[.pointer (some ⟨b, 0, none⟩)] w fun x w' => x = .returned (.string ⟨l.toArray⟩) ∧ Below B w w' :=
        fun B b l w h1 h2 => Any.Builder_String_any Tryz.lays169 Tryz.Builder_Extra_169 B b l w h1 h2
      have hW : EntersF Tryz.prog 120 := entersF_of Tryz.func120 (by kernel_rfl) rfl
      have hS : EntersF Tryz.prog 121 := entersF_of Tryz.func121 (by kernel_rfl) rfl
      refine wpIn_seq (wpIn_seq (wpIn_region ?_))
      refine simp_at (K := fun tm' => weakT tm' (encTk ks 0)) hΓ 0 3 rfl (by decide) (by kernel_rfl) BT ?_ ?_
      · simp -implicitDefEqProofs only [encT, encTk, List.drop, List.take, lexK_nil, lexK_plain, go_sem]
        rfl
      intro tm1 a1 B1 hd1 hw1
      have Bk := B1.weak hw1
      clear BT B1 hw1
      refine wpIn_block (wpIn_loop (fun a' w' => ∃ k, k ≤ ks.length ∧ Bld X I μ ob [codeB q ws] wb 118 5 9 (encTk ks k) (encL ws (ks.take k)) w' a') (fun a' _ => match a'.tmps.getD 43 undef with | .int _ k => ks.length - k.toNat | _ => 0) ⟨0, by omega, Bk⟩ ?_)
      rintro a2 w2 ⟨k, hkn, B2⟩
      rw [encTk_m B2]
      refine wpIn_seq (wpIn_region ?_)
      refine simp_at (K := fun tm' => ∃ v, tm' = putD (encTk ks k) (some 44) v ∧ v = .p (.bool (decide (k < ks.length)))) hΓ 0 1 rfl (by decide) (by kernel_rfl) B2 ?_ ?_
      · simp -implicitDefEqProofs only [encT, encTk, List.drop, List.take, lexK_nil, lexK_plain, go_sem]
        exact ⟨_, rfl, rfl⟩
      rintro tm3 a3 B3 hd3 ⟨v, rfl, rfl⟩
      have hc44 : a3.eval (.tmp 44) = .bool (decide (k < ks.length)) := by
        have h1 := B3.rep.evs (.tmp 44)
        have h2 : ev (putD (encTk ks k) (some 44) (.p (.bool (decide (k < ks.length))))) (.tmp 44) = .p (.bool (decide (k < ks.length))) := rfl
        rw [h2] at h1
        exact h1.bool_inv
      refine wpIn_seq (wpIn_cond_split hc44 (fun ht => wpIn_skip ?_) (fun hf => wpIn_exit ?_))
      · have hlt : k < ks.length := of_decide_eq_true ht
        have hkk := List.all_eq_true.1 hin ks[k] (List.getElem_mem hlt)
        simp only [Bool.and_eq_true, decide_eq_true_eq] at hkk
        have hkn2 : ks[k].toNat < ws.length := by omega
        have hgk : (ks.map (PV.int .i64)).getD k default = .int .i64 ks[k] := by rw [getD_map_lt _ _ _ _ hlt]
        have hgw : (ws.map PV.str).getD ks[k].toNat default = .str (ws.getD ks[k].toNat []) := by
          rw [getD_map_lt _ _ _ _ hkn2, List.getD_eq_getElem?_getD, List.getElem?_eq_getElem hkn2]; rfl
        have B4 := B3.weak (tm' := encTk ks k) (by simp [go_sem, encTk])
        clear B2 B3
        change (Code.seq _ _).wpIn _ _ _ _ _ _
        refine wpIn_seq (wpIn_block (wpIn_seq (wpIn_region ?_)))
        refine simp_at (K := fun tm' => weakT tm' (putD (encTk ks k) (some 11) (.p (.int .i64 ks[k])))) hΓ 0 3 rfl (by decide) (by kernel_rfl) B4 ?_ ?_
        · simp -implicitDefEqProofs only [encT, encTk, List.drop, List.take, lexK_nil, lexK_plain, go_sem, List.length_map, hlt, hgk]
        intro tm5 a5 B5 hd5 hw5
        have B6 := B5.weak hw5
        clear B4 B5 hw5
        change (Code.region _ _ _).wpIn _ _ _ _ _ _
        refine wpIn_region ?_
        refine simp_at (K := fun tm' => weakT tm' (putD (encTk ks k) (some 51) (.p (.str (ws.getD ks[k].toNat []))))) (rest := [5]) hΓ 0 5 rfl (by decide) (by kernel_rfl) B6 ?_ ?_
        · simp -implicitDefEqProofs only [encT, encTk, List.drop, List.take, lexK_nil, lexK_plain, go_sem, List.length_map, hgw, codeB]
          exact hkk
        intro tm7 a7 B7 hd7 hw7
        have B8 := B7.weak hw7
        clear B6 B7 hw7
        have hlk : (encL ws (ks.take k)).length + (ws.getD ks[k].toNat []).length ≤ 140737488355328 := by
          have h1 := encL_le ws ks (k + 1)
          rw [encL_take hlt, List.length_append] at h1
          omega
        refine write_ok (t := 51) (d := 52) (u := ws.getD ks[k].toNat []) rfl hW HW B8 (by decide) rfl hlk ?_
        intro a9 w9 B9 hd9
        have B10 := B9.weak (tm' := encTk ks k) (by simp [go_sem, encTk])
        rw [← encL_take hlt] at B10
        clear B8 B9
        change (Code.region _ _ _).wpIn _ _ _ _ _ _
        refine wpIn_region ?_
        refine simp_at (K := fun tm' => weakT tm' (encTk ks (k + 1))) hΓ 0 2 rfl (by decide) (by kernel_rfl) B10 ?_ ?_
        · simp -implicitDefEqProofs only [encT, encTk, List.drop, List.take, lexK_nil, lexK_plain, go_sem]
          exact ⟨by simp only [InR]; omega, by omega⟩
        intro tm11 a11 B11 hd11 hw11
        have B12 := B11.weak hw11
        refine ⟨⟨k + 1, hlt, B12⟩, ?_⟩
        rw [encTk_m B12]
        omega
      · have hnk : k = ks.length := by have := of_decide_eq_false hf; omega
        rw [hnk, List.take_length] at B3
        change (Code.seq _ _).wpIn _ _ _ _ _ _
        refine wpIn_seq (wpIn_region ?_)
        refine string_ok (k := 0) (rest := [1, 2]) (d := 54) rfl hS HS B3 ?_
        intro a4 w4 R4 hd4
        refine steps_at (KS := fun st => st.tmps.getD 4 .junk = .p (.str (encL ws ks)) ∧ st.tmps.getD 5 .junk = .p (.int .i64 0)) hΓ hE 1 rfl R4 ?_ ?_
        · exact ⟨rfl, rfl⟩
        intro st' a' w' hN ⟨h4, h5⟩
        refine wpIn_ret ⟨st', hN, ?_⟩
        rw [h4, h5]
        exact ⟨by simp [AM.Ends], rfl⟩
end Go.Proofs.YtpljmccnfmkmfaaGreat
end

section
namespace Go.Proofs.YtpljmccnfmkmfaaGreat
open Go Go.AM
set_option maxRecDepth 100000
set_option linter.unusedSimpArgs false

def rv (l : List UInt8) (i : Nat) : List UInt8 := (List.range l.length).map fun k => if k < i ∨ l.length - i ≤ k then l.getD (l.length - 1 - k) 0 else l.getD k 0
theorem rv_len (l : List UInt8) (i : Nat) : (rv l i).length = l.length := by simp [rv]
theorem rv_get {l : List UInt8} {i k : Nat} (hk : k < l.length) : (rv l i)[k]? = some (if k < i ∨ l.length - i ≤ k then l.getD (l.length - 1 - k) 0 else l.getD k 0) := by
  simp [rv, List.getElem?_map, List.getElem?_range hk]
theorem rv_zero (l : List UInt8) : rv l 0 = l := by
  apply List.ext_getElem?
  intro k
  by_cases hk : k < l.length
  · rw [rv_get hk, if_neg (by omega), List.getD_eq_getElem?_getD, List.getElem?_eq_getElem hk]; rfl
  · rw [List.getElem?_eq_none (by rw [rv_len]; omega), List.getElem?_eq_none (by omega)]
theorem rv_end {l : List UInt8} {i : Nat} (h1 : 2 * i ≤ l.length) (h2 : l.length ≤ 2 * i + 1) : rv l i = l.reverse := by
  apply List.ext_getElem?
  intro k
  by_cases hk : k < l.length
  · rw [rv_get hk, List.getElem?_reverse hk]
    have e : l.getD (l.length - 1 - k) 0 = l[l.length - 1 - k]'(by omega) := by rw [List.getD_eq_getElem?_getD, List.getElem?_eq_getElem (by omega)]; rfl
    by_cases hc : k < i ∨ l.length - i ≤ k
    · rw [if_pos hc, e, List.getElem?_eq_getElem (by omega)]
    · rw [if_neg hc]
      have : k = l.length - 1 - k := by omega
      rw [← this, List.getD_eq_getElem?_getD, List.getElem?_eq_getElem hk]; rfl
  · rw [List.getElem?_eq_none (by rw [rv_len]; omega), List.getElem?_eq_none (by simp; omega)]
theorem rv_step {l : List UInt8} {i j : Nat} (hj : i + j + 1 = l.length) (hlt : i < j) : ((rv l i).set i (l.getD j 0)).set j (l.getD i 0) = rv l (i + 1) := by
  apply List.ext_getElem?
  intro k
  by_cases hk : k < l.length
  · rw [List.getElem?_set, List.getElem?_set, rv_get hk, rv_get hk]
    simp only [List.length_set, rv_len]
    by_cases e1 : j = k
    · subst e1
      rw [if_pos rfl, if_pos hk, if_pos (by omega), show l.length - 1 - j = i by omega]
    · rw [if_neg e1]
      by_cases e2 : i = k
      · subst e2
        rw [if_pos rfl, if_pos hk, if_pos (by omega), show l.length - 1 - i = j by omega]
      · rw [if_neg e2]
        by_cases hc : k < i ∨ l.length - i ≤ k
        · rw [if_pos hc, if_pos (by omega)]
        · rw [if_neg hc, if_neg (by omega)]
  · rw [List.getElem?_eq_none (by simp [rv_len]; omega), List.getElem?_eq_none (by rw [rv_len]; omega)]

theorem c93 {h : List AObj} {b : Nat} (l : List UInt8) (hb : h[b]? = some (.row 5 1 (l.map u8V) .raw)) (hl : l.length ≤ 1000000) :
    AC Tryz.prog 122 [.own b l.length] h [] (fun v h' => v = .tup [] ∧ h' = h.set b (.row 5 1 (l.reverse.map u8V) .raw)) := by
  have hbl : b < h.length := (List.getElem?_eq_some_iff.1 hb).1
  refine AC.of_bodyE hΓ Tryz.func122 (by kernel_rfl) rfl (AWp.mono (Q := fun e st => AM.Ends e ∧ st.h = h.set b (.row 5 1 (l.reverse.map u8V) .raw)) ?_ ?_)
  rotate_left
  · rintro e ⟨tm, h'⟩ ⟨he, h2⟩
    simp only at h2
    subst h2
    refine ⟨he, _, Less.refl _, ?_⟩
    unfold DoneE
    simp +contextual -implicitDefEqProofs only [Tryz.results122, go_sem]
    exact ⟨h.length, Nat.le_refl _, .inl (by simp), List.take_of_length_le (by simp)⟩
  have gB : ∀ o : AObj, (h.set b o)[b]? = some o := fun o => by simp [hbl]
  have sB : ∀ o o' : AObj, (h.set b o).set b o' = h.set b o' := fun o o' => by simp
  refine AWp.of_awpD [] hΓ hmix (by kernel_rfl) ?_
  simp -implicitDefEqProofs only [Tryz.ntmps122, Nat.reduceAdd, Nat.reduceSub, go_sem]
  refine ⟨by simp only [InR]; omega, ?_⟩
  refine AWp.loopI (fun i : Nat => ⟨mkF 28 [(0, .own b l.length), (2, .p (.int .i64 i)), (3, .p (.int .i64 ((l.length : Int) - 1 - i)))], h.set b (.row 5 1 ((rv l i).map u8V) .raw)⟩)
    (fun i => 2 * i ≤ l.length) (fun i => l.length - i) 0 (by
      rw [rv_zero, show h.set b (.row 5 1 (l.map u8V) .raw) = h from by
        apply List.ext_getElem?
        intro k
        rw [List.getElem?_set]
        split
        · rename_i e; subst e
          first
            | exact hb.symm
            | (rw [if_pos hbl]; exact hb.symm)
        · rfl]
      simp [go_sem, weakH_self]) (by omega) ?_
  intro i hi
  refine AWp.of_awpD [(3, 13)] hΓ hmix (by kernel_rfl) ?_
  by_cases hlt : (i : Int) < (l.length : Int) - 1 - i
  · obtain ⟨j, hj⟩ : ∃ j : Nat, (l.length : Int) - 1 - i = j := ⟨(((l.length : Int) - 1 - i)).toNat, by omega⟩
    rw [hj] at hlt ⊢
    have hjl : j < l.length := by omega
    have hil : i < l.length := by omega
    have e1 : ((rv l i).map u8V).getD i default = .int .u8 (l.getD i 0).toNat := by
      rw [List.getD_eq_getElem?_getD, List.getElem?_map, rv_get hil, if_neg (by omega)]; rfl
    have e2 : ((rv l i).map u8V).getD j default = .int .u8 (l.getD j 0).toNat := by
      rw [List.getD_eq_getElem?_getD, List.getElem?_map, rv_get hjl, if_neg (by omega)]; rfl
    have e3 : (((rv l i).map u8V).set i (.int .u8 (l.getD j 0).toNat)).set j (.int .u8 (l.getD i 0).toNat) = (rv l (i + 1)).map u8V := by
      rw [← rv_step (j := j) (by omega) (by omega), List.map_set, List.map_set]; rfl
    simp -implicitDefEqProofs only [hlt, gB, sB, e1, e2, e3, Int.toNat_natCast, go_sem]
    have hr := rv_len l i
    refine ⟨hjl, by omega, hil, by omega, hil, ⟨by omega, rfl⟩, hjl, ⟨by simp; omega, rfl⟩, by simp only [InR]; omega, by simp only [InR]; omega, i + 1, ⟨⟨by omega, by omega⟩, weakH_self _⟩, by omega, by omega⟩
  · simp -implicitDefEqProofs only [hlt, go_sem]
    rw [rv_end hi (by omega)]

theorem t70 (w : List UInt8) (hw : w.length ≤ 1000000) : PFn Tryz.prog 60 [.str w] [.str w.reverse] := by
  refine PFn.of_body hΓ Tryz.func60 (by kernel_rfl) rfl (AWp.of_awpD [] hΓ hmix (by kernel_rfl) ?_)
  simp +contextual -implicitDefEqProofs only [Tryz.ntmps60, Tryz.results60, Nat.reduceAdd, Nat.reduceSub, go_sem]
  refine ⟨by omega, ?_⟩
  refine callK_ac (c93 w rfl hw) (by simp) ?_
  rintro v h' ⟨rfl, rfl⟩
  simp -implicitDefEqProofs only [killAll, List.foldl, go_sem]
  exact ⟨⟨_, rfl, rfl⟩, w.reverse, rfl, rfl⟩
end Go.Proofs.YtpljmccnfmkmfaaGreat
end

section
namespace Go.Proofs.YtpljmccnfmkmfaaGreat
open Go Go.AM
set_option maxRecDepth 100000
set_option linter.unusedSimpArgs false

theorem t39 (q : Int) (ws : List (List UInt8)) : PFn Tryz.prog 59 [codeV q ws] [if codeCheck q ws = 0 then (if codeCheck q (made (revs ws)) = 0 then codeV q (made (revs ws)) else codeV 0 []) else codeV 0 [], .int .i64 (if codeCheck q ws = 0 then codeCheck q (made (revs ws)) else 1)] := by
  refine PFn.of_body hΓ Tryz.func59 (by kernel_rfl) rfl (AWp.of_awpD [] hΓ hmix (by kernel_rfl) ?_)
  simp +contextual -implicitDefEqProofs only [codeV, Tryz.ntmps59, Tryz.results59, Nat.reduceAdd, Nat.reduceSub, go_sem]
  refine callK_fn (t45 q ws) (.still rfl) ?_
  by_cases h : codeCheck q ws = 0
  · have hv := valid_of h
    have hws := hv.len
    have hsh : ∀ i (hi : i < ws.length), ws[i].length ≤ 32 := fun i hi => by
      have := hv.short i hi
      rwa [List.getD_eq_getElem?_getD, List.getElem?_eq_getElem hi, Option.getD_some] at this
    rw [h]
    simp -implicitDefEqProofs only [go_sem]
    refine AWp.adopt (l := []) 4 9 1 (by rfl) (by simp) ?_
    simp -implicitDefEqProofs only [go_sem]
    refine AWp.loopI (fun k : Nat => ⟨mkF 30 [(1, .ptr 0 0), (2, .ptr 1 0), (3, .p (.int .i64 0)), (4, .own 2 k), (12, .p (.sl (ws.map .str))), (13, .p (.int .i64 ws.length)), (14, .p (.int .i64 k))], [codeB q ws, .box [.p (.int .i64 0), .full []], .row 9 1 ((revs (ws.take k)).map .str) .lax]⟩)
      (fun k => k ≤ ws.length) (fun k => ws.length - k) 0 (by simp [go_sem, codeB, revs]) (by simp) ?_
    intro k hk
    by_cases hlt : k < ws.length
    · refine AWp.of_awpD [] hΓ hmix (by kernel_rfl) ?_
      simp -implicitDefEqProofs only [hlt, getD_map_lt, ↓reduceIte, codeB, go_sem]
      refine callK_fn (t70 ws[k] (by have := hsh k hlt; omega)) (.pures rfl) ?_
      simp -implicitDefEqProofs only [go_sem]
      have hs : revs (ws.take (k + 1)) = revs (ws.take k) ++ [ws[k].reverse] := by
        unfold revs; rw [List.take_succ_eq_append_getElem hlt, List.map_append]; rfl
      exact ⟨⟨size_str [_], by omega⟩, ⟨size_str [_], one_str [_]⟩, ⟨.inl (by omega), by omega, by omega⟩, by simp only [InR]; omega, k + 1, by rw [hs]; simp, hlt, by omega⟩
    · refine AWp.freeze 2 rfl ?_
      rw [List.take_of_length_le (by omega)]
      refine AWp.of_awpD [] hΓ hmix (by kernel_rfl) ?_
      simp -implicitDefEqProofs only [hlt, codeB, Frozen, go_sem]
      have e71 := t71 q (revs ws) (by simp [revs]; omega)
      by_cases hc : codeCheck q (made (revs ws)) = 0
      · rw [if_pos hc, hc] at e71
        refine callK_fn e71 (.pures rfl) ?_
        simp -implicitDefEqProofs only [codeV, hc, go_sem]
      · rw [if_neg hc] at e71
        refine callK_fn e71 (.pures rfl) ?_
        simp -implicitDefEqProofs only [codeV, hc, go_sem]
  · simp -implicitDefEqProofs only [h, go_sem]
end Go.Proofs.YtpljmccnfmkmfaaGreat
end

section
namespace Go.Proofs.YtpljmccnfmkmfaaGreat
open Go Go.AM Go.RowKit
set_option maxRecDepth 100000
set_option maxHeartbeats 4000000
set_option linter.unusedSimpArgs false

theorem fac_iff {q : Int} {ws : List (List UInt8)} (hv : Valid q ws) (w : List UInt8) : facB ws w = true ↔ Mc.Part ws w := by
  unfold facB
  rw [decide_eq_true_iff, List.length_pos_iff]
  refine Mc.run_iff (fun l x => mem_canL) (fun x hx => (hv.words x hx).1) ?_ w
  intro e
  have := hv.pos
  rw [e] at this
  simp at this
theorem wc_iff {q : Int} {w : List UInt8} (h2 : 2 ≤ q) (h16 : q ≤ 16) (hl : w.length ≤ 65536) : wordCheck q w = 0 ↔ ∀ b ∈ w, okB q b = true := by
  constructor
  · intro h
    unfold wordCheck at h
    rw [if_neg (by omega), if_neg (by omega)] at h
    split at h
    · rename_i hk
      unfold okW at hk
      exact List.all_eq_true.1 hk
    · cases h
  · intro h
    exact wordCheck_good (by omega) (by omega) (by omega) (List.all_eq_true.2 h)
theorem msg_part {q : Int} {ws : List (List UInt8)} (hv : Valid q ws) {ks : List Int} (hk : ∀ k ∈ ks, 0 ≤ k ∧ k < ws.length) :
    Mc.Part ws (encL ws ks) ∧ (encL ws ks).length ≤ 32 * ks.length ∧ ∀ b ∈ encL ws ks, okB q b = true := by
  have hm : ∀ x ∈ ks.map fun k => ws.getD k.toNat [], x ∈ ws := fun x hx => by
    obtain ⟨k, h1, rfl⟩ := List.mem_map.1 hx
    have := hk k h1
    have hlt : k.toNat < ws.length := by omega
    rw [List.getD_eq_getElem?_getD, List.getElem?_eq_getElem hlt]
    exact List.getElem_mem hlt
  refine ⟨Mc.part_msg hm, ?_, fun b hb => ?_⟩
  · unfold encL
    clear hk
    induction ks with
    | nil => exact Nat.le_refl _
    | cons k ks ih =>
      have h1 := (hv.words _ (hm (ws.getD k.toNat []) (by simp))).2.1
      have h2 := ih fun x hx => hm x (by rw [List.map_cons]; exact List.mem_cons_of_mem _ hx)
      rw [List.map_cons, List.flatten_cons, List.length_append, List.length_cons]
      omega
  · obtain ⟨x, hx, hbx⟩ := List.mem_flatten.1 hb
    obtain ⟨_, i2, i3⟩ := hv.words x (hm x hx)
    exact (wc_iff hv.q2 hv.q16 (by omega)).1 i3 b hbx
theorem fac_ok {q : Int} {ws : List (List UInt8)} (h : codeCheck q ws = 0) {w : List UInt8} (hw : ∀ b ∈ w, okB q b = true) (hl : w.length ≤ 4000) :
    PFn Tryz.prog 34 [.agg [.int .i64 q, .sl (ws.map .str)], .str w] [.bool (facB ws w), .int .i64 0] := by
  have hv := valid_of h
  have e := c34 q ws w hl
  have r1 : facE q ws w = 0 := by
    unfold facE
    rw [if_pos h]
    exact (wc_iff hv.q2 hv.q16 (by omega)).2 hw
  have r2 : facR q ws w = facB ws w := by unfold facR; rw [r1]; rfl
  rw [r1, r2] at e
  exact e
theorem fac_sub {q : Int} {ws : List (List UInt8)} (hv : Valid q ws) {v w : List UInt8} (h : v <:+: w) (hw : facB ws w = true) : facB ws v = true :=
  (fac_iff hv v).2 (Mc.part_infix h ((fac_iff hv w).1 hw))
theorem fac_rev {q : Int} {ws : List (List UInt8)} (hv : Valid q ws) (w : List UInt8) : facB (made (revs ws)) w.reverse = facB ws w := by
  have hv2 := valid_of (rev_valid hv)
  rw [Bool.eq_iff_iff, fac_iff hv2, fac_iff hv]
  constructor
  · intro h
    have := Mc.part_rev (Y := ws) (fun x hx => by
      obtain ⟨y, hy, rfl⟩ := List.mem_map.1 (mem_made.1 hx)
      rw [List.reverse_reverse]; exact hy) h
    rwa [List.reverse_reverse] at this
  · intro h
    exact Mc.part_rev (fun x hx => mem_made.2 (List.mem_map.2 ⟨x, hx, rfl⟩)) h
theorem infix_dt (w : List UInt8) (i j : Nat) : (w.drop i).take j <:+: w := (List.take_prefix _ _).isInfix.trans (List.drop_suffix _ _).isInfix

theorem b11 (q : Int) (ws : List (List UInt8)) (l w : List UInt8) (a b : Int) (hws : ws.length ≤ 9223372036854775807) (hll : l.length ≤ 9223372036854775807) (ha : 0 ≤ a ∧ a ≤ 255) (hb : 0 ≤ b ∧ b ≤ 255) :
    PFn Tryz.prog 11 [codeV q ws, .sl (l.map u8V), .str w, .int .u8 a, .int .u8 b] [.bool true] := by
  have e43 := gr36 q ws hws
  have e40 := t44 q ws
  unfold codeV at e43 e40
  refine PFn.of_body hΓ Tryz.func11 (by kernel_rfl) rfl (AWp.seq (AWp.of_awpD [] hΓ hmix (by kernel_rfl) ?_))
  simp -implicitDefEqProofs only [Tryz.ntmps11, Tryz.results11, Nat.reduceAdd, Nat.reduceSub, codeV, go_sem]
  cases hg : great36 q ws
  rotate_left
  · rw [hg] at e43
    refine AWp.seq ?_
    refine AWp.of_awpD [] hΓ hmix (by kernel_rfl) ?_
    simp -implicitDefEqProofs only [go_sem]
    refine callK_fn e43 (.still rfl) ?_
    simp -implicitDefEqProofs only [go_sem]
    refine callK_fn awake36 (.pures rfl) ?_
    simp -implicitDefEqProofs only [go_sem]
  rw [hg] at e43
  by_cases hc : codeCheck q ws = 0
  rotate_left
  · refine AWp.seq ?_
    refine AWp.of_awpD [] hΓ hmix (by kernel_rfl) ?_
    simp -implicitDefEqProofs only [go_sem]
    refine callK_fn e43 (.still rfl) ?_
    simp -implicitDefEqProofs only [go_sem]
    refine callK_fn e40 (.still rfl) ?_
    simp -implicitDefEqProofs only [hc, go_sem]
    refine callK_fn awake36 (.pures rfl) ?_
    simp -implicitDefEqProofs only [go_sem]
  rw [hc] at e40
  by_cases h6 : (6 : Int) < (l.length : Int)
  · refine AWp.seq ?_
    refine AWp.of_awpD [] hΓ hmix (by kernel_rfl) ?_
    simp -implicitDefEqProofs only [go_sem]
    refine callK_fn e43 (.still rfl) ?_
    simp -implicitDefEqProofs only [go_sem]
    refine callK_fn e40 (.still rfl) ?_
    simp -implicitDefEqProofs only [h6, List.length_map, go_sem]
    refine callK_fn awake36 (.pures rfl) ?_
    simp -implicitDefEqProofs only [go_sem]
  by_cases h12 : (12 : Int) < (w.length : Int)
  · refine AWp.seq ?_
    refine AWp.of_awpD [] hΓ hmix (by kernel_rfl) ?_
    simp -implicitDefEqProofs only [go_sem]
    refine callK_fn e43 (.still rfl) ?_
    simp -implicitDefEqProofs only [go_sem]
    refine callK_fn e40 (.still rfl) ?_
    simp -implicitDefEqProofs only [h6, h12, List.length_map, go_sem]
    refine callK_fn awake36 (.pures rfl) ?_
    simp -implicitDefEqProofs only [go_sem]
  have hv := valid_of hc
  have h2 := hv.q2
  have h16 := hv.q16
  have hpos := hv.pos
  have hwl := hv.len
  refine AWp.seq ?_
  refine AWp.of_awpD [] hΓ hmix (by kernel_rfl) ?_
  simp -implicitDefEqProofs only [go_sem]
  refine callK_fn e43 (.still rfl) ?_
  simp -implicitDefEqProofs only [go_sem]
  refine callK_fn e40 (.still rfl) ?_
  simp -implicitDefEqProofs only [h6, h12, List.length_map, go_sem]
  refine AWp.seq (AWp.of_awpD [] hΓ hmix (by kernel_rfl) ?_)
  simp -implicitDefEqProofs only [go_sem]
  refine AWp.adopt (l := []) 11 3 1 rfl (by simp) ?_
  obtain ⟨ks, hks⟩ : ∃ ks : List Int, ks = l.map fun b => ((b.toNat % ws.length : Nat) : Int) := ⟨_, rfl⟩
  have hksl : ks.length = l.length := by rw [hks]; simp
  have hksb : ∀ k ∈ ks, 0 ≤ k ∧ k < ws.length := fun k hk => by
    rw [hks] at hk
    obtain ⟨b, _, rfl⟩ := List.mem_map.1 hk
    have := Nat.mod_lt b.toNat hpos
    omega
  simp -implicitDefEqProofs only [go_sem]
  have hs1 : ∀ k : Int, sizeOK [PV.int .i64 k] 1 := fun k => by simp [sizeOK, PV.cells]
  have ho1 : ∀ k : Int, oneOK [PV.int .i64 k] := fun k => by simp [oneOK, PV.cells, PV.isAgg]
  refine AWp.seq (AWp.seq (AWp.of_awpD [] hΓ hmix (by kernel_rfl) ?_))
  simp -implicitDefEqProofs only [List.length_map, go_sem]
  refine AWp.block ?_
  refine AWp.mono (Q := fun e st => e = .exit 0 ∧ Weak st ⟨mkF 170 [(2, .p (.str w)), (3, .p (.int .u8 a)), (4, .p (.int .u8 b)), (5, .ptr 0 0), (10, .p (.bool false)), (11, .own 1 l.length)], [codeB q ws, .row 3 1 (ks.map (.int .i64)) .lax]⟩) ?_ ?_
  · refine AWp.loopI (fun k : Nat => ⟨mkF 170 [(2, .p (.str w)), (3, .p (.int .u8 a)), (4, .p (.int .u8 b)), (5, .ptr 0 0), (10, .p (.bool false)), (11, .own 1 k), (45, .p (.sl (l.map u8V))), (46, .p (.int .i64 l.length)), (47, .p (.int .i64 k))], [codeB q ws, .row 3 1 ((ks.take k).map (.int .i64)) .lax]⟩)
      (fun k => k ≤ l.length) (fun k => l.length - k) 0 (by simp [go_sem, codeB]) (by omega) ?_
    intro k hk
    simp -implicitDefEqProofs only [codeB, go_sem]
    refine AWp.of_awpD [] hΓ hmix (by kernel_rfl) ?_
    by_cases hlt : k < l.length
    · have hu : (l.map u8V).getD k default = .int .u8 l[k].toNat := by rw [getD_map_lt _ _ _ _ hlt]; rfl
      simp -implicitDefEqProofs only [hlt, hu, ↓reduceIte, go_sem]
      have hwr : IntKind.wrap .i64 (l[k].toNat : Int) = l[k].toNat := InR.wrap (by simp only [InR]; have := l[k].toNat_lt; omega)
      have hki : k < ks.length := by omega
      have hkx : ((l[k].toNat : Int) % (ws.length : Int)) = ks[k] := by
        subst hks; simp
      rw [hwr, hkx]
      refine ⟨⟨by omega, by omega⟩, ⟨hs1 _, by omega⟩, ⟨hs1 _, ho1 _⟩, ⟨.inl (by omega), by omega, by omega⟩, by simp only [InR]; omega, k + 1, ⟨⟨rfl, by omega⟩, .inr rfl, .inr (.inl ?_)⟩, hlt, by omega⟩
      rw [List.take_succ_eq_append_getElem hki, List.map_append]; rfl
    · have hkl : k = l.length := by omega
      simp -implicitDefEqProofs only [hlt, ↓reduceIte, go_sem]
      exact ⟨hkl.symm, .inr rfl, by rw [hkl, ← hksl, List.take_length]⟩
  rintro e st ⟨rfl, hw⟩
  show AWp _ _ _ _ _
  refine AWp.weak hw ?_
  clear hw
  simp -implicitDefEqProofs only [codeB, go_sem]
  refine AWp.freeze 1 rfl ?_
  simp -implicitDefEqProofs only [Frozen, AV.thaw, AObj.thaw, AV.thaw.thawL, List.map_cons, List.map_nil, List.set_cons_zero, List.set_cons_succ, go_sem]
  obtain ⟨m1, m2, m3⟩ := msg_part hv hksb
  have e58 := p38 q ws ks (by omega)
  have hin0 : encIn ws ks = true := by
    unfold encIn
    refine List.all_eq_true.2 fun k hk => ?_
    obtain ⟨x1, x2⟩ := hksb k hk
    rw [decide_eq_true x1, decide_eq_true x2]; rfl
  have hE0 : encE q ws ks = 0 := by
    unfold encE
    rw [if_pos hc, if_pos hin0, if_neg (by omega)]
  have hS0 : encS q ws ks = encL ws ks := by unfold encS; rw [if_pos hE0]
  rw [hE0, hS0] at e58
  generalize encL ws ks = m at m1 m2 m3 e58
  have hml : m.length ≤ 192 := by omega
  unfold codeV at e58
  refine AWp.seq (AWp.of_awpD [] hΓ hmix (by kernel_rfl) ?_)
  simp -implicitDefEqProofs only [go_sem]
  refine callK_fn e58 (.owned rfl rfl) ?_
  simp -implicitDefEqProofs only [go_sem]
  refine AWp.seq (AWp.of_awpD [] hΓ hmix (by kernel_rfl) ?_)
  simp -implicitDefEqProofs only [go_sem]
  obtain ⟨i, hi⟩ : ∃ i : Nat, a % ((m.length : Int) + 1) = i := ⟨(a % ((m.length : Int) + 1)).toNat, by
    have := Int.emod_nonneg a (b := (m.length : Int) + 1) (by omega)
    omega⟩
  have hi2 : i ≤ m.length := by
    have := Int.emod_lt_of_pos a (b := (m.length : Int) + 1) (by omega)
    omega
  obtain ⟨j, hj⟩ : ∃ j : Nat, b % ((m.length : Int) - i + 1) = j := ⟨(b % ((m.length : Int) - i + 1)).toNat, by
    have := Int.emod_nonneg b (b := (m.length : Int) - i + 1) (by omega)
    omega⟩
  have hj2 : i + j ≤ m.length := by
    have := Int.emod_lt_of_pos b (b := (m.length : Int) - i + 1) (by omega)
    omega
  have hwa : IntKind.wrap .i64 a = a := InR.wrap (by simp only [InR]; omega)
  have hwb : IntKind.wrap .i64 b = b := InR.wrap (by simp only [InR]; omega)
  have hin1 : InR .i64 ((m.length : Int) + 1) := by simp only [InR]; omega
  have hin2 : InR .i64 ((m.length : Int) - i + 1) := by simp only [InR]; omega
  refine AWp.seq (AWp.of_awpD [] hΓ hmix (by kernel_rfl) ?_)
  simp -implicitDefEqProofs only [hwa, hi, go_sem]
  refine ⟨hin1, ⟨by omega, by omega⟩, ?_⟩
  refine AWp.seq (AWp.of_awpD [] hΓ hmix (by kernel_rfl) ?_)
  simp -implicitDefEqProofs only [hwb, hj, go_sem]
  refine ⟨by simp only [InR]; omega, hin2, ⟨by omega, by omega⟩, by simp only [InR]; omega, ?_⟩
  have hij : ((i : Int) + (j : Int)).toNat - i = j := by omega
  have hle1 : (i : Int) ≤ i + j := by omega
  have hle2 : (i : Int) + j ≤ m.length := by omega
  have f1 := fac_ok hc (w := (m.drop i).take j) (fun b hb => m3 b ((infix_dt m i j).subset hb)) (by rw [List.length_take, List.length_drop]; omega)
  rw [fac_sub hv (infix_dt m i j) ((fac_iff hv m).2 m1)] at f1
  refine AWp.seq (AWp.of_awpD [(14, 11)] hΓ hmix (by kernel_rfl) ?_)
  simp -implicitDefEqProofs only [hij, hle1, hle2, go_sem]
  refine callVPK_fn f1 (.still rfl) ?_
  simp -implicitDefEqProofs only [go_sem]
  have e41 := t78 q w
  by_cases hw0 : wordCheck q w = 0
  rotate_left
  · refine AWp.seq (AWp.of_awpD [] hΓ hmix (by kernel_rfl) ?_)
    simp -implicitDefEqProofs only [go_sem]
    refine callK_fn e41 (.pures rfl) ?_
    simp -implicitDefEqProofs only [hw0, go_sem]
    refine callK_fn awake36 (.pures rfl) ?_
    simp -implicitDefEqProofs only [go_sem]
  have hwo := (wc_iff h2 h16 (by omega)).1 hw0
  rw [hw0] at e41
  refine AWp.seq (AWp.of_awpD [] hΓ hmix (by kernel_rfl) ?_)
  simp -implicitDefEqProofs only [go_sem]
  refine callK_fn e41 (.pures rfl) ?_
  simp -implicitDefEqProofs only [go_sem]
  have f2 := fac_ok hc (w := w) hwo (by omega)
  refine AWp.seq (AWp.of_awpD [] hΓ hmix (by kernel_rfl) ?_)
  simp -implicitDefEqProofs only [go_sem]
  refine callK_fn f2 (.still rfl) ?_
  simp -implicitDefEqProofs only [go_sem]
  clear hi hj hi2 hj2 hij hle1 hle2 hin1 hin2 f1
  obtain ⟨i, hi⟩ : ∃ i : Nat, a % ((w.length : Int) + 1) = i := ⟨(a % ((w.length : Int) + 1)).toNat, by
    have := Int.emod_nonneg a (b := (w.length : Int) + 1) (by omega)
    omega⟩
  have hi2 : i ≤ w.length := by
    have := Int.emod_lt_of_pos a (b := (w.length : Int) + 1) (by omega)
    omega
  obtain ⟨j, hj⟩ : ∃ j : Nat, b % ((w.length : Int) - i + 1) = j := ⟨(b % ((w.length : Int) - i + 1)).toNat, by
    have := Int.emod_nonneg b (b := (w.length : Int) - i + 1) (by omega)
    omega⟩
  have hj2 : i + j ≤ w.length := by
    have := Int.emod_lt_of_pos b (b := (w.length : Int) - i + 1) (by omega)
    omega
  have hin1 : InR .i64 ((w.length : Int) + 1) := by simp only [InR]; omega
  have hin2 : InR .i64 ((w.length : Int) - i + 1) := by simp only [InR]; omega
  refine AWp.seq (AWp.of_awpD [] hΓ hmix (by kernel_rfl) ?_)
  simp -implicitDefEqProofs only [hwa, hi, go_sem]
  refine ⟨hin1, ⟨by omega, by omega⟩, ?_⟩
  refine AWp.seq (AWp.of_awpD [] hΓ hmix (by kernel_rfl) ?_)
  simp -implicitDefEqProofs only [hwb, hj, go_sem]
  refine ⟨by simp only [InR]; omega, hin2, ⟨by omega, by omega⟩, by simp only [InR]; omega, ?_⟩
  have hij : ((i : Int) + (j : Int)).toNat - i = j := by omega
  have hle1 : (i : Int) ≤ i + j := by omega
  have hle2 : (i : Int) + j ≤ w.length := by omega
  have f3 := fac_ok hc (w := (w.drop i).take j) (fun b hb => hwo b ((infix_dt w i j).subset hb)) (by rw [List.length_take, List.length_drop]; omega)
  refine AWp.seq (AWp.of_awpD [(22, 11)] hΓ hmix (by kernel_rfl) ?_)
  simp -implicitDefEqProofs only [hij, hle1, hle2, go_sem]
  refine callVPK_fn f3 (.still rfl) ?_
  simp -implicitDefEqProofs only [go_sem]
  have hrv := rev_valid hv
  have e59 := t39 q ws
  rw [if_pos hc, if_pos hrv, if_pos hc, hrv] at e59
  have e60 := t70 w (by omega)
  have f4 := fac_ok hrv (w := w.reverse) (fun b hb => hwo b (List.mem_reverse.1 hb)) (by rw [List.length_reverse]; omega)
  rw [fac_rev hv] at f4
  unfold codeV at e59
  refine AWp.seq (AWp.of_awpD [] hΓ hmix (by kernel_rfl) ?_)
  simp -implicitDefEqProofs only [go_sem]
  refine callK_fn e59 (.still rfl) ?_
  simp -implicitDefEqProofs only [go_sem]
  refine AWp.seq (AWp.of_awpD [(24, 9)] hΓ hmix (by kernel_rfl) ?_)
  simp -implicitDefEqProofs only [go_sem]
  refine callVPK_fn e60 (.pures rfl) ?_
  simp -implicitDefEqProofs only [go_sem]
  refine callVPK_fn f4 (.still rfl) ?_
  simp -implicitDefEqProofs only [go_sem]
  have hsub : facB ws w = true → facB ws ((w.drop i).take j) = true := fac_sub hv (infix_dt w i j)
  cases hF : facB ws w
  · refine AWp.of_awpD [] hΓ hmix (by kernel_rfl) ?_
    simp -implicitDefEqProofs only [ite_self, Int.lt_irrefl, if_false, beq_self_eq_true, go_sem]
    refine callK_fn awake36 (.pures rfl) ?_
    simp -implicitDefEqProofs only [go_sem]
  · have hF2 := hsub hF
    rw [hF2]
    refine AWp.of_awpD [] hΓ hmix (by kernel_rfl) ?_
    simp -implicitDefEqProofs only [ite_self, Int.lt_irrefl, if_false, beq_self_eq_true, go_sem]
    refine callK_fn awake36 (.pures rfl) ?_
    simp -implicitDefEqProofs only [go_sem]
end Go.Proofs.YtpljmccnfmkmfaaGreat
end

section
namespace Go.Proofs.YtpljmccnfmkmfaaGreat
open Go Go.AM Go.RowKit Go.ChangeShapes
set_option maxRecDepth 100000

theorem own : ownKnob Tryz.prog.godebug = none := by kernel_rfl
theorem laidOut : laidOutB Tryz.prog = true := by kernel_rfl

def codeSh : Sh := .agg [.int .i64, .sl .str]

theorem strs_of {l : List PV} (h : ∀ i, i < l.length → Fit .str (l.getD i default)) : ∃ ws : List (List UInt8), l = ws.map .str ∧ ∀ w ∈ ws, w.length ≤ maxLen := by
  induction l with
  | nil => exact ⟨[], rfl, by simp⟩
  | cons x l ih =>
    obtain ⟨ws, h1, h2⟩ := ih (fun i hi => h (i + 1) (by simpa using hi))
    have h0 := h 0 (by simp)
    simp only [List.getD_cons_zero] at h0
    cases h0 with
    | str s hs => exact ⟨s :: ws, by rw [h1]; rfl, fun w hw => by
        rcases List.mem_cons.1 hw with rfl | hw
        · exact hs
        · exact h2 w hw⟩
theorem words_of {p : PV} (h : Fit (.sl .str) p) : ∃ ws : List (List UInt8), p = .sl (ws.map .str) ∧ ws.length ≤ maxLen ∧ ∀ w ∈ ws, w.length ≤ maxLen := by
  cases h with
  | sl _ l h1 h2 =>
    obtain ⟨ws, rfl, h3⟩ := strs_of h2
    exact ⟨ws, rfl, by simpa using h1, h3⟩
theorem code_of {p : PV} (h : Fit codeSh p) : ∃ (q : Int) (ws : List (List UInt8)), p = codeV q ws ∧ InR .i64 q ∧ ws.length ≤ maxLen ∧ ∀ w ∈ ws, w.length ≤ maxLen := by
  cases h with
  | agg _ l h1 h2 =>
    match l, h1 with
    | [x, y], _ =>
      have h3 := h2 0 (by simp)
      have h4 := h2 1 (by simp)
      simp only [List.getD_cons_zero, List.getD_cons_succ] at h3 h4
      obtain ⟨ws, rfl, h5⟩ := words_of h4
      cases h3 with
      | int _ n hn => exact ⟨n, ws, rfl, hn, h5⟩
end Go.Proofs.YtpljmccnfmkmfaaGreat
end

