/-
  The shelf's contracts for (*strings.Builder).WriteString and String at this program.
  code.Encode.
  Codes composed of prefix codes are prefix codes with as many words.
  slices.Index and Contains of words.
  The law CodeComposes.
  What a parameter that fits a shape is: codes, ambiguities, lists of words and numbers.
-/
import Derived.Shelf.Strings.Builder1
import Derived.Test.YtgkbafkmbokkaaaProg
import Derived.Test.YtgkbafkmbokkaaaJbdef5c08b229
import Derived.Test.YtgkbafkmbokkaaaJ32789e2d91b1
import Derived.Test.YtgkbafkmbokkaaaJdcd5bd6f7e28
import Derived.Test.YtgkbafkmbokkaaaJ5140b6250559
import Derived.Test.YtgkbafkmbokkaaaJ379b51e85341

section
namespace Go.Proofs
open Go.Shelf
def Try.lays166_ren : Go.Shelf.Ren := ⟨fun | 166 => 70 | 240 => 92 | 276 => 108 | n => n, fun | 70 => 88 | 9 => 9 | 3 => 3 | 75 => 92 | 0 => 0 | 72 => 90 | 37 => 61 | 4 => 4 | 164 => 114 | 20 => 20 | 5 => 5 | 80 => 95 | n => n, fun | n => n⟩
theorem Try.lays166 : Go.Proofs.Lays.n166 Try.prog Try.lays166_ren := {
  mixed := by kernel_rfl
  f166 := Try.func70.trans (congrArg some (by kernel_rfl))
  f240 := Try.func92.trans (congrArg some (by kernel_rfl))
  f276 := Try.func108.trans (congrArg some (by kernel_rfl))
  t0 := Try.underlying0
  a0 := Try.isAgg0
  z0 := Try.sizeOf0
  v0 := Try.zeroValue0
  t3 := Try.underlying3
  a3 := Try.isAgg3
  z3 := Try.sizeOf3
  v3 := Try.zeroValue3
  t4 := Try.underlying4
  a4 := Try.isAgg4
  z4 := Try.sizeOf4
  v4 := Try.zeroValue4
  t9 := Try.underlying9
  a9 := Try.isAgg9
  z9 := Try.sizeOf9
  v9 := Try.zeroValue9
  t20 := Try.underlying20
  a20 := Try.isAgg20
  z20 := Try.sizeOf20
  v20 := Try.zeroValue20
  t37 := Try.underlying61
  a37 := Try.isAgg61
  z37 := Try.sizeOf61
  v37 := Try.zeroValue61
  t70 := Try.underlying88
  a70 := Try.isAgg88
  z70 := Try.sizeOf88
  v70 := Try.zeroValue88
  t72 := Try.underlying90
  a72 := Try.isAgg90
  z72 := Try.sizeOf90
  v72 := Try.zeroValue90
  t75 := Try.underlying92
  a75 := Try.isAgg92
  z75 := Try.sizeOf92
  v75 := Try.zeroValue92
  t164 := Try.underlying114
  a164 := Try.isAgg114
  z164 := Try.sizeOf114
  v164 := Try.zeroValue114 }
def Try.lays169_ren : Go.Shelf.Ren := ⟨fun | 169 => 71 | n => n, fun | 70 => 88 | 9 => 9 | 0 => 0 | 72 => 90 | 37 => 61 | 127 => 107 | 3 => 3 | 5 => 5 | n => n, fun | n => n⟩
theorem Try.lays169 : Go.Proofs.Lays.n169 Try.prog Try.lays169_ren := {
  mixed := by kernel_rfl
  f169 := Try.func71.trans (congrArg some (by kernel_rfl))
  t0 := Try.underlying0
  a0 := Try.isAgg0
  z0 := Try.sizeOf0
  v0 := Try.zeroValue0
  t3 := Try.underlying3
  a3 := Try.isAgg3
  z3 := Try.sizeOf3
  v3 := Try.zeroValue3
  t9 := Try.underlying9
  a9 := Try.isAgg9
  z9 := Try.sizeOf9
  v9 := Try.zeroValue9
  t37 := Try.underlying61
  a37 := Try.isAgg61
  z37 := Try.sizeOf61
  v37 := Try.zeroValue61
  t70 := Try.underlying88
  a70 := Try.isAgg88
  z70 := Try.sizeOf88
  v70 := Try.zeroValue88
  t72 := Try.underlying90
  a72 := Try.isAgg90
  z72 := Try.sizeOf90
  v72 := Try.zeroValue90
  t127 := Try.underlying107
  a127 := Try.isAgg107
  z127 := Try.sizeOf107
  v127 := Try.zeroValue107 }
theorem Try.Builder_Extra_166 : Builder.Extra Try.prog Try.lays166_ren := {
  sizeBuilder := by kernel_rfl
  liesBuilder := by kernel_rfl
  t5 := Try.underlying5
  a5 := Try.isAgg5
  z5 := Try.sizeOf5
  v5 := Try.zeroValue5
  infoByte := by kernel_rfl
  cellsByte := by kernel_rfl
  sizeByte := by kernel_rfl
  neB5 := by decide }
theorem Try.Builder_Extra_169 : Builder.Extra Try.prog Try.lays169_ren := {
  sizeBuilder := by kernel_rfl
  liesBuilder := by kernel_rfl
  t5 := Try.underlying5
  a5 := Try.isAgg5
  z5 := Try.sizeOf5
  v5 := Try.zeroValue5
  infoByte := by kernel_rfl
  cellsByte := by kernel_rfl
  sizeByte := by kernel_rfl
  neB5 := by decide }
end Go.Proofs
end

section
namespace Go.Proofs.Ytgkbafkmbokkaaa
open Go Go.AM Go.RowKit
set_option maxRecDepth 100000
set_option linter.unusedSimpArgs false

/-- Words put together. -/
def encL (ws : List (List UInt8)) (ks : List Int) : List UInt8 := (ks.map fun k => ws.getD k.toNat []).flatten
def encIn (ws : List (List UInt8)) (ks : List Int) : Bool := ks.all fun k => decide (0 ≤ k) && decide (k < ws.length)
def encE (q : Int) (ws : List (List UInt8)) (ks : List Int) : Int := if codeCheck q ws = 0 then (if encIn ws ks = true then (if 65536 < (encL ws ks).length then 4 else 0) else 2) else 1
def encS (q : Int) (ws : List (List UInt8)) (ks : List Int) : List UInt8 := if encE q ws ks = 0 then encL ws ks else []
theorem encL_take {ws : List (List UInt8)} {ks : List Int} {i : Nat} (hi : i < ks.length) : encL ws (ks.take (i + 1)) = encL ws (ks.take i) ++ ws.getD ks[i].toNat [] := by
  unfold encL; rw [List.take_succ_eq_append_getElem hi, List.map_append, List.flatten_append]; simp only [List.map_cons, List.map_nil, List.flatten_cons, List.flatten_nil, List.append_nil]
theorem encL_le (ws : List (List UInt8)) (ks : List Int) (i : Nat) : (encL ws (ks.take i)).length ≤ (encL ws ks).length := by
  have : encL ws ks = encL ws (ks.take i) ++ encL ws (ks.drop i) := by
    unfold encL; rw [← List.flatten_append, ← List.map_append, List.take_append_drop]
  rw [this, List.length_append]; omega
theorem encIn_take {ws : List (List UInt8)} {ks : List Int} {i : Nat} (hi : i < ks.length) : encIn ws (ks.take (i + 1)) = (encIn ws (ks.take i) && (decide (0 ≤ ks[i]) && decide (ks[i] < ws.length))) := by
  unfold encIn; rw [List.take_succ_eq_append_getElem hi, List.all_append]; simp
theorem encIn_bad {ws : List (List UInt8)} {ks : List Int} {i : Nat} (hi : i < ks.length) (h : ks[i] < 0 ∨ (ws.length : Int) ≤ ks[i]) : encIn ws ks = false := by
  unfold encIn
  rw [List.all_eq_false]
  refine ⟨ks[i], List.getElem_mem hi, ?_⟩
  simp
  omega

/-- The frame beside the builder. -/
def encT (ks : List Int) : List AV := mkF 55 [(1, .p (.sl (ks.map (.int .i64)))), (2, .ptr 0 0)]
def encTk (ks : List Int) (k : Nat) : List AV := mkF 55 [(1, .p (.sl (ks.map (.int .i64)))), (2, .ptr 0 0), (41, .p (.sl (ks.map (.int .i64)))), (42, .p (.int .i64 ks.length)), (43, .p (.int .i64 k))]

theorem encTk_m {ks : List Int} {k : Nat} {X : Ctx} {I : Nat → Prop} {μ : Nat → Value} {ob : Nat → Option Nat} {h : List AObj} {wb w : World} {a : Act} {l : List UInt8} (B : Bld X I μ ob h wb 90 5 9 (encTk ks k) l w a) :
    (match a.tmps.getD 43 undef with | .int _ k => ks.length - k.toNat | _ => 0) = ks.length - k := by
  have h1 := B.rep.evs (.tmp 43)
  have h2 : ev (encTk ks k) (.tmp 43) = .p (.int .i64 k) := rfl
  rw [h2] at h1
  have h3 : a.tmps.getD 43 undef = .int .i64 k := h1.int_inv
  rw [h3]; rfl

theorem u37 (q : Int) (ws : List (List UInt8)) (ks : List Int) (hk : ks.length ≤ 1000000) : PFn Try.prog 37 [codeV q ws, .sl (ks.map (.int .i64))] [.str (encS q ws ks), .int .i64 (encE q ws ks)] := by
  refine PFn.of_body hΓ Try.func37 (by kernel_rfl) rfl (AWp.seq (AWp.of_awpD [] hΓ hmix (by kernel_rfl) ?_))
  simp -implicitDefEqProofs only [Try.ntmps37, Try.results37, Nat.reduceAdd, Nat.reduceSub, codeV, go_sem]
  refine AWp.seq (AWp.of_awpD [] hΓ hmix (by kernel_rfl) ?_)
  simp -implicitDefEqProofs only [go_sem]
  refine callK_fn (t45 q ws) (.still rfl) ?_
  by_cases h : codeCheck q ws = 0
  rotate_left
  · have e1 : encE q ws ks = 1 := by unfold encE; rw [if_neg h]
    have e2 : encS q ws ks = [] := by unfold encS; rw [e1, if_neg (by decide)]
    rw [e1, e2]
    simp -implicitDefEqProofs only [h, go_sem]
  have hv := valid_of h
  have hlen := hv.len
  rw [h]
  simp -implicitDefEqProofs only [go_sem]
  refine AWp.seq (AWp.of_awpD [] hΓ hmix (by kernel_rfl) ?_)
  simp -implicitDefEqProofs only [go_sem]
  refine AWp.seq (AWp.of_awpD [] hΓ hmix (by kernel_rfl) ?_)
  simp -implicitDefEqProofs only [List.length_map, go_sem]
  refine AWp.loopI (fun i : Nat => ⟨mkF 55 [(1, .p (.sl (ks.map (.int .i64)))), (2, .ptr 0 0), (6, .p (.int .i64 (encL ws (ks.take i)).length)), (15, .p (.sl (ks.map (.int .i64)))), (16, .p (.int .i64 ks.length)), (17, .p (.int .i64 i))], [codeB q ws]⟩)
    (fun i => i ≤ ks.length ∧ encIn ws (ks.take i) = true ∧ (encL ws (ks.take i)).length ≤ 32 * i) (fun i => ks.length - i) 0 (by simp [go_sem, codeB, encL]) (by simp [encIn, encL]) ?_
  rintro i ⟨hi, hin, hbd⟩
  refine AWp.of_awpD [] hΓ hmix (by kernel_rfl) ?_
  by_cases hlt : i < ks.length
  · have hgk : (ks.map (PV.int .i64)).getD i default = .int .i64 ks[i] := by
      rw [getD_map_lt _ _ _ _ hlt]
    by_cases hbad : ks[i] < 0 ∨ (ws.length : Int) ≤ ks[i]
    · have e1 : encE q ws ks = 2 := by unfold encE; rw [if_pos h, encIn_bad hlt hbad]; rfl
      have e2 : encS q ws ks = [] := by unfold encS; rw [e1, if_neg (by decide)]
      rw [e1, e2]
      by_cases hneg : ks[i] < 0
      · simp -implicitDefEqProofs only [List.length_map, hlt, hgk, hneg, codeB, go_sem]
      · have hge : (ws.length : Int) ≤ ks[i] := hbad.resolve_left hneg
        simp -implicitDefEqProofs only [List.length_map, hlt, hgk, hneg, hge, codeB, go_sem]
    · have hneg : ¬ ks[i] < 0 := fun h => hbad (.inl h)
      have hge : ¬ (ws.length : Int) ≤ ks[i] := fun h => hbad (.inr h)
      have hkn : ks[i].toNat < ws.length := by omega
      have hgw : (ws.map PV.str).getD ks[i].toNat default = .str (ws.getD ks[i].toNat []) := by
        rw [getD_map_lt _ _ _ _ hkn, List.getD_eq_getElem?_getD, List.getElem?_eq_getElem hkn]; rfl
      have hsh := hv.short _ hkn
      have hst := encL_take (ws := ws) hlt
      have hl2 : (encL ws (ks.take (i + 1))).length = (encL ws (ks.take i)).length + (ws.getD ks[i].toNat []).length := by rw [hst, List.length_append]
      have hin2 : encIn ws (ks.take (i + 1)) = true := by
        rw [encIn_take hlt, hin, decide_eq_true (show 0 ≤ ks[i] by omega), decide_eq_true (show ks[i] < ws.length by omega)]; rfl
      simp -implicitDefEqProofs only [List.length_map, hlt, hgk, hneg, hge, hgw, codeB, go_sem]
      exact ⟨⟨by omega, by omega⟩, by simp only [InR]; omega, by simp only [InR]; omega, i + 1, ⟨by omega, by omega⟩, ⟨hlt, hin2, by omega⟩, by omega⟩
  · have hin' : i = ks.length := by omega
    rw [hin', List.take_length] at hin hbd ⊢
    have hz : ¬ (ks.length : Int) < ks.length := by omega
    simp -implicitDefEqProofs only [List.length_map, hz, go_sem]
    refine AWp.seq (AWp.of_awpD [] hΓ hmix (by kernel_rfl) ?_)
    by_cases hbig : 65536 < (encL ws ks).length
    · have hbig' : (65536 : Int) < (encL ws ks).length := by omega
      have e1 : encE q ws ks = 4 := by unfold encE; rw [if_pos h, if_pos hin, if_pos hbig]
      have e2 : encS q ws ks = [] := by unfold encS; rw [e1, if_neg (by decide)]
      rw [e1, e2]
      simp -implicitDefEqProofs only [hbig', go_sem]
    · have hbig' : ¬ (65536 : Int) < (encL ws ks).length := by omega
      have e1 : encE q ws ks = 0 := by unfold encE; rw [if_pos h, if_pos hin, if_neg hbig]
      have e2 : encS q ws ks = encL ws ks := by unfold encS; rw [e1, if_pos rfl]
      rw [e1, e2]
      simp -implicitDefEqProofs only [hbig', go_sem]
      refine AWp.bstart (T := 90) (e := 5) (s := 9) (by kernel_rfl) (by simp [go_sem]) ?_
      intro X I μ ob wb w a hE B
      have BT := B.weak (tm' := encT ks) (by simp [go_sem, encT])
      clear B
      have HW : ∀ (B b : Nat) (bs : List Value) (z : ByteArray) (w : World), Lib.IsBuilder 90 5 B b bs w → bs.length + z.size ≤ 140737488355328 → B ≤ w.heap.size →
          Calls Try.prog 70 #[.pointer (some ⟨b, 0, none⟩), .string z] w fun x w' => x = .returned (.tuple #[.int .i64 z.size, .nilIface]) ∧ (Lib.BuilderAt 90 5 B b (.pointer (some ⟨b, 0, none⟩)) (bs ++ Lib.strCells z) w' ∧ Below B w w') :=
        fun B b bs z w h1 h2 h3 => Any.Builder_WriteString Try.lays166 Try.Builder_Extra_166 B b bs z w h1 h2 h3
      have HS : ∀ (B b : Nat) (l : List UInt8) (w : World), Lib.IsBuilder 90 5 B b (Lib.byteCells l) w → B ≤ w.heap.size →
          Calls Try.prog 71 #[.pointer (some ⟨b, 0, none⟩)] w fun x w' => x = .returned (.string ⟨l.toArray⟩) ∧ Below B w w' :=
        fun B b l w h1 h2 => Any.Builder_String_any Try.lays169 Try.Builder_Extra_169 B b l w h1 h2
      have hW : EntersF Try.prog 70 := entersF_of Try.func70 (by kernel_rfl) rfl
      have hS : EntersF Try.prog 71 := entersF_of Try.func71 (by kernel_rfl) rfl
      refine wpIn_seq (wpIn_seq (wpIn_region ?_))
      refine simp_at (K := fun tm' => weakT tm' (encTk ks 0)) hΓ 0 3 rfl (by decide) (by kernel_rfl) BT ?_ ?_
      · simp -implicitDefEqProofs only [encT, encTk, List.drop, List.take, lexK_nil, lexK_plain, go_sem]
        rfl
      intro tm1 a1 B1 hd1 hw1
      have Bk := B1.weak hw1
      clear BT B1 hw1
      refine wpIn_block (wpIn_loop (fun a' w' => ∃ k, k ≤ ks.length ∧ Bld X I μ ob [codeB q ws] wb 90 5 9 (encTk ks k) (encL ws (ks.take k)) w' a') (fun a' _ => match a'.tmps.getD 43 undef with | .int _ k => ks.length - k.toNat | _ => 0) ⟨0, by omega, Bk⟩ ?_)
      rintro a2 w2 ⟨k, hkn, B2⟩
      rw [encTk_m B2]
      refine wpIn_seq (wpIn_region ?_)
      refine simp_at (K := fun tm' => ∃ v, tm' = putD (encTk ks k) (some 44) v ∧ v = .p (.bool (decide (k < ks.length)))) hΓ 0 1 rfl (by decide) (by kernel_rfl) B2 ?_ ?_
      · simp -implicitDefEqProofs only [encT, encTk, List.drop, List.take, lexK_nil, lexK_plain, go_sem]
        exact ⟨_, rfl, rfl⟩
      rintro tm3 a3 B3 hd3 ⟨v, rfl, rfl⟩
      have hc44 : a3.eval (.tmp 44) = .bool (decide (k < ks.length)) := by
        have h1 := B3.rep.evs (.tmp 44)
        have h2 : ev (putD (encTk ks k) (some 44) (.p (.bool (decide (k < ks.length))))) (.tmp 44) = .p (.bool (decide (k < ks.length))) := rfl
        rw [h2] at h1
        exact h1.bool_inv
      refine wpIn_seq (wpIn_cond_split hc44 (fun ht => wpIn_skip ?_) (fun hf => wpIn_exit ?_))
      · have hlt : k < ks.length := of_decide_eq_true ht
        have hkk := List.all_eq_true.1 hin ks[k] (List.getElem_mem hlt)
        simp only [Bool.and_eq_true, decide_eq_true_eq] at hkk
        have hkn2 : ks[k].toNat < ws.length := by omega
        have hgk : (ks.map (PV.int .i64)).getD k default = .int .i64 ks[k] := by rw [getD_map_lt _ _ _ _ hlt]
        have hgw : (ws.map PV.str).getD ks[k].toNat default = .str (ws.getD ks[k].toNat []) := by
          rw [getD_map_lt _ _ _ _ hkn2, List.getD_eq_getElem?_getD, List.getElem?_eq_getElem hkn2]; rfl
        have B4 := B3.weak (tm' := encTk ks k) (by simp [go_sem, encTk])
        clear B2 B3
        change (Code.seq _ _).wpIn _ _ _ _ _ _
        refine wpIn_seq (wpIn_block (wpIn_seq (wpIn_region ?_)))
        refine simp_at (K := fun tm' => weakT tm' (putD (encTk ks k) (some 11) (.p (.int .i64 ks[k])))) hΓ 0 3 rfl (by decide) (by kernel_rfl) B4 ?_ ?_
        · simp -implicitDefEqProofs only [encT, encTk, List.drop, List.take, lexK_nil, lexK_plain, go_sem, List.length_map, hlt, hgk]
        intro tm5 a5 B5 hd5 hw5
        have B6 := B5.weak hw5
        clear B4 B5 hw5
        change (Code.region _ _ _).wpIn _ _ _ _ _ _
        refine wpIn_region ?_
        refine simp_at (K := fun tm' => weakT tm' (putD (encTk ks k) (some 51) (.p (.str (ws.getD ks[k].toNat []))))) (rest := [5]) hΓ 0 5 rfl (by decide) (by kernel_rfl) B6 ?_ ?_
        · simp -implicitDefEqProofs only [encT, encTk, List.drop, List.take, lexK_nil, lexK_plain, go_sem, List.length_map, hgw, codeB]
          exact hkk
        intro tm7 a7 B7 hd7 hw7
        have B8 := B7.weak hw7
        clear B6 B7 hw7
        have hlk : (encL ws (ks.take k)).length + (ws.getD ks[k].toNat []).length ≤ 140737488355328 := by
          have h1 := encL_le ws ks (k + 1)
          rw [encL_take hlt, List.length_append] at h1
          omega
        refine write_ok (t := 51) (d := 52) (u := ws.getD ks[k].toNat []) rfl hW HW B8 (by decide) rfl hlk ?_
        intro a9 w9 B9 hd9
        have B10 := B9.weak (tm' := encTk ks k) (by simp [go_sem, encTk])
        rw [← encL_take hlt] at B10
        clear B8 B9
        change (Code.region _ _ _).wpIn _ _ _ _ _ _
        refine wpIn_region ?_
        refine simp_at (K := fun tm' => weakT tm' (encTk ks (k + 1))) hΓ 0 2 rfl (by decide) (by kernel_rfl) B10 ?_ ?_
        · simp -implicitDefEqProofs only [encT, encTk, List.drop, List.take, lexK_nil, lexK_plain, go_sem]
          exact ⟨by simp only [InR]; omega, by omega⟩
        intro tm11 a11 B11 hd11 hw11
        have B12 := B11.weak hw11
        refine ⟨⟨k + 1, hlt, B12⟩, ?_⟩
        rw [encTk_m B12]
        omega
      · have hnk : k = ks.length := by have := of_decide_eq_false hf; omega
        rw [hnk, List.take_length] at B3
        change (Code.seq _ _).wpIn _ _ _ _ _ _
        refine wpIn_seq (wpIn_region ?_)
        refine string_ok (k := 0) (rest := [1, 2]) (d := 54) rfl hS HS B3 ?_
        intro a4 w4 R4 hd4
        refine steps_at (KS := fun st => st.tmps.getD 4 .junk = .p (.str (encL ws ks)) ∧ st.tmps.getD 5 .junk = .p (.int .i64 0)) hΓ hE 1 rfl R4 ?_ ?_
        · exact ⟨rfl, rfl⟩
        intro st' a' w' hN ⟨h4, h5⟩
        refine wpIn_ret ⟨st', hN, ?_⟩
        rw [h4, h5]
        exact ⟨by simp [AM.Ends], rfl⟩
end Go.Proofs.Ytgkbafkmbokkaaa
end

section
namespace Go.Proofs.Ytgkbafkmbokkaaa
open Go Go.AM
set_option maxRecDepth 100000
set_option linter.unusedSimpArgs false

theorem ixB_hit (c : UInt8) : ∀ (l : List UInt8) (n : Nat), 0 ≤ ixB c l n → ∃ k : Nat, ixB c l n = ((n + k : Nat) : Int) ∧ l.getD k 0 = c
  | [], n, h => by simp [ixB] at h
  | a :: l, n, h => by
    unfold ixB at h ⊢
    split at h
    · rename_i hb
      refine ⟨0, rfl, ?_⟩
      have := Nat.eq_of_beq_eq_true hb
      simp only [List.getD_cons_zero]
      exact UInt8.toNat_inj.1 this
    · obtain ⟨k, h1, h2⟩ := ixB_hit c l (n + 1) h
      exact ⟨k + 1, by rw [h1]; congr 1; omega, by simpa using h2⟩
theorem digN_inj {b c : UInt8} (hb : 0 ≤ ixB b L16 0) (hc : 0 ≤ ixB c L16 0) (h : digN b = digN c) : b = c := by
  obtain ⟨k, h1, h2⟩ := ixB_hit b L16 0 hb
  obtain ⟨m, h3, h4⟩ := ixB_hit c L16 0 hc
  unfold digN at h
  rw [h1, h3] at h
  have : k = m := by omega
  rw [← h2, ← h4, this]
def LetOK (p : Int) (w : List UInt8) : Prop := ∀ b ∈ w, 0 ≤ ixB b L16 0 ∧ ixB b L16 0 < p
theorem letOK_of {p : Int} {w : List UInt8} (h : wordCheck p w = 0) : LetOK p w := fun b hb => by
  obtain ⟨i, hi, rfl⟩ := List.getElem_of_mem hb
  exact letter_of h hi

theorem comp_prefix {p q : Int} {ds : List (List UInt8)} (hd : Valid q ds) (hl : (ds.length : Int) = p) (hpf : ∀ x ∈ ds, ∀ y ∈ ds, x <+: y → x = y) : ∀ (u v : List UInt8), LetOK p u → LetOK p v → compW ds u <+: compW ds v → u <+: v
  | [], v, _, _, _ => List.nil_prefix
  | b :: u, [], hu, _, h => by
    have hb := hu b (by simp)
    have e : compW ds (b :: u) = ds.getD (digN b) [] ++ compW ds u := rfl
    rw [e] at h
    have h0 := List.prefix_nil.1 h
    exact absurd (List.append_eq_nil_iff.1 h0).1 (hd.ne _ (by unfold digN; omega))
  | b :: u, c :: v, hu, hv, h => by
    have hb := hu b (by simp)
    have hc := hv c (by simp)
    have hbl : digN b < ds.length := by unfold digN; omega
    have hcl : digN c < ds.length := by unfold digN; omega
    have e1 : compW ds (b :: u) = ds.getD (digN b) [] ++ compW ds u := rfl
    have e2 : compW ds (c :: v) = ds.getD (digN c) [] ++ compW ds v := rfl
    rw [e1, e2] at h
    have hm1 : ds.getD (digN b) [] ∈ ds := getD_in hbl
    have hm2 : ds.getD (digN c) [] ∈ ds := getD_in hcl
    have he : ds.getD (digN b) [] = ds.getD (digN c) [] := by
      rcases List.prefix_or_prefix_of_prefix ((List.prefix_append _ _).trans h) (List.prefix_append (ds.getD (digN c) []) (compW ds v)) with h1 | h1
      · exact hpf _ hm1 _ hm2 h1
      · exact (hpf _ hm2 _ hm1 h1).symm
    have hbc : digN b = digN c := by
      rcases Nat.lt_trichotomy (digN b) (digN c) with h1 | h1 | h1
      · have := hd.lt _ _ h1 hcl; rw [he] at this; exact absurd this (ltW_irrefl _)
      · exact h1
      · have := hd.lt _ _ h1 hbl; rw [he] at this; exact absurd this (ltW_irrefl _)
    have := digN_inj hb.1 hc.1 hbc
    subst this
    have h2 := (List.prefix_append_right_inj _).1 h
    obtain ⟨t, ht⟩ := comp_prefix hd hl hpf u v (fun x hx => hu x (by simp [hx])) (fun x hx => hv x (by simp [hx])) h2
    exact ⟨t, by rw [← ht]; rfl⟩

theorem nodup_map_on {α β : Type} {f : α → β} : ∀ {l : List α}, (∀ a ∈ l, ∀ b ∈ l, f a = f b → a = b) → l.Nodup → (l.map f).Nodup
  | [], _, _ => by simp
  | a :: l, hf, h => by
    rw [List.nodup_cons] at h
    rw [List.map_cons, List.nodup_cons]
    refine ⟨fun hm => ?_, nodup_map_on (fun x hx y hy => hf x (by simp [hx]) y (by simp [hy])) h.2⟩
    obtain ⟨b, hb, e⟩ := List.mem_map.1 hm
    exact h.1 (hf b (by simp [hb]) a (by simp) e ▸ hb)

theorem comp_alone {p q : Int} {cs ds : List (List UInt8)} (hv : Valid p cs) (hd : Valid q ds) (hl : (ds.length : Int) = p) (h1 : aloneB (fun w x => x.isPrefixOf w) cs = true) (h2 : aloneB (fun w x => x.isPrefixOf w) ds = true) :
    aloneB (fun w x => x.isPrefixOf w) (made (compL cs ds)) = true ∧ (made (compL cs ds)).length = cs.length := by
  have hc := (alone_iff (strict_nodup hv.strict)).1 h1
  have hdd := (alone_iff (strict_nodup hd.strict)).1 h2
  have hpf : ∀ x ∈ ds, ∀ y ∈ ds, x <+: y → x = y := fun x hx y hy h => (hdd y hy x hx (List.isPrefixOf_iff_prefix.2 h)).symm
  have key : ∀ u ∈ cs, ∀ v ∈ cs, compW ds u <+: compW ds v → u = v := fun u hu v hv' h => by
    have := comp_prefix hd hl hpf u v (letOK_of (hv.words u hu).2.2) (letOK_of (hv.words v hv').2.2) h
    exact (hc v hv' u hu (List.isPrefixOf_iff_prefix.2 this)).symm
  constructor
  · refine (alone_iff (strict_nodup (made_strict _))).2 fun x hx y hy h => ?_
    obtain ⟨u, hu, rfl⟩ := List.mem_map.1 (mem_made.1 hx)
    obtain ⟨v, hv', rfl⟩ := List.mem_map.1 (mem_made.1 hy)
    rw [key v hv' u hu (List.isPrefixOf_iff_prefix.1 h)]
  · have hnd : (compL cs ds).Nodup := nodup_map_on (fun u hu v hv' e => key u hu v hv' (by rw [e]; exact List.prefix_rfl)) (strict_nodup hv.strict)
    have a1 := nodup_len (l := made (compL cs ds)) (m := compL cs ds) (strict_nodup (made_strict _)) (fun x hx => mem_made.1 hx)
    have a2 := nodup_len (l := compL cs ds) (m := made (compL cs ds)) hnd (fun x hx => mem_made.2 hx)
    have a3 : (compL cs ds).length = cs.length := by simp [compL]
    omega

/-! ### Encode's digits -/
theorem encL_comp (ds : List (List UInt8)) (w : List UInt8) : encL ds (w.map fun b => ixB b L16 0) = compW ds w := by
  unfold encL compW digN; rw [List.map_map]; rfl
theorem encIn_comp {p : Int} {ds : List (List UInt8)} (hl : (ds.length : Int) = p) {w : List UInt8} (h : LetOK p w) : encIn ds (w.map fun b => ixB b L16 0) = true := by
  unfold encIn
  rw [List.all_eq_true]
  intro k hk
  obtain ⟨b, hb, rfl⟩ := List.mem_map.1 hk
  have := h b hb
  simp; omega
end Go.Proofs.Ytgkbafkmbokkaaa
end

section
namespace Go.Proofs.Ytgkbafkmbokkaaa
open Go Go.AM
set_option maxRecDepth 100000
set_option linter.unusedSimpArgs false

/-- Where a word is first, or -1. -/
def ixL (x : List UInt8) : List (List UInt8) → Nat → Int
  | [], _ => -1
  | a :: l, k => if a = x then k else ixL x l (k + 1)
theorem ixL_at (x : List UInt8) : ∀ (l : List (List UInt8)) (n k : Nat) (hk : k < l.length), (∀ j (hj : j < k), l[j] ≠ x) → l[k] = x → ixL x l n = ((n + k : Nat) : Int)
  | [], n, k, hk, _, _ => absurd hk (Nat.not_lt_zero k)
  | a :: l, n, 0, _, _, h => by
    have : a = x := h
    subst this; unfold ixL; simp
  | a :: l, n, k + 1, hk, h0, h => by
    have h1 : a ≠ x := h0 0 (by omega)
    unfold ixL
    rw [if_neg h1]
    refine (ixL_at x l (n + 1) k (by simpa using hk) (fun j hj => h0 (j + 1) (by omega)) h).trans ?_
    congr 1; omega
theorem ixL_none (x : List UInt8) : ∀ (l : List (List UInt8)) (n : Nat), x ∉ l → ixL x l n = -1
  | [], _, _ => rfl
  | a :: l, n, h => by
    simp only [List.mem_cons, not_or] at h
    unfold ixL
    rw [if_neg (fun e => h.1 e.symm)]
    exact ixL_none x l (n + 1) h.2
theorem ixL_mem (x : List UInt8) : ∀ (l : List (List UInt8)) (n : Nat), decide (0 ≤ ixL x l n) = decide (x ∈ l)
  | [], _ => by simp [ixL]
  | a :: l, n => by
    unfold ixL
    by_cases h : a = x
    · rw [if_pos h, decide_eq_true (by omega), decide_eq_true (by simp [h])]
    · rw [if_neg h, ixL_mem x l (n + 1)]
      exact decide_eq_decide.2 ⟨fun h' => by simp [h'], fun h' => (List.mem_cons.1 h').resolve_left (fun e => h e.symm)⟩

theorem t48 (ws : List (List UInt8)) (x : List UInt8) (hl : ws.length ≤ 9223372036854775807) : PFn Try.prog 79 [.sl (ws.map .str), .str x] [.int .i64 (ixL x ws 0)] := by
  refine PFn.of_body hΓ Try.func79 (by kernel_rfl) rfl (AWp.of_awpD [] hΓ hmix (by kernel_rfl) ?_)
  simp +contextual -implicitDefEqProofs only [Try.ntmps79, Try.results79, Nat.reduceAdd, Nat.reduceSub, go_sem]
  refine AWp.loopI (fun k : Nat => ⟨mkF 19 [(0, .p (.sl (ws.map .str))), (1, .p (.str x)), (7, .p (.int .i64 ws.length)), (8, .p (.int .i64 k))], []⟩)
    (fun k => k ≤ ws.length ∧ ∀ j (hj : j < ws.length), j < k → ws[j] ≠ x) (fun k => ws.length - k) 0 (by simp [go_sem]) (by simp) ?_
  rintro k ⟨hk, h0⟩
  refine AWp.of_awpD [] hΓ hmix (by kernel_rfl) ?_
  simp +contextual -implicitDefEqProofs only [getD_map_lt, ↓reduceIte, go_sem]
  refine ⟨fun hlt => ⟨fun he => ?_, fun hne => ⟨by simp only [InR]; omega, k + 1, by simp, ⟨hlt, fun j hj hjk => ?_⟩, by omega⟩⟩, fun hge => ?_⟩
  · rw [← he, ixL_at x ws 0 k hlt (fun j hj => h0 j (by omega) hj) he.symm]; simp
  · by_cases hjk' : j < k
    · exact h0 j hj hjk'
    · have : j = k := by omega
      subst this; exact fun e => hne e.symm
  · refine (ixL_none x ws 0 (fun hm => ?_)).symm
    obtain ⟨j, hj, e⟩ := List.getElem_of_mem hm
    exact h0 j hj (by omega) e

theorem t16 (ws : List (List UInt8)) (x : List UInt8) (hl : ws.length ≤ 9223372036854775807) : PFn Try.prog 44 [.sl (ws.map .str), .str x] [.bool (decide (x ∈ ws))] := by
  refine PFn.of_body hΓ Try.func44 (by kernel_rfl) rfl (AWp.of_awpD [] hΓ hmix (by kernel_rfl) ?_)
  simp +contextual -implicitDefEqProofs only [Try.ntmps44, Try.results44, Nat.reduceAdd, Nat.reduceSub, go_sem]
  refine callK_fn (t48 ws x hl) (.pures rfl) ?_
  simp -implicitDefEqProofs only [go_sem]
  exact ixL_mem x ws 0

end Go.Proofs.Ytgkbafkmbokkaaa
end

section
namespace Go.Proofs.Ytgkbafkmbokkaaa
open Go Go.AM
set_option maxRecDepth 100000
set_option linter.unusedSimpArgs false

def longB (l : List (List UInt8)) : Bool := l.any fun x => decide (32 < x.length)

theorem weakH_two (a b : AObj) : ∀ D : List AObj, weakH (D ++ [a, b]) (D ++ [.dead, .dead])
  | [] => ⟨.inl rfl, .inl rfl, trivial⟩
  | _ :: D => ⟨.inr (.inl rfl), weakH_two a b D⟩
/-- The inner loop's frame and heap: word k's digits, j of them. -/
def lzF (EE : Int) (k : Nat) (b : Bool) (cs : List (List UInt8)) (w : List UInt8) (n j : Nat) : List AV := mkF 178 [(2, .ptr 0 0), (3, .ptr 1 0), (5, .ptr 2 0), (6, .p (.int .i64 EE)), (7, .own 3 k), (8, .p (.bool b)), (10, .p (.str w)), (11, .own (n + 1 + 1 + 1 + 1 + 1) j), (53, .p (.sl (cs.map .str))), (54, .p (.int .i64 cs.length)), (55, .p (.int .i64 k)), (60, .own (n + 1 + 1 + 1 + 1) w.length), (61, .p (.int .i64 w.length)), (62, .p (.int .i64 j))]
def lzH (p q xq : Int) (cs ds xw : List (List UInt8)) (WS : List PV) (D : List AObj) (w : List UInt8) (j : Nat) : List AObj := codeB p cs :: codeB q ds :: codeB xq xw :: .row 9 1 WS .lax :: (D ++ [AObj.row 5 1 (w.map u8V) .raw, .row 3 1 (((w.take j).map fun b => ixB b L16 0).map (.int .i64)) .lax])

set_option maxHeartbeats 4000000 in
theorem u9 (p q : Int) (cs ds : List (List UInt8)) (hcs : cs.length ≤ 9223372036854775807) (hds : ds.length ≤ 9223372036854775807) : PFn Try.prog 9 [codeV p cs, codeV q ds] [.bool true] := by
  refine PFn.of_body hΓ Try.func9 (by kernel_rfl) rfl (AWp.of_awpD [] hΓ hmix (by kernel_rfl) ?_)
  simp +contextual -implicitDefEqProofs only [codeV, Try.ntmps9, Try.results9, Nat.reduceAdd, Nat.reduceSub, go_sem]
  refine callK_fn (u28 p cs hcs) (.still rfl) ?_
  cases hf1 : fineB p cs
  · simp -implicitDefEqProofs only [go_sem]
    refine callK_fn awake_ok (.pures rfl) ?_
    simp -implicitDefEqProofs only [go_sem]
  simp -implicitDefEqProofs only [go_sem]
  refine callK_fn (u28 q ds hds) (.still rfl) ?_
  cases hf2 : fineB q ds
  · simp -implicitDefEqProofs only [go_sem]
    refine callK_fn awake_ok (.pures rfl) ?_
    simp -implicitDefEqProofs only [go_sem]
  simp only [fineB, Bool.and_eq_true, decide_eq_true_eq] at hf1 hf2
  have h1 := hf1.2
  have h2 := hf2.2
  have hv := valid_of h1
  have hd := valid_of h2
  have hcl := hv.len
  have hdl := hd.len
  have e26 := u26 p q cs ds
  by_cases h3 : (ds.length : Int) = p
  rotate_left
  · have ex : compQ p q cs ds = codeV 0 [] := by unfold compQ; rw [if_neg (fun e => h3 e.2.2.1)]
    have ee : compE p q cs ds = 11 := by unfold compE; rw [if_pos ⟨h1, h2⟩, if_neg h3]
    rw [ex, ee] at e26
    simp -implicitDefEqProofs only [go_sem]
    refine callK_fn e26 (.still rfl) ?_
    simp -implicitDefEqProofs only [codeV, List.length_map, h3, go_sem]
    refine callK_fn awake_ok (.pures rfl) ?_
    simp -implicitDefEqProofs only [go_sem]
  have hwd : ∀ x ∈ ds, x.length ≤ 32 := fun x hx => (hd.words x hx).2.1
  obtain ⟨xq, xw, EE, hx, hEE, hor⟩ : ∃ xq xw EE, compQ p q cs ds = codeV xq xw ∧ compE p q cs ds = EE ∧ (longB (compL cs ds) = false ∧ xq = q ∧ xw = made (compL cs ds) ∧ EE = 0 ∨ longB (compL cs ds) = true ∧ EE = 4) := by
    have hcw : ∀ x ∈ compL cs ds, x ≠ [] ∧ wordCheck q x = 0 := fun x hx => by
      obtain ⟨w, hw, rfl⟩ := List.mem_map.1 hx
      exact comp_word hv hd h3 hw
    have hcl2 : (compL cs ds).length = cs.length := by simp [compL]
    cases hLB : longB (compL cs ds)
    · have hc0 : codeCheck q (made (compL cs ds)) = 0 := by
        refine check_of hd.q2 hd.q16 (fun e => ?_) (by have := made_le (compL cs ds); omega) (fun x hx => ?_) (made_strict _)
        · have hp := hv.pos
          have : compW ds cs[0] ∈ made (compL cs ds) := mem_made.2 (List.mem_map.2 ⟨_, List.getElem_mem hp, rfl⟩)
          rw [e] at this; cases this
        · have hx := mem_made.1 hx
          refine ⟨(hcw x hx).1, ?_, (hcw x hx).2⟩
          unfold longB at hLB
          have := List.any_eq_false.1 hLB x hx
          simp at this; omega
      refine ⟨q, made (compL cs ds), 0, ?_, ?_, .inl ⟨rfl, rfl, rfl, rfl⟩⟩
      · unfold compQ; rw [if_pos ⟨h1, h2, h3, hc0⟩]
      · unfold compE; rw [if_pos ⟨h1, h2⟩, if_pos h3, hc0]
    · have hc4 : codeCheck q (made (compL cs ds)) = 4 := by
        refine long_check hd.q2 hd.q16 (by omega) hcw ?_
        unfold longB at hLB
        obtain ⟨x, hx1, hx2⟩ := List.any_eq_true.1 hLB
        exact ⟨x, hx1, of_decide_eq_true hx2⟩
      refine ⟨0, [], 4, ?_, ?_, .inr ⟨rfl, rfl⟩⟩
      · unfold compQ; rw [if_neg (fun e => by have := e.2.2.2; omega)]
      · unfold compE; rw [if_pos ⟨h1, h2⟩, if_pos h3, hc4]
  rw [hEE] at e26
  rw [hx] at e26
  simp -implicitDefEqProofs only [go_sem]
  refine callK_fn e26 (.still rfl) ?_
  simp -implicitDefEqProofs only [codeV, List.length_map, h3, go_sem]
  refine AWp.adopt (l := []) 7 9 1 (by rfl) (by simp) ?_
  simp -implicitDefEqProofs only [go_sem]
  refine AWp.loopI (fun k : Nat => ⟨mkF 178 [(2, .ptr 0 0), (3, .ptr 1 0), (5, .ptr 2 0), (6, .p (.int .i64 EE)), (7, .own 3 k), (8, .p (.bool (longB (compL (cs.take k) ds)))), (53, .p (.sl (cs.map .str))), (54, .p (.int .i64 cs.length)), (55, .p (.int .i64 k))], codeB p cs :: codeB q ds :: codeB xq xw :: .row 9 1 ((compL (cs.take k) ds).map .str) .lax :: List.replicate (2 * k) .dead⟩)
    (fun k => k ≤ cs.length) (fun k => cs.length - k) 0 (by simp [go_sem, codeB, compL, longB]) (by omega) ?_
  intro k hk
  obtain ⟨D, hD⟩ : ∃ D : List AObj, D = List.replicate (2 * k) .dead := ⟨_, rfl⟩
  have hDk : ∀ n, D.map (AObj.kill n) = D := fun n => by rw [hD]; simp [AObj.kill]
  have g0 : ∀ a : AObj, (D ++ [a])[D.length]? = some a := fun a => by simp
  have gA : ∀ a b : AObj, (D ++ [a, b])[D.length]? = some a := fun a b => by simp
  have gB : ∀ a b : AObj, (D ++ [a, b])[D.length + 1]? = some b := fun a b => by simp
  have sB : ∀ a b b' : AObj, (D ++ [a, b]).set (D.length + 1) b' = D ++ [a, b'] := fun a b b' => by simp
  by_cases hlt : k < cs.length
  · rw [← hD]
    have hkl : cs[k].length ≤ 32 := by
      have := hv.short k hlt
      rwa [List.getD_eq_getElem?_getD, List.getElem?_eq_getElem hlt, Option.getD_some] at this
    simp -implicitDefEqProofs only [codeB, go_sem]
    refine AWp.seq (AWp.of_awpD [] hΓ hmix (by kernel_rfl) ?_)
    simp -implicitDefEqProofs only [hlt, getD_map_lt, ↓reduceIte, go_sem]
    refine AWp.seq (AWp.of_awpD [] hΓ hmix (by kernel_rfl) ?_)
    simp -implicitDefEqProofs only [hlt, getD_map_lt, ↓reduceIte, go_sem]
    refine AWp.seq (AWp.block (AWp.seq (AWp.of_awpD [] hΓ hmix (by kernel_rfl) ?_)))
    simp -implicitDefEqProofs only [hlt, getD_map_lt, ↓reduceIte, go_sem]
    refine AWp.seq (AWp.of_awpD [] hΓ hmix (by kernel_rfl) ?_)
    simp -implicitDefEqProofs only [go_sem]
    refine AWp.seq (AWp.seq (AWp.of_awpD [] hΓ hmix (by kernel_rfl) ?_))
    simp -implicitDefEqProofs only [go_sem]
    refine ⟨by omega, ?_⟩
    refine AWp.adopt (l := []) 11 3 1 (by rfl) (by simp) ?_
    simp -implicitDefEqProofs only [go_sem]
    refine AWp.block ?_
    refine AWp.mono (Q := fun e st => e = .exit 2 ∧ Weak st ⟨lzF EE k (longB (compL (cs.take k) ds)) cs cs[k] D.length cs[k].length, lzH p q xq cs ds xw ((compL (cs.take k) ds).map .str) D cs[k] cs[k].length⟩) ?_ ?_
    · refine AWp.loopI (fun j : Nat => ⟨lzF EE k (longB (compL (cs.take k) ds)) cs cs[k] D.length j, lzH p q xq cs ds xw ((compL (cs.take k) ds).map .str) D cs[k] j⟩)
        (fun j => j ≤ cs[k].length) (fun j => cs[k].length - j) 0 (by
          simp [go_sem, lzF, lzH, codeB, weakH_self]) (by omega) ?_
      intro j hj
      simp -implicitDefEqProofs only [lzF, lzH, codeB, go_sem]
      refine AWp.of_awpD [] hΓ hmix (by kernel_rfl) ?_
      by_cases hlt2 : j < cs[k].length
      · have hu : (cs[k].map u8V).getD j default = .int .u8 cs[k][j].toNat := by rw [getD_map_lt _ _ _ _ hlt2]; rfl
        have e101 := t101 L16 cs[k][j].toNat
        have eb : ((cs[k][j].toNat : Nat) : Int).toNat.toUInt8 = cs[k][j] := by simp
        rw [eb] at e101
        simp -implicitDefEqProofs only [lzF, lzH, hlt, hlt2, hu, gA, gB, ↓reduceIte, codeB, go_sem]
        refine callK_fn e101 (.pures rfl) ?_
        simp -implicitDefEqProofs only [gA, gB, sB, hDk, List.map_append, go_sem]
        have hne : ¬ D.length = D.length + 1 := by omega
        have hs1 : ∀ x : Int, sizeOK [PV.int .i64 x] 1 := fun x => by simp [sizeOK, PV.cells]
        have ho1 : ∀ x : Int, oneOK [PV.int .i64 x] := fun x => by simp [oneOK, PV.cells, PV.isAgg]
        have hints : (((cs[k].take (j + 1)).map fun b => ixB b L16 0).map (PV.int .i64)) = (((cs[k].take j).map fun b => ixB b L16 0).map (PV.int .i64)) ++ [PV.int .i64 (ixB cs[k][j] L16 0)] := by
          rw [List.take_succ_eq_append_getElem hlt2, List.map_append, List.map_append]; rfl
        have e3 : ∀ a b : AObj, D ++ [a, b] = (D ++ [a]) ++ [b] := fun a b => by simp
        refine ⟨⟨hs1 _, by omega⟩, ⟨hs1 _, ho1 _⟩, ⟨.inl (by omega), by omega, by omega⟩, by simp only [InR]; omega, j + 1, ⟨⟨rfl, by rw [if_neg hne], by omega⟩, ?_⟩, hlt2, by omega⟩
        rw [hints, e3, e3]
        refine weakH_snoc ?_ _
        exact .inr (.inr rfl)
      · have hj' : j = cs[k].length := by omega
        have hz : ¬ (cs[k].length : Int) < cs[k].length := by omega
        rw [hj']
        simp -implicitDefEqProofs only [hz, lzF, lzH, codeB, go_sem]
        exact weakH_self _
    rintro e st ⟨rfl, hw⟩
    show AWp _ _ _ _ _
    refine AWp.weak hw ?_
    clear hw
    have hwk := List.getElem_mem hlt
    have hlet := letOK_of (hv.words _ hwk).2.2
    have hcw := compW_len hwd cs[k]
    have e37 := u37 q ds (cs[k].map fun b => ixB b L16 0) (by simp; omega)
    have ee : encE q ds (cs[k].map fun b => ixB b L16 0) = 0 := by
      unfold encE; rw [if_pos h2, if_pos (encIn_comp h3 hlet), encL_comp, if_neg (by omega)]
    have es : encS q ds (cs[k].map fun b => ixB b L16 0) = compW ds cs[k] := by
      unfold encS; rw [if_pos ee, encL_comp]
    rw [ee, es] at e37
    have hs : compL (cs.take (k + 1)) ds = compL (cs.take k) ds ++ [compW ds cs[k]] := by
      unfold compL; rw [List.take_succ_eq_append_getElem hlt, List.map_append]; rfl
    have hlong : longB (compL (cs.take (k + 1)) ds) = (longB (compL (cs.take k) ds) || decide (32 < (compW ds cs[k]).length)) := by
      rw [hs]; unfold longB; rw [List.any_append]; simp
    have hkl3 : (compL (cs.take k) ds).length = k := by unfold compL; simp; omega
    simp -implicitDefEqProofs only [lzF, lzH, codeB, List.take_length, go_sem]
    refine AWp.of_awpD [] hΓ hmix (by kernel_rfl) ?_
    simp -implicitDefEqProofs only [go_sem]
    refine callK_fn e37 (.inr (.inr ⟨?_, rfl⟩)) ?_
    · simp [AV.purL, AV.pur, AV.pur1, AV.purL1, gB, codeV]
    cases hLB : longB (compL (cs.take k) ds)
    · rw [hLB, Bool.false_or] at hlong
      simp -implicitDefEqProofs only [codeB, hDk, gB, gA, List.map_append, hLB, go_sem]
      refine ⟨⟨size_str [_], by omega⟩, ⟨size_str [_], one_str [_]⟩, ⟨.inl (by omega), by omega, by omega⟩, ?_⟩
      refine AWp.of_awpD [] hΓ hmix (by kernel_rfl) ?_
      simp -implicitDefEqProofs only [codeB, go_sem]
      refine ⟨by simp only [InR]; omega, k + 1, ⟨⟨rfl, by rw [hlong]; exact decide_eq_decide.2 (by omega), by omega⟩, .inr (by rw [hs, List.map_append]; rfl), ?_⟩, hlt, by omega⟩
      rw [show 2 * (k + 1) = 2 * k + 1 + 1 by omega, List.replicate_succ', List.replicate_succ', ← hD, List.append_assoc]
      exact weakH_two _ _ D
    · rw [hLB, Bool.true_or] at hlong
      simp -implicitDefEqProofs only [codeB, hDk, gB, gA, List.map_append, hLB, go_sem]
      refine ⟨⟨size_str [_], by omega⟩, ⟨size_str [_], one_str [_]⟩, ⟨.inl (by omega), by omega, by omega⟩, ?_⟩
      refine AWp.of_awpD [] hΓ hmix (by kernel_rfl) ?_
      simp -implicitDefEqProofs only [codeB, go_sem]
      refine ⟨by simp only [InR]; omega, k + 1, ⟨⟨rfl, hlong, by omega⟩, .inr (by rw [hs, List.map_append]; rfl), ?_⟩, hlt, by omega⟩
      rw [show 2 * (k + 1) = 2 * k + 1 + 1 by omega, List.replicate_succ', List.replicate_succ', ← hD, List.append_assoc]
      exact weakH_two _ _ D
  · have hkn : k = cs.length := by omega
    rw [hkn, List.take_of_length_le (Nat.le_refl _)]
    have hz : ¬ (cs.length : Int) < cs.length := by omega
    simp -implicitDefEqProofs only [codeB, go_sem]
    refine AWp.freeze 3 rfl ?_
    refine AWp.of_awpD [] hΓ hmix (by kernel_rfl) ?_
    have hth : ∀ l, (List.replicate (2 * cs.length) AObj.dead).map (AObj.thaw 3 l) = List.replicate (2 * cs.length) AObj.dead := fun l => by simp [AObj.thaw]
    rcases hor with ⟨hLB, hxq, hxw, hE0⟩ | ⟨hLB, hE4⟩
    rotate_left
    · rw [hLB, hE4]
      simp -implicitDefEqProofs only [hz, Frozen, go_sem]
      refine callK_fn awake_ok (.pures rfl) ?_
      simp -implicitDefEqProofs only [go_sem]
    rw [hLB, hxq, hxw, hE0]
    have hvm : codeCheck q (made (compL cs ds)) = 0 := by
      have hh := hEE
      unfold compE at hh
      rw [if_pos ⟨h1, h2⟩, if_pos h3, hE0] at hh
      exact hh
    have hml := (valid_of hvm).len
    have e45 := t45 q (made (compL cs ds))
    rw [hvm] at e45
    have hll : (compL cs ds).length = cs.length := by simp [compL]
    generalize hM : made (compL cs ds) = M at *
    generalize hLL : compL cs ds = LL at *
    simp -implicitDefEqProofs only [hz, Frozen, hth, go_sem]
    refine callK_fn e45 (.still rfl) ?_
    simp -implicitDefEqProofs only [go_sem]
    refine AWp.loopI (fun i : Nat => ⟨mkF 178 [(2, .ptr 0 0), (3, .ptr 1 0), (5, .ptr 2 0), (7, .p (.sl (LL.map .str))), (111, .p (.sl (LL.map .str))), (112, .p (.int .i64 LL.length)), (113, .p (.int .i64 i))], codeB p cs :: codeB q ds :: codeB q M :: .dead :: List.replicate (2 * cs.length) .dead⟩)
      (fun i => i ≤ LL.length) (fun i => LL.length - i) 0 (by simp [go_sem, codeB, weakH_self]) (by omega) ?_
    intro i hi
    simp -implicitDefEqProofs only [codeB, go_sem]
    refine AWp.of_awpD [] hΓ hmix (by kernel_rfl) ?_
    by_cases hi2 : i < LL.length
    · have hmem : decide (LL[i] ∈ M) = true := decide_eq_true (by rw [← hM]; exact mem_made.2 (List.getElem_mem hi2))
      have e44 := t16 M LL[i] (by omega)
      rw [hmem] at e44
      simp -implicitDefEqProofs only [hi2, getD_map_lt, ↓reduceIte, go_sem]
      refine callK_fn e44 (.pures rfl) ?_
      simp -implicitDefEqProofs only [hi2, getD_map_lt, ↓reduceIte, go_sem]
      exact ⟨by simp only [InR]; omega, i + 1, ⟨by omega, .inr rfl, .inr rfl, .inr rfl, weakH_self _⟩, hi2, by omega⟩
    · have hi3 : i = LL.length := by omega
      have hz2 : ¬ (LL.length : Int) < LL.length := by omega
      rw [hi3]
      simp -implicitDefEqProofs only [hz2, List.length_map, go_sem]
      refine AWp.loopI (fun i : Nat => ⟨mkF 178 [(2, .ptr 0 0), (3, .ptr 1 0), (5, .ptr 2 0), (7, .p (.sl (LL.map .str))), (124, .p (.sl (M.map .str))), (125, .p (.int .i64 M.length)), (126, .p (.int .i64 i))], codeB p cs :: codeB q ds :: codeB q M :: .dead :: List.replicate (2 * cs.length) .dead⟩)
        (fun i => i ≤ M.length) (fun i => M.length - i) 0 (by simp [go_sem, codeB, weakH_self]) (by omega) ?_
      intro m hm
      simp -implicitDefEqProofs only [codeB, go_sem]
      refine AWp.of_awpD [] hΓ hmix (by kernel_rfl) ?_
      by_cases hm2 : m < M.length
      · have hmem : decide (M[m] ∈ LL) = true := decide_eq_true (by
          refine mem_made.1 ?_
          rw [hM]
          exact List.getElem_mem hm2)
        have e44 := t16 LL M[m] (by omega)
        rw [hmem] at e44
        simp -implicitDefEqProofs only [hm2, getD_map_lt, ↓reduceIte, go_sem]
        refine callK_fn e44 (.pures rfl) ?_
        simp -implicitDefEqProofs only [hm2, getD_map_lt, ↓reduceIte, go_sem]
        exact ⟨by simp only [InR]; omega, m + 1, ⟨by omega, .inr rfl, .inr rfl, .inr rfl, weakH_self _⟩, hm2, by omega⟩
      · have hm3 : m = M.length := by omega
        have hz3 : ¬ (M.length : Int) < M.length := by omega
        rw [hm3]
        have e1 := t38 p cs
        have e2 := t38 q ds
        have e3 := t38 q M
        rw [if_pos h1, if_pos h1] at e1
        rw [if_pos h2, if_pos h2] at e2
        rw [if_pos hvm, if_pos hvm] at e3
        simp -implicitDefEqProofs only [hz3, go_sem]
        refine callK_fn e1 (.still rfl) ?_
        simp -implicitDefEqProofs only [go_sem]
        refine callK_fn e2 (.still rfl) ?_
        simp -implicitDefEqProofs only [go_sem]
        refine callK_fn e3 (.still rfl) ?_
        cases hP : aloneB (fun w x => x.isPrefixOf w) cs
        · simp -implicitDefEqProofs only [ite_self, go_sem]
          refine callK_fn awake_ok (.pures rfl) ?_
          simp -implicitDefEqProofs only [go_sem]
        · cases hQ : aloneB (fun w x => x.isPrefixOf w) ds
          · simp -implicitDefEqProofs only [ite_self, go_sem]
            refine callK_fn awake_ok (.pures rfl) ?_
            simp -implicitDefEqProofs only [go_sem]
          · have hca := comp_alone hv hd h3 hP hQ
            rw [hLL, hM] at hca
            have hlq : (M.length : Int) = cs.length := by omega
            rw [hca.1]
            simp -implicitDefEqProofs only [ite_self, List.length_map, hlq, go_sem]
            refine callK_fn awake_ok (.pures rfl) ?_
            simp -implicitDefEqProofs only [go_sem]
end Go.Proofs.Ytgkbafkmbokkaaa
end

section
namespace Go.Proofs.Ytgkbafkmbokkaaa
open Go Go.AM Go.RowKit Go.ChangeShapes
set_option maxRecDepth 100000

theorem own : ownKnob Try.prog.godebug = none := by kernel_rfl
theorem laidOut : laidOutB Try.prog = true := by kernel_rfl

def codeSh : Sh := .agg [.int .i64, .sl .str]

theorem strs_of {l : List PV} (h : ∀ i, i < l.length → Fit .str (l.getD i default)) : ∃ ws : List (List UInt8), l = ws.map .str ∧ ∀ w ∈ ws, w.length ≤ maxLen := by
  induction l with
  | nil => exact ⟨[], rfl, by simp⟩
  | cons x l ih =>
    obtain ⟨ws, h1, h2⟩ := ih (fun i hi => h (i + 1) (by simpa using hi))
    have h0 := h 0 (by simp)
    simp only [List.getD_cons_zero] at h0
    cases h0 with
    | str s hs => exact ⟨s :: ws, by rw [h1]; rfl, fun w hw => by
        rcases List.mem_cons.1 hw with rfl | hw
        · exact hs
        · exact h2 w hw⟩
theorem ints_of {l : List PV} (h : ∀ i, i < l.length → Fit (.int .i64) (l.getD i default)) : ∃ a : List Int, l = a.map (.int .i64) ∧ ∀ x ∈ a, InR .i64 x := by
  induction l with
  | nil => exact ⟨[], rfl, by simp⟩
  | cons x l ih =>
    obtain ⟨a, h1, h2⟩ := ih (fun i hi => h (i + 1) (by simpa using hi))
    have h0 := h 0 (by simp)
    simp only [List.getD_cons_zero] at h0
    cases h0 with
    | int _ n hn => exact ⟨n :: a, by rw [h1]; rfl, fun w hw => by
        rcases List.mem_cons.1 hw with rfl | hw
        · exact hn
        · exact h2 w hw⟩
theorem words_of {p : PV} (h : Fit (.sl .str) p) : ∃ ws : List (List UInt8), p = .sl (ws.map .str) ∧ ws.length ≤ maxLen ∧ ∀ w ∈ ws, w.length ≤ maxLen := by
  cases h with
  | sl _ l h1 h2 =>
    obtain ⟨ws, rfl, h3⟩ := strs_of h2
    exact ⟨ws, rfl, by simpa using h1, h3⟩
theorem nums_of {p : PV} (h : Fit (.sl (.int .i64)) p) : ∃ a : List Int, p = .sl (a.map (.int .i64)) ∧ a.length ≤ maxLen ∧ ∀ x ∈ a, InR .i64 x := by
  cases h with
  | sl _ l h1 h2 =>
    obtain ⟨a, rfl, h3⟩ := ints_of h2
    exact ⟨a, rfl, by simpa using h1, h3⟩
theorem code_of {p : PV} (h : Fit codeSh p) : ∃ (q : Int) (ws : List (List UInt8)), p = codeV q ws ∧ InR .i64 q ∧ ws.length ≤ maxLen ∧ ∀ w ∈ ws, w.length ≤ maxLen := by
  cases h with
  | agg _ l h1 h2 =>
    match l, h1 with
    | [x, y], _ =>
      have h3 := h2 0 (by simp)
      have h4 := h2 1 (by simp)
      simp only [List.getD_cons_zero, List.getD_cons_succ] at h3 h4
      obtain ⟨ws, rfl, h5⟩ := words_of h4
      cases h3 with
      | int _ n hn => exact ⟨n, ws, rfl, hn, h5⟩
end Go.Proofs.Ytgkbafkmbokkaaa
end

